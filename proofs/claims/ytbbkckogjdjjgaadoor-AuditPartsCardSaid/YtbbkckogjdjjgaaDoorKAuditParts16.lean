/- Part 16 of the proof of AuditParts: an abstract semantics that is proved sound for the model, contracts of functions in it, and plain facts (LW1 LW2 LR9 EV1 AU2 AU3 AU4 AU5 AU6 AU7 AU9 AU20 AU10 AU11). No condition. -/
import Derived.Test.YtbbkckogjdjjgaaDoorKAuditParts15
import Derived.Shelf.Spec.TrailingZeros
set_option linter.all false
namespace Go.Proofs.YtbbkckogjdjjgaaDoor
open Go.Abs
set_option linter.all false
set_option maxRecDepth 100000
def gTab : List AV := Lib.deBruijn64tab.map fun n => AV.int .u8 (n : Nat)
def gls : List (Nat × List AV) := [(0, gTab)]
theorem gls_get {σ : St} (h : GlobsOk gls σ) : σ.glob 0 = some gTab := h _ _ rfl
theorem w_zero {a : BitVec 64} (h : a.toNat = 0) : a = 0#64 := BitVec.eq_of_toNat_eq (by simpa using h)
theorem map_getD (l : List Nat) (i c : Nat) (h : i < l.length) (e : l.getD i 0 = c) : (l.map fun n => AV.int .u8 (n : Nat))[i]? = some (.int .u8 (c : Int)) := by
  rw [List.getD_eq_getElem?_getD, List.getElem?_eq_getElem h] at e
  rw [List.getElem?_map, List.getElem?_eq_getElem h, ← e]
  rfl
/-- What the table's place is reckoned to be. -/
theorem tz_place (a : BitVec 64) (ha : a ≠ 0#64) : ∃ idx : Nat, (IntKind.u64.wrap (bits .and .u64 (a.toNat : Int) (IntKind.u64.wrap (0 - (a.toNat : Int))) * 285870213051353865)).fdiv (2 ^ min (Int.toNat 58) IntKind.u64.bits) = (idx : Int) ∧ idx < 64 ∧ gTab[idx]? = some (.int .u8 ((Lib.ctz 64 a.toNat : Nat) : Int)) := by
  have h0 : a.toNat ≠ 0 := fun h => ha (w_zero h)
  obtain ⟨hlow, hk⟩ := Lib.lowest_bit 64 a.toNat h0 a.isLt
  obtain ⟨hi, htab⟩ := Lib.deBruijn64_at _ hk
  have key := Go.Proofs.tz64_key a.toNat _ a.isLt h0 hlow
  generalize 2 ^ Lib.ctz 64 a.toNat * 285870213051353865 % 18446744073709551616 / 288230376151711744 = idx at hi htab key
  obtain ⟨c, hc⟩ : ∃ c, Lib.ctz 64 a.toNat = c := ⟨_, rfl⟩
  rw [hc] at htab ⊢
  clear hc hlow hk
  refine ⟨idx, ?_, hi, ?_⟩
  · have e : (2 : Int) ^ min (Int.toNat 58) IntKind.u64.bits = 288230376151711744 := by simp [IntKind.bits]
    rw [e, Int.zero_sub, Int.fdiv_eq_ediv_of_nonneg _ (by decide : (0 : Int) ≤ 288230376151711744)]; exact key
  · exact map_getD Lib.deBruijn64tab idx c (show idx < 64 from hi) htab
theorem gTab_len : gTab.length = 64 := by decide
theorem ctz_i64 (a : BitVec 64) (ha : a ≠ 0#64) : IntKind.i64.wrap ((Lib.ctz 64 a.toNat : Nat) : Int) = ((Lib.ctz 64 a.toNat : Nat) : Int) := by
  have := (ctz_bits a ha).1
  rw [wrap64 (by omega) (by omega)]
theorem p66 (a : BitVec 64) (ha : a ≠ 0#64) : PuG Tryd.prog gls 66 [.int .u64 a.toNat] (.int .i64 ((Lib.ctz 64 a.toNat : Nat) : Int)) := by
  have h0 : a.toNat ≠ 0 := fun h => ha (w_zero h)
  obtain ⟨idx, hidx, hi, ht⟩ := tz_place a ha
  have hz : ((a.toNat : Int) == 0) = false := by simp; omega
  (refine PuG_intro c66 b66 (Nat.le_of_ble_eq_true rfl) fun σ hσ => ?_; simp only [c66, ↓R1, R2, R3, R4, R5, Nat.reduceEqDiff, Nat.reduceAdd, Nat.reduceMul, Nat.reduceSub, Nat.reduceLeDiff, Nat.reduceLT, reduceIte, reduceCtorEq, Int.reduceBNe, Int.reduceBEq])
  have hg := gls_get hσ
  have hl := gTab_len
  have hd : (List.drop (idx * 1) gTab)[0]? = some (.int .u8 ((Lib.ctz 64 a.toNat : Nat) : Int)) := by
    rw [Nat.mul_one, List.getElem?_drop, Nat.add_zero]; exact ht
  simp only [hz, hg, hidx, ↓R1, R2, R3, R4, R5, Nat.reduceEqDiff, Nat.reduceAdd, Nat.reduceMul, Nat.reduceSub, Nat.reduceLeDiff, Nat.reduceLT, reduceIte, reduceCtorEq, Int.reduceBNe, Int.reduceBEq]
  rw [hd]
  refine ⟨by decide, ⟨by omega, by omega, by omega⟩, by simp; omega, trivial, ?_⟩
  (refine endP_pu (by simp) (by first | (simp [rvsS, rvS]; done) | (simp only [rvsS, rvS, ↓R1, R2, R3, R4, R5, Nat.reduceEqDiff, Nat.reduceAdd, Nat.reduceMul, Nat.reduceSub, Nat.reduceLeDiff, Nat.reduceLT, reduceIte, reduceCtorEq, Int.reduceBNe, Int.reduceBEq]; try simp)) (wk_of_eq ?_) (by (repeat (first | exact St.le_refl _ | (refine St.le_new ?_ (by assumption)) | (refine St.le_newT ?_ (by assumption))))))
  (simp only [resAV, rvV, List.map_cons, List.map_nil, ↓R1, R2, R3, R4, R5, Nat.reduceEqDiff, Nat.reduceAdd, Nat.reduceMul, Nat.reduceSub, Nat.reduceLeDiff, Nat.reduceLT, reduceIte, reduceCtorEq, Int.reduceBNe, Int.reduceBEq])
  rw [ctz_i64 a ha]
end Go.Proofs.YtbbkckogjdjjgaaDoor
namespace Go.Proofs.YtbbkckogjdjjgaaDoor
open Go.Abs
set_option linter.all false
set_option maxRecDepth 100000
theorem w_ne (b : BitVec 64) : ((b.toNat : Int) != 0) = !(b == 0#64) := by
  rw [show (0 : Int) = ((0#64 : BitVec 64).toNat : Int) by rfl, bne, eq64]
theorem w_sub1 (b : BitVec 64) : IntKind.u64.wrap ((b.toNat : Int) - 1) = ((b - 1#64).toNat : Int) := by
  rw [IntKind.wrap_u64, BitVec.toNat_sub]
  simp only [BitVec.toNat_ofNat]
  have := b.isLt
  omega
theorem p53 (a : BitVec 64) (σ : St) : AC Tryd.prog 53 [.int .u64 a.toNat] σ (fun r s => ∃ β, σ.box β = none ∧ r = .fn 65 [.ptr β 0] ∧ s = σ.setBox β [.int .u64 a.toNat]) := by
  refine AC_intro c53 b53 (Nat.le_of_ble_eq_true rfl) ?_
  simp only [c53, ↓R1, R2, R3, R4, R5, Nat.reduceEqDiff, Nat.reduceAdd, Nat.reduceMul, Nat.reduceSub, Nat.reduceLeDiff, Nat.reduceLT, reduceIte, reduceCtorEq, Int.reduceBNe, Int.reduceBEq]
  intro β hβ
  refine endP_id (by simp) (by simp [rvsS, rvS]) ?_
  exact ⟨β, hβ, rfl, rfl⟩
/-- A loop over the categories of a label: 'T pre b' is the state when 'pre' have come, b's categories being still to come. -/
theorem RF_each {prs : List Nat} {asg body : CC} {fr : Fr} {Q : Exit → Fr → St → Prop} {β : Nat} (a : BitVec 64) (T : List Nat → BitVec 64 → St) (I : List Nat → Prop) (hps : prs.length = 1) (hI0 : I [])
    (hb : ∀ pre b, (T pre b).box β = some [.int .u64 b.toNat]) (hs : ∀ pre b b', (T pre b).setBox β [.int .u64 b'.toNat] = T pre b') (hg : ∀ pre b, GlobsOk gls (T pre b)) (hl : ∀ pre b L, (T pre b).lp L = (T [] a).lp L)
    (hround : ∀ L r pre k b, (T [] a).lp L = none → I pre → (∃ rest, cats a = pre ++ k :: rest) → aC Tryd.prog asg (putL prs [.int .i64 (k : Nat)] fr) ((T pre b).setLp L (r, fr)) (fun e fr1 σ2 => e = .normal ∧ σ2 = (T pre b).setLp L (r, fr) ∧
      aC Tryd.prog body fr1 ((T pre b).setLp L (busy r, fr)) (fun e _ σ3 => match e with
        | .normal => ∃ s, σ3 = s.setLp L (busy r, fr) ∧ s.lp L = none ∧ s = T (pre ++ [k]) b ∧ I (pre ++ [k])
        | .ret => ∃ s, σ3 = s.setLp L (busy r, fr) ∧ s.lp L = none ∧ Q .ret fr s
        | .exit id => ∃ s, σ3 = s.setLp L (busy r, fr) ∧ s.lp L = none ∧ Q (.exit id) fr s
        | _ => False)))
    (hend : I (cats a) → Q .normal fr (T (cats a) 0#64)) : RF Tryd.prog 65 [.ptr β 0] prs asg body fr (T [] a) Q := by
  refine ⟨by kernel_rfl, fun L r hL hr1 hr2 hY => ?_⟩
  have hg' : ∀ pre b, GlobsOk gls ((T pre b).setLp L (r, fr)) := fun pre b => hg pre b
  have hb' : ∀ pre b, ((T pre b).setLp L (r, fr)).box β = some [.int .u64 b.toNat] := fun pre b => hb pre b
  have hs' : ∀ pre b b', ((T pre b).setLp L (r, fr)).setBox β [.int .u64 b'.toNat] = (T pre b').setLp L (r, fr) := fun pre b b' => by rw [← St.setBox_setLp, hs]
  have hY' : ∀ pre k b, I pre → (∃ rest, cats a = pre ++ k :: rest) → YC Tryd.prog L [.int .i64 (k : Nat)] ((T pre b).setLp L (r, fr)) _ := fun pre k b hi hk =>
    RF_round (by rw [hl, hL]) hY (by simpa using hps.symm) (hround L r pre k b hL hi hk)
  refine AC_intro c65 b65 (Nat.le_of_ble_eq_true rfl) ?_
  simp only [c65, ↓R1, R2, R3, R4, R5, Nat.reduceEqDiff, Nat.reduceAdd, Nat.reduceMul, Nat.reduceSub, Nat.reduceLeDiff, Nat.reduceLT, reduceIte, reduceCtorEq, Int.reduceBNe, Int.reduceBEq]
  refine loopV_st (α := List Nat × BitVec 64) (fun _ => [(0, .yld L), (1, .ptr β 0)]) (fun z => (T z.1 z.2).setLp L (r, fr)) (fun z => cats a = z.1 ++ cats z.2 ∧ I z.1) (fun z => (cats z.2).length) ([], a) (by simp [subF, slot, wk_refl]) (St.le_refl _) ⟨rfl, hI0⟩ ?_
  rintro ⟨pre, b⟩ ⟨hI, hIp⟩
  simp only at hI hIp ⊢
  simp only [hb, w_ne, ↓R1, R2, R3, R4, R5, Nat.reduceEqDiff, Nat.reduceAdd, Nat.reduceMul, Nat.reduceSub, Nat.reduceLeDiff, Nat.reduceLT, reduceIte, reduceCtorEq, Int.reduceBNe, Int.reduceBEq]
  refine condV_split (fun hc => ?_) (fun hc => ?_)
  · have hb0 : b ≠ 0#64 := by simpa using hc
    have hcs := cats_step b hb0
    simp only [hb, ↓R1, R2, R3, R4, R5, Nat.reduceEqDiff, Nat.reduceAdd, Nat.reduceMul, Nat.reduceSub, Nat.reduceLeDiff, Nat.reduceLT, reduceIte, reduceCtorEq, Int.reduceBNe, Int.reduceBEq]
    refine PuG.to (p66 b hb0) (hg' _ _) (wkL_refl _) ?_
    simp only [hb, ↓R1, R2, R3, R4, R5, Nat.reduceEqDiff, Nat.reduceAdd, Nat.reduceMul, Nat.reduceSub, Nat.reduceLeDiff, Nat.reduceLT, reduceIte, reduceCtorEq, Int.reduceBNe, Int.reduceBEq]
    refine (hY' pre (Lib.ctz 64 b.toNat) b hIp ⟨_, by rw [hI, hcs]⟩).mono ?_
    rintro v s' (⟨rfl, s, rfl, hsl, rfl, hIn⟩ | ⟨rfl, h2⟩)
    · simp only [hb, w_sub1, bits_and64, hs', ↓R1, R2, R3, R4, R5, Nat.reduceEqDiff, Nat.reduceAdd, Nat.reduceMul, Nat.reduceSub, Nat.reduceLeDiff, Nat.reduceLT, reduceIte, reduceCtorEq, Int.reduceBNe, Int.reduceBEq]
      refine ⟨(pre ++ [Lib.ctz 64 b.toNat], b &&& b - 1#64), ⟨by simp only; rw [hI, hcs]; simp, hIn⟩, by simp [subF, slot, wk_refl], St.le_refl _, by simp only [hcs, List.length_cons]; omega⟩
    · simp only [↓R1, R2, R3, R4, R5, Nat.reduceEqDiff, Nat.reduceAdd, Nat.reduceMul, Nat.reduceSub, Nat.reduceLeDiff, Nat.reduceLT, reduceIte, reduceCtorEq, Int.reduceBNe, Int.reduceBEq]
      refine endP_id (by simp) (by simp [rvsS]) (.inr ?_)
      rcases h2 with ⟨s, rfl, h3, h4⟩ | ⟨id, s, rfl, h3, h4⟩
      · exact .inl ⟨St.lp_same _ _ _, by rw [St.drop_set h3]; exact h4⟩
      · exact .inr ⟨id, St.lp_same _ _ _, by rw [St.drop_set h3]; exact h4⟩
  · have hb0 : b = 0#64 := by simpa using hc
    subst hb0
    rw [cats_zero, List.append_nil] at hI
    subst hI
    simp only [↓R1, R2, R3, R4, R5, Nat.reduceEqDiff, Nat.reduceAdd, Nat.reduceMul, Nat.reduceSub, Nat.reduceLeDiff, Nat.reduceLT, reduceIte, reduceCtorEq, Int.reduceBNe, Int.reduceBEq]
    refine endP_id (by simp) (by simp [rvsS]) (.inl ⟨St.lp_same _ _ _, ?_⟩)
    rw [St.drop_set (by rw [hl, hL])]
    exact hend hIp
end Go.Proofs.YtbbkckogjdjjgaaDoor
namespace Go.Proofs.YtbbkckogjdjjgaaDoor
open Go.Abs
set_option linter.all false
set_option maxRecDepth 100000
theorem k1 : (6148914691236517205 : Int) = ((6148914691236517205#64 : BitVec 64).toNat : Int) := rfl
theorem k2 : (3689348814741910323 : Int) = ((3689348814741910323#64 : BitVec 64).toNat : Int) := rfl
theorem k3 : (1085102592571150095 : Int) = ((1085102592571150095#64 : BitVec 64).toNat : Int) := rfl
end Go.Proofs.YtbbkckogjdjjgaaDoor
namespace Go.Proofs.YtbbkckogjdjjgaaDoor
open Go.Abs
set_option linter.all false
set_option maxRecDepth 100000
def idE (n : Int) : Int := bif decide (n < 1) || decide (1099511627776 < n) then 2 else 0
theorem p46 (l n : Int) : Pu Tryd.prog 46 [.agg [.int .u64 l, .int .u64 n]] (.int .i64 (idE n)) := by
  (refine Pu_intro c46 b46 (Nat.le_of_ble_eq_true rfl) fun σ => ?_; simp only [c46, ↓R1, R2, R3, R4, R5, Nat.reduceEqDiff, Nat.reduceAdd, Nat.reduceMul, Nat.reduceSub, Nat.reduceLeDiff, Nat.reduceLT, reduceIte, reduceCtorEq, Int.reduceBNe, Int.reduceBEq])
  repeat' (first | (with_reducible rw [allocV_eq]) | (refine gdV_split (fun hc => ?_) (fun hc => ?_) <;> (try simp only [hc, ↓R1, R2, R3, R4, R5, Nat.reduceEqDiff, Nat.reduceAdd, Nat.reduceMul, Nat.reduceSub, Nat.reduceLeDiff, Nat.reduceLT, reduceIte, reduceCtorEq, Int.reduceBNe, Int.reduceBEq])) | ((first | refine condV_split (fun hc => ?_) (fun hc => ?_) | (with_reducible intro β hβ; (try simp only [St.box_noneA, St.tip_noneA, St.tip_set, St.box_tip, St.box_lp, St.tip_lp] at hβ); (repeat (obtain ⟨⟨_, _⟩, hβ⟩ := hβ)); (try (have hbis := apart_is (by assumption) hβ; obtain ⟨_, _⟩ := hbis)))) <;> (try simp only [↓R1, R2, R3, R4, R5, Nat.reduceEqDiff, Nat.reduceAdd, Nat.reduceMul, Nat.reduceSub, Nat.reduceLeDiff, Nat.reduceLT, reduceIte, reduceCtorEq, Int.reduceBNe, Int.reduceBEq])) | (with_reducible refine And.intro ?_ ?_; (focus (first | omega | (intros; (repeat' (with_reducible apply And.intro)) <;> first | omega | (simp only [List.length_map, List.length_append]; omega))))) | (with_reducible apply And.intro))
  all_goals first | ((refine endP_pu (by simp) (by first | (simp [rvsS, rvS]; done) | (simp only [rvsS, rvS, ↓R1, R2, R3, R4, R5, Nat.reduceEqDiff, Nat.reduceAdd, Nat.reduceMul, Nat.reduceSub, Nat.reduceLeDiff, Nat.reduceLT, reduceIte, reduceCtorEq, Int.reduceBNe, Int.reduceBEq]; try simp)) (wk_of_eq ?_) (by (repeat (first | exact St.le_refl _ | (refine St.le_new ?_ (by assumption)) | (refine St.le_newT ?_ (by assumption)))))); (simp only [resAV, rvV, List.map_cons, List.map_nil, ↓R1, R2, R3, R4, R5, Nat.reduceEqDiff, Nat.reduceAdd, Nat.reduceMul, Nat.reduceSub, Nat.reduceLeDiff, Nat.reduceLT, reduceIte, reduceCtorEq, Int.reduceBNe, Int.reduceBEq]); simp [idE, hc]; done) | (exfalso; simp_all; done) | skip
end Go.Proofs.YtbbkckogjdjjgaaDoor
namespace Go.Proofs.YtbbkckogjdjjgaaDoor
open Go.Abs
set_option linter.all false
set_option maxRecDepth 100000
theorem cLE_f (x : LE) : (cLE x).length = 8 := rfl
theorem cLE_len (l : List LE) : (l.flatMap cLE).length = l.length * 8 := flat_len cLE_f l
theorem p35 (t : Int) : Pu Tryd.prog 35 [.int .i64 t] (.bool (tenE t == 0)) := by
  (refine Pu_intro c35 b35 (Nat.le_of_ble_eq_true rfl) fun σ => ?_; simp only [c35, ↓R1, R2, R3, R4, R5, Nat.reduceEqDiff, Nat.reduceAdd, Nat.reduceMul, Nat.reduceSub, Nat.reduceLeDiff, Nat.reduceLT, reduceIte, reduceCtorEq, Int.reduceBNe, Int.reduceBEq])
  repeat' (first | (with_reducible rw [allocV_eq]) | (refine gdV_split (fun hc => ?_) (fun hc => ?_) <;> (try simp only [hc, ↓R1, R2, R3, R4, R5, Nat.reduceEqDiff, Nat.reduceAdd, Nat.reduceMul, Nat.reduceSub, Nat.reduceLeDiff, Nat.reduceLT, reduceIte, reduceCtorEq, Int.reduceBNe, Int.reduceBEq])) | ((first | refine condV_split (fun hc => ?_) (fun hc => ?_) | (with_reducible intro β hβ; (try simp only [St.box_noneA, St.tip_noneA, St.tip_set, St.box_tip, St.box_lp, St.tip_lp] at hβ); (repeat (obtain ⟨⟨_, _⟩, hβ⟩ := hβ)); (try (have hbis := apart_is (by assumption) hβ; obtain ⟨_, _⟩ := hbis)))) <;> (try simp only [↓R1, R2, R3, R4, R5, Nat.reduceEqDiff, Nat.reduceAdd, Nat.reduceMul, Nat.reduceSub, Nat.reduceLeDiff, Nat.reduceLT, reduceIte, reduceCtorEq, Int.reduceBNe, Int.reduceBEq])) | (with_reducible refine And.intro ?_ ?_; (focus (first | omega | (intros; (repeat' (with_reducible apply And.intro)) <;> first | omega | (simp only [cLE_len, List.length_append, List.length_cons, List.length_nil]; omega))))) | (with_reducible apply And.intro))
  all_goals (refine endP_pu (by simp) (by first | (simp [rvsS, rvS]; done) | (simp only [rvsS, rvS, ↓R1, R2, R3, R4, R5, Nat.reduceEqDiff, Nat.reduceAdd, Nat.reduceMul, Nat.reduceSub, Nat.reduceLeDiff, Nat.reduceLT, reduceIte, reduceCtorEq, Int.reduceBNe, Int.reduceBEq]; try simp)) (wk_of_eq ?_) (by (repeat (first | exact St.le_refl _ | (refine St.le_new ?_ (by assumption)) | (refine St.le_newT ?_ (by assumption))))))
  all_goals (simp only [resAV, rvV, List.map_cons, List.map_nil, ↓R1, R2, R3, R4, R5, Nat.reduceEqDiff, Nat.reduceAdd, Nat.reduceMul, Nat.reduceSub, Nat.reduceLeDiff, Nat.reduceLT, reduceIte, reduceCtorEq, Int.reduceBNe, Int.reduceBEq])
  all_goals (refine congrArg AV.bool ?_; simp only [tenE, Bool.cond_eq_ite]; grind)
theorem p17 (x : LE) : Pu Tryd.prog 17 [.agg (cRec x)] (.int .i64 (rightE x)) := by
  have h := p46 x.el x.no
  simp only [cRec]
  (refine Pu_intro c17 b17 (Nat.le_of_ble_eq_true rfl) fun σ => ?_; simp only [c17, ↓R1, R2, R3, R4, R5, Nat.reduceEqDiff, Nat.reduceAdd, Nat.reduceMul, Nat.reduceSub, Nat.reduceLeDiff, Nat.reduceLT, reduceIte, reduceCtorEq, Int.reduceBNe, Int.reduceBEq])
  repeat' (first | (with_reducible rw [allocV_eq]) | (refine gdV_split (fun hc => ?_) (fun hc => ?_) <;> (try simp only [hc, ↓R1, R2, R3, R4, R5, Nat.reduceEqDiff, Nat.reduceAdd, Nat.reduceMul, Nat.reduceSub, Nat.reduceLeDiff, Nat.reduceLT, reduceIte, reduceCtorEq, Int.reduceBNe, Int.reduceBEq])) | ((first | refine condV_split (fun hc => ?_) (fun hc => ?_) | (with_reducible intro β hβ; (try simp only [St.box_noneA, St.tip_noneA, St.tip_set, St.box_tip, St.box_lp, St.tip_lp] at hβ); (repeat (obtain ⟨⟨_, _⟩, hβ⟩ := hβ)); (try (have hbis := apart_is (by assumption) hβ; obtain ⟨_, _⟩ := hbis)))) <;> (try simp only [↓R1, R2, R3, R4, R5, Nat.reduceEqDiff, Nat.reduceAdd, Nat.reduceMul, Nat.reduceSub, Nat.reduceLeDiff, Nat.reduceLT, reduceIte, reduceCtorEq, Int.reduceBNe, Int.reduceBEq])) | (with_reducible refine And.intro ?_ ?_; (focus (first | omega | (intros; (repeat' (with_reducible apply And.intro)) <;> first | omega | (simp only [cLE_len, List.length_append, List.length_cons, List.length_nil]; omega))))) | (with_reducible apply And.intro) | ((first | refine Pu.to (h) (wkL_refl _) ?_ | refine callDV_pu (h) (wkL_refl _) ?_ | (refine callGV_pu (fun hgv => ⟨?_, (h), wkL_refl _⟩) ?_; (first | trivial | (focus (simp only [↓R1, R2, R3, R4, R5, Nat.reduceEqDiff, Nat.reduceAdd, Nat.reduceMul, Nat.reduceSub, Nat.reduceLeDiff, Nat.reduceLT, reduceIte, reduceCtorEq, Int.reduceBNe, Int.reduceBEq]; done))))); (try simp only [↓R1, R2, R3, R4, R5, Nat.reduceEqDiff, Nat.reduceAdd, Nat.reduceMul, Nat.reduceSub, Nat.reduceLeDiff, Nat.reduceLT, reduceIte, reduceCtorEq, Int.reduceBNe, Int.reduceBEq])))
  all_goals first | (exfalso; simp_all; done) | (with_reducible intro hno; exfalso; simp_all; done) | skip
  all_goals (refine endP_pu (by simp) (by first | (simp [rvsS, rvS]; done) | (simp only [rvsS, rvS, ↓R1, R2, R3, R4, R5, Nat.reduceEqDiff, Nat.reduceAdd, Nat.reduceMul, Nat.reduceSub, Nat.reduceLeDiff, Nat.reduceLT, reduceIte, reduceCtorEq, Int.reduceBNe, Int.reduceBEq]; try simp)) (wk_of_eq ?_) (by (repeat (first | exact St.le_refl _ | (refine St.le_new ?_ (by assumption)) | (refine St.le_newT ?_ (by assumption))))))
  all_goals (simp only [resAV, rvV, List.map_cons, List.map_nil, ↓R1, R2, R3, R4, R5, Nat.reduceEqDiff, Nat.reduceAdd, Nat.reduceMul, Nat.reduceSub, Nat.reduceLeDiff, Nat.reduceLT, reduceIte, reduceCtorEq, Int.reduceBNe, Int.reduceBEq])
  all_goals (simp only [rightE, idE, Bool.cond_eq_ite] at *; grind)
end Go.Proofs.YtbbkckogjdjjgaaDoor
namespace Go.Proofs.YtbbkckogjdjjgaaDoor
open Go.Abs
set_option linter.all false
set_option maxRecDepth 100000
theorem with_no (T : Ta) (t lab rule el no old new tick : Int) (h : tenE t = 0 → rightE ⟨t, lab, rule, el, no, old, new, tick⟩ ≠ 0) :
    Pu Tryd.prog 50 [.agg (taC T), .agg (cLE ⟨t, lab, rule, el, no, old, new, tick⟩)] (.tup [.agg (taC (withT T ⟨t, lab, rule, el, no, old, new, tick⟩)), .int .i64 (withE T ⟨t, lab, rule, el, no, old, new, tick⟩)]) := by
  have h1 := p35 t
  have h2 := p17 ⟨t, lab, rule, el, no, old, new, tick⟩
  by_cases ht : tenE t = 0
  · have hr := h ht
    have ht1 : (tenE t == 0) = true := by simpa using ht
    have hA : (rightE ⟨t, lab, rule, el, no, old, new, tick⟩ == 0) = false := by simpa using hr
    have hA2 : (rightE ⟨t, lab, rule, el, no, old, new, tick⟩ != 0) = true := by simpa using hr
    have hE : withE T ⟨t, lab, rule, el, no, old, new, tick⟩ = rightE ⟨t, lab, rule, el, no, old, new, tick⟩ := by
      simp only [withE, ht1, hA, cond_true, cond_false]
    have hT : withT T ⟨t, lab, rule, el, no, old, new, tick⟩ = T := by simp only [withT, hE, hA, cond_false]
    rw [hE, hT]
    simp only [cLE, cRec, taC] at h1 h2 ⊢
    (refine Pu_intro c50 b50 (Nat.le_of_ble_eq_true rfl) fun σ => ?_; simp only [c50, ↓R1, R2, R3, R4, R5, Nat.reduceEqDiff, Nat.reduceAdd, Nat.reduceMul, Nat.reduceSub, Nat.reduceLeDiff, Nat.reduceLT, reduceIte, reduceCtorEq, Int.reduceBNe, Int.reduceBEq, hA, hA2, ht1])
    repeat' (first | (with_reducible rw [allocV_eq]) | (refine gdV_split (fun hc => ?_) (fun hc => ?_) <;> (try simp only [hc, ↓R1, R2, R3, R4, R5, Nat.reduceEqDiff, Nat.reduceAdd, Nat.reduceMul, Nat.reduceSub, Nat.reduceLeDiff, Nat.reduceLT, reduceIte, reduceCtorEq, Int.reduceBNe, Int.reduceBEq, hA, hA2, ht1])) | ((first | refine condV_split (fun hc => ?_) (fun hc => ?_) | (with_reducible intro β hβ; (try simp only [St.box_noneA, St.tip_noneA, St.tip_set, St.box_tip, St.box_lp, St.tip_lp] at hβ); (repeat (obtain ⟨⟨_, _⟩, hβ⟩ := hβ)); (try (have hbis := apart_is (by assumption) hβ; obtain ⟨_, _⟩ := hbis)))) <;> (try simp only [↓R1, R2, R3, R4, R5, Nat.reduceEqDiff, Nat.reduceAdd, Nat.reduceMul, Nat.reduceSub, Nat.reduceLeDiff, Nat.reduceLT, reduceIte, reduceCtorEq, Int.reduceBNe, Int.reduceBEq, hA, hA2, ht1])) | (with_reducible refine And.intro ?_ ?_; (focus (first | omega | (intros; (repeat' (with_reducible apply And.intro)) <;> first | omega | (simp only [cLE_len, List.length_append, List.length_cons, List.length_nil]; omega))))) | (with_reducible apply And.intro) | ((first | refine Pu.to (h1) (wkL_refl _) ?_ | refine callDV_pu (h1) (wkL_refl _) ?_ | refine Pu.to (h2) (wkL_refl _) ?_ | refine callDV_pu (h2) (wkL_refl _) ?_); (try simp only [↓R1, R2, R3, R4, R5, Nat.reduceEqDiff, Nat.reduceAdd, Nat.reduceMul, Nat.reduceSub, Nat.reduceLeDiff, Nat.reduceLT, reduceIte, reduceCtorEq, Int.reduceBNe, Int.reduceBEq, hA, hA2, ht1])))
    all_goals first | (exfalso; simp_all; done) | (with_reducible intro hno; exfalso; simp_all; done) | skip
    all_goals (refine endP_pu (by simp) (by first | (simp [rvsS, rvS]; done) | (simp only [rvsS, rvS, ↓R1, R2, R3, R4, R5, Nat.reduceEqDiff, Nat.reduceAdd, Nat.reduceMul, Nat.reduceSub, Nat.reduceLeDiff, Nat.reduceLT, reduceIte, reduceCtorEq, Int.reduceBNe, Int.reduceBEq, hA, hA2, ht1]; try simp)) (wk_of_eq ?_) (by (repeat (first | exact St.le_refl _ | (refine St.le_new ?_ (by assumption)) | (refine St.le_newT ?_ (by assumption))))))
    all_goals (simp only [resAV, rvV, List.map_cons, List.map_nil, ↓R1, R2, R3, R4, R5, Nat.reduceEqDiff, Nat.reduceAdd, Nat.reduceMul, Nat.reduceSub, Nat.reduceLeDiff, Nat.reduceLT, reduceIte, reduceCtorEq, Int.reduceBNe, Int.reduceBEq, hA, hA2, ht1])
  · have ht1 : (tenE t == 0) = false := by simpa using ht
    have hE : withE T ⟨t, lab, rule, el, no, old, new, tick⟩ = 2 := by
      have h3 : tenE t = 2 := by
        revert ht; simp only [tenE, Bool.cond_eq_ite]; grind
      simp only [withE, ht1, cond_false]; exact h3
    have hT : withT T ⟨t, lab, rule, el, no, old, new, tick⟩ = T := by simp only [withT, hE]; rfl
    have hA : True := trivial
    have hA2 : True := trivial
    rw [hE, hT]
    simp only [cLE, cRec, taC] at h1 h2 ⊢
    (refine Pu_intro c50 b50 (Nat.le_of_ble_eq_true rfl) fun σ => ?_; simp only [c50, ↓R1, R2, R3, R4, R5, Nat.reduceEqDiff, Nat.reduceAdd, Nat.reduceMul, Nat.reduceSub, Nat.reduceLeDiff, Nat.reduceLT, reduceIte, reduceCtorEq, Int.reduceBNe, Int.reduceBEq, hA, hA2, ht1])
    repeat' (first | (with_reducible rw [allocV_eq]) | (refine gdV_split (fun hc => ?_) (fun hc => ?_) <;> (try simp only [hc, ↓R1, R2, R3, R4, R5, Nat.reduceEqDiff, Nat.reduceAdd, Nat.reduceMul, Nat.reduceSub, Nat.reduceLeDiff, Nat.reduceLT, reduceIte, reduceCtorEq, Int.reduceBNe, Int.reduceBEq, hA, hA2, ht1])) | ((first | refine condV_split (fun hc => ?_) (fun hc => ?_) | (with_reducible intro β hβ; (try simp only [St.box_noneA, St.tip_noneA, St.tip_set, St.box_tip, St.box_lp, St.tip_lp] at hβ); (repeat (obtain ⟨⟨_, _⟩, hβ⟩ := hβ)); (try (have hbis := apart_is (by assumption) hβ; obtain ⟨_, _⟩ := hbis)))) <;> (try simp only [↓R1, R2, R3, R4, R5, Nat.reduceEqDiff, Nat.reduceAdd, Nat.reduceMul, Nat.reduceSub, Nat.reduceLeDiff, Nat.reduceLT, reduceIte, reduceCtorEq, Int.reduceBNe, Int.reduceBEq, hA, hA2, ht1])) | (with_reducible refine And.intro ?_ ?_; (focus (first | omega | (intros; (repeat' (with_reducible apply And.intro)) <;> first | omega | (simp only [cLE_len, List.length_append, List.length_cons, List.length_nil]; omega))))) | (with_reducible apply And.intro) | ((first | refine Pu.to (h1) (wkL_refl _) ?_ | refine callDV_pu (h1) (wkL_refl _) ?_ | refine Pu.to (h2) (wkL_refl _) ?_ | refine callDV_pu (h2) (wkL_refl _) ?_); (try simp only [↓R1, R2, R3, R4, R5, Nat.reduceEqDiff, Nat.reduceAdd, Nat.reduceMul, Nat.reduceSub, Nat.reduceLeDiff, Nat.reduceLT, reduceIte, reduceCtorEq, Int.reduceBNe, Int.reduceBEq, hA, hA2, ht1])))
    all_goals first | (exfalso; simp_all; done) | (with_reducible intro hno; exfalso; simp_all; done) | skip
    all_goals (refine endP_pu (by simp) (by first | (simp [rvsS, rvS]; done) | (simp only [rvsS, rvS, ↓R1, R2, R3, R4, R5, Nat.reduceEqDiff, Nat.reduceAdd, Nat.reduceMul, Nat.reduceSub, Nat.reduceLeDiff, Nat.reduceLT, reduceIte, reduceCtorEq, Int.reduceBNe, Int.reduceBEq, hA, hA2, ht1]; try simp)) (wk_of_eq ?_) (by (repeat (first | exact St.le_refl _ | (refine St.le_new ?_ (by assumption)) | (refine St.le_newT ?_ (by assumption))))))
    all_goals (simp only [resAV, rvV, List.map_cons, List.map_nil, ↓R1, R2, R3, R4, R5, Nat.reduceEqDiff, Nat.reduceAdd, Nat.reduceMul, Nat.reduceSub, Nat.reduceLeDiff, Nat.reduceLT, reduceIte, reduceCtorEq, Int.reduceBNe, Int.reduceBEq, hA, hA2, ht1])
set_option maxHeartbeats 4000000 in
theorem with_13 (T : Ta) (t lab rule el no old new tick : Int) (f : Int) (c : Nat) (hv : T t.toNat = (f, c)) (ht : tenE t = 0) (hr : rightE ⟨t, lab, rule, el, no, old, new, tick⟩ = 0) (hB : decide ((0 : Int) < (c : Nat)) = true) (hF : (f != lab) = true) :
    Pu Tryd.prog 50 [.agg (taC T), .agg (cLE ⟨t, lab, rule, el, no, old, new, tick⟩)] (.tup [.agg (taC T), .int .i64 13]) := by
  have h1 := p35 t; have h2 := p17 ⟨t, lab, rule, el, no, old, new, tick⟩; have ht1 : (tenE t == 0) = true := (by simpa using ht); have hA : (rightE ⟨t, lab, rule, el, no, old, new, tick⟩ == 0) = true := (by simpa using hr); have hA2 : (rightE ⟨t, lab, rule, el, no, old, new, tick⟩ != 0) = false := (by simpa using hr); rw [hr] at h2; obtain ⟨a1, a2⟩ := tenE_ok ht; have h6 : t = 1 ∨ t = 2 ∨ t = 3 ∨ t = 4 ∨ t = 5 ∨ t = 6 := (by omega)
  have hw : True := trivial
  have hC : True := trivial
  rcases h6 with rfl | rfl | rfl | rfl | rfl | rfl
  all_goals (
    simp only [Int.reduceToNat] at hv
    simp only [cLE, cRec, taC] at h1 h2 ⊢
    (refine Pu_intro c50 b50 (Nat.le_of_ble_eq_true rfl) fun σ => ?_; simp only [c50, ↓R1, R2, R3, R4, R5, Nat.reduceEqDiff, Nat.reduceAdd, Nat.reduceMul, Nat.reduceSub, Nat.reduceLeDiff, Nat.reduceLT, reduceIte, reduceCtorEq, Int.reduceBNe, Int.reduceBEq, hv, hw, hA, hA2, ht1, hB, hF, hC, Int.reduceToNat])
    repeat' (first | (with_reducible rw [allocV_eq]) | (refine gdV_split (fun hc => ?_) (fun hc => ?_) <;> (try simp only [hc, ↓R1, R2, R3, R4, R5, Nat.reduceEqDiff, Nat.reduceAdd, Nat.reduceMul, Nat.reduceSub, Nat.reduceLeDiff, Nat.reduceLT, reduceIte, reduceCtorEq, Int.reduceBNe, Int.reduceBEq, hv, hw, hA, hA2, ht1, hB, hF, hC, Int.reduceToNat])) | ((first | refine condV_split (fun hc => ?_) (fun hc => ?_) | (with_reducible intro β hβ; (try simp only [St.box_noneA, St.tip_noneA, St.tip_set, St.box_tip, St.box_lp, St.tip_lp] at hβ); (repeat (obtain ⟨⟨_, _⟩, hβ⟩ := hβ)); (try (have hbis := apart_is (by assumption) hβ; obtain ⟨_, _⟩ := hbis)))) <;> (try simp only [↓R1, R2, R3, R4, R5, Nat.reduceEqDiff, Nat.reduceAdd, Nat.reduceMul, Nat.reduceSub, Nat.reduceLeDiff, Nat.reduceLT, reduceIte, reduceCtorEq, Int.reduceBNe, Int.reduceBEq, hv, hw, hA, hA2, ht1, hB, hF, hC, Int.reduceToNat])) | (with_reducible refine And.intro ?_ ?_; (focus (first | omega | (intros; (repeat' (with_reducible apply And.intro)) <;> first | omega | (simp only [cLE_len, List.length_append, List.length_cons, List.length_nil]; omega))))) | (with_reducible apply And.intro) | ((first | refine Pu.to (h1) (wkL_refl _) ?_ | refine callDV_pu (h1) (wkL_refl _) ?_ | refine Pu.to (h2) (wkL_refl _) ?_ | refine callDV_pu (h2) (wkL_refl _) ?_); (try simp only [↓R1, R2, R3, R4, R5, Nat.reduceEqDiff, Nat.reduceAdd, Nat.reduceMul, Nat.reduceSub, Nat.reduceLeDiff, Nat.reduceLT, reduceIte, reduceCtorEq, Int.reduceBNe, Int.reduceBEq, hv, hw, hA, hA2, ht1, hB, hF, hC, Int.reduceToNat]))))
  all_goals (refine endP_pu (by simp) (by first | (simp [rvsS, rvS]; done) | (simp only [rvsS, rvS, ↓R1, R2, R3, R4, R5, Nat.reduceEqDiff, Nat.reduceAdd, Nat.reduceMul, Nat.reduceSub, Nat.reduceLeDiff, Nat.reduceLT, reduceIte, reduceCtorEq, Int.reduceBNe, Int.reduceBEq, hv, hw, hA, hA2, ht1, hB, hF, hC, Int.reduceToNat]; try simp)) (wk_of_eq ?_) (by (repeat (first | exact St.le_refl _ | (refine St.le_new ?_ (by assumption)) | (refine St.le_newT ?_ (by assumption))))))
  all_goals (simp only [resAV, rvV, List.map_cons, List.map_nil, ↓R1, R2, R3, R4, R5, Nat.reduceEqDiff, Nat.reduceAdd, Nat.reduceMul, Nat.reduceSub, Nat.reduceLeDiff, Nat.reduceLT, reduceIte, reduceCtorEq, Int.reduceBNe, Int.reduceBEq, hv, hw, hA, hA2, ht1, hB, hF, hC, Int.reduceToNat])
set_option maxHeartbeats 4000000 in
theorem with_6 (T : Ta) (t lab rule el no old new tick : Int) (f : Int) (c : Nat) (hv : T t.toNat = (f, c)) (ht : tenE t = 0) (hr : rightE ⟨t, lab, rule, el, no, old, new, tick⟩ = 0) (hB : decide ((0 : Int) < (c : Nat)) = true) (hF : (f != lab) = false) (hC : decide ((64 : Int) ≤ (c : Nat)) = true) :
    Pu Tryd.prog 50 [.agg (taC T), .agg (cLE ⟨t, lab, rule, el, no, old, new, tick⟩)] (.tup [.agg (taC T), .int .i64 6]) := by
  have h1 := p35 t; have h2 := p17 ⟨t, lab, rule, el, no, old, new, tick⟩; have ht1 : (tenE t == 0) = true := (by simpa using ht); have hA : (rightE ⟨t, lab, rule, el, no, old, new, tick⟩ == 0) = true := (by simpa using hr); have hA2 : (rightE ⟨t, lab, rule, el, no, old, new, tick⟩ != 0) = false := (by simpa using hr); rw [hr] at h2; obtain ⟨a1, a2⟩ := tenE_ok ht; have h6 : t = 1 ∨ t = 2 ∨ t = 3 ∨ t = 4 ∨ t = 5 ∨ t = 6 := (by omega)
  have hw : True := trivial
  rcases h6 with rfl | rfl | rfl | rfl | rfl | rfl
  all_goals (
    simp only [Int.reduceToNat] at hv
    simp only [cLE, cRec, taC] at h1 h2 ⊢
    (refine Pu_intro c50 b50 (Nat.le_of_ble_eq_true rfl) fun σ => ?_; simp only [c50, ↓R1, R2, R3, R4, R5, Nat.reduceEqDiff, Nat.reduceAdd, Nat.reduceMul, Nat.reduceSub, Nat.reduceLeDiff, Nat.reduceLT, reduceIte, reduceCtorEq, Int.reduceBNe, Int.reduceBEq, hv, hw, hA, hA2, ht1, hB, hF, hC, Int.reduceToNat])
    repeat' (first | (with_reducible rw [allocV_eq]) | (refine gdV_split (fun hc => ?_) (fun hc => ?_) <;> (try simp only [hc, ↓R1, R2, R3, R4, R5, Nat.reduceEqDiff, Nat.reduceAdd, Nat.reduceMul, Nat.reduceSub, Nat.reduceLeDiff, Nat.reduceLT, reduceIte, reduceCtorEq, Int.reduceBNe, Int.reduceBEq, hv, hw, hA, hA2, ht1, hB, hF, hC, Int.reduceToNat])) | ((first | refine condV_split (fun hc => ?_) (fun hc => ?_) | (with_reducible intro β hβ; (try simp only [St.box_noneA, St.tip_noneA, St.tip_set, St.box_tip, St.box_lp, St.tip_lp] at hβ); (repeat (obtain ⟨⟨_, _⟩, hβ⟩ := hβ)); (try (have hbis := apart_is (by assumption) hβ; obtain ⟨_, _⟩ := hbis)))) <;> (try simp only [↓R1, R2, R3, R4, R5, Nat.reduceEqDiff, Nat.reduceAdd, Nat.reduceMul, Nat.reduceSub, Nat.reduceLeDiff, Nat.reduceLT, reduceIte, reduceCtorEq, Int.reduceBNe, Int.reduceBEq, hv, hw, hA, hA2, ht1, hB, hF, hC, Int.reduceToNat])) | (with_reducible refine And.intro ?_ ?_; (focus (first | omega | (intros; (repeat' (with_reducible apply And.intro)) <;> first | omega | (simp only [cLE_len, List.length_append, List.length_cons, List.length_nil]; omega))))) | (with_reducible apply And.intro) | ((first | refine Pu.to (h1) (wkL_refl _) ?_ | refine callDV_pu (h1) (wkL_refl _) ?_ | refine Pu.to (h2) (wkL_refl _) ?_ | refine callDV_pu (h2) (wkL_refl _) ?_); (try simp only [↓R1, R2, R3, R4, R5, Nat.reduceEqDiff, Nat.reduceAdd, Nat.reduceMul, Nat.reduceSub, Nat.reduceLeDiff, Nat.reduceLT, reduceIte, reduceCtorEq, Int.reduceBNe, Int.reduceBEq, hv, hw, hA, hA2, ht1, hB, hF, hC, Int.reduceToNat]))))
  all_goals (refine endP_pu (by simp) (by first | (simp [rvsS, rvS]; done) | (simp only [rvsS, rvS, ↓R1, R2, R3, R4, R5, Nat.reduceEqDiff, Nat.reduceAdd, Nat.reduceMul, Nat.reduceSub, Nat.reduceLeDiff, Nat.reduceLT, reduceIte, reduceCtorEq, Int.reduceBNe, Int.reduceBEq, hv, hw, hA, hA2, ht1, hB, hF, hC, Int.reduceToNat]; try simp)) (wk_of_eq ?_) (by (repeat (first | exact St.le_refl _ | (refine St.le_new ?_ (by assumption)) | (refine St.le_newT ?_ (by assumption))))))
  all_goals (simp only [resAV, rvV, List.map_cons, List.map_nil, ↓R1, R2, R3, R4, R5, Nat.reduceEqDiff, Nat.reduceAdd, Nat.reduceMul, Nat.reduceSub, Nat.reduceLeDiff, Nat.reduceLT, reduceIte, reduceCtorEq, Int.reduceBNe, Int.reduceBEq, hv, hw, hA, hA2, ht1, hB, hF, hC, Int.reduceToNat])
set_option maxHeartbeats 4000000 in
theorem with_0 (T : Ta) (t lab rule el no old new tick : Int) (f : Int) (c : Nat) (hv : T t.toNat = (f, c)) (ht : tenE t = 0) (hr : rightE ⟨t, lab, rule, el, no, old, new, tick⟩ = 0) (hB : decide ((0 : Int) < (c : Nat)) = true) (hF : (f != lab) = false) (hC : decide ((64 : Int) ≤ (c : Nat)) = false) :
    Pu Tryd.prog 50 [.agg (taC T), .agg (cLE ⟨t, lab, rule, el, no, old, new, tick⟩)] (.tup [.agg (taC (taUp T t.toNat (lab, c + 1))), .int .i64 0]) := by
  have h1 := p35 t; have h2 := p17 ⟨t, lab, rule, el, no, old, new, tick⟩; have ht1 : (tenE t == 0) = true := (by simpa using ht); have hA : (rightE ⟨t, lab, rule, el, no, old, new, tick⟩ == 0) = true := (by simpa using hr); have hA2 : (rightE ⟨t, lab, rule, el, no, old, new, tick⟩ != 0) = false := (by simpa using hr); rw [hr] at h2; obtain ⟨a1, a2⟩ := tenE_ok ht; have h6 : t = 1 ∨ t = 2 ∨ t = 3 ∨ t = 4 ∨ t = 5 ∨ t = 6 := (by omega)
  have hw : IntKind.i64.wrap ((c : Int) + 1) = ((c + 1 : Nat) : Int) := by
    have : ¬ (64 : Int) ≤ c := by simpa using hC
    rw [wrap64 (by omega) (by omega)]; omega
  rcases h6 with rfl | rfl | rfl | rfl | rfl | rfl
  all_goals (
    simp only [Int.reduceToNat] at hv
    simp only [cLE, cRec, taC, taUp, Int.reduceToNat, Nat.beq_eq, Nat.reduceBEq] at h1 h2 ⊢
    (refine Pu_intro c50 b50 (Nat.le_of_ble_eq_true rfl) fun σ => ?_; simp only [c50, ↓R1, R2, R3, R4, R5, Nat.reduceEqDiff, Nat.reduceAdd, Nat.reduceMul, Nat.reduceSub, Nat.reduceLeDiff, Nat.reduceLT, reduceIte, reduceCtorEq, Int.reduceBNe, Int.reduceBEq, hv, hw, hA, hA2, ht1, hB, hF, hC, Int.reduceToNat])
    repeat' (first | (with_reducible rw [allocV_eq]) | (refine gdV_split (fun hc => ?_) (fun hc => ?_) <;> (try simp only [hc, ↓R1, R2, R3, R4, R5, Nat.reduceEqDiff, Nat.reduceAdd, Nat.reduceMul, Nat.reduceSub, Nat.reduceLeDiff, Nat.reduceLT, reduceIte, reduceCtorEq, Int.reduceBNe, Int.reduceBEq, hv, hw, hA, hA2, ht1, hB, hF, hC, Int.reduceToNat])) | ((first | refine condV_split (fun hc => ?_) (fun hc => ?_) | (with_reducible intro β hβ; (try simp only [St.box_noneA, St.tip_noneA, St.tip_set, St.box_tip, St.box_lp, St.tip_lp] at hβ); (repeat (obtain ⟨⟨_, _⟩, hβ⟩ := hβ)); (try (have hbis := apart_is (by assumption) hβ; obtain ⟨_, _⟩ := hbis)))) <;> (try simp only [↓R1, R2, R3, R4, R5, Nat.reduceEqDiff, Nat.reduceAdd, Nat.reduceMul, Nat.reduceSub, Nat.reduceLeDiff, Nat.reduceLT, reduceIte, reduceCtorEq, Int.reduceBNe, Int.reduceBEq, hv, hw, hA, hA2, ht1, hB, hF, hC, Int.reduceToNat])) | (with_reducible refine And.intro ?_ ?_; (focus (first | omega | (intros; (repeat' (with_reducible apply And.intro)) <;> first | omega | (simp only [cLE_len, List.length_append, List.length_cons, List.length_nil]; omega))))) | (with_reducible apply And.intro) | ((first | refine Pu.to (h1) (wkL_refl _) ?_ | refine callDV_pu (h1) (wkL_refl _) ?_ | refine Pu.to (h2) (wkL_refl _) ?_ | refine callDV_pu (h2) (wkL_refl _) ?_); (try simp only [↓R1, R2, R3, R4, R5, Nat.reduceEqDiff, Nat.reduceAdd, Nat.reduceMul, Nat.reduceSub, Nat.reduceLeDiff, Nat.reduceLT, reduceIte, reduceCtorEq, Int.reduceBNe, Int.reduceBEq, hv, hw, hA, hA2, ht1, hB, hF, hC, Int.reduceToNat]))))
  all_goals (refine endP_pu (by simp) (by first | (simp [rvsS, rvS]; done) | (simp only [rvsS, rvS, ↓R1, R2, R3, R4, R5, Nat.reduceEqDiff, Nat.reduceAdd, Nat.reduceMul, Nat.reduceSub, Nat.reduceLeDiff, Nat.reduceLT, reduceIte, reduceCtorEq, Int.reduceBNe, Int.reduceBEq, hv, hw, hA, hA2, ht1, hB, hF, hC, Int.reduceToNat]; try simp)) (wk_of_eq ?_) (by (repeat (first | exact St.le_refl _ | (refine St.le_new ?_ (by assumption)) | (refine St.le_newT ?_ (by assumption))))))
  all_goals (simp only [resAV, rvV, List.map_cons, List.map_nil, ↓R1, R2, R3, R4, R5, Nat.reduceEqDiff, Nat.reduceAdd, Nat.reduceMul, Nat.reduceSub, Nat.reduceLeDiff, Nat.reduceLT, reduceIte, reduceCtorEq, Int.reduceBNe, Int.reduceBEq, hv, hw, hA, hA2, ht1, hB, hF, hC, Int.reduceToNat])
  all_goals rfl
set_option maxHeartbeats 4000000 in
theorem with_1 (T : Ta) (t lab rule el no old new tick : Int) (f : Int) (c : Nat) (hv : T t.toNat = (f, c)) (ht : tenE t = 0) (hr : rightE ⟨t, lab, rule, el, no, old, new, tick⟩ = 0) (hB : decide ((0 : Int) < (c : Nat)) = false) (hC : decide ((64 : Int) ≤ (c : Nat)) = false) :
    Pu Tryd.prog 50 [.agg (taC T), .agg (cLE ⟨t, lab, rule, el, no, old, new, tick⟩)] (.tup [.agg (taC (taUp T t.toNat (lab, c + 1))), .int .i64 0]) := by
  have h1 := p35 t; have h2 := p17 ⟨t, lab, rule, el, no, old, new, tick⟩; have ht1 : (tenE t == 0) = true := (by simpa using ht); have hA : (rightE ⟨t, lab, rule, el, no, old, new, tick⟩ == 0) = true := (by simpa using hr); have hA2 : (rightE ⟨t, lab, rule, el, no, old, new, tick⟩ != 0) = false := (by simpa using hr); rw [hr] at h2; obtain ⟨a1, a2⟩ := tenE_ok ht; have h6 : t = 1 ∨ t = 2 ∨ t = 3 ∨ t = 4 ∨ t = 5 ∨ t = 6 := (by omega)
  have hF : True := trivial
  have hw : IntKind.i64.wrap ((c : Int) + 1) = ((c + 1 : Nat) : Int) := by
    have : ¬ (64 : Int) ≤ c := by simpa using hC
    rw [wrap64 (by omega) (by omega)]; omega
  rcases h6 with rfl | rfl | rfl | rfl | rfl | rfl
  all_goals (
    simp only [Int.reduceToNat] at hv
    simp only [cLE, cRec, taC, taUp, Int.reduceToNat, Nat.beq_eq, Nat.reduceBEq] at h1 h2 ⊢
    (refine Pu_intro c50 b50 (Nat.le_of_ble_eq_true rfl) fun σ => ?_; simp only [c50, ↓R1, R2, R3, R4, R5, Nat.reduceEqDiff, Nat.reduceAdd, Nat.reduceMul, Nat.reduceSub, Nat.reduceLeDiff, Nat.reduceLT, reduceIte, reduceCtorEq, Int.reduceBNe, Int.reduceBEq, hv, hw, hA, hA2, ht1, hB, hF, hC, Int.reduceToNat])
    repeat' (first | (with_reducible rw [allocV_eq]) | (refine gdV_split (fun hc => ?_) (fun hc => ?_) <;> (try simp only [hc, ↓R1, R2, R3, R4, R5, Nat.reduceEqDiff, Nat.reduceAdd, Nat.reduceMul, Nat.reduceSub, Nat.reduceLeDiff, Nat.reduceLT, reduceIte, reduceCtorEq, Int.reduceBNe, Int.reduceBEq, hv, hw, hA, hA2, ht1, hB, hF, hC, Int.reduceToNat])) | ((first | refine condV_split (fun hc => ?_) (fun hc => ?_) | (with_reducible intro β hβ; (try simp only [St.box_noneA, St.tip_noneA, St.tip_set, St.box_tip, St.box_lp, St.tip_lp] at hβ); (repeat (obtain ⟨⟨_, _⟩, hβ⟩ := hβ)); (try (have hbis := apart_is (by assumption) hβ; obtain ⟨_, _⟩ := hbis)))) <;> (try simp only [↓R1, R2, R3, R4, R5, Nat.reduceEqDiff, Nat.reduceAdd, Nat.reduceMul, Nat.reduceSub, Nat.reduceLeDiff, Nat.reduceLT, reduceIte, reduceCtorEq, Int.reduceBNe, Int.reduceBEq, hv, hw, hA, hA2, ht1, hB, hF, hC, Int.reduceToNat])) | (with_reducible refine And.intro ?_ ?_; (focus (first | omega | (intros; (repeat' (with_reducible apply And.intro)) <;> first | omega | (simp only [cLE_len, List.length_append, List.length_cons, List.length_nil]; omega))))) | (with_reducible apply And.intro) | ((first | refine Pu.to (h1) (wkL_refl _) ?_ | refine callDV_pu (h1) (wkL_refl _) ?_ | refine Pu.to (h2) (wkL_refl _) ?_ | refine callDV_pu (h2) (wkL_refl _) ?_); (try simp only [↓R1, R2, R3, R4, R5, Nat.reduceEqDiff, Nat.reduceAdd, Nat.reduceMul, Nat.reduceSub, Nat.reduceLeDiff, Nat.reduceLT, reduceIte, reduceCtorEq, Int.reduceBNe, Int.reduceBEq, hv, hw, hA, hA2, ht1, hB, hF, hC, Int.reduceToNat]))))
  all_goals (refine endP_pu (by simp) (by first | (simp [rvsS, rvS]; done) | (simp only [rvsS, rvS, ↓R1, R2, R3, R4, R5, Nat.reduceEqDiff, Nat.reduceAdd, Nat.reduceMul, Nat.reduceSub, Nat.reduceLeDiff, Nat.reduceLT, reduceIte, reduceCtorEq, Int.reduceBNe, Int.reduceBEq, hv, hw, hA, hA2, ht1, hB, hF, hC, Int.reduceToNat]; try simp)) (wk_of_eq ?_) (by (repeat (first | exact St.le_refl _ | (refine St.le_new ?_ (by assumption)) | (refine St.le_newT ?_ (by assumption))))))
  all_goals (simp only [resAV, rvV, List.map_cons, List.map_nil, ↓R1, R2, R3, R4, R5, Nat.reduceEqDiff, Nat.reduceAdd, Nat.reduceMul, Nat.reduceSub, Nat.reduceLeDiff, Nat.reduceLT, reduceIte, reduceCtorEq, Int.reduceBNe, Int.reduceBEq, hv, hw, hA, hA2, ht1, hB, hF, hC, Int.reduceToNat])
  all_goals rfl
theorem with_yes (T : Ta) (t lab rule el no old new tick : Int) (ht : tenE t = 0) (hr : rightE ⟨t, lab, rule, el, no, old, new, tick⟩ = 0) :
    Pu Tryd.prog 50 [.agg (taC T), .agg (cLE ⟨t, lab, rule, el, no, old, new, tick⟩)] (.tup [.agg (taC (withT T ⟨t, lab, rule, el, no, old, new, tick⟩)), .int .i64 (withE T ⟨t, lab, rule, el, no, old, new, tick⟩)]) := by
  have ht1 : (tenE t == 0) = true := by simpa using ht
  have hA : (rightE ⟨t, lab, rule, el, no, old, new, tick⟩ == 0) = true := by simpa using hr
  have hE : withE T ⟨t, lab, rule, el, no, old, new, tick⟩ = bif decide (0 < (T t.toNat).2) && ((T t.toNat).1 != lab) then 13 else bif decide (64 ≤ (T t.toNat).2) then 6 else 0 := by
    simp only [withE, ht1, hA, cond_true]
  have hT : withT T ⟨t, lab, rule, el, no, old, new, tick⟩ = bif withE T ⟨t, lab, rule, el, no, old, new, tick⟩ == 0 then taUp T t.toNat (lab, (T t.toNat).2 + 1) else T := rfl
  rw [hT, hE]
  clear hT hE
  obtain ⟨f, c, hv⟩ : ∃ f c, T t.toNat = (f, c) := ⟨_, _, rfl⟩
  rw [hv]
  have hcI : decide ((0 : Int) < (c : Nat)) = decide (0 < c) := by simp
  have hcJ : decide ((64 : Int) ≤ (c : Nat)) = decide (64 ≤ c) := by rw [Bool.eq_iff_iff]; simp only [decide_eq_true_eq]; omega
  simp only
  cases hB : decide (0 < c) with
  | true =>
    cases hF : (f != lab) with
    | true => exact with_13 T t lab rule el no old new tick f c hv ht hr (by rw [hcI, hB]) hF
    | false =>
      cases hC : decide (64 ≤ c) with
      | true => exact with_6 T t lab rule el no old new tick f c hv ht hr (by rw [hcI, hB]) hF (by rw [hcJ, hC])
      | false => exact with_0 T t lab rule el no old new tick f c hv ht hr (by rw [hcI, hB]) hF (by rw [hcJ, hC])
  | false =>
    have hC : decide (64 ≤ c) = false := by simp at hB ⊢; omega
    rw [hC]
    exact with_1 T t lab rule el no old new tick f c hv ht hr (by rw [hcI, hB]) (by rw [hcJ, hC])
theorem p50 (T : Ta) (x : LE) : Pu Tryd.prog 50 [.agg (taC T), .agg (cLE x)] (.tup [.agg (taC (withT T x)), .int .i64 (withE T x)]) := by
  by_cases h : tenE x.t = 0 ∧ rightE x = 0
  · exact with_yes T x.t x.lab x.rule x.el x.no x.old x.new x.tick h.1 h.2
  · exact with_no T x.t x.lab x.rule x.el x.no x.old x.new x.tick (fun h1 h2 => h ⟨h1, h2⟩)
end Go.Proofs.YtbbkckogjdjjgaaDoor
namespace Go.Proofs.YtbbkckogjdjjgaaDoor
open Go.Abs
set_option linter.all false
set_option maxRecDepth 100000
theorem cLE_drop (l : List LE) (k : Nat) (h : k < l.length) : (l.flatMap cLE).drop (k * 8) = .int .i64 (eAt l k).t :: .int .u64 (eAt l k).lab :: .int .i64 (eAt l k).rule :: .int .u64 (eAt l k).el :: .int .u64 (eAt l k).no :: .int .u64 (eAt l k).old :: .int .u64 (eAt l k).new :: .int .u64 (eAt l k).tick :: (l.flatMap cLE).drop ((k + 1) * 8) := by
  rw [flat_drop cLE_f, List.drop_eq_getElem_cons h, List.flatMap_cons, flat_drop cLE_f, eAt_lt h]; rfl
theorem taC_len (T : Ta) : (taC T).length = 14 := rfl
theorem taC_drop (T : Ta) : (taC T).drop 14 = [] := rfl
theorem taC_take (T : Ta) : (taC T).take 14 = taC T := rfl
def cntT (l : List LE) : Ta := bif chkE l == 0 then taK l l.length else ta0
set_option maxHeartbeats 4000000 in
theorem p34 (l : List LE) (hl : l.length ≤ 1000000) : Pu Tryd.prog 34 [.agg [sl cLE l]] (.tup [.agg (taC (cntT l)), .int .i64 (chkE l)]) := by
  have hd : True := trivial
  have hd2 : True := trivial
  have hz : True := trivial
  have hw : True := trivial
  have hwi : True := trivial
  by_cases hb : 384 < l.length
  · have hb1 : decide ((384 : Int) < (l.length : Nat)) = true := by simp; omega
    have hE : chkE l = 6 := by simp [chkE, hb]
    have hT : cntT l = ta0 := by simp [cntT, hE]
    rw [hE, hT]
    (refine Pu_intro c34 b34 (Nat.le_of_ble_eq_true rfl) fun σ => ?_; simp only [c34, ↓R1, R2, R3, R4, R5, Nat.reduceEqDiff, Nat.reduceAdd, Nat.reduceMul, Nat.reduceSub, Nat.reduceLeDiff, Nat.reduceLT, reduceIte, reduceCtorEq, Int.reduceBNe, Int.reduceBEq, hb1, hd, hd2, hz, hw, hwi, taC_take, taC_len, taC_drop])
    repeat' (first | (with_reducible rw [allocV_eq]) | (refine gdV_split (fun hc => ?_) (fun hc => ?_) <;> (try simp only [hc, ↓R1, R2, R3, R4, R5, Nat.reduceEqDiff, Nat.reduceAdd, Nat.reduceMul, Nat.reduceSub, Nat.reduceLeDiff, Nat.reduceLT, reduceIte, reduceCtorEq, Int.reduceBNe, Int.reduceBEq, hb1, hd, hd2, hz, hw, hwi, taC_take, taC_len, taC_drop])) | ((first | refine condV_split (fun hc => ?_) (fun hc => ?_) | (with_reducible intro β hβ; (try simp only [St.box_noneA, St.tip_noneA, St.tip_set, St.box_tip, St.box_lp, St.tip_lp] at hβ); (repeat (obtain ⟨⟨_, _⟩, hβ⟩ := hβ)); (try (have hbis := apart_is (by assumption) hβ; obtain ⟨_, _⟩ := hbis)))) <;> (try simp only [↓R1, R2, R3, R4, R5, Nat.reduceEqDiff, Nat.reduceAdd, Nat.reduceMul, Nat.reduceSub, Nat.reduceLeDiff, Nat.reduceLT, reduceIte, reduceCtorEq, Int.reduceBNe, Int.reduceBEq, hb1, hd, hd2, hz, hw, hwi, taC_take, taC_len, taC_drop])) | (with_reducible refine And.intro ?_ ?_; (focus (first | omega | (intros; (repeat' (with_reducible apply And.intro)) <;> first | omega | (simp only [cLE_len, taC_len, List.length_append, List.length_cons, List.length_nil]; omega))))) | (with_reducible apply And.intro))
    all_goals first | (exfalso; simp_all; done) | (with_reducible intro hno; exfalso; simp_all; done) | skip
    all_goals (refine endP_pu (by simp) (by first | (simp [rvsS, rvS]; done) | (simp only [rvsS, rvS, ↓R1, R2, R3, R4, R5, Nat.reduceEqDiff, Nat.reduceAdd, Nat.reduceMul, Nat.reduceSub, Nat.reduceLeDiff, Nat.reduceLT, reduceIte, reduceCtorEq, Int.reduceBNe, Int.reduceBEq, hb1, hd, hd2, hz, hw, hwi, taC_take, taC_len, taC_drop]; try simp)) (wk_of_eq ?_) (by (repeat (first | exact St.le_refl _ | (refine St.le_new ?_ (by assumption)) | (refine St.le_newT ?_ (by assumption))))))
    all_goals (simp only [resAV, rvV, List.map_cons, List.map_nil, ↓R1, R2, R3, R4, R5, Nat.reduceEqDiff, Nat.reduceAdd, Nat.reduceMul, Nat.reduceSub, Nat.reduceLeDiff, Nat.reduceLT, reduceIte, reduceCtorEq, Int.reduceBNe, Int.reduceBEq, hb1, hd, hd2, hz, hw, hwi, taC_take, taC_len, taC_drop])
    all_goals rfl
  · have hb1 : decide ((384 : Int) < (l.length : Nat)) = false := by simp; omega
    have hE0 : chkE l = firstE (stE l) l.length 0 := by simp [chkE, hb]
    (refine Pu_intro c34 b34 (Nat.le_of_ble_eq_true rfl) fun σ => ?_; simp only [c34, ↓R1, R2, R3, R4, R5, Nat.reduceEqDiff, Nat.reduceAdd, Nat.reduceMul, Nat.reduceSub, Nat.reduceLeDiff, Nat.reduceLT, reduceIte, reduceCtorEq, Int.reduceBNe, Int.reduceBEq, hb1, hd, hd2, hz, hw, hwi, taC_take, taC_len, taC_drop])
    repeat' (first | (with_reducible rw [allocV_eq]) | (refine gdV_split (fun hc => ?_) (fun hc => ?_) <;> (try simp only [hc, ↓R1, R2, R3, R4, R5, Nat.reduceEqDiff, Nat.reduceAdd, Nat.reduceMul, Nat.reduceSub, Nat.reduceLeDiff, Nat.reduceLT, reduceIte, reduceCtorEq, Int.reduceBNe, Int.reduceBEq, hb1, hd, hd2, hz, hw, hwi, taC_take, taC_len, taC_drop])) | ((first | refine condV_split (fun hc => ?_) (fun hc => ?_) | (with_reducible intro β hβ; (try simp only [St.box_noneA, St.tip_noneA, St.tip_set, St.box_tip, St.box_lp, St.tip_lp] at hβ); (repeat (obtain ⟨⟨_, _⟩, hβ⟩ := hβ)); (try (have hbis := apart_is (by assumption) hβ; obtain ⟨_, _⟩ := hbis)))) <;> (try simp only [↓R1, R2, R3, R4, R5, Nat.reduceEqDiff, Nat.reduceAdd, Nat.reduceMul, Nat.reduceSub, Nat.reduceLeDiff, Nat.reduceLT, reduceIte, reduceCtorEq, Int.reduceBNe, Int.reduceBEq, hb1, hd, hd2, hz, hw, hwi, taC_take, taC_len, taC_drop])) | (with_reducible refine And.intro ?_ ?_; (focus (first | omega | (intros; (repeat' (with_reducible apply And.intro)) <;> first | omega | (simp only [cLE_len, taC_len, List.length_append, List.length_cons, List.length_nil]; omega))))) | (with_reducible apply And.intro))
    rename_i β0 hβ0 a1 a2
    refine loopV_for l.length (fun k => [(1, .ptr β0 0), (2, .ptr β 0), (12, sl cLE l), (13, .int .i64 l.length), (14, .int .i64 k)]) (fun k => (σ.setBox β0 [sl cLE l]).setBox β (taC (taK l k))) (fun k => ∀ j, j < k → stE l j = 0) (by simp [subF, slot, wk_refl]) (St.le_refl _) (fun j hj => absurd hj (Nat.not_lt_zero _)) (fun k hk hI => ?_)
    simp only [↓R1, R2, R3, R4, R5, Nat.reduceEqDiff, Nat.reduceAdd, Nat.reduceMul, Nat.reduceSub, Nat.reduceLeDiff, Nat.reduceLT, reduceIte, reduceCtorEq, Int.reduceBNe, Int.reduceBEq, hb1, hd, hd2, hz, hw, hwi, taC_take, taC_len, taC_drop]
    refine condV_split (fun hc => ?_) (fun hc => ?_)
    · have hlt : k < l.length := by simpa using hc
      have hd := cLE_drop l k hlt
      have h1 := p50 (taK l k) (eAt l k)
      simp only [cLE] at h1
      have hst : stE l k = bif withE (taK l k) (eAt l k) == 0 then (bif lateB l k then 9 else 0) else withE (taK l k) (eAt l k) := rfl
      have hno : stE l k ≠ 0 → chkE l = stE l k ∧ cntT l = ta0 := fun h => by
        have e : chkE l = stE l k := by rw [hE0]; exact firstE_hit (by omega) (by omega) (fun j _ hj => hI j hj) h
        refine ⟨e, ?_⟩
        rw [cntT, e, beq_eq_false_iff_ne.2 h]; rfl
      have hS := taK_succ hlt
      have hwi : IntKind.i64.wrap ((k : Int) + 1) = ((k + 1 : Nat) : Int) := by rw [wrap64 (by omega) (by omega)]; omega
      by_cases hk0 : k = 0
      · have hz : decide ((0 : Int) < (k : Int)) = false := by simp [hk0]
        have hlate : lateB l k = false := by simp [lateB, hk0]
        simp only [↓R1, R2, R3, R4, R5, Nat.reduceEqDiff, Nat.reduceAdd, Nat.reduceMul, Nat.reduceSub, Nat.reduceLeDiff, Nat.reduceLT, reduceIte, reduceCtorEq, Int.reduceBNe, Int.reduceBEq, hb1, hd, hd2, hz, hw, hwi, taC_take, taC_len, taC_drop]
        repeat' (first | (with_reducible rw [allocV_eq]) | (refine gdV_split (fun hc => ?_) (fun hc => ?_) <;> (try simp only [hc, ↓R1, R2, R3, R4, R5, Nat.reduceEqDiff, Nat.reduceAdd, Nat.reduceMul, Nat.reduceSub, Nat.reduceLeDiff, Nat.reduceLT, reduceIte, reduceCtorEq, Int.reduceBNe, Int.reduceBEq, hb1, hd, hd2, hz, hw, hwi, taC_take, taC_len, taC_drop])) | ((first | refine condV_split (fun hc => ?_) (fun hc => ?_) | (with_reducible intro β hβ; (try simp only [St.box_noneA, St.tip_noneA, St.tip_set, St.box_tip, St.box_lp, St.tip_lp] at hβ); (repeat (obtain ⟨⟨_, _⟩, hβ⟩ := hβ)); (try (have hbis := apart_is (by assumption) hβ; obtain ⟨_, _⟩ := hbis)))) <;> (try simp only [↓R1, R2, R3, R4, R5, Nat.reduceEqDiff, Nat.reduceAdd, Nat.reduceMul, Nat.reduceSub, Nat.reduceLeDiff, Nat.reduceLT, reduceIte, reduceCtorEq, Int.reduceBNe, Int.reduceBEq, hb1, hd, hd2, hz, hw, hwi, taC_take, taC_len, taC_drop])) | (with_reducible refine And.intro ?_ ?_; (focus (first | omega | (intros; (repeat' (with_reducible apply And.intro)) <;> first | omega | (simp only [cLE_len, taC_len, List.length_append, List.length_cons, List.length_nil]; omega))))) | (with_reducible apply And.intro) | ((first | refine Pu.to (h1) (wkL_refl _) ?_ | refine callDV_pu (h1) (wkL_refl _) ?_); (try simp only [↓R1, R2, R3, R4, R5, Nat.reduceEqDiff, Nat.reduceAdd, Nat.reduceMul, Nat.reduceSub, Nat.reduceLeDiff, Nat.reduceLT, reduceIte, reduceCtorEq, Int.reduceBNe, Int.reduceBEq, hb1, hd, hd2, hz, hw, hwi, taC_take, taC_len, taC_drop])))
        · have hw0 : withE (taK l k) (eAt l k) ≠ 0 := by simpa using hc
          have hs0 : stE l k = withE (taK l k) (eAt l k) := by rw [hst, beq_eq_false_iff_ne.2 hw0]; rfl
          obtain ⟨e1, e2⟩ := hno (by rw [hs0]; exact hw0)
          rw [e1, e2, hs0]
          (refine endP_pu (by simp) (by first | (simp [rvsS, rvS]; done) | (simp only [rvsS, rvS, ↓R1, R2, R3, R4, R5, Nat.reduceEqDiff, Nat.reduceAdd, Nat.reduceMul, Nat.reduceSub, Nat.reduceLeDiff, Nat.reduceLT, reduceIte, reduceCtorEq, Int.reduceBNe, Int.reduceBEq, hb1, hd, hd2, hz, hw, hwi, taC_take, taC_len, taC_drop]; try simp)) (wk_of_eq ?_) (by (repeat (first | exact St.le_refl _ | (refine St.le_new ?_ (by assumption)) | (refine St.le_newT ?_ (by assumption))))))
          (simp only [resAV, rvV, List.map_cons, List.map_nil, ↓R1, R2, R3, R4, R5, Nat.reduceEqDiff, Nat.reduceAdd, Nat.reduceMul, Nat.reduceSub, Nat.reduceLeDiff, Nat.reduceLT, reduceIte, reduceCtorEq, Int.reduceBNe, Int.reduceBEq, hb1, hd, hd2, hz, hw, hwi, taC_take, taC_len, taC_drop])
          rfl
        all_goals (
          have hk1 : stE l k = 0 := by rw [hst, hlate, bne_eq_false_iff_eq.1 hc]; rfl)
        · rcases (by omega : β < k ∨ β = k) with h | h
          · exact hI _ h
          · rw [h]; exact hk1
        · simp only [subF, slot, wk_refl, ↓R1, R2, R3, R4, R5, Nat.reduceEqDiff, Nat.reduceAdd, Nat.reduceMul, Nat.reduceSub, Nat.reduceLeDiff, Nat.reduceLT, reduceIte, reduceCtorEq, Int.reduceBNe, Int.reduceBEq, hb1, hd, hd2, hz, hw, hwi, taC_take, taC_len, taC_drop]
        · rw [hS]; exact St.le_new (St.le_refl _) (by simp only [St.box_noneA, St.tip_noneA, St.box_tip]; (repeat' apply And.intro) <;> assumption)
      · have hz : decide ((0 : Int) < (k : Int)) = true := by simp; omega
        have hw : IntKind.i64.wrap ((k : Int) - 1) = ((k - 1 : Nat) : Int) := by rw [wrap64 (by omega) (by omega)]; omega
        have hd2 := cLE_drop l (k - 1) (by omega)
        have hlate : lateB l k = decide ((eAt l k).tick < (eAt l (k - 1)).tick) := by
          unfold lateB; rw [decide_eq_true (by omega : 0 < k)]; rfl
        simp only [↓R1, R2, R3, R4, R5, Nat.reduceEqDiff, Nat.reduceAdd, Nat.reduceMul, Nat.reduceSub, Nat.reduceLeDiff, Nat.reduceLT, reduceIte, reduceCtorEq, Int.reduceBNe, Int.reduceBEq, hb1, hd, hd2, hz, hw, hwi, taC_take, taC_len, taC_drop]
        repeat' (first | (with_reducible rw [allocV_eq]) | (refine gdV_split (fun hc => ?_) (fun hc => ?_) <;> (try simp only [hc, ↓R1, R2, R3, R4, R5, Nat.reduceEqDiff, Nat.reduceAdd, Nat.reduceMul, Nat.reduceSub, Nat.reduceLeDiff, Nat.reduceLT, reduceIte, reduceCtorEq, Int.reduceBNe, Int.reduceBEq, hb1, hd, hd2, hz, hw, hwi, taC_take, taC_len, taC_drop])) | ((first | refine condV_split (fun hc => ?_) (fun hc => ?_) | (with_reducible intro β hβ; (try simp only [St.box_noneA, St.tip_noneA, St.tip_set, St.box_tip, St.box_lp, St.tip_lp] at hβ); (repeat (obtain ⟨⟨_, _⟩, hβ⟩ := hβ)); (try (have hbis := apart_is (by assumption) hβ; obtain ⟨_, _⟩ := hbis)))) <;> (try simp only [↓R1, R2, R3, R4, R5, Nat.reduceEqDiff, Nat.reduceAdd, Nat.reduceMul, Nat.reduceSub, Nat.reduceLeDiff, Nat.reduceLT, reduceIte, reduceCtorEq, Int.reduceBNe, Int.reduceBEq, hb1, hd, hd2, hz, hw, hwi, taC_take, taC_len, taC_drop])) | (with_reducible refine And.intro ?_ ?_; (focus (first | omega | (intros; (repeat' (with_reducible apply And.intro)) <;> first | omega | (simp only [cLE_len, taC_len, List.length_append, List.length_cons, List.length_nil]; omega))))) | (with_reducible apply And.intro) | ((first | refine Pu.to (h1) (wkL_refl _) ?_ | refine callDV_pu (h1) (wkL_refl _) ?_); (try simp only [↓R1, R2, R3, R4, R5, Nat.reduceEqDiff, Nat.reduceAdd, Nat.reduceMul, Nat.reduceSub, Nat.reduceLeDiff, Nat.reduceLT, reduceIte, reduceCtorEq, Int.reduceBNe, Int.reduceBEq, hb1, hd, hd2, hz, hw, hwi, taC_take, taC_len, taC_drop])))
        · have hw0 : withE (taK l k) (eAt l k) ≠ 0 := by simpa using hc
          have hs0 : stE l k = withE (taK l k) (eAt l k) := by rw [hst, beq_eq_false_iff_ne.2 hw0]; rfl
          obtain ⟨e1, e2⟩ := hno (by rw [hs0]; exact hw0)
          rw [e1, e2, hs0]
          (refine endP_pu (by simp) (by first | (simp [rvsS, rvS]; done) | (simp only [rvsS, rvS, ↓R1, R2, R3, R4, R5, Nat.reduceEqDiff, Nat.reduceAdd, Nat.reduceMul, Nat.reduceSub, Nat.reduceLeDiff, Nat.reduceLT, reduceIte, reduceCtorEq, Int.reduceBNe, Int.reduceBEq, hb1, hd, hd2, hz, hw, hwi, taC_take, taC_len, taC_drop]; try simp)) (wk_of_eq ?_) (by (repeat (first | exact St.le_refl _ | (refine St.le_new ?_ (by assumption)) | (refine St.le_newT ?_ (by assumption))))))
          (simp only [resAV, rvV, List.map_cons, List.map_nil, ↓R1, R2, R3, R4, R5, Nat.reduceEqDiff, Nat.reduceAdd, Nat.reduceMul, Nat.reduceSub, Nat.reduceLeDiff, Nat.reduceLT, reduceIte, reduceCtorEq, Int.reduceBNe, Int.reduceBEq, hb1, hd, hd2, hz, hw, hwi, taC_take, taC_len, taC_drop])
          rfl
        all_goals (
          have hq : withE (taK l k) (eAt l k) = 0 := bne_eq_false_iff_eq.1 (by assumption)
          rw [hlate, hc, hq] at hst)
        · have hs0 : stE l k = 9 := hst
          obtain ⟨e1, e2⟩ := hno (by rw [hs0]; decide)
          rw [e1, e2, hs0]
          (refine endP_pu (by simp) (by first | (simp [rvsS, rvS]; done) | (simp only [rvsS, rvS, ↓R1, R2, R3, R4, R5, Nat.reduceEqDiff, Nat.reduceAdd, Nat.reduceMul, Nat.reduceSub, Nat.reduceLeDiff, Nat.reduceLT, reduceIte, reduceCtorEq, Int.reduceBNe, Int.reduceBEq, hb1, hd, hd2, hz, hw, hwi, taC_take, taC_len, taC_drop]; try simp)) (wk_of_eq ?_) (by (repeat (first | exact St.le_refl _ | (refine St.le_new ?_ (by assumption)) | (refine St.le_newT ?_ (by assumption))))))
          (simp only [resAV, rvV, List.map_cons, List.map_nil, ↓R1, R2, R3, R4, R5, Nat.reduceEqDiff, Nat.reduceAdd, Nat.reduceMul, Nat.reduceSub, Nat.reduceLeDiff, Nat.reduceLT, reduceIte, reduceCtorEq, Int.reduceBNe, Int.reduceBEq, hb1, hd, hd2, hz, hw, hwi, taC_take, taC_len, taC_drop])
          rfl
        all_goals (have hk1 : stE l k = 0 := hst)
        · rcases (by omega : β < k ∨ β = k) with h | h
          · exact hI _ h
          · rw [h]; exact hk1
        · simp only [subF, slot, wk_refl, ↓R1, R2, R3, R4, R5, Nat.reduceEqDiff, Nat.reduceAdd, Nat.reduceMul, Nat.reduceSub, Nat.reduceLeDiff, Nat.reduceLT, reduceIte, reduceCtorEq, Int.reduceBNe, Int.reduceBEq, hb1, hd, hd2, hz, hw, hwi, taC_take, taC_len, taC_drop]
        · rw [hS]; exact St.le_new (St.le_refl _) (by simp only [St.box_noneA, St.tip_noneA, St.box_tip]; (repeat' apply And.intro) <;> assumption)
    · have : k = l.length := by simp at hc; omega
      subst this
      have e : chkE l = 0 := by rw [hE0]; exact firstE_none (fun j _ hj => hI j (by omega))
      have e2 : cntT l = taK l l.length := by rw [cntT, e]; rfl
      rw [e, e2]
      simp only [↓R1, R2, R3, R4, R5, Nat.reduceEqDiff, Nat.reduceAdd, Nat.reduceMul, Nat.reduceSub, Nat.reduceLeDiff, Nat.reduceLT, reduceIte, reduceCtorEq, Int.reduceBNe, Int.reduceBEq, hb1, hd, hd2, hz, hw, hwi, taC_take, taC_len, taC_drop]
      repeat' (first | (with_reducible rw [allocV_eq]) | (refine gdV_split (fun hc => ?_) (fun hc => ?_) <;> (try simp only [hc, ↓R1, R2, R3, R4, R5, Nat.reduceEqDiff, Nat.reduceAdd, Nat.reduceMul, Nat.reduceSub, Nat.reduceLeDiff, Nat.reduceLT, reduceIte, reduceCtorEq, Int.reduceBNe, Int.reduceBEq, hb1, hd, hd2, hz, hw, hwi, taC_take, taC_len, taC_drop])) | ((first | refine condV_split (fun hc => ?_) (fun hc => ?_) | (with_reducible intro β hβ; (try simp only [St.box_noneA, St.tip_noneA, St.tip_set, St.box_tip, St.box_lp, St.tip_lp] at hβ); (repeat (obtain ⟨⟨_, _⟩, hβ⟩ := hβ)); (try (have hbis := apart_is (by assumption) hβ; obtain ⟨_, _⟩ := hbis)))) <;> (try simp only [↓R1, R2, R3, R4, R5, Nat.reduceEqDiff, Nat.reduceAdd, Nat.reduceMul, Nat.reduceSub, Nat.reduceLeDiff, Nat.reduceLT, reduceIte, reduceCtorEq, Int.reduceBNe, Int.reduceBEq, hb1, hd, hd2, hz, hw, hwi, taC_take, taC_len, taC_drop])) | (with_reducible refine And.intro ?_ ?_; (focus (first | omega | (intros; (repeat' (with_reducible apply And.intro)) <;> first | omega | (simp only [cLE_len, taC_len, List.length_append, List.length_cons, List.length_nil]; omega))))) | (with_reducible apply And.intro))
      (refine endP_pu (by simp) (by first | (simp [rvsS, rvS]; done) | (simp only [rvsS, rvS, ↓R1, R2, R3, R4, R5, Nat.reduceEqDiff, Nat.reduceAdd, Nat.reduceMul, Nat.reduceSub, Nat.reduceLeDiff, Nat.reduceLT, reduceIte, reduceCtorEq, Int.reduceBNe, Int.reduceBEq, hb1, hd, hd2, hz, hw, hwi, taC_take, taC_len, taC_drop]; try simp)) (wk_of_eq ?_) (by (repeat (first | exact St.le_refl _ | (refine St.le_new ?_ (by assumption)) | (refine St.le_newT ?_ (by assumption))))))
      (simp only [resAV, rvV, List.map_cons, List.map_nil, ↓R1, R2, R3, R4, R5, Nat.reduceEqDiff, Nat.reduceAdd, Nat.reduceMul, Nat.reduceSub, Nat.reduceLeDiff, Nat.reduceLT, reduceIte, reduceCtorEq, Int.reduceBNe, Int.reduceBEq, hb1, hd, hd2, hz, hw, hwi, taC_take, taC_len, taC_drop])
end Go.Proofs.YtbbkckogjdjjgaaDoor
namespace Go.Proofs.YtbbkckogjdjjgaaDoor
open Go.Abs
set_option linter.all false
set_option maxRecDepth 100000
theorem p15 (l : List LE) (hl : l.length ≤ 1000000) : Pu Tryd.prog 15 [.agg [sl cLE l]] (.int .i64 (chkE l)) := by
  have h := p34 l hl
  (refine Pu_intro c15 b15 (Nat.le_of_ble_eq_true rfl) fun σ => ?_; simp only [c15, ↓R1, R2, R3, R4, R5, Nat.reduceEqDiff, Nat.reduceAdd, Nat.reduceMul, Nat.reduceSub, Nat.reduceLeDiff, Nat.reduceLT, reduceIte, reduceCtorEq, Int.reduceBNe, Int.reduceBEq])
  repeat' (first | (with_reducible rw [allocV_eq]) | (refine gdV_split (fun hc => ?_) (fun hc => ?_) <;> (try simp only [hc, ↓R1, R2, R3, R4, R5, Nat.reduceEqDiff, Nat.reduceAdd, Nat.reduceMul, Nat.reduceSub, Nat.reduceLeDiff, Nat.reduceLT, reduceIte, reduceCtorEq, Int.reduceBNe, Int.reduceBEq])) | ((first | refine condV_split (fun hc => ?_) (fun hc => ?_) | (with_reducible intro β hβ; (try simp only [St.box_noneA, St.tip_noneA, St.tip_set, St.box_tip, St.box_lp, St.tip_lp] at hβ); (repeat (obtain ⟨⟨_, _⟩, hβ⟩ := hβ)); (try (have hbis := apart_is (by assumption) hβ; obtain ⟨_, _⟩ := hbis)))) <;> (try simp only [↓R1, R2, R3, R4, R5, Nat.reduceEqDiff, Nat.reduceAdd, Nat.reduceMul, Nat.reduceSub, Nat.reduceLeDiff, Nat.reduceLT, reduceIte, reduceCtorEq, Int.reduceBNe, Int.reduceBEq])) | (with_reducible refine And.intro ?_ ?_; (focus (first | omega | (intros; (repeat' (with_reducible apply And.intro)) <;> first | omega | (simp only [cLE_len, taC_len, List.length_append, List.length_cons, List.length_nil]; omega))))) | (with_reducible apply And.intro) | ((first | refine Pu.to (h) (wkL_refl _) ?_ | refine callDV_pu (h) (wkL_refl _) ?_); (try simp only [↓R1, R2, R3, R4, R5, Nat.reduceEqDiff, Nat.reduceAdd, Nat.reduceMul, Nat.reduceSub, Nat.reduceLeDiff, Nat.reduceLT, reduceIte, reduceCtorEq, Int.reduceBNe, Int.reduceBEq])))
  all_goals first | exact taC_len _ | skip
  (refine endP_pu (by simp) (by first | (simp [rvsS, rvS]; done) | (simp only [rvsS, rvS, ↓R1, R2, R3, R4, R5, Nat.reduceEqDiff, Nat.reduceAdd, Nat.reduceMul, Nat.reduceSub, Nat.reduceLeDiff, Nat.reduceLT, reduceIte, reduceCtorEq, Int.reduceBNe, Int.reduceBEq]; try simp)) (wk_of_eq ?_) (by (repeat (first | exact St.le_refl _ | (refine St.le_new ?_ (by assumption)) | (refine St.le_newT ?_ (by assumption))))))
  (simp only [resAV, rvV, List.map_cons, List.map_nil, ↓R1, R2, R3, R4, R5, Nat.reduceEqDiff, Nat.reduceAdd, Nat.reduceMul, Nat.reduceSub, Nat.reduceLeDiff, Nat.reduceLT, reduceIte, reduceCtorEq, Int.reduceBNe, Int.reduceBEq])
theorem ofT_le (l : List LE) (t : Int) : (ofT l t).length ≤ l.length := List.length_filter_le _ _
end Go.Proofs.YtbbkckogjdjjgaaDoor
namespace Go.Proofs.YtbbkckogjdjjgaaDoor
open Go.Abs
set_option linter.all false
set_option maxRecDepth 100000
theorem St.le_newL {s : St} {L : Nat} {x : Loop × Fr} (h : s.lp L = none) : St.le s (s.setLp L x) := by
  refine ⟨fun _ _ h => h, fun _ _ h => h, fun _ _ h => h, fun l r hl => ?_⟩
  simp only [St.setLp, upd]
  split
  · rename_i e; rw [e, h] at hl; cases hl
  · exact hl
theorem cRec_f (x : LE) : (cRec x).length = 6 := rfl
theorem cRec_len (l : List LE) : (l.flatMap cRec).length = l.length * 6 := flat_len cRec_f l
theorem p62 (l : List LE) (f : Nat) (cap : List AV) (σ : St) : AC Tryd.prog 62 [sl cLE l, .fn f cap] σ (fun r s => ∃ β γ, σ.box β = none ∧ σ.box γ = none ∧ (Apart γ β ∧ Apart β γ) ∧ r = .fn 75 [.ptr β 0, .ptr γ 0] ∧ s = (σ.setBox β [sl cLE l]).setBox γ [.fn f cap]) := by
  refine AC_intro c62 b62 (Nat.le_of_ble_eq_true rfl) ?_
  simp only [c62, ↓R1, R2, R3, R4, R5, Nat.reduceEqDiff, Nat.reduceAdd, Nat.reduceMul, Nat.reduceSub, Nat.reduceLeDiff, Nat.reduceLT, reduceIte, reduceCtorEq, Int.reduceBNe, Int.reduceBEq]
  repeat' (first | (with_reducible rw [allocV_eq]) | (refine gdV_split (fun hc => ?_) (fun hc => ?_) <;> (try simp only [hc, ↓R1, R2, R3, R4, R5, Nat.reduceEqDiff, Nat.reduceAdd, Nat.reduceMul, Nat.reduceSub, Nat.reduceLeDiff, Nat.reduceLT, reduceIte, reduceCtorEq, Int.reduceBNe, Int.reduceBEq])) | ((first | refine condV_split (fun hc => ?_) (fun hc => ?_) | (with_reducible intro β hβ; (try simp only [St.box_noneA, St.tip_noneA, St.tip_set, St.box_tip, St.box_lp, St.tip_lp] at hβ); (repeat (obtain ⟨⟨_, _⟩, hβ⟩ := hβ)); (try (have hbis := apart_is (by assumption) hβ; obtain ⟨_, _⟩ := hbis))) | ((first | (refine appD_tslK (.inr rfl) rfl ?_ ?_ ?_ ?_ ?_ ?_; (first | rfl | exact St.tip_same _ _ _ | (simp only [↓R1, R2, R3, R4, R5, Nat.reduceEqDiff, Nat.reduceAdd, Nat.reduceMul, Nat.reduceSub, Nat.reduceLeDiff, Nat.reduceLT, reduceIte, reduceCtorEq, Int.reduceBNe, Int.reduceBEq])); (first | omega | (simp only [cLE_len, taC_len, cRec_len, List.length_append, List.length_cons, List.length_nil, List.length_nil, List.length_cons]; omega) | (simp only [cLE_len, taC_len, cRec_len, List.length_append, List.length_cons, List.length_nil, List.length_nil, List.length_cons])); (first | rfl | first | omega | (simp only [cLE_len, taC_len, cRec_len, List.length_append, List.length_cons, List.length_nil, List.length_nil, List.length_cons]; omega) | (simp only [cLE_len, taC_len, cRec_len, List.length_append, List.length_cons, List.length_nil, List.length_nil, List.length_cons]))) | (refine appV_tslK rfl ?_ ?_ ?_ ?_ ?_ ?_; (first | rfl | exact St.tip_same _ _ _ | (simp only [↓R1, R2, R3, R4, R5, Nat.reduceEqDiff, Nat.reduceAdd, Nat.reduceMul, Nat.reduceSub, Nat.reduceLeDiff, Nat.reduceLT, reduceIte, reduceCtorEq, Int.reduceBNe, Int.reduceBEq])); (first | omega | (simp only [cLE_len, taC_len, cRec_len, List.length_append, List.length_cons, List.length_nil, List.length_nil, List.length_cons]; omega) | (simp only [cLE_len, taC_len, cRec_len, List.length_append, List.length_cons, List.length_nil, List.length_nil, List.length_cons])); (first | rfl | first | omega | (simp only [cLE_len, taC_len, cRec_len, List.length_append, List.length_cons, List.length_nil, List.length_nil, List.length_cons]; omega) | (simp only [cLE_len, taC_len, cRec_len, List.length_append, List.length_cons, List.length_nil, List.length_nil, List.length_cons]))) | (refine appV_own ?_ ?_ ?_ ?_; exact flat_len (by intro _; rfl) _) | (refine appD_own ?_ ?_ ?_ ?_ ?_; omega; exact flat_len (by intro _; rfl) _) | (refine appV_fresh rfl trivial rfl ?_ ?_ ?_ ?_ ?_; (first | rfl | first | omega | (simp only [cLE_len, taC_len, cRec_len, List.length_append, List.length_cons, List.length_nil, List.length_nil, List.length_cons]; omega) | (simp only [cLE_len, taC_len, cRec_len, List.length_append, List.length_cons, List.length_nil, List.length_nil, List.length_cons])); (first | rfl | first | omega | (simp only [cLE_len, taC_len, cRec_len, List.length_append, List.length_cons, List.length_nil, List.length_nil, List.length_cons]; omega) | (simp only [cLE_len, taC_len, cRec_len, List.length_append, List.length_cons, List.length_nil, List.length_nil, List.length_cons]))) | (refine appD_fresh rfl trivial rfl ?_ ?_ ?_ ?_ ?_ ?_; omega; (first | rfl | first | omega | (simp only [cLE_len, taC_len, cRec_len, List.length_append, List.length_cons, List.length_nil, List.length_nil, List.length_cons]; omega) | (simp only [cLE_len, taC_len, cRec_len, List.length_append, List.length_cons, List.length_nil, List.length_nil, List.length_cons])); (first | rfl | first | omega | (simp only [cLE_len, taC_len, cRec_len, List.length_append, List.length_cons, List.length_nil, List.length_nil, List.length_cons]; omega) | (simp only [cLE_len, taC_len, cRec_len, List.length_append, List.length_cons, List.length_nil, List.length_nil, List.length_cons])))); (unfold maxLen; omega); omega)) <;> (try simp only [↓R1, R2, R3, R4, R5, Nat.reduceEqDiff, Nat.reduceAdd, Nat.reduceMul, Nat.reduceSub, Nat.reduceLeDiff, Nat.reduceLT, reduceIte, reduceCtorEq, Int.reduceBNe, Int.reduceBEq])) | (with_reducible refine And.intro ?_ ?_; (focus (first | omega | (intros; (repeat' (with_reducible apply And.intro)) <;> first | omega | (simp only [cLE_len, taC_len, cRec_len, List.length_append, List.length_cons, List.length_nil]; omega))))) | (with_reducible apply And.intro))
  rename_i β0 hβ0 a1 a2
  refine endP_id (by simp) (by simp [rvsS, rvS]) ?_
  exact ⟨β0, β, hβ0, hβ, ⟨by assumption, by assumption⟩, rfl, rfl⟩
theorem filter_succ {l : List LE} {k : Nat} (p : LE → Bool) (h : k < l.length) : (l.take (k + 1)).filter p = bif p (eAt l k) then (l.take k).filter p ++ [eAt l k] else (l.take k).filter p := by
  rw [← List.take_append_getElem h, List.filter_append, eAt_lt h]
  cases hp : p l[k] <;> simp [hp]
set_option maxHeartbeats 4000000 in
theorem RF_filter {prs : List Nat} {asg body : CC} {fr : Fr} {Q : Exit → Fr → St → Prop} {βl βw : Nat} (l : List LE) (p : LE → Bool) (f : Nat) (cap : List AV) (T : List LE → St) (hps : prs.length = 1) (hlen : l.length ≤ 1000000)
    (hbl : ∀ pre, (T pre).box βl = some [sl cLE l]) (hbw : ∀ pre, (T pre).box βw = some [.fn f cap]) (hl : ∀ pre L, (T pre).lp L = (T []).lp L)
    (hcl : ∀ pre L x0 σ', (T []).lp L = none → St.le ((T pre).setLp L x0) σ' → ∀ x, AC Tryd.prog f (.agg (cLE x) :: cap) σ' (fun r s => r = .bool (p x) ∧ s = σ'))
    (hround : ∀ L r pre x, (T []).lp L = none → pre.length < l.length → aC Tryd.prog asg (putL prs [.agg (cLE x)] fr) ((T pre).setLp L (r, fr)) (fun e fr1 σ2 => e = .normal ∧ σ2.lp L = some (r, fr) ∧ aC Tryd.prog body fr1 (σ2.setLp L (busy r, fr)) (fun e _ σ3 => σ3.lp L = some (busy r, fr) ∧ match e with
        | .normal => St.le ((T (pre ++ [x])).setLp L (r, fr)) (σ3.setLp L (r, fr))
        | _ => False)))
    (hend : Q .normal fr (T (l.filter p))) : RF Tryd.prog 75 [.ptr βl 0, .ptr βw 0] prs asg body fr (T []) Q := by
  refine ⟨by kernel_rfl, fun L r hL hr1 hr2 hY => ?_⟩
  have hY' : ∀ pre x, pre.length < l.length → YC Tryd.prog L [.agg (cLE x)] ((T pre).setLp L (r, fr)) (fun v s' => v = .bool true ∧ s' = (T (pre ++ [x])).setLp L (r, fr)) := fun pre x hp =>
    RF_round2 hY (by simpa using hps.symm) (hround L r pre x hL hp)
  have hbl' : ∀ pre, ((T pre).setLp L (r, fr)).box βl = some [sl cLE l] := hbl
  have hbw' : ∀ pre, ((T pre).setLp L (r, fr)).box βw = some [.fn f cap] := hbw
  refine AC_intro c75 b75 (Nat.le_of_ble_eq_true rfl) ?_
  have hd : True := trivial
  have hp : True := trivial
  have hwi : True := trivial
  simp only [c75, ↓R1, R2, R3, R4, R5, Nat.reduceEqDiff, Nat.reduceAdd, Nat.reduceMul, Nat.reduceSub, Nat.reduceLeDiff, Nat.reduceLT, reduceIte, reduceCtorEq, Int.reduceBNe, Int.reduceBEq, hbl, hbw, hd, hp, hwi]
  repeat' (first | (with_reducible rw [allocV_eq]) | (refine gdV_split (fun hc => ?_) (fun hc => ?_) <;> (try simp only [hc, ↓R1, R2, R3, R4, R5, Nat.reduceEqDiff, Nat.reduceAdd, Nat.reduceMul, Nat.reduceSub, Nat.reduceLeDiff, Nat.reduceLT, reduceIte, reduceCtorEq, Int.reduceBNe, Int.reduceBEq, hbl, hbw, hd, hp, hwi])) | ((first | refine condV_split (fun hc => ?_) (fun hc => ?_) | (with_reducible intro β hβ; (try simp only [St.box_noneA, St.tip_noneA, St.tip_set, St.box_tip, St.box_lp, St.tip_lp] at hβ); (repeat (obtain ⟨⟨_, _⟩, hβ⟩ := hβ)); (try (have hbis := apart_is (by assumption) hβ; obtain ⟨_, _⟩ := hbis))) | ((first | (refine appD_tslK (.inr rfl) rfl ?_ ?_ ?_ ?_ ?_ ?_; (first | rfl | exact St.tip_same _ _ _ | (simp only [↓R1, R2, R3, R4, R5, Nat.reduceEqDiff, Nat.reduceAdd, Nat.reduceMul, Nat.reduceSub, Nat.reduceLeDiff, Nat.reduceLT, reduceIte, reduceCtorEq, Int.reduceBNe, Int.reduceBEq, hbl, hbw, hd, hp, hwi])); (first | omega | (simp only [cLE_len, taC_len, cRec_len, List.length_append, List.length_cons, List.length_nil, List.length_nil, List.length_cons]; omega) | (simp only [cLE_len, taC_len, cRec_len, List.length_append, List.length_cons, List.length_nil, List.length_nil, List.length_cons])); (first | rfl | first | omega | (simp only [cLE_len, taC_len, cRec_len, List.length_append, List.length_cons, List.length_nil, List.length_nil, List.length_cons]; omega) | (simp only [cLE_len, taC_len, cRec_len, List.length_append, List.length_cons, List.length_nil, List.length_nil, List.length_cons]))) | (refine appV_tslK rfl ?_ ?_ ?_ ?_ ?_ ?_; (first | rfl | exact St.tip_same _ _ _ | (simp only [↓R1, R2, R3, R4, R5, Nat.reduceEqDiff, Nat.reduceAdd, Nat.reduceMul, Nat.reduceSub, Nat.reduceLeDiff, Nat.reduceLT, reduceIte, reduceCtorEq, Int.reduceBNe, Int.reduceBEq, hbl, hbw, hd, hp, hwi])); (first | omega | (simp only [cLE_len, taC_len, cRec_len, List.length_append, List.length_cons, List.length_nil, List.length_nil, List.length_cons]; omega) | (simp only [cLE_len, taC_len, cRec_len, List.length_append, List.length_cons, List.length_nil, List.length_nil, List.length_cons])); (first | rfl | first | omega | (simp only [cLE_len, taC_len, cRec_len, List.length_append, List.length_cons, List.length_nil, List.length_nil, List.length_cons]; omega) | (simp only [cLE_len, taC_len, cRec_len, List.length_append, List.length_cons, List.length_nil, List.length_nil, List.length_cons]))) | (refine appV_own ?_ ?_ ?_ ?_; exact flat_len (by intro _; rfl) _) | (refine appD_own ?_ ?_ ?_ ?_ ?_; omega; exact flat_len (by intro _; rfl) _) | (refine appV_fresh rfl trivial rfl ?_ ?_ ?_ ?_ ?_; (first | rfl | first | omega | (simp only [cLE_len, taC_len, cRec_len, List.length_append, List.length_cons, List.length_nil, List.length_nil, List.length_cons]; omega) | (simp only [cLE_len, taC_len, cRec_len, List.length_append, List.length_cons, List.length_nil, List.length_nil, List.length_cons])); (first | rfl | first | omega | (simp only [cLE_len, taC_len, cRec_len, List.length_append, List.length_cons, List.length_nil, List.length_nil, List.length_cons]; omega) | (simp only [cLE_len, taC_len, cRec_len, List.length_append, List.length_cons, List.length_nil, List.length_nil, List.length_cons]))) | (refine appD_fresh rfl trivial rfl ?_ ?_ ?_ ?_ ?_ ?_; omega; (first | rfl | first | omega | (simp only [cLE_len, taC_len, cRec_len, List.length_append, List.length_cons, List.length_nil, List.length_nil, List.length_cons]; omega) | (simp only [cLE_len, taC_len, cRec_len, List.length_append, List.length_cons, List.length_nil, List.length_nil, List.length_cons])); (first | rfl | first | omega | (simp only [cLE_len, taC_len, cRec_len, List.length_append, List.length_cons, List.length_nil, List.length_nil, List.length_cons]; omega) | (simp only [cLE_len, taC_len, cRec_len, List.length_append, List.length_cons, List.length_nil, List.length_nil, List.length_cons])))); (unfold maxLen; omega); omega)) <;> (try simp only [↓R1, R2, R3, R4, R5, Nat.reduceEqDiff, Nat.reduceAdd, Nat.reduceMul, Nat.reduceSub, Nat.reduceLeDiff, Nat.reduceLT, reduceIte, reduceCtorEq, Int.reduceBNe, Int.reduceBEq, hbl, hbw, hd, hp, hwi])) | (with_reducible refine And.intro ?_ ?_; (focus (first | omega | (intros; (repeat' (with_reducible apply And.intro)) <;> first | omega | (simp only [cLE_len, taC_len, cRec_len, List.length_append, List.length_cons, List.length_nil]; omega))))) | (with_reducible apply And.intro))
  refine loopV_for l.length (fun k => [(0, .yld L), (2, .ptr βw 0), (6, sl cLE l), (7, .int .i64 l.length), (8, .int .i64 k)]) (fun k => (T ((l.take k).filter p)).setLp L (r, fr)) (fun _ => True) (by simp [subF, slot, wk_refl]) (by simp only [List.take_zero, List.filter_nil]; exact St.le_refl _) trivial (fun k hk _ => ?_)
  simp only [↓R1, R2, R3, R4, R5, Nat.reduceEqDiff, Nat.reduceAdd, Nat.reduceMul, Nat.reduceSub, Nat.reduceLeDiff, Nat.reduceLT, reduceIte, reduceCtorEq, Int.reduceBNe, Int.reduceBEq, hbl, hbw, hd, hp, hwi]
  refine condV_split (fun hc => ?_) (fun hc => ?_)
  · have hlt : k < l.length := by simpa using hc
    have hd := cLE_drop l k hlt
    have hwi : IntKind.i64.wrap ((k : Int) + 1) = ((k + 1 : Nat) : Int) := by rw [wrap64 (by omega) (by omega)]; omega
    have hf := filter_succ p hlt
    have hfl : ((l.take k).filter p).length < l.length := Nat.lt_of_le_of_lt (List.length_filter_le _ _) (by simp; omega)
    have hbk : BoxIs (T ((l.take k).filter p)) βw [.fn f cap] := ⟨hbw _⟩
    cases hp : p (eAt l k) with
    | true =>
      rw [hp, cond_true] at hf
      simp only [↓R1, R2, R3, R4, R5, Nat.reduceEqDiff, Nat.reduceAdd, Nat.reduceMul, Nat.reduceSub, Nat.reduceLeDiff, Nat.reduceLT, reduceIte, reduceCtorEq, Int.reduceBNe, Int.reduceBEq, hbl, hbw, hd, hp, hwi]
      repeat' (first | (with_reducible rw [allocV_eq]) | (refine gdV_split (fun hc => ?_) (fun hc => ?_) <;> (try simp only [hc, ↓R1, R2, R3, R4, R5, Nat.reduceEqDiff, Nat.reduceAdd, Nat.reduceMul, Nat.reduceSub, Nat.reduceLeDiff, Nat.reduceLT, reduceIte, reduceCtorEq, Int.reduceBNe, Int.reduceBEq, hbl, hbw, hd, hp, hwi])) | ((first | refine condV_split (fun hc => ?_) (fun hc => ?_) | (with_reducible intro β hβ; (try simp only [St.box_noneA, St.tip_noneA, St.tip_set, St.box_tip, St.box_lp, St.tip_lp] at hβ); (repeat (obtain ⟨⟨_, _⟩, hβ⟩ := hβ)); (try (have hbis := apart_is (by assumption) hβ; obtain ⟨_, _⟩ := hbis))) | ((first | (refine appD_tslK (.inr rfl) rfl ?_ ?_ ?_ ?_ ?_ ?_; (first | rfl | exact St.tip_same _ _ _ | (simp only [↓R1, R2, R3, R4, R5, Nat.reduceEqDiff, Nat.reduceAdd, Nat.reduceMul, Nat.reduceSub, Nat.reduceLeDiff, Nat.reduceLT, reduceIte, reduceCtorEq, Int.reduceBNe, Int.reduceBEq, hbl, hbw, hd, hp, hwi])); (first | omega | (simp only [cLE_len, taC_len, cRec_len, List.length_append, List.length_cons, List.length_nil, List.length_nil, List.length_cons]; omega) | (simp only [cLE_len, taC_len, cRec_len, List.length_append, List.length_cons, List.length_nil, List.length_nil, List.length_cons])); (first | rfl | first | omega | (simp only [cLE_len, taC_len, cRec_len, List.length_append, List.length_cons, List.length_nil, List.length_nil, List.length_cons]; omega) | (simp only [cLE_len, taC_len, cRec_len, List.length_append, List.length_cons, List.length_nil, List.length_nil, List.length_cons]))) | (refine appV_tslK rfl ?_ ?_ ?_ ?_ ?_ ?_; (first | rfl | exact St.tip_same _ _ _ | (simp only [↓R1, R2, R3, R4, R5, Nat.reduceEqDiff, Nat.reduceAdd, Nat.reduceMul, Nat.reduceSub, Nat.reduceLeDiff, Nat.reduceLT, reduceIte, reduceCtorEq, Int.reduceBNe, Int.reduceBEq, hbl, hbw, hd, hp, hwi])); (first | omega | (simp only [cLE_len, taC_len, cRec_len, List.length_append, List.length_cons, List.length_nil, List.length_nil, List.length_cons]; omega) | (simp only [cLE_len, taC_len, cRec_len, List.length_append, List.length_cons, List.length_nil, List.length_nil, List.length_cons])); (first | rfl | first | omega | (simp only [cLE_len, taC_len, cRec_len, List.length_append, List.length_cons, List.length_nil, List.length_nil, List.length_cons]; omega) | (simp only [cLE_len, taC_len, cRec_len, List.length_append, List.length_cons, List.length_nil, List.length_nil, List.length_cons]))) | (refine appV_own ?_ ?_ ?_ ?_; exact flat_len (by intro _; rfl) _) | (refine appD_own ?_ ?_ ?_ ?_ ?_; omega; exact flat_len (by intro _; rfl) _) | (refine appV_fresh rfl trivial rfl ?_ ?_ ?_ ?_ ?_; (first | rfl | first | omega | (simp only [cLE_len, taC_len, cRec_len, List.length_append, List.length_cons, List.length_nil, List.length_nil, List.length_cons]; omega) | (simp only [cLE_len, taC_len, cRec_len, List.length_append, List.length_cons, List.length_nil, List.length_nil, List.length_cons])); (first | rfl | first | omega | (simp only [cLE_len, taC_len, cRec_len, List.length_append, List.length_cons, List.length_nil, List.length_nil, List.length_cons]; omega) | (simp only [cLE_len, taC_len, cRec_len, List.length_append, List.length_cons, List.length_nil, List.length_nil, List.length_cons]))) | (refine appD_fresh rfl trivial rfl ?_ ?_ ?_ ?_ ?_ ?_; omega; (first | rfl | first | omega | (simp only [cLE_len, taC_len, cRec_len, List.length_append, List.length_cons, List.length_nil, List.length_nil, List.length_cons]; omega) | (simp only [cLE_len, taC_len, cRec_len, List.length_append, List.length_cons, List.length_nil, List.length_nil, List.length_cons])); (first | rfl | first | omega | (simp only [cLE_len, taC_len, cRec_len, List.length_append, List.length_cons, List.length_nil, List.length_nil, List.length_cons]; omega) | (simp only [cLE_len, taC_len, cRec_len, List.length_append, List.length_cons, List.length_nil, List.length_nil, List.length_cons])))); (unfold maxLen; omega); omega)) <;> (try simp only [↓R1, R2, R3, R4, R5, Nat.reduceEqDiff, Nat.reduceAdd, Nat.reduceMul, Nat.reduceSub, Nat.reduceLeDiff, Nat.reduceLT, reduceIte, reduceCtorEq, Int.reduceBNe, Int.reduceBEq, hbl, hbw, hd, hp, hwi])) | (with_reducible refine And.intro ?_ ?_; (focus (first | omega | (intros; (repeat' (with_reducible apply And.intro)) <;> first | omega | (simp only [cLE_len, taC_len, cRec_len, List.length_append, List.length_cons, List.length_nil]; omega))))) | (with_reducible apply And.intro))
      have hle : ∀ a b, St.le ((T ((l.take k).filter p)).setLp L (r, fr)) ((((T ((l.take k).filter p)).setLp L (r, fr)).setBox β a).setBox β b) := fun a b => by
        rw [St.set_set]; exact St.le_new (St.le_refl _) hβ
      refine (hcl _ L (r, fr) _ hL (hle _ _) (eAt l k)).mono ?_
      rintro _ _ ⟨rfl, rfl⟩
      simp only [↓R1, R2, R3, R4, R5, Nat.reduceEqDiff, Nat.reduceAdd, Nat.reduceMul, Nat.reduceSub, Nat.reduceLeDiff, Nat.reduceLT, reduceIte, reduceCtorEq, Int.reduceBNe, Int.reduceBEq, hbl, hbw, hd, hp, hwi]
      refine ((hY' ((l.take k).filter p) (eAt l k) hfl).le (by first | exact hle _ _ | (exact St.le_new (St.le_refl _) hβ))).mono ?_
      rintro _ _ ⟨rfl, rfl⟩
      simp only [↓R1, R2, R3, R4, R5, Nat.reduceEqDiff, Nat.reduceAdd, Nat.reduceMul, Nat.reduceSub, Nat.reduceLeDiff, Nat.reduceLT, reduceIte, reduceCtorEq, Int.reduceBNe, Int.reduceBEq, hbl, hbw, hd, hp, hwi]
      repeat' (first | (with_reducible rw [allocV_eq]) | (refine gdV_split (fun hc => ?_) (fun hc => ?_) <;> (try simp only [hc, ↓R1, R2, R3, R4, R5, Nat.reduceEqDiff, Nat.reduceAdd, Nat.reduceMul, Nat.reduceSub, Nat.reduceLeDiff, Nat.reduceLT, reduceIte, reduceCtorEq, Int.reduceBNe, Int.reduceBEq, hbl, hbw, hd, hp, hwi])) | ((first | refine condV_split (fun hc => ?_) (fun hc => ?_) | (with_reducible intro β hβ; (try simp only [St.box_noneA, St.tip_noneA, St.tip_set, St.box_tip, St.box_lp, St.tip_lp] at hβ); (repeat (obtain ⟨⟨_, _⟩, hβ⟩ := hβ)); (try (have hbis := apart_is (by assumption) hβ; obtain ⟨_, _⟩ := hbis))) | ((first | (refine appD_tslK (.inr rfl) rfl ?_ ?_ ?_ ?_ ?_ ?_; (first | rfl | exact St.tip_same _ _ _ | (simp only [↓R1, R2, R3, R4, R5, Nat.reduceEqDiff, Nat.reduceAdd, Nat.reduceMul, Nat.reduceSub, Nat.reduceLeDiff, Nat.reduceLT, reduceIte, reduceCtorEq, Int.reduceBNe, Int.reduceBEq, hbl, hbw, hd, hp, hwi])); (first | omega | (simp only [cLE_len, taC_len, cRec_len, List.length_append, List.length_cons, List.length_nil, List.length_nil, List.length_cons]; omega) | (simp only [cLE_len, taC_len, cRec_len, List.length_append, List.length_cons, List.length_nil, List.length_nil, List.length_cons])); (first | rfl | first | omega | (simp only [cLE_len, taC_len, cRec_len, List.length_append, List.length_cons, List.length_nil, List.length_nil, List.length_cons]; omega) | (simp only [cLE_len, taC_len, cRec_len, List.length_append, List.length_cons, List.length_nil, List.length_nil, List.length_cons]))) | (refine appV_tslK rfl ?_ ?_ ?_ ?_ ?_ ?_; (first | rfl | exact St.tip_same _ _ _ | (simp only [↓R1, R2, R3, R4, R5, Nat.reduceEqDiff, Nat.reduceAdd, Nat.reduceMul, Nat.reduceSub, Nat.reduceLeDiff, Nat.reduceLT, reduceIte, reduceCtorEq, Int.reduceBNe, Int.reduceBEq, hbl, hbw, hd, hp, hwi])); (first | omega | (simp only [cLE_len, taC_len, cRec_len, List.length_append, List.length_cons, List.length_nil, List.length_nil, List.length_cons]; omega) | (simp only [cLE_len, taC_len, cRec_len, List.length_append, List.length_cons, List.length_nil, List.length_nil, List.length_cons])); (first | rfl | first | omega | (simp only [cLE_len, taC_len, cRec_len, List.length_append, List.length_cons, List.length_nil, List.length_nil, List.length_cons]; omega) | (simp only [cLE_len, taC_len, cRec_len, List.length_append, List.length_cons, List.length_nil, List.length_nil, List.length_cons]))) | (refine appV_own ?_ ?_ ?_ ?_; exact flat_len (by intro _; rfl) _) | (refine appD_own ?_ ?_ ?_ ?_ ?_; omega; exact flat_len (by intro _; rfl) _) | (refine appV_fresh rfl trivial rfl ?_ ?_ ?_ ?_ ?_; (first | rfl | first | omega | (simp only [cLE_len, taC_len, cRec_len, List.length_append, List.length_cons, List.length_nil, List.length_nil, List.length_cons]; omega) | (simp only [cLE_len, taC_len, cRec_len, List.length_append, List.length_cons, List.length_nil, List.length_nil, List.length_cons])); (first | rfl | first | omega | (simp only [cLE_len, taC_len, cRec_len, List.length_append, List.length_cons, List.length_nil, List.length_nil, List.length_cons]; omega) | (simp only [cLE_len, taC_len, cRec_len, List.length_append, List.length_cons, List.length_nil, List.length_nil, List.length_cons]))) | (refine appD_fresh rfl trivial rfl ?_ ?_ ?_ ?_ ?_ ?_; omega; (first | rfl | first | omega | (simp only [cLE_len, taC_len, cRec_len, List.length_append, List.length_cons, List.length_nil, List.length_nil, List.length_cons]; omega) | (simp only [cLE_len, taC_len, cRec_len, List.length_append, List.length_cons, List.length_nil, List.length_nil, List.length_cons])); (first | rfl | first | omega | (simp only [cLE_len, taC_len, cRec_len, List.length_append, List.length_cons, List.length_nil, List.length_nil, List.length_cons]; omega) | (simp only [cLE_len, taC_len, cRec_len, List.length_append, List.length_cons, List.length_nil, List.length_nil, List.length_cons])))); (unfold maxLen; omega); omega)) <;> (try simp only [↓R1, R2, R3, R4, R5, Nat.reduceEqDiff, Nat.reduceAdd, Nat.reduceMul, Nat.reduceSub, Nat.reduceLeDiff, Nat.reduceLT, reduceIte, reduceCtorEq, Int.reduceBNe, Int.reduceBEq, hbl, hbw, hd, hp, hwi])) | (with_reducible refine And.intro ?_ ?_; (focus (first | omega | (intros; (repeat' (with_reducible apply And.intro)) <;> first | omega | (simp only [cLE_len, taC_len, cRec_len, List.length_append, List.length_cons, List.length_nil]; omega))))) | (with_reducible apply And.intro))
      · simp only [subF, slot, wk_refl, ↓R1, R2, R3, R4, R5, Nat.reduceEqDiff, Nat.reduceAdd, Nat.reduceMul, Nat.reduceSub, Nat.reduceLeDiff, Nat.reduceLT, reduceIte, reduceCtorEq, Int.reduceBNe, Int.reduceBEq, hbl, hbw, hd, hp, hwi]
      · rw [hf]; exact St.le_refl _
    | false =>
      rw [hp, cond_false] at hf
      simp only [↓R1, R2, R3, R4, R5, Nat.reduceEqDiff, Nat.reduceAdd, Nat.reduceMul, Nat.reduceSub, Nat.reduceLeDiff, Nat.reduceLT, reduceIte, reduceCtorEq, Int.reduceBNe, Int.reduceBEq, hbl, hbw, hd, hp, hwi]
      repeat' (first | (with_reducible rw [allocV_eq]) | (refine gdV_split (fun hc => ?_) (fun hc => ?_) <;> (try simp only [hc, ↓R1, R2, R3, R4, R5, Nat.reduceEqDiff, Nat.reduceAdd, Nat.reduceMul, Nat.reduceSub, Nat.reduceLeDiff, Nat.reduceLT, reduceIte, reduceCtorEq, Int.reduceBNe, Int.reduceBEq, hbl, hbw, hd, hp, hwi])) | ((first | refine condV_split (fun hc => ?_) (fun hc => ?_) | (with_reducible intro β hβ; (try simp only [St.box_noneA, St.tip_noneA, St.tip_set, St.box_tip, St.box_lp, St.tip_lp] at hβ); (repeat (obtain ⟨⟨_, _⟩, hβ⟩ := hβ)); (try (have hbis := apart_is (by assumption) hβ; obtain ⟨_, _⟩ := hbis))) | ((first | (refine appD_tslK (.inr rfl) rfl ?_ ?_ ?_ ?_ ?_ ?_; (first | rfl | exact St.tip_same _ _ _ | (simp only [↓R1, R2, R3, R4, R5, Nat.reduceEqDiff, Nat.reduceAdd, Nat.reduceMul, Nat.reduceSub, Nat.reduceLeDiff, Nat.reduceLT, reduceIte, reduceCtorEq, Int.reduceBNe, Int.reduceBEq, hbl, hbw, hd, hp, hwi])); (first | omega | (simp only [cLE_len, taC_len, cRec_len, List.length_append, List.length_cons, List.length_nil, List.length_nil, List.length_cons]; omega) | (simp only [cLE_len, taC_len, cRec_len, List.length_append, List.length_cons, List.length_nil, List.length_nil, List.length_cons])); (first | rfl | first | omega | (simp only [cLE_len, taC_len, cRec_len, List.length_append, List.length_cons, List.length_nil, List.length_nil, List.length_cons]; omega) | (simp only [cLE_len, taC_len, cRec_len, List.length_append, List.length_cons, List.length_nil, List.length_nil, List.length_cons]))) | (refine appV_tslK rfl ?_ ?_ ?_ ?_ ?_ ?_; (first | rfl | exact St.tip_same _ _ _ | (simp only [↓R1, R2, R3, R4, R5, Nat.reduceEqDiff, Nat.reduceAdd, Nat.reduceMul, Nat.reduceSub, Nat.reduceLeDiff, Nat.reduceLT, reduceIte, reduceCtorEq, Int.reduceBNe, Int.reduceBEq, hbl, hbw, hd, hp, hwi])); (first | omega | (simp only [cLE_len, taC_len, cRec_len, List.length_append, List.length_cons, List.length_nil, List.length_nil, List.length_cons]; omega) | (simp only [cLE_len, taC_len, cRec_len, List.length_append, List.length_cons, List.length_nil, List.length_nil, List.length_cons])); (first | rfl | first | omega | (simp only [cLE_len, taC_len, cRec_len, List.length_append, List.length_cons, List.length_nil, List.length_nil, List.length_cons]; omega) | (simp only [cLE_len, taC_len, cRec_len, List.length_append, List.length_cons, List.length_nil, List.length_nil, List.length_cons]))) | (refine appV_own ?_ ?_ ?_ ?_; exact flat_len (by intro _; rfl) _) | (refine appD_own ?_ ?_ ?_ ?_ ?_; omega; exact flat_len (by intro _; rfl) _) | (refine appV_fresh rfl trivial rfl ?_ ?_ ?_ ?_ ?_; (first | rfl | first | omega | (simp only [cLE_len, taC_len, cRec_len, List.length_append, List.length_cons, List.length_nil, List.length_nil, List.length_cons]; omega) | (simp only [cLE_len, taC_len, cRec_len, List.length_append, List.length_cons, List.length_nil, List.length_nil, List.length_cons])); (first | rfl | first | omega | (simp only [cLE_len, taC_len, cRec_len, List.length_append, List.length_cons, List.length_nil, List.length_nil, List.length_cons]; omega) | (simp only [cLE_len, taC_len, cRec_len, List.length_append, List.length_cons, List.length_nil, List.length_nil, List.length_cons]))) | (refine appD_fresh rfl trivial rfl ?_ ?_ ?_ ?_ ?_ ?_; omega; (first | rfl | first | omega | (simp only [cLE_len, taC_len, cRec_len, List.length_append, List.length_cons, List.length_nil, List.length_nil, List.length_cons]; omega) | (simp only [cLE_len, taC_len, cRec_len, List.length_append, List.length_cons, List.length_nil, List.length_nil, List.length_cons])); (first | rfl | first | omega | (simp only [cLE_len, taC_len, cRec_len, List.length_append, List.length_cons, List.length_nil, List.length_nil, List.length_cons]; omega) | (simp only [cLE_len, taC_len, cRec_len, List.length_append, List.length_cons, List.length_nil, List.length_nil, List.length_cons])))); (unfold maxLen; omega); omega)) <;> (try simp only [↓R1, R2, R3, R4, R5, Nat.reduceEqDiff, Nat.reduceAdd, Nat.reduceMul, Nat.reduceSub, Nat.reduceLeDiff, Nat.reduceLT, reduceIte, reduceCtorEq, Int.reduceBNe, Int.reduceBEq, hbl, hbw, hd, hp, hwi])) | (with_reducible refine And.intro ?_ ?_; (focus (first | omega | (intros; (repeat' (with_reducible apply And.intro)) <;> first | omega | (simp only [cLE_len, taC_len, cRec_len, List.length_append, List.length_cons, List.length_nil]; omega))))) | (with_reducible apply And.intro))
      have hle : ∀ a b, St.le ((T ((l.take k).filter p)).setLp L (r, fr)) ((((T ((l.take k).filter p)).setLp L (r, fr)).setBox β a).setBox β b) := fun a b => by
        rw [St.set_set]; exact St.le_new (St.le_refl _) hβ
      refine (hcl _ L (r, fr) _ hL (hle _ _) (eAt l k)).mono ?_
      rintro _ _ ⟨rfl, rfl⟩
      simp only [↓R1, R2, R3, R4, R5, Nat.reduceEqDiff, Nat.reduceAdd, Nat.reduceMul, Nat.reduceSub, Nat.reduceLeDiff, Nat.reduceLT, reduceIte, reduceCtorEq, Int.reduceBNe, Int.reduceBEq, hbl, hbw, hd, hp, hwi]
      repeat' (first | (with_reducible rw [allocV_eq]) | (refine gdV_split (fun hc => ?_) (fun hc => ?_) <;> (try simp only [hc, ↓R1, R2, R3, R4, R5, Nat.reduceEqDiff, Nat.reduceAdd, Nat.reduceMul, Nat.reduceSub, Nat.reduceLeDiff, Nat.reduceLT, reduceIte, reduceCtorEq, Int.reduceBNe, Int.reduceBEq, hbl, hbw, hd, hp, hwi])) | ((first | refine condV_split (fun hc => ?_) (fun hc => ?_) | (with_reducible intro β hβ; (try simp only [St.box_noneA, St.tip_noneA, St.tip_set, St.box_tip, St.box_lp, St.tip_lp] at hβ); (repeat (obtain ⟨⟨_, _⟩, hβ⟩ := hβ)); (try (have hbis := apart_is (by assumption) hβ; obtain ⟨_, _⟩ := hbis))) | ((first | (refine appD_tslK (.inr rfl) rfl ?_ ?_ ?_ ?_ ?_ ?_; (first | rfl | exact St.tip_same _ _ _ | (simp only [↓R1, R2, R3, R4, R5, Nat.reduceEqDiff, Nat.reduceAdd, Nat.reduceMul, Nat.reduceSub, Nat.reduceLeDiff, Nat.reduceLT, reduceIte, reduceCtorEq, Int.reduceBNe, Int.reduceBEq, hbl, hbw, hd, hp, hwi])); (first | omega | (simp only [cLE_len, taC_len, cRec_len, List.length_append, List.length_cons, List.length_nil, List.length_nil, List.length_cons]; omega) | (simp only [cLE_len, taC_len, cRec_len, List.length_append, List.length_cons, List.length_nil, List.length_nil, List.length_cons])); (first | rfl | first | omega | (simp only [cLE_len, taC_len, cRec_len, List.length_append, List.length_cons, List.length_nil, List.length_nil, List.length_cons]; omega) | (simp only [cLE_len, taC_len, cRec_len, List.length_append, List.length_cons, List.length_nil, List.length_nil, List.length_cons]))) | (refine appV_tslK rfl ?_ ?_ ?_ ?_ ?_ ?_; (first | rfl | exact St.tip_same _ _ _ | (simp only [↓R1, R2, R3, R4, R5, Nat.reduceEqDiff, Nat.reduceAdd, Nat.reduceMul, Nat.reduceSub, Nat.reduceLeDiff, Nat.reduceLT, reduceIte, reduceCtorEq, Int.reduceBNe, Int.reduceBEq, hbl, hbw, hd, hp, hwi])); (first | omega | (simp only [cLE_len, taC_len, cRec_len, List.length_append, List.length_cons, List.length_nil, List.length_nil, List.length_cons]; omega) | (simp only [cLE_len, taC_len, cRec_len, List.length_append, List.length_cons, List.length_nil, List.length_nil, List.length_cons])); (first | rfl | first | omega | (simp only [cLE_len, taC_len, cRec_len, List.length_append, List.length_cons, List.length_nil, List.length_nil, List.length_cons]; omega) | (simp only [cLE_len, taC_len, cRec_len, List.length_append, List.length_cons, List.length_nil, List.length_nil, List.length_cons]))) | (refine appV_own ?_ ?_ ?_ ?_; exact flat_len (by intro _; rfl) _) | (refine appD_own ?_ ?_ ?_ ?_ ?_; omega; exact flat_len (by intro _; rfl) _) | (refine appV_fresh rfl trivial rfl ?_ ?_ ?_ ?_ ?_; (first | rfl | first | omega | (simp only [cLE_len, taC_len, cRec_len, List.length_append, List.length_cons, List.length_nil, List.length_nil, List.length_cons]; omega) | (simp only [cLE_len, taC_len, cRec_len, List.length_append, List.length_cons, List.length_nil, List.length_nil, List.length_cons])); (first | rfl | first | omega | (simp only [cLE_len, taC_len, cRec_len, List.length_append, List.length_cons, List.length_nil, List.length_nil, List.length_cons]; omega) | (simp only [cLE_len, taC_len, cRec_len, List.length_append, List.length_cons, List.length_nil, List.length_nil, List.length_cons]))) | (refine appD_fresh rfl trivial rfl ?_ ?_ ?_ ?_ ?_ ?_; omega; (first | rfl | first | omega | (simp only [cLE_len, taC_len, cRec_len, List.length_append, List.length_cons, List.length_nil, List.length_nil, List.length_cons]; omega) | (simp only [cLE_len, taC_len, cRec_len, List.length_append, List.length_cons, List.length_nil, List.length_nil, List.length_cons])); (first | rfl | first | omega | (simp only [cLE_len, taC_len, cRec_len, List.length_append, List.length_cons, List.length_nil, List.length_nil, List.length_cons]; omega) | (simp only [cLE_len, taC_len, cRec_len, List.length_append, List.length_cons, List.length_nil, List.length_nil, List.length_cons])))); (unfold maxLen; omega); omega)) <;> (try simp only [↓R1, R2, R3, R4, R5, Nat.reduceEqDiff, Nat.reduceAdd, Nat.reduceMul, Nat.reduceSub, Nat.reduceLeDiff, Nat.reduceLT, reduceIte, reduceCtorEq, Int.reduceBNe, Int.reduceBEq, hbl, hbw, hd, hp, hwi])) | (with_reducible refine And.intro ?_ ?_; (focus (first | omega | (intros; (repeat' (with_reducible apply And.intro)) <;> first | omega | (simp only [cLE_len, taC_len, cRec_len, List.length_append, List.length_cons, List.length_nil]; omega))))) | (with_reducible apply And.intro))
      · simp only [subF, slot, wk_refl, ↓R1, R2, R3, R4, R5, Nat.reduceEqDiff, Nat.reduceAdd, Nat.reduceMul, Nat.reduceSub, Nat.reduceLeDiff, Nat.reduceLT, reduceIte, reduceCtorEq, Int.reduceBNe, Int.reduceBEq, hbl, hbw, hd, hp, hwi]
      · rw [hf]; exact St.le_new (St.le_refl _) hβ
  · have : k = l.length := by simp at hc; omega
    subst this
    simp only [List.take_length, ↓R1, R2, R3, R4, R5, Nat.reduceEqDiff, Nat.reduceAdd, Nat.reduceMul, Nat.reduceSub, Nat.reduceLeDiff, Nat.reduceLT, reduceIte, reduceCtorEq, Int.reduceBNe, Int.reduceBEq, hbl, hbw, hd, hp, hwi]
    refine endP_id (by simp) (by simp [rvsS]) (.inl ⟨St.lp_same _ _ _, ?_⟩)
    rw [St.drop_set (by rw [hl, hL])]
    exact hend
set_option maxHeartbeats 4000000 in
theorem records_of (l : List LE) (p : LE → Bool) (f : Nat) (cap : List AV) (σ : St) (hlen : l.length ≤ 1000000) (hcl : ∀ σ', St.le σ σ' → ∀ x, AC Tryd.prog f (.agg (cLE x) :: cap) σ' (fun r s => r = .bool (p x) ∧ s = σ')) :
    AC Tryd.prog 47 [.agg [sl cLE l], .fn f cap] σ (fun r s => r = sl cRec (l.filter p) ∧ s = σ) := by
  refine AC_intro c47 b47 (Nat.le_of_ble_eq_true rfl) ?_
  simp only [c47, ↓R1, R2, R3, R4, R5, Nat.reduceEqDiff, Nat.reduceAdd, Nat.reduceMul, Nat.reduceSub, Nat.reduceLeDiff, Nat.reduceLT, reduceIte, reduceCtorEq, Int.reduceBNe, Int.reduceBEq, cLE]
  repeat' (first | (with_reducible rw [allocV_eq]) | (refine gdV_split (fun hc => ?_) (fun hc => ?_) <;> (try simp only [hc, ↓R1, R2, R3, R4, R5, Nat.reduceEqDiff, Nat.reduceAdd, Nat.reduceMul, Nat.reduceSub, Nat.reduceLeDiff, Nat.reduceLT, reduceIte, reduceCtorEq, Int.reduceBNe, Int.reduceBEq, cLE])) | ((first | refine condV_split (fun hc => ?_) (fun hc => ?_) | (with_reducible intro β hβ; (try simp only [St.box_noneA, St.tip_noneA, St.tip_set, St.box_tip, St.box_lp, St.tip_lp] at hβ); (repeat (obtain ⟨⟨_, _⟩, hβ⟩ := hβ)); (try (have hbis := apart_is (by assumption) hβ; obtain ⟨_, _⟩ := hbis))) | ((first | (refine appD_tslK (.inr rfl) rfl ?_ ?_ ?_ ?_ ?_ ?_; (first | rfl | exact St.tip_same _ _ _ | (simp only [↓R1, R2, R3, R4, R5, Nat.reduceEqDiff, Nat.reduceAdd, Nat.reduceMul, Nat.reduceSub, Nat.reduceLeDiff, Nat.reduceLT, reduceIte, reduceCtorEq, Int.reduceBNe, Int.reduceBEq, cLE])); (first | omega | (simp only [cLE_len, taC_len, cRec_len, List.length_append, List.length_cons, List.length_nil, List.length_nil, List.length_cons]; omega) | (simp only [cLE_len, taC_len, cRec_len, List.length_append, List.length_cons, List.length_nil, List.length_nil, List.length_cons])); (first | rfl | first | omega | (simp only [cLE_len, taC_len, cRec_len, List.length_append, List.length_cons, List.length_nil, List.length_nil, List.length_cons]; omega) | (simp only [cLE_len, taC_len, cRec_len, List.length_append, List.length_cons, List.length_nil, List.length_nil, List.length_cons]))) | (refine appV_tslK rfl ?_ ?_ ?_ ?_ ?_ ?_; (first | rfl | exact St.tip_same _ _ _ | (simp only [↓R1, R2, R3, R4, R5, Nat.reduceEqDiff, Nat.reduceAdd, Nat.reduceMul, Nat.reduceSub, Nat.reduceLeDiff, Nat.reduceLT, reduceIte, reduceCtorEq, Int.reduceBNe, Int.reduceBEq, cLE])); (first | omega | (simp only [cLE_len, taC_len, cRec_len, List.length_append, List.length_cons, List.length_nil, List.length_nil, List.length_cons]; omega) | (simp only [cLE_len, taC_len, cRec_len, List.length_append, List.length_cons, List.length_nil, List.length_nil, List.length_cons])); (first | rfl | first | omega | (simp only [cLE_len, taC_len, cRec_len, List.length_append, List.length_cons, List.length_nil, List.length_nil, List.length_cons]; omega) | (simp only [cLE_len, taC_len, cRec_len, List.length_append, List.length_cons, List.length_nil, List.length_nil, List.length_cons]))) | (refine appV_own ?_ ?_ ?_ ?_; exact flat_len (by intro _; rfl) _) | (refine appD_own ?_ ?_ ?_ ?_ ?_; omega; exact flat_len (by intro _; rfl) _) | (refine appV_fresh rfl trivial rfl ?_ ?_ ?_ ?_ ?_; (first | rfl | first | omega | (simp only [cLE_len, taC_len, cRec_len, List.length_append, List.length_cons, List.length_nil, List.length_nil, List.length_cons]; omega) | (simp only [cLE_len, taC_len, cRec_len, List.length_append, List.length_cons, List.length_nil, List.length_nil, List.length_cons])); (first | rfl | first | omega | (simp only [cLE_len, taC_len, cRec_len, List.length_append, List.length_cons, List.length_nil, List.length_nil, List.length_cons]; omega) | (simp only [cLE_len, taC_len, cRec_len, List.length_append, List.length_cons, List.length_nil, List.length_nil, List.length_cons]))) | (refine appD_fresh rfl trivial rfl ?_ ?_ ?_ ?_ ?_ ?_; omega; (first | rfl | first | omega | (simp only [cLE_len, taC_len, cRec_len, List.length_append, List.length_cons, List.length_nil, List.length_nil, List.length_cons]; omega) | (simp only [cLE_len, taC_len, cRec_len, List.length_append, List.length_cons, List.length_nil, List.length_nil, List.length_cons])); (first | rfl | first | omega | (simp only [cLE_len, taC_len, cRec_len, List.length_append, List.length_cons, List.length_nil, List.length_nil, List.length_cons]; omega) | (simp only [cLE_len, taC_len, cRec_len, List.length_append, List.length_cons, List.length_nil, List.length_nil, List.length_cons])))); (unfold maxLen; omega); omega)) <;> (try simp only [↓R1, R2, R3, R4, R5, Nat.reduceEqDiff, Nat.reduceAdd, Nat.reduceMul, Nat.reduceSub, Nat.reduceLeDiff, Nat.reduceLT, reduceIte, reduceCtorEq, Int.reduceBNe, Int.reduceBEq, cLE])) | (with_reducible refine And.intro ?_ ?_; (focus (first | omega | (intros; (repeat' (with_reducible apply And.intro)) <;> first | omega | (simp only [cLE_len, taC_len, cRec_len, List.length_append, List.length_cons, List.length_nil]; omega))))) | (with_reducible apply And.intro))
  rename_i β0 hβ0 _ _
  refine (p62 l f cap _).mono ?_
  rintro _ _ ⟨γ, δ, hγ, hδ, ⟨_, _⟩, rfl, rfl⟩
  simp only [St.box_noneA] at hγ hδ
  obtain ⟨⟨_, _⟩, ⟨_, _⟩, hγ⟩ := hγ
  obtain ⟨⟨_, _⟩, ⟨_, _⟩, hδ⟩ := hδ
  simp only [↓R1, R2, R3, R4, R5, Nat.reduceEqDiff, Nat.reduceAdd, Nat.reduceMul, Nat.reduceSub, Nat.reduceLeDiff, Nat.reduceLT, reduceIte, reduceCtorEq, Int.reduceBNe, Int.reduceBEq, cLE]
  refine rfunV_start [(true, 5, 0, 29, 6)] ?_
  simp only [startP, List.set_cons_zero, ↓R1, R2, R3, R4, R5, Nat.reduceEqDiff, Nat.reduceAdd, Nat.reduceMul, Nat.reduceSub, Nat.reduceLeDiff, Nat.reduceLT, reduceIte, reduceCtorEq, Int.reduceBNe, Int.reduceBEq, cLE]
  refine fun τ hτ => ⟨_, _, rfl, ?_⟩
  refine RF_filter l p f cap (fun pre => ((((σ.setBox β0 [sl cLE l]).setBox β [.tsl τ pre.length (pre.flatMap cRec)]).setBox γ [sl cLE l]).setBox δ [.fn f cap]).setTip τ (29, 6, pre.length)) rfl hlen ?_ ?_ ?_ ?_ ?_ ?_
  · intro pre; simp only [↓R1, R2, R3, R4, R5, Nat.reduceEqDiff, Nat.reduceAdd, Nat.reduceMul, Nat.reduceSub, Nat.reduceLeDiff, Nat.reduceLT, reduceIte, reduceCtorEq, Int.reduceBNe, Int.reduceBEq, cLE]
  · intro pre; simp only [↓R1, R2, R3, R4, R5, Nat.reduceEqDiff, Nat.reduceAdd, Nat.reduceMul, Nat.reduceSub, Nat.reduceLeDiff, Nat.reduceLT, reduceIte, reduceCtorEq, Int.reduceBNe, Int.reduceBEq, cLE]
  · intro pre L; rfl
  · intro pre L x0 σ' hL hle x
    refine hcl σ' (St.le_trans ?_ hle) x
    refine St.le_trans ?_ (St.le_newL hL)
    (repeat (first | exact St.le_refl _ | (refine St.le_new ?_ (by assumption)) | (refine St.le_newT ?_ (by assumption))))
  · intro L r pre x hL hp
    simp only [↓R1, R2, R3, R4, R5, Nat.reduceEqDiff, Nat.reduceAdd, Nat.reduceMul, Nat.reduceSub, Nat.reduceLeDiff, Nat.reduceLT, reduceIte, reduceCtorEq, Int.reduceBNe, Int.reduceBEq, cLE]
    have hm : pre.length + 1 ≤ maxLen := by unfold maxLen; omega
    have hfl : pre.flatMap cRec ++ [.int .i64 x.rule, .int .u64 x.el, .int .u64 x.no, .int .u64 x.old, .int .u64 x.new, .int .u64 x.tick] = (pre ++ [x]).flatMap cRec := flat_one (f := cRec) pre x
    have hpl : (pre ++ [x]).length = pre.length + 1 := by simp
    repeat' (first | (with_reducible rw [allocV_eq]) | (refine gdV_split (fun hc => ?_) (fun hc => ?_) <;> (try simp only [hc, ↓R1, R2, R3, R4, R5, Nat.reduceEqDiff, Nat.reduceAdd, Nat.reduceMul, Nat.reduceSub, Nat.reduceLeDiff, Nat.reduceLT, reduceIte, reduceCtorEq, Int.reduceBNe, Int.reduceBEq, cLE])) | ((first | refine condV_split (fun hc => ?_) (fun hc => ?_) | (with_reducible intro β hβ; (try simp only [St.box_noneA, St.tip_noneA, St.tip_set, St.box_tip, St.box_lp, St.tip_lp] at hβ); (repeat (obtain ⟨⟨_, _⟩, hβ⟩ := hβ)); (try (have hbis := apart_is (by assumption) hβ; obtain ⟨_, _⟩ := hbis))) | ((first | (refine appD_tslK (.inr rfl) rfl ?_ ?_ ?_ ?_ ?_ ?_; (first | rfl | exact St.tip_same _ _ _ | (simp only [↓R1, R2, R3, R4, R5, Nat.reduceEqDiff, Nat.reduceAdd, Nat.reduceMul, Nat.reduceSub, Nat.reduceLeDiff, Nat.reduceLT, reduceIte, reduceCtorEq, Int.reduceBNe, Int.reduceBEq, cLE])); (first | omega | (simp only [cLE_len, taC_len, cRec_len, List.length_append, List.length_cons, List.length_nil, List.length_nil, List.length_cons]; omega) | (simp only [cLE_len, taC_len, cRec_len, List.length_append, List.length_cons, List.length_nil, List.length_nil, List.length_cons])); (first | rfl | first | omega | (simp only [cLE_len, taC_len, cRec_len, List.length_append, List.length_cons, List.length_nil, List.length_nil, List.length_cons]; omega) | (simp only [cLE_len, taC_len, cRec_len, List.length_append, List.length_cons, List.length_nil, List.length_nil, List.length_cons]))) | (refine appV_tslK rfl ?_ ?_ ?_ ?_ ?_ ?_; (first | rfl | exact St.tip_same _ _ _ | (simp only [↓R1, R2, R3, R4, R5, Nat.reduceEqDiff, Nat.reduceAdd, Nat.reduceMul, Nat.reduceSub, Nat.reduceLeDiff, Nat.reduceLT, reduceIte, reduceCtorEq, Int.reduceBNe, Int.reduceBEq, cLE])); (first | omega | (simp only [cLE_len, taC_len, cRec_len, List.length_append, List.length_cons, List.length_nil, List.length_nil, List.length_cons]; omega) | (simp only [cLE_len, taC_len, cRec_len, List.length_append, List.length_cons, List.length_nil, List.length_nil, List.length_cons])); (first | rfl | first | omega | (simp only [cLE_len, taC_len, cRec_len, List.length_append, List.length_cons, List.length_nil, List.length_nil, List.length_cons]; omega) | (simp only [cLE_len, taC_len, cRec_len, List.length_append, List.length_cons, List.length_nil, List.length_nil, List.length_cons]))) | (refine appV_own ?_ ?_ ?_ ?_; exact flat_len (by intro _; rfl) _) | (refine appD_own ?_ ?_ ?_ ?_ ?_; omega; exact flat_len (by intro _; rfl) _) | (refine appV_fresh rfl trivial rfl ?_ ?_ ?_ ?_ ?_; (first | rfl | first | omega | (simp only [cLE_len, taC_len, cRec_len, List.length_append, List.length_cons, List.length_nil, List.length_nil, List.length_cons]; omega) | (simp only [cLE_len, taC_len, cRec_len, List.length_append, List.length_cons, List.length_nil, List.length_nil, List.length_cons])); (first | rfl | first | omega | (simp only [cLE_len, taC_len, cRec_len, List.length_append, List.length_cons, List.length_nil, List.length_nil, List.length_cons]; omega) | (simp only [cLE_len, taC_len, cRec_len, List.length_append, List.length_cons, List.length_nil, List.length_nil, List.length_cons]))) | (refine appD_fresh rfl trivial rfl ?_ ?_ ?_ ?_ ?_ ?_; omega; (first | rfl | first | omega | (simp only [cLE_len, taC_len, cRec_len, List.length_append, List.length_cons, List.length_nil, List.length_nil, List.length_cons]; omega) | (simp only [cLE_len, taC_len, cRec_len, List.length_append, List.length_cons, List.length_nil, List.length_nil, List.length_cons])); (first | rfl | first | omega | (simp only [cLE_len, taC_len, cRec_len, List.length_append, List.length_cons, List.length_nil, List.length_nil, List.length_cons]; omega) | (simp only [cLE_len, taC_len, cRec_len, List.length_append, List.length_cons, List.length_nil, List.length_nil, List.length_cons])))); (unfold maxLen; omega); omega)) <;> (try simp only [↓R1, R2, R3, R4, R5, Nat.reduceEqDiff, Nat.reduceAdd, Nat.reduceMul, Nat.reduceSub, Nat.reduceLeDiff, Nat.reduceLT, reduceIte, reduceCtorEq, Int.reduceBNe, Int.reduceBEq, cLE])) | (with_reducible refine And.intro ?_ ?_; (focus (first | omega | (intros; (repeat' (with_reducible apply And.intro)) <;> first | omega | (simp only [cLE_len, taC_len, cRec_len, List.length_append, List.length_cons, List.length_nil]; omega))))) | (with_reducible apply And.intro))
    all_goals first | omega | exact Nat.le_refl _ | assumption | exact St.le_refl _ | (intros; (repeat' (with_reducible apply And.intro)) <;> first | omega | (simp only [cLE_len, taC_len, cRec_len, List.length_append, List.length_cons, List.length_nil]; omega)) | (simp only [subF, slot, wk_refl, ↓R1, R2, R3, R4, R5, Nat.reduceEqDiff, Nat.reduceAdd, Nat.reduceMul, Nat.reduceSub, Nat.reduceLeDiff, Nat.reduceLT, reduceIte, reduceCtorEq, Int.reduceBNe, Int.reduceBEq, cLE]; (repeat' (with_reducible apply And.intro)) <;> first | exact wk_k (by have := maxLen_lt; omega) | exact wk_tsl _ _ _ | exact wk_full _ _ | exact wk_of_eq (congrArg (AV.tsl _ _) (flat_step (by assumption)))) | ((repeat (first | exact St.le_refl _ | (refine St.le_new ?_ (by assumption)) | (refine St.le_newT ?_ (by assumption)))); done) | (simp_all; done) | skip
    rw [hfl, hpl]
    refine St.le_setTc ?_
    exact St.le_new (St.le_refl _) (by simp only [St.box_noneA, St.tip_noneA, St.box_tip]; (repeat' apply And.intro) <;> assumption)
  · simp only [↓R1, R2, R3, R4, R5, Nat.reduceEqDiff, Nat.reduceAdd, Nat.reduceMul, Nat.reduceSub, Nat.reduceLeDiff, Nat.reduceLT, reduceIte, reduceCtorEq, Int.reduceBNe, Int.reduceBEq, cLE]
    refine endP_pu (by simp) (by first | (simp [rvsS, rvS]; done) | (simp only [rvsS, rvS, ↓R1, R2, R3, R4, R5, Nat.reduceEqDiff, Nat.reduceAdd, Nat.reduceMul, Nat.reduceSub, Nat.reduceLeDiff, Nat.reduceLT, reduceIte, reduceCtorEq, Int.reduceBNe, Int.reduceBEq, cLE]; try simp)) (by simp only [resAV, rvV, List.map_cons, List.map_nil, ↓R1, R2, R3, R4, R5, Nat.reduceEqDiff, Nat.reduceAdd, Nat.reduceMul, Nat.reduceSub, Nat.reduceLeDiff, Nat.reduceLT, reduceIte, reduceCtorEq, Int.reduceBNe, Int.reduceBEq, cLE]; exact wk_tsl _ _ _) ?_
    (repeat (first | exact St.le_refl _ | (refine St.le_new ?_ (by assumption)) | (refine St.le_newT ?_ (by assumption))))
end Go.Proofs.YtbbkckogjdjjgaaDoor
namespace Go.Proofs.YtbbkckogjdjjgaaDoor
open Go.Abs
set_option linter.all false
set_option maxRecDepth 100000
def visB (c : Int) (x : LE) : Bool := bits .andNot .u64 x.lab c == 0
def visL (l : List LE) (c : Int) : List LE := bif chkE l == 0 then l.filter (visB c) else []
theorem vis_cl (c : Int) (β0 : Nat) (σ : St) (h : σ.box β0 = some [.int .u64 c]) (x : LE) : AC Tryd.prog 48 [.agg (cLE x), .ptr β0 0] σ (fun r s => r = .bool (visB c x) ∧ s = σ) := by
  have hbx := h
  have hbi : BoxIs σ β0 [.int .u64 c] := ⟨h⟩
  simp only [cLE]
  (refine AC_intro c48 b48 (Nat.le_of_ble_eq_true rfl) ?_; simp only [c48, ↓R1, R2, R3, R4, R5, Nat.reduceEqDiff, Nat.reduceAdd, Nat.reduceMul, Nat.reduceSub, Nat.reduceLeDiff, Nat.reduceLT, reduceIte, reduceCtorEq, Int.reduceBNe, Int.reduceBEq, hbx, cLE])
  repeat' (first | (with_reducible rw [allocV_eq]) | (refine gdV_split (fun hc => ?_) (fun hc => ?_) <;> (try simp only [hc, ↓R1, R2, R3, R4, R5, Nat.reduceEqDiff, Nat.reduceAdd, Nat.reduceMul, Nat.reduceSub, Nat.reduceLeDiff, Nat.reduceLT, reduceIte, reduceCtorEq, Int.reduceBNe, Int.reduceBEq, hbx, cLE])) | ((first | refine condV_split (fun hc => ?_) (fun hc => ?_) | (with_reducible intro β hβ; (try simp only [St.box_noneA, St.tip_noneA, St.tip_set, St.box_tip, St.box_lp, St.tip_lp] at hβ); (repeat (obtain ⟨⟨_, _⟩, hβ⟩ := hβ)); (try (have hbis := apart_is (by assumption) hβ; obtain ⟨_, _⟩ := hbis)))) <;> (try simp only [↓R1, R2, R3, R4, R5, Nat.reduceEqDiff, Nat.reduceAdd, Nat.reduceMul, Nat.reduceSub, Nat.reduceLeDiff, Nat.reduceLT, reduceIte, reduceCtorEq, Int.reduceBNe, Int.reduceBEq, hbx, cLE])) | (with_reducible refine And.intro ?_ ?_; (focus (first | omega | (intros; (repeat' (with_reducible apply And.intro)) <;> first | omega | (simp only [cLE_len, taC_len, cRec_len, List.length_append, List.length_cons, List.length_nil]; omega))))) | (with_reducible apply And.intro))
  (refine endP_pu (by simp) (by first | (simp [rvsS, rvS]; done) | (simp only [rvsS, rvS, ↓R1, R2, R3, R4, R5, Nat.reduceEqDiff, Nat.reduceAdd, Nat.reduceMul, Nat.reduceSub, Nat.reduceLeDiff, Nat.reduceLT, reduceIte, reduceCtorEq, Int.reduceBNe, Int.reduceBEq, hbx, cLE]; try simp)) (wk_of_eq ?_) (by (repeat (first | exact St.le_refl _ | (refine St.le_new ?_ (by assumption)) | (refine St.le_newT ?_ (by assumption))))))
  (simp only [resAV, rvV, List.map_cons, List.map_nil, ↓R1, R2, R3, R4, R5, Nat.reduceEqDiff, Nat.reduceAdd, Nat.reduceMul, Nat.reduceSub, Nat.reduceLeDiff, Nat.reduceLT, reduceIte, reduceCtorEq, Int.reduceBNe, Int.reduceBEq, hbx, cLE])
  rfl
theorem p21 (l : List LE) (c : Int) (hl : l.length ≤ 1000000) : Pu Tryd.prog 21 [.agg [sl cLE l], .int .u64 c] (.tup [sl cRec (visL l c), .int .i64 (chkE l)]) := by
  have h := p15 l hl
  have hq2 : True := trivial
  cases he : (chkE l == 0) with
  | true =>
    have hz : chkE l = 0 := by simpa using he
    have hq : (chkE l != 0) = false := by simpa using hz
    simp only [visL, he, cond_true]
    rw [hz] at h ⊢
    (refine Pu_intro c21 b21 (Nat.le_of_ble_eq_true rfl) fun σ => ?_; simp only [c21, ↓R1, R2, R3, R4, R5, Nat.reduceEqDiff, Nat.reduceAdd, Nat.reduceMul, Nat.reduceSub, Nat.reduceLeDiff, Nat.reduceLT, reduceIte, reduceCtorEq, Int.reduceBNe, Int.reduceBEq, hq, hq2])
    repeat' (first | (with_reducible rw [allocV_eq]) | (refine gdV_split (fun hc => ?_) (fun hc => ?_) <;> (try simp only [hc, ↓R1, R2, R3, R4, R5, Nat.reduceEqDiff, Nat.reduceAdd, Nat.reduceMul, Nat.reduceSub, Nat.reduceLeDiff, Nat.reduceLT, reduceIte, reduceCtorEq, Int.reduceBNe, Int.reduceBEq, hq, hq2])) | ((first | refine condV_split (fun hc => ?_) (fun hc => ?_) | (with_reducible intro β hβ; (try simp only [St.box_noneA, St.tip_noneA, St.tip_set, St.box_tip, St.box_lp, St.tip_lp] at hβ); (repeat (obtain ⟨⟨_, _⟩, hβ⟩ := hβ)); (try (have hbis := apart_is (by assumption) hβ; obtain ⟨_, _⟩ := hbis)))) <;> (try simp only [↓R1, R2, R3, R4, R5, Nat.reduceEqDiff, Nat.reduceAdd, Nat.reduceMul, Nat.reduceSub, Nat.reduceLeDiff, Nat.reduceLT, reduceIte, reduceCtorEq, Int.reduceBNe, Int.reduceBEq, hq, hq2])) | (with_reducible refine And.intro ?_ ?_; (focus (first | omega | (intros; (repeat' (with_reducible apply And.intro)) <;> first | omega | (simp only [cLE_len, taC_len, cRec_len, List.length_append, List.length_cons, List.length_nil]; omega))))) | (with_reducible apply And.intro) | ((first | refine Pu.to (h) (wkL_refl _) ?_ | refine callDV_pu (h) (wkL_refl _) ?_); (try simp only [↓R1, R2, R3, R4, R5, Nat.reduceEqDiff, Nat.reduceAdd, Nat.reduceMul, Nat.reduceSub, Nat.reduceLeDiff, Nat.reduceLT, reduceIte, reduceCtorEq, Int.reduceBNe, Int.reduceBEq, hq, hq2])))
    refine (records_of l (visB c) _ _ _ hl (fun σ' hle x => vis_cl c _ σ' (hle.1 _ _ (by simp only [↓R1, R2, R3, R4, R5, Nat.reduceEqDiff, Nat.reduceAdd, Nat.reduceMul, Nat.reduceSub, Nat.reduceLeDiff, Nat.reduceLT, reduceIte, reduceCtorEq, Int.reduceBNe, Int.reduceBEq, hq, hq2])) x)).mono ?_
    rintro _ _ ⟨rfl, rfl⟩
    simp only [↓R1, R2, R3, R4, R5, Nat.reduceEqDiff, Nat.reduceAdd, Nat.reduceMul, Nat.reduceSub, Nat.reduceLeDiff, Nat.reduceLT, reduceIte, reduceCtorEq, Int.reduceBNe, Int.reduceBEq, hq, hq2]
    (refine endP_pu (by simp) (by first | (simp [rvsS, rvS]; done) | (simp only [rvsS, rvS, ↓R1, R2, R3, R4, R5, Nat.reduceEqDiff, Nat.reduceAdd, Nat.reduceMul, Nat.reduceSub, Nat.reduceLeDiff, Nat.reduceLT, reduceIte, reduceCtorEq, Int.reduceBNe, Int.reduceBEq, hq, hq2]; try simp)) (wk_of_eq ?_) (by (repeat (first | exact St.le_refl _ | (refine St.le_new ?_ (by assumption)) | (refine St.le_newT ?_ (by assumption))))))
    (simp only [resAV, rvV, List.map_cons, List.map_nil, ↓R1, R2, R3, R4, R5, Nat.reduceEqDiff, Nat.reduceAdd, Nat.reduceMul, Nat.reduceSub, Nat.reduceLeDiff, Nat.reduceLT, reduceIte, reduceCtorEq, Int.reduceBNe, Int.reduceBEq, hq, hq2])
  | false =>
    have hz : chkE l ≠ 0 := by simpa using he
    have hq : (chkE l != 0) = true := by simpa using hz
    simp only [visL, he, cond_false]
    (refine Pu_intro c21 b21 (Nat.le_of_ble_eq_true rfl) fun σ => ?_; simp only [c21, ↓R1, R2, R3, R4, R5, Nat.reduceEqDiff, Nat.reduceAdd, Nat.reduceMul, Nat.reduceSub, Nat.reduceLeDiff, Nat.reduceLT, reduceIte, reduceCtorEq, Int.reduceBNe, Int.reduceBEq, hq, hq2])
    repeat' (first | (with_reducible rw [allocV_eq]) | (refine gdV_split (fun hc => ?_) (fun hc => ?_) <;> (try simp only [hc, ↓R1, R2, R3, R4, R5, Nat.reduceEqDiff, Nat.reduceAdd, Nat.reduceMul, Nat.reduceSub, Nat.reduceLeDiff, Nat.reduceLT, reduceIte, reduceCtorEq, Int.reduceBNe, Int.reduceBEq, hq, hq2])) | ((first | refine condV_split (fun hc => ?_) (fun hc => ?_) | (with_reducible intro β hβ; (try simp only [St.box_noneA, St.tip_noneA, St.tip_set, St.box_tip, St.box_lp, St.tip_lp] at hβ); (repeat (obtain ⟨⟨_, _⟩, hβ⟩ := hβ)); (try (have hbis := apart_is (by assumption) hβ; obtain ⟨_, _⟩ := hbis)))) <;> (try simp only [↓R1, R2, R3, R4, R5, Nat.reduceEqDiff, Nat.reduceAdd, Nat.reduceMul, Nat.reduceSub, Nat.reduceLeDiff, Nat.reduceLT, reduceIte, reduceCtorEq, Int.reduceBNe, Int.reduceBEq, hq, hq2])) | (with_reducible refine And.intro ?_ ?_; (focus (first | omega | (intros; (repeat' (with_reducible apply And.intro)) <;> first | omega | (simp only [cLE_len, taC_len, cRec_len, List.length_append, List.length_cons, List.length_nil]; omega))))) | (with_reducible apply And.intro) | ((first | refine Pu.to (h) (wkL_refl _) ?_ | refine callDV_pu (h) (wkL_refl _) ?_); (try simp only [↓R1, R2, R3, R4, R5, Nat.reduceEqDiff, Nat.reduceAdd, Nat.reduceMul, Nat.reduceSub, Nat.reduceLeDiff, Nat.reduceLT, reduceIte, reduceCtorEq, Int.reduceBNe, Int.reduceBEq, hq, hq2])))
    (refine endP_pu (by simp) (by first | (simp [rvsS, rvS]; done) | (simp only [rvsS, rvS, ↓R1, R2, R3, R4, R5, Nat.reduceEqDiff, Nat.reduceAdd, Nat.reduceMul, Nat.reduceSub, Nat.reduceLeDiff, Nat.reduceLT, reduceIte, reduceCtorEq, Int.reduceBNe, Int.reduceBEq, hq, hq2]; try simp)) ?_ (by (repeat (first | exact St.le_refl _ | (refine St.le_new ?_ (by assumption)) | (refine St.le_newT ?_ (by assumption))))))
    simp only [resAV, rvV, List.map_cons, List.map_nil, ↓R1, R2, R3, R4, R5, Nat.reduceEqDiff, Nat.reduceAdd, Nat.reduceMul, Nat.reduceSub, Nat.reduceLeDiff, Nat.reduceLT, reduceIte, reduceCtorEq, Int.reduceBNe, Int.reduceBEq, hq, hq2]
    (repeat' (first | exact wk_refl _ | exact wk_nils | exact wk_tsl _ _ _ | exact wk_full _ _ | exact wkL.nil | exact wkL_refl _ | refine wk_tup ?_ | refine wk_agg ?_ | refine wkL.cons ?_ ?_))
end Go.Proofs.YtbbkckogjdjjgaaDoor
namespace Go.Proofs.YtbbkckogjdjjgaaDoor
open Go.Abs
set_option linter.all false
set_option maxRecDepth 100000
def rdBad (fr many : Int) : Bool := decide (fr < 0) || decide (many < 1) || decide (64 < many)
def readE (l : List LE) (fr many : Int) : Int := bif chkE l == 0 then (bif rdBad fr many then 2 else 0) else chkE l
def cutL (v : List LE) (fr many : Int) : List LE := (v.drop fr.toNat).take many.toNat
def readL' (l : List LE) (c fr many : Int) : List LE := bif readE l fr many == 0 then cutL (visL l c) fr many else []
theorem visL_len (l : List LE) (c : Int) : (visL l c).length ≤ l.length := by
  unfold visL
  cases (chkE l == 0)
  · simp
  · exact List.length_filter_le _ _
theorem drop_min (v : List LE) (f : Nat) : v.drop (min f v.length) = v.drop f := by
  rcases Nat.le_total f v.length with h | h
  · rw [Nat.min_eq_left h]
  · rw [Nat.min_eq_right h, List.drop_of_length_le h, List.drop_length]
theorem cut_one (v : List LE) (f m : Nat) : AV.sl false (min m (v.length - min f v.length)) (((((v.flatMap cRec).drop (min f v.length * 6)).take ((v.length - min f v.length) * 6))).take (min m (v.length - min f v.length) * 6)) = sl cRec ((v.drop f).take m) := by
  have e : ((v.drop f).take m).length = min m (v.length - min f v.length) := by rw [List.length_take, List.length_drop]; omega
  rw [flat_drop cRec_f, flat_take cRec_f, flat_take cRec_f, drop_min]
  have e2 : ((v.drop f).take (v.length - min f v.length)).take (min m (v.length - min f v.length)) = (v.drop f).take m := by
    rw [List.take_take]
    rcases Nat.le_total m (v.length - min f v.length) with h | h
    · rw [Nat.min_eq_left h, Nat.min_eq_left h]
    · rw [Nat.min_eq_right h, Nat.min_self, List.take_of_length_le (by rw [List.length_drop]; omega : (v.drop f).length ≤ m), List.take_of_length_le (by rw [List.length_drop]; omega)]
  rw [e2]
  show _ = AV.sl false ((v.drop f).take m).length _
  rw [e]
theorem p26 (l : List LE) (c fr many : Int) (hl : l.length ≤ 1000000) : Pu Tryd.prog 26 [.agg [sl cLE l], .int .u64 c, .int .i64 fr, .int .i64 many] (.tup [sl cRec (readL' l c fr many), .int .i64 (readE l fr many)]) := by
  have h := p21 l c hl
  have hq : True := trivial
  have hq2 : True := trivial
  have hB : True := trivial
  have hm1 : True := trivial
  have hm2 : True := trivial
  have hv := visL_len l c
  cases he : (chkE l == 0) with
  | true =>
    have hz : chkE l = 0 := by simpa using he
    cases hb : rdBad fr many with
    | true =>
      have e1 : readE l fr many = 2 := by simp only [readE, he, hb, cond_true]
      have e2 : readL' l c fr many = [] := by simp only [readL', e1]; rfl
      rw [e1, e2]
      rw [hz] at h
      have hB := hb
      simp only [rdBad] at hB
      (refine Pu_intro c26 b26 (Nat.le_of_ble_eq_true rfl) fun σ => ?_; simp only [c26, ↓R1, R2, R3, R4, R5, Nat.reduceEqDiff, Nat.reduceAdd, Nat.reduceMul, Nat.reduceSub, Nat.reduceLeDiff, Nat.reduceLT, reduceIte, reduceCtorEq, Int.reduceBNe, Int.reduceBEq, hq, hq2, hB, hm1, hm2])
      repeat' (first | (with_reducible rw [allocV_eq]) | (refine gdV_split (fun hc => ?_) (fun hc => ?_) <;> (try simp only [hc, ↓R1, R2, R3, R4, R5, Nat.reduceEqDiff, Nat.reduceAdd, Nat.reduceMul, Nat.reduceSub, Nat.reduceLeDiff, Nat.reduceLT, reduceIte, reduceCtorEq, Int.reduceBNe, Int.reduceBEq, hq, hq2, hB, hm1, hm2])) | ((first | refine condV_split (fun hc => ?_) (fun hc => ?_) | (with_reducible intro β hβ; (try simp only [St.box_noneA, St.tip_noneA, St.tip_set, St.box_tip, St.box_lp, St.tip_lp] at hβ); (repeat (obtain ⟨⟨_, _⟩, hβ⟩ := hβ)); (try (have hbis := apart_is (by assumption) hβ; obtain ⟨_, _⟩ := hbis)))) <;> (try simp only [↓R1, R2, R3, R4, R5, Nat.reduceEqDiff, Nat.reduceAdd, Nat.reduceMul, Nat.reduceSub, Nat.reduceLeDiff, Nat.reduceLT, reduceIte, reduceCtorEq, Int.reduceBNe, Int.reduceBEq, hq, hq2, hB, hm1, hm2])) | (with_reducible refine And.intro ?_ ?_; (focus (first | omega | (intros; (repeat' (with_reducible apply And.intro)) <;> first | omega | (simp only [cLE_len, taC_len, cRec_len, List.length_append, List.length_cons, List.length_nil]; omega))))) | (with_reducible apply And.intro) | ((first | refine Pu.to (h) (wkL_refl _) ?_ | refine callDV_pu (h) (wkL_refl _) ?_); (try simp only [↓R1, R2, R3, R4, R5, Nat.reduceEqDiff, Nat.reduceAdd, Nat.reduceMul, Nat.reduceSub, Nat.reduceLeDiff, Nat.reduceLT, reduceIte, reduceCtorEq, Int.reduceBNe, Int.reduceBEq, hq, hq2, hB, hm1, hm2])))
      all_goals first | (exfalso; simp_all; done) | (with_reducible intro hno; exfalso; simp_all; done) | skip
      (refine endP_pu (by simp) (by first | (simp [rvsS, rvS]; done) | (simp only [rvsS, rvS, ↓R1, R2, R3, R4, R5, Nat.reduceEqDiff, Nat.reduceAdd, Nat.reduceMul, Nat.reduceSub, Nat.reduceLeDiff, Nat.reduceLT, reduceIte, reduceCtorEq, Int.reduceBNe, Int.reduceBEq, hq, hq2, hB, hm1, hm2]; try simp)) ?_ (by (repeat (first | exact St.le_refl _ | (refine St.le_new ?_ (by assumption)) | (refine St.le_newT ?_ (by assumption))))))
      simp only [resAV, rvV, List.map_cons, List.map_nil, ↓R1, R2, R3, R4, R5, Nat.reduceEqDiff, Nat.reduceAdd, Nat.reduceMul, Nat.reduceSub, Nat.reduceLeDiff, Nat.reduceLT, reduceIte, reduceCtorEq, Int.reduceBNe, Int.reduceBEq, hq, hq2, hB, hm1, hm2]
      (repeat' (first | exact wk_refl _ | exact wk_nils | exact wk_tsl _ _ _ | exact wk_full _ _ | exact wkL.nil | exact wkL_refl _ | refine wk_tup ?_ | refine wk_agg ?_ | refine wkL.cons ?_ ?_))
    | false =>
      have e1 : readE l fr many = 0 := by simp only [readE, he, hb, cond_true, cond_false]
      have e2 : readL' l c fr many = cutL (visL l c) fr many := by simp only [readL', e1]; rfl
      rw [e1, e2]
      rw [hz] at h
      have hB := hb
      simp only [rdBad] at hB
      have hf : 0 ≤ fr ∧ 1 ≤ many ∧ many ≤ 64 := by simp only [Bool.or_eq_false_iff, decide_eq_false_iff_not] at hB; omega
      generalize visL l c = v at *
      have hm1 : (if (v.length : Int) < fr then (v.length : Int) else fr) = ((min fr.toNat v.length : Nat) : Int) := by split <;> omega
      have hm2 : (if ((v.length - min fr.toNat v.length : Nat) : Int) < many then ((v.length - min fr.toNat v.length : Nat) : Int) else many) = ((min many.toNat (v.length - min fr.toNat v.length) : Nat) : Int) := by split <;> omega
      (refine Pu_intro c26 b26 (Nat.le_of_ble_eq_true rfl) fun σ => ?_; simp only [c26, ↓R1, R2, R3, R4, R5, Nat.reduceEqDiff, Nat.reduceAdd, Nat.reduceMul, Nat.reduceSub, Nat.reduceLeDiff, Nat.reduceLT, reduceIte, reduceCtorEq, Int.reduceBNe, Int.reduceBEq, hq, hq2, hB, hm1, hm2])
      repeat' (first | (with_reducible rw [allocV_eq]) | (refine gdV_split (fun hc => ?_) (fun hc => ?_) <;> (try simp only [hc, ↓R1, R2, R3, R4, R5, Nat.reduceEqDiff, Nat.reduceAdd, Nat.reduceMul, Nat.reduceSub, Nat.reduceLeDiff, Nat.reduceLT, reduceIte, reduceCtorEq, Int.reduceBNe, Int.reduceBEq, hq, hq2, hB, hm1, hm2])) | ((first | refine condV_split (fun hc => ?_) (fun hc => ?_) | (with_reducible intro β hβ; (try simp only [St.box_noneA, St.tip_noneA, St.tip_set, St.box_tip, St.box_lp, St.tip_lp] at hβ); (repeat (obtain ⟨⟨_, _⟩, hβ⟩ := hβ)); (try (have hbis := apart_is (by assumption) hβ; obtain ⟨_, _⟩ := hbis)))) <;> (try simp only [↓R1, R2, R3, R4, R5, Nat.reduceEqDiff, Nat.reduceAdd, Nat.reduceMul, Nat.reduceSub, Nat.reduceLeDiff, Nat.reduceLT, reduceIte, reduceCtorEq, Int.reduceBNe, Int.reduceBEq, hq, hq2, hB, hm1, hm2])) | (with_reducible refine And.intro ?_ ?_; (focus (first | omega | (intros; (repeat' (with_reducible apply And.intro)) <;> first | omega | (simp only [cLE_len, taC_len, cRec_len, List.length_append, List.length_cons, List.length_nil]; omega))))) | (with_reducible apply And.intro) | ((first | refine Pu.to (h) (wkL_refl _) ?_ | refine callDV_pu (h) (wkL_refl _) ?_); (try simp only [↓R1, R2, R3, R4, R5, Nat.reduceEqDiff, Nat.reduceAdd, Nat.reduceMul, Nat.reduceSub, Nat.reduceLeDiff, Nat.reduceLT, reduceIte, reduceCtorEq, Int.reduceBNe, Int.reduceBEq, hq, hq2, hB, hm1, hm2])))
      all_goals first | (exfalso; simp_all; done) | (with_reducible intro hno; exfalso; simp_all; done) | skip
      · rw [cRec_len]
      · rw [List.length_take, List.length_drop, cRec_len]; omega
      · (refine endP_pu (by simp) (by first | (simp [rvsS, rvS]; done) | (simp only [rvsS, rvS, ↓R1, R2, R3, R4, R5, Nat.reduceEqDiff, Nat.reduceAdd, Nat.reduceMul, Nat.reduceSub, Nat.reduceLeDiff, Nat.reduceLT, reduceIte, reduceCtorEq, Int.reduceBNe, Int.reduceBEq, hq, hq2, hB, hm1, hm2]; try simp)) (wk_of_eq ?_) (by (repeat (first | exact St.le_refl _ | (refine St.le_new ?_ (by assumption)) | (refine St.le_newT ?_ (by assumption))))))
        (simp only [resAV, rvV, List.map_cons, List.map_nil, ↓R1, R2, R3, R4, R5, Nat.reduceEqDiff, Nat.reduceAdd, Nat.reduceMul, Nat.reduceSub, Nat.reduceLeDiff, Nat.reduceLT, reduceIte, reduceCtorEq, Int.reduceBNe, Int.reduceBEq, hq, hq2, hB, hm1, hm2])
        rw [cut_one]; rfl
  | false =>
    have hz : chkE l ≠ 0 := by simpa using he
    have hq : (chkE l != 0) = true := by simpa using hz
    have hq2 := he
    have e1 : readE l fr many = chkE l := by simp only [readE, he, cond_false]
    have e2 : readL' l c fr many = [] := by simp only [readL', e1, he, cond_false]
    rw [e1, e2]
    (refine Pu_intro c26 b26 (Nat.le_of_ble_eq_true rfl) fun σ => ?_; simp only [c26, ↓R1, R2, R3, R4, R5, Nat.reduceEqDiff, Nat.reduceAdd, Nat.reduceMul, Nat.reduceSub, Nat.reduceLeDiff, Nat.reduceLT, reduceIte, reduceCtorEq, Int.reduceBNe, Int.reduceBEq, hq, hq2, hB, hm1, hm2])
    repeat' (first | (with_reducible rw [allocV_eq]) | (refine gdV_split (fun hc => ?_) (fun hc => ?_) <;> (try simp only [hc, ↓R1, R2, R3, R4, R5, Nat.reduceEqDiff, Nat.reduceAdd, Nat.reduceMul, Nat.reduceSub, Nat.reduceLeDiff, Nat.reduceLT, reduceIte, reduceCtorEq, Int.reduceBNe, Int.reduceBEq, hq, hq2, hB, hm1, hm2])) | ((first | refine condV_split (fun hc => ?_) (fun hc => ?_) | (with_reducible intro β hβ; (try simp only [St.box_noneA, St.tip_noneA, St.tip_set, St.box_tip, St.box_lp, St.tip_lp] at hβ); (repeat (obtain ⟨⟨_, _⟩, hβ⟩ := hβ)); (try (have hbis := apart_is (by assumption) hβ; obtain ⟨_, _⟩ := hbis)))) <;> (try simp only [↓R1, R2, R3, R4, R5, Nat.reduceEqDiff, Nat.reduceAdd, Nat.reduceMul, Nat.reduceSub, Nat.reduceLeDiff, Nat.reduceLT, reduceIte, reduceCtorEq, Int.reduceBNe, Int.reduceBEq, hq, hq2, hB, hm1, hm2])) | (with_reducible refine And.intro ?_ ?_; (focus (first | omega | (intros; (repeat' (with_reducible apply And.intro)) <;> first | omega | (simp only [cLE_len, taC_len, cRec_len, List.length_append, List.length_cons, List.length_nil]; omega))))) | (with_reducible apply And.intro) | ((first | refine Pu.to (h) (wkL_refl _) ?_ | refine callDV_pu (h) (wkL_refl _) ?_); (try simp only [↓R1, R2, R3, R4, R5, Nat.reduceEqDiff, Nat.reduceAdd, Nat.reduceMul, Nat.reduceSub, Nat.reduceLeDiff, Nat.reduceLT, reduceIte, reduceCtorEq, Int.reduceBNe, Int.reduceBEq, hq, hq2, hB, hm1, hm2])))
    all_goals first | (exfalso; simp_all; done) | (with_reducible intro hno; exfalso; simp_all; done) | skip
    (refine endP_pu (by simp) (by first | (simp [rvsS, rvS]; done) | (simp only [rvsS, rvS, ↓R1, R2, R3, R4, R5, Nat.reduceEqDiff, Nat.reduceAdd, Nat.reduceMul, Nat.reduceSub, Nat.reduceLeDiff, Nat.reduceLT, reduceIte, reduceCtorEq, Int.reduceBNe, Int.reduceBEq, hq, hq2, hB, hm1, hm2]; try simp)) ?_ (by (repeat (first | exact St.le_refl _ | (refine St.le_new ?_ (by assumption)) | (refine St.le_newT ?_ (by assumption))))))
    simp only [resAV, rvV, List.map_cons, List.map_nil, ↓R1, R2, R3, R4, R5, Nat.reduceEqDiff, Nat.reduceAdd, Nat.reduceMul, Nat.reduceSub, Nat.reduceLeDiff, Nat.reduceLT, reduceIte, reduceCtorEq, Int.reduceBNe, Int.reduceBEq, hq, hq2, hB, hm1, hm2]
    (repeat' (first | exact wk_refl _ | exact wk_nils | exact wk_tsl _ _ _ | exact wk_full _ _ | exact wkL.nil | exact wkL_refl _ | refine wk_tup ?_ | refine wk_agg ?_ | refine wkL.cons ?_ ?_))
end Go.Proofs.YtbbkckogjdjjgaaDoor
namespace Go.Proofs.YtbbkckogjdjjgaaDoor
open Go.Abs
set_option linter.all false
structure Good (l : List LE) : Prop where
  each : ∀ y ∈ l, tenE y.t = 0 ∧ rightE y = 0
  labs : ∀ y ∈ l, ∀ z ∈ l, y.t = z.t → y.lab = z.lab
  len : l.length ≤ 63
  ord : l.Pairwise (fun a b => a.tick ≤ b.tick)
theorem Good.sub {l m : List LE} (h : Good l) (hs : m.Sublist l) : Good m :=
  ⟨fun y hy => h.each y (hs.subset hy), fun y hy z hz => h.labs y (hs.subset hy) z (hs.subset hz), Nat.le_trans hs.length_le h.len, h.ord.sublist hs⟩
theorem eAt_mem {l : List LE} {k : Nat} (h : k < l.length) : eAt l k ∈ l := by rw [eAt_lt h]; exact List.getElem_mem h
theorem Good.st {l : List LE} (h : Good l) : ∀ k, k ≤ l.length → ∀ j, j < k → stE l j = 0
  | 0, _, j, hj => by omega
  | k + 1, hk, j, hj => by
    have ih := Good.st h k (by omega)
    rcases Nat.lt_or_ge j k with h1 | h1
    · exact ih j h1
    · have e : j = k := by omega
      subst e
      have hlt : j < l.length := by omega
      obtain ⟨a1, a2⟩ := h.each _ (eAt_mem hlt)
      rw [stE_R l j (by omega) ih, stR, a1, a2]
      have hm : misT (l.take j) (eAt l j).t (eAt l j).lab = false := by
        unfold misT
        rw [List.any_eq_false]
        intro y hy
        have hy' : y ∈ l := List.mem_of_mem_take hy
        intro hc
        simp only [Bool.and_eq_true, beq_iff_eq, bne_iff_ne] at hc
        exact hc.2 (h.labs y hy' _ (eAt_mem hlt) hc.1)
      have hc : decide (64 ≤ (ofT (l.take j) (eAt l j).t).length) = false := by
        rw [decide_eq_false_iff_not]
        have := ofT_le (l.take j) (eAt l j).t
        rw [List.length_take] at this
        have := h.len
        omega
      have hl : lateB l j = false := by
        unfold lateB
        rw [Bool.and_eq_false_iff]
        by_cases h0 : 0 < j
        · right
          rw [decide_eq_false_iff_not]
          have := List.pairwise_iff_getElem.1 h.ord (j - 1) j (by omega) hlt (by omega)
          rw [← eAt_lt (by omega : j - 1 < l.length), ← eAt_lt hlt] at this
          omega
        · left; simp; omega
      rw [hm, hc, hl]; rfl
theorem Good.chk {l : List LE} (h : Good l) : chkE l = 0 := by
  unfold chkE
  have := h.len
  rw [decide_eq_false (by omega : ¬ 384 < l.length), cond_false]
  exact firstE_none (fun j _ hj => h.st l.length (Nat.le_refl _) j (by omega))
/-! ### Logs made of numbers -/
def labN (L t : Nat) : Nat := L / 2 ^ (3 * t - 3) % 8
def mkE (L k tick : Nat) : LE := ⟨((1 + k % 6 : Nat) : Int), (labN L (1 + k % 6) : Nat), (k / 144 % 8 : Nat), (k / 18 % 8 : Nat), (1 + k / 1152 % 9 : Nat), (k / 18 % 8 : Nat), (k / 18 % 8 % 4 : Nat), (tick : Nat)⟩
def madeF (L : Nat) : Nat → List Nat → List LE
  | _, [] => []
  | tk, k :: ks => mkE L k (tk + k / 6 % 3) :: madeF L (tk + k / 6 % 3) ks
def sumT : List Nat → Nat
  | [] => 0
  | k :: ks => k / 6 % 3 + sumT ks
theorem sumT_snoc (ks : List Nat) (k : Nat) : sumT (ks ++ [k]) = sumT ks + k / 6 % 3 := by
  induction ks with
  | nil => simp [sumT]
  | cons x ks ih => simp only [List.cons_append, sumT, ih]; omega
theorem madeF_snoc (L : Nat) (k : Nat) : ∀ (ks : List Nat) (tk : Nat), madeF L tk (ks ++ [k]) = madeF L tk ks ++ [mkE L k (tk + sumT ks + k / 6 % 3)]
  | [], tk => by simp [madeF, sumT]
  | x :: ks, tk => by
    simp only [List.cons_append, madeF, sumT]
    rw [madeF_snoc L k ks (tk + x / 6 % 3)]
    rw [show tk + x / 6 % 3 + sumT ks = tk + (x / 6 % 3 + sumT ks) by omega]
theorem madeF_len (L : Nat) : ∀ (ks : List Nat) (tk : Nat), (madeF L tk ks).length = ks.length
  | [], _ => rfl
  | x :: ks, tk => by simp only [madeF, List.length_cons, madeF_len L ks]
theorem sumT_le (ks : List Nat) : sumT ks ≤ 2 * ks.length := by
  induction ks with
  | nil => simp [sumT]
  | cons x ks ih => simp only [sumT, List.length_cons]; omega
theorem madeF_mem (L : Nat) : ∀ (ks : List Nat) (tk : Nat) (y : LE), y ∈ madeF L tk ks → ∃ k tick, y = mkE L k tick ∧ tk ≤ tick ∧ tick ≤ tk + 2 * ks.length
  | [], _, y, h => by simp [madeF] at h
  | x :: ks, tk, y, h => by
    simp only [madeF, List.mem_cons] at h
    rcases h with rfl | h
    · exact ⟨_, _, rfl, by omega, by simp only [List.length_cons]; omega⟩
    · obtain ⟨k, t, h1, h2, h3⟩ := madeF_mem L ks _ y h
      exact ⟨k, t, h1, by omega, by simp only [List.length_cons]; omega⟩
theorem madeF_ord (L : Nat) : ∀ (ks : List Nat) (tk : Nat), (madeF L tk ks).Pairwise (fun a b => a.tick ≤ b.tick)
  | [], _ => List.Pairwise.nil
  | x :: ks, tk => by
    simp only [madeF]
    refine List.Pairwise.cons (fun y hy => ?_) (madeF_ord L ks _)
    obtain ⟨k, t, rfl, h2, _⟩ := madeF_mem L ks _ y hy
    show ((_ : Nat) : Int) ≤ ((_ : Nat) : Int)
    omega
theorem mkE_right (L k tick : Nat) (h : tick ≤ 1000) : tenE (mkE L k tick).t = 0 ∧ rightE (mkE L k tick) = 0 := by
  have g1 : 1 ≤ (mkE L k tick).t ∧ (mkE L k tick).t ≤ 6 := by simp only [mkE]; omega
  have g2 : 0 ≤ (mkE L k tick).rule ∧ (mkE L k tick).rule < 8 := by simp only [mkE]; omega
  have g3 : 1 ≤ (mkE L k tick).no ∧ (mkE L k tick).no ≤ 9 := by simp only [mkE]; omega
  have g4 : (mkE L k tick).tick ≤ 1000 := by simp only [mkE]; omega
  have g5 : (mkE L k tick).old = (mkE L k tick).el := rfl
  generalize mkE L k tick = y at *
  constructor
  · unfold tenE
    rw [decide_eq_false (by omega : ¬ y.t < 1), decide_eq_false (by omega : ¬ 6 < y.t)]; rfl
  · unfold rightE
    rw [decide_eq_false (by omega : ¬ y.rule < 0), decide_eq_false (by omega : ¬ 8 ≤ y.rule), decide_eq_false (by omega : ¬ y.no < 1), decide_eq_false (by omega : ¬ 1099511627776 < y.no), decide_eq_false (by omega : ¬ 1099511627776 < y.tick), g5, beq_self_eq_true]; rfl
theorem made_good (L : Nat) (ks : List Nat) (h : ks.length ≤ 30) : Good (madeF L 0 ks) where
  each := fun y hy => by
    obtain ⟨k, t, rfl, _, h3⟩ := madeF_mem L ks 0 y hy
    exact mkE_right L k t (by omega)
  labs := fun y hy z hz he => by
    obtain ⟨k, t, rfl, _, _⟩ := madeF_mem L ks 0 y hy
    obtain ⟨k', t', rfl, _, _⟩ := madeF_mem L ks 0 z hz
    simp only [mkE] at he ⊢
    have : 1 + k % 6 = 1 + k' % 6 := by omega
    rw [this]
  len := by rw [madeF_len]; omega
  ord := madeF_ord L ks 0
end Go.Proofs.YtbbkckogjdjjgaaDoor
namespace Go.Proofs.YtbbkckogjdjjgaaDoor
open Go.Abs
set_option linter.all false
set_option maxRecDepth 100000
theorem clone_le : Clones Tryd.prog 36 31 8 64 := by
  intro a n cs σ ha hl hn hb
  have key : AC Tryd.prog 36 [a] σ (fun r s => (r = .nils ∧ s = σ ∧ n = 0 ∧ cs = []) ∨ ∃ τ, σ.tip τ = none ∧ r = .tsl τ n cs ∧ s = σ.setTip τ (31, 8, n)) := by
    refine AC_intro c36 b36 (Nat.le_of_ble_eq_true rfl) ?_
    have nil0 : n = 0 → cs = [] := fun e => List.eq_nil_of_length_eq_zero (by rw [hl, e])
    cases a <;> simp only [slv] at ha <;> try (cases ha; done)
    all_goals
      simp only [Option.some.injEq, Prod.mk.injEq] at ha
      obtain ⟨rfl, rfl⟩ := ha
      simp only [c36, ↓R1, R2, R3, R4, R5, Nat.reduceEqDiff, Nat.reduceAdd, Nat.reduceMul, Nat.reduceSub, Nat.reduceLeDiff, Nat.reduceLT, reduceIte, reduceCtorEq, Int.reduceBNe, Int.reduceBEq]
      intro b hb'
      refine condV_split (fun h1 => ?_) (fun h1 => ?_) <;> simp only [↓R1, R2, R3, R4, R5, Nat.reduceEqDiff, Nat.reduceAdd, Nat.reduceMul, Nat.reduceSub, Nat.reduceLeDiff, Nat.reduceLT, reduceIte, reduceCtorEq, Int.reduceBNe, Int.reduceBEq]
      · refine endP_intro (r := .nils) (σ' := σ) (by simp) (by simp [rvsS, rvS]) (wk_of_eq ?_) (St.le_refl _) (.inl ?_)
        · (simp only [resAV, rvV, List.map_cons, List.map_nil, ↓R1, R2, R3, R4, R5, Nat.reduceEqDiff, Nat.reduceAdd, Nat.reduceMul, Nat.reduceSub, Nat.reduceLeDiff, Nat.reduceLT, reduceIte, reduceCtorEq, Int.reduceBNe, Int.reduceBEq])
        · first
          | exact ⟨rfl, rfl⟩
          | exact (have e0 := Classical.byContradiction (fun h0 => Bool.noConfusion (h1.symm.trans (hb' h0))); ⟨rfl, rfl, e0, nil0 e0⟩)
      · refine appV_tip rfl trivial rfl (by simp) hl (by omega) (by omega) (fun τ hτ => ?_)
        simp only [↓R1, R2, R3, R4, R5, Nat.reduceEqDiff, Nat.reduceAdd, Nat.reduceMul, Nat.reduceSub, Nat.reduceLeDiff, Nat.reduceLT, reduceIte, reduceCtorEq, Int.reduceBNe, Int.reduceBEq]
        refine endP_intro (by simp) (by simp [rvsS, rvS]) (wk_of_eq ?_) (St.le_refl _) (.inr ⟨τ, hτ, rfl, rfl⟩)
        (simp only [resAV, rvV, List.map_cons, List.map_nil, ↓R1, R2, R3, R4, R5, Nat.reduceEqDiff, Nat.reduceAdd, Nat.reduceMul, Nat.reduceSub, Nat.reduceLeDiff, Nat.reduceLT, reduceIte, reduceCtorEq, Int.reduceBNe, Int.reduceBEq])
  refine AC.tips 31 8 key ?_
  rintro r s (⟨rfl, rfl, rfl, rfl⟩ | h)
  · exact .inr ⟨0, [], trivial, rfl, fun τ hτ => ⟨τ, hτ, rfl, rfl⟩⟩
  · exact .inl h
theorem clone_tp (l : List LE) (hl : l.length ≤ 1000000) : Tp Tryd.prog 36 [sl cLE l] 31 8 l.length (l.flatMap cLE) := fun σ =>
  clone_le _ _ _ σ rfl (cLE_len l) (by unfold maxLen; omega) (by omega)
theorem nbq (a b : Nat) : Nat.beq a b = decide (a = b) := by
  rw [Bool.eq_iff_iff, decide_eq_true_eq]; exact ⟨Nat.eq_of_beq_eq_true, fun h => by subst h; exact Nat.beq_refl _⟩
abbrev tl11 : List CI := [⟨some 89, .fldA 0 (.t 5), none⟩, ⟨some 90, .ld (none) (.t 89), none⟩, ⟨some 91, .call 36 [(.t 90)], none⟩, ⟨some 92, .mv (.t 1), none⟩, ⟨some 93, .mv (.t 2), none⟩, ⟨some 94, .ld (some 6) (.t 8), none⟩, ⟨some 95, .bld [.int .i64 0, .int .u64 0, .int .i64 0, .int .u64 0, .int .u64 0, .int .u64 0, .int .u64 0, .int .u64 0] [(0, 1, (.t 92)), (1, 1, (.t 93)), (2, 6, (.t 94))], none⟩, ⟨some 96, .mkSl 8 1 [.int .i64 0, .int .u64 0, .int .i64 0, .int .u64 0, .int .u64 0, .int .u64 0, .int .u64 0, .int .u64 0] [(0, 8, (.t 95))], none⟩, ⟨some 97, .app true 31 8 64 (.t 91) (.t 96), none⟩, ⟨some 98, .bld [.nils] [(0, 1, (.t 97))], none⟩, ⟨none, .st 1 (.t 10) (.t 98), none⟩, ⟨some 11, .mv (.c (.int .i64 0)), none⟩]
abbrev dp11 : List (List Nat) := [[], [0], [1], [], [], [], [3, 4, 5], [6], [2, 7, 2], [8], [9, 8, 0, 1, 2, 3, 4, 5, 6, 7, 8, 9], [10, 0, 1, 2, 3, 4, 5, 6, 7, 8, 9, 10]]
structure InvA (σ0 : St) (β5 β8 β10 : Nat) (l : List LE) (x : LE) (D : Nat → Bool) (fr : Fr) (σ : St) : Prop where
  s1 : slot 1 fr = .int .i64 x.t
  s2 : slot 2 fr = .int .u64 x.lab
  s5 : slot 5 fr = .ptr β5 0
  s8 : slot 8 fr = .ptr β8 0
  s10 : slot 10 fr = .ptr β10 0
  d0 : D 0 = true → slot 89 fr = .ptr β5 0
  d1 : D 1 = true → slot 90 fr = sl cLE l
  d3 : D 3 = true → slot 92 fr = .int .i64 x.t
  d4 : D 4 = true → slot 93 fr = .int .u64 x.lab
  d5 : D 5 = true → slot 94 fr = .agg (cRec x)
  d6 : D 6 = true → slot 95 fr = .agg (cLE x)
  d7 : D 7 = true → slot 96 fr = .sl true 1 (cLE x)
  d11 : D 11 = true → slot 11 fr = .int .i64 0
  c1 : D 1 = true → D 0 = true
  c2 : D 2 = true → D 1 = true
  c6 : D 6 = true → D 5 = true
  c7 : D 7 = true → D 6 = true
  c8 : D 8 = true → D 7 = true
  c82 : D 8 = true → D 2 = true
  c9 : D 9 = true → D 8 = true
  c10 : D 10 = true → D 9 = true
  st0 : D 2 = false → σ = σ0
  st1 : D 2 = true → ∃ τ, σ0.tip τ = none ∧ (D 8 = false → slot 91 fr = .tsl τ l.length (l.flatMap cLE) ∧ σ = σ0.setTip τ (31, 8, l.length)) ∧
    (D 8 = true → slot 97 fr = .tsl τ (l.length + 1) (l.flatMap cLE ++ cLE x) ∧ (D 9 = true → slot 98 fr = .agg [.tsl τ (l.length + 1) (l.flatMap cLE ++ cLE x)]) ∧
      (D 10 = false → σ = σ0.setTip τ (31, 8, l.length + 1)) ∧ (D 10 = true → σ = (σ0.setTip τ (31, 8, l.length + 1)).setBox β10 [.tsl τ (l.length + 1) (l.flatMap cLE ++ cLE x)]))
theorem inv_step (σ0 : St) (β5 β8 β10 : Nat) (l : List LE) (x : LE) (hl : l.length ≤ 1000000) (h5 : σ0.box β5 = some [sl cLE l]) (h8 : σ0.box β8 = some (cRec x)) (h10 : σ0.box β10 = some [.nils]) :
    ∀ D j i, tl11[j]? = some i → j < dp11.length → D j = false → (dp11.getD j []).all D = true → ∀ fr σ, InvA σ0 β5 β8 β10 l x D fr σ → aOps Tryd.prog [i] fr σ (fun fr' σ' => InvA σ0 β5 β8 β10 l x (fun k => D k || Nat.beq k j) fr' σ') := by
  intro D j i hi hj hD hdep fr σ h
  have hj' : j = 0 ∨ j = 1 ∨ j = 2 ∨ j = 3 ∨ j = 4 ∨ j = 5 ∨ j = 6 ∨ j = 7 ∨ j = 8 ∨ j = 9 ∨ j = 10 ∨ j = 11 := by simp [dp11] at hj; omega
  rcases hj' with rfl | rfl | rfl | rfl | rfl | rfl | rfl | rfl | rfl | rfl | rfl | rfl
  all_goals (simp only [tl11, List.getElem?_cons_zero, List.getElem?_cons_succ, Option.some.injEq] at hi; subst hi)
  all_goals (simp only [dp11, List.getD_cons_zero, List.getD_cons_succ, List.all_cons, List.all_nil, Bool.and_true, Bool.and_eq_true] at hdep)
  · simp only [h.s5, ↓R1, R2, R3, R4, R5, Nat.reduceEqDiff, Nat.reduceAdd, Nat.reduceMul, Nat.reduceSub, Nat.reduceLeDiff, Nat.reduceLT, reduceIte, reduceCtorEq, Int.reduceBNe, Int.reduceBEq, cRec, cLE]
    exact {s1 := by first | (simp [slot, putF, nbq, cRec, cLE, hdep]; done) | (simpa [slot, putF, nbq, cRec, cLE, hdep] using h.s1), s2 := by first | (simp [slot, putF, nbq, cRec, cLE, hdep]; done) | (simpa [slot, putF, nbq, cRec, cLE, hdep] using h.s2), s5 := by first | (simp [slot, putF, nbq, cRec, cLE, hdep]; done) | (simpa [slot, putF, nbq, cRec, cLE, hdep] using h.s5), s8 := by first | (simp [slot, putF, nbq, cRec, cLE, hdep]; done) | (simpa [slot, putF, nbq, cRec, cLE, hdep] using h.s8), s10 := by first | (simp [slot, putF, nbq, cRec, cLE, hdep]; done) | (simpa [slot, putF, nbq, cRec, cLE, hdep] using h.s10), d0 := by first | (simp [slot, putF, nbq, cRec, cLE, hdep]; done) | (simpa [slot, putF, nbq, cRec, cLE, hdep] using h.d0), d1 := by first | (simp [slot, putF, nbq, cRec, cLE, hdep]; done) | (simpa [slot, putF, nbq, cRec, cLE, hdep] using h.d1), d3 := by first | (simp [slot, putF, nbq, cRec, cLE, hdep]; done) | (simpa [slot, putF, nbq, cRec, cLE, hdep] using h.d3), d4 := by first | (simp [slot, putF, nbq, cRec, cLE, hdep]; done) | (simpa [slot, putF, nbq, cRec, cLE, hdep] using h.d4), d5 := by first | (simp [slot, putF, nbq, cRec, cLE, hdep]; done) | (simpa [slot, putF, nbq, cRec, cLE, hdep] using h.d5), d6 := by first | (simp [slot, putF, nbq, cRec, cLE, hdep]; done) | (simpa [slot, putF, nbq, cRec, cLE, hdep] using h.d6), d7 := by first | (simp [slot, putF, nbq, cRec, cLE, hdep]; done) | (simpa [slot, putF, nbq, cRec, cLE, hdep] using h.d7), d11 := by first | (simp [slot, putF, nbq, cRec, cLE, hdep]; done) | (simpa [slot, putF, nbq, cRec, cLE, hdep] using h.d11), c1 := by first | (simp [slot, putF, nbq, cRec, cLE, hdep]; done) | (simpa [slot, putF, nbq, cRec, cLE, hdep] using h.c1), c2 := by first | (simp [slot, putF, nbq, cRec, cLE, hdep]; done) | (simpa [slot, putF, nbq, cRec, cLE, hdep] using h.c2), c6 := by first | (simp [slot, putF, nbq, cRec, cLE, hdep]; done) | (simpa [slot, putF, nbq, cRec, cLE, hdep] using h.c6), c7 := by first | (simp [slot, putF, nbq, cRec, cLE, hdep]; done) | (simpa [slot, putF, nbq, cRec, cLE, hdep] using h.c7), c8 := by first | (simp [slot, putF, nbq, cRec, cLE, hdep]; done) | (simpa [slot, putF, nbq, cRec, cLE, hdep] using h.c8), c82 := by first | (simp [slot, putF, nbq, cRec, cLE, hdep]; done) | (simpa [slot, putF, nbq, cRec, cLE, hdep] using h.c82), c9 := by first | (simp [slot, putF, nbq, cRec, cLE, hdep]; done) | (simpa [slot, putF, nbq, cRec, cLE, hdep] using h.c9), c10 := by first | (simp [slot, putF, nbq, cRec, cLE, hdep]; done) | (simpa [slot, putF, nbq, cRec, cLE, hdep] using h.c10), st0 := by first | (simp [slot, putF, nbq, cRec, cLE, hdep]; done) | (simpa [slot, putF, nbq, cRec, cLE, hdep] using h.st0), st1 := by simpa [slot, putF, nbq, cRec, cLE, hdep] using h.st1 }
  · have h2 : D 2 = false := by
      cases hq : D 2 with
      | false => rfl
      | true => have := h.c2 hq; rw [hD] at this; cases this
    have hs := h.st0 h2
    subst hs
    simp only [h.d0 hdep, h5, ↓R1, R2, R3, R4, R5, Nat.reduceEqDiff, Nat.reduceAdd, Nat.reduceMul, Nat.reduceSub, Nat.reduceLeDiff, Nat.reduceLT, reduceIte, reduceCtorEq, Int.reduceBNe, Int.reduceBEq, cRec, cLE]
    exact {s1 := by first | (simp [slot, putF, nbq, cRec, cLE, hdep]; done) | (simpa [slot, putF, nbq, cRec, cLE, hdep] using h.s1), s2 := by first | (simp [slot, putF, nbq, cRec, cLE, hdep]; done) | (simpa [slot, putF, nbq, cRec, cLE, hdep] using h.s2), s5 := by first | (simp [slot, putF, nbq, cRec, cLE, hdep]; done) | (simpa [slot, putF, nbq, cRec, cLE, hdep] using h.s5), s8 := by first | (simp [slot, putF, nbq, cRec, cLE, hdep]; done) | (simpa [slot, putF, nbq, cRec, cLE, hdep] using h.s8), s10 := by first | (simp [slot, putF, nbq, cRec, cLE, hdep]; done) | (simpa [slot, putF, nbq, cRec, cLE, hdep] using h.s10), d0 := by first | (simp [slot, putF, nbq, cRec, cLE, hdep]; done) | (simpa [slot, putF, nbq, cRec, cLE, hdep] using h.d0), d1 := by first | (simp [slot, putF, nbq, cRec, cLE, hdep]; done) | (simpa [slot, putF, nbq, cRec, cLE, hdep] using h.d1), d3 := by first | (simp [slot, putF, nbq, cRec, cLE, hdep]; done) | (simpa [slot, putF, nbq, cRec, cLE, hdep] using h.d3), d4 := by first | (simp [slot, putF, nbq, cRec, cLE, hdep]; done) | (simpa [slot, putF, nbq, cRec, cLE, hdep] using h.d4), d5 := by first | (simp [slot, putF, nbq, cRec, cLE, hdep]; done) | (simpa [slot, putF, nbq, cRec, cLE, hdep] using h.d5), d6 := by first | (simp [slot, putF, nbq, cRec, cLE, hdep]; done) | (simpa [slot, putF, nbq, cRec, cLE, hdep] using h.d6), d7 := by first | (simp [slot, putF, nbq, cRec, cLE, hdep]; done) | (simpa [slot, putF, nbq, cRec, cLE, hdep] using h.d7), d11 := by first | (simp [slot, putF, nbq, cRec, cLE, hdep]; done) | (simpa [slot, putF, nbq, cRec, cLE, hdep] using h.d11), c1 := by first | (simp [slot, putF, nbq, cRec, cLE, hdep]; done) | (simpa [slot, putF, nbq, cRec, cLE, hdep] using h.c1), c2 := by first | (simp [slot, putF, nbq, cRec, cLE, hdep]; done) | (simpa [slot, putF, nbq, cRec, cLE, hdep] using h.c2), c6 := by first | (simp [slot, putF, nbq, cRec, cLE, hdep]; done) | (simpa [slot, putF, nbq, cRec, cLE, hdep] using h.c6), c7 := by first | (simp [slot, putF, nbq, cRec, cLE, hdep]; done) | (simpa [slot, putF, nbq, cRec, cLE, hdep] using h.c7), c8 := by first | (simp [slot, putF, nbq, cRec, cLE, hdep]; done) | (simpa [slot, putF, nbq, cRec, cLE, hdep] using h.c8), c82 := by first | (simp [slot, putF, nbq, cRec, cLE, hdep]; done) | (simpa [slot, putF, nbq, cRec, cLE, hdep] using h.c82), c9 := by first | (simp [slot, putF, nbq, cRec, cLE, hdep]; done) | (simpa [slot, putF, nbq, cRec, cLE, hdep] using h.c9), c10 := by first | (simp [slot, putF, nbq, cRec, cLE, hdep]; done) | (simpa [slot, putF, nbq, cRec, cLE, hdep] using h.c10), st0 := by first | (simp [slot, putF, nbq, cRec, cLE, hdep]; done) | (simpa [slot, putF, nbq, cRec, cLE, hdep] using h.st0), st1 := by simpa [slot, putF, nbq, cRec, cLE, hdep] using h.st1 }
  · have h8' : D 8 = false := by
      cases hq : D 8 with
      | false => rfl
      | true => have := h.c82 hq; rw [hD] at this; cases this
    have hs := h.st0 hD
    subst hs
    simp only [h.d1 hdep, ↓R1, R2, R3, R4, R5, Nat.reduceEqDiff, Nat.reduceAdd, Nat.reduceMul, Nat.reduceSub, Nat.reduceLeDiff, Nat.reduceLT, reduceIte, reduceCtorEq, Int.reduceBNe, Int.reduceBEq, cRec, cLE]
    refine Tp.to (clone_tp l hl) (wkL_refl _) ?_
    intro τ hτ
    simp only [↓R1, R2, R3, R4, R5, Nat.reduceEqDiff, Nat.reduceAdd, Nat.reduceMul, Nat.reduceSub, Nat.reduceLeDiff, Nat.reduceLT, reduceIte, reduceCtorEq, Int.reduceBNe, Int.reduceBEq, cRec, cLE]
    exact {s1 := by first | (simp [slot, putF, nbq, cRec, cLE, hdep]; done) | (simpa [slot, putF, nbq, cRec, cLE, hdep] using h.s1), s2 := by first | (simp [slot, putF, nbq, cRec, cLE, hdep]; done) | (simpa [slot, putF, nbq, cRec, cLE, hdep] using h.s2), s5 := by first | (simp [slot, putF, nbq, cRec, cLE, hdep]; done) | (simpa [slot, putF, nbq, cRec, cLE, hdep] using h.s5), s8 := by first | (simp [slot, putF, nbq, cRec, cLE, hdep]; done) | (simpa [slot, putF, nbq, cRec, cLE, hdep] using h.s8), s10 := by first | (simp [slot, putF, nbq, cRec, cLE, hdep]; done) | (simpa [slot, putF, nbq, cRec, cLE, hdep] using h.s10), d0 := by first | (simp [slot, putF, nbq, cRec, cLE, hdep]; done) | (simpa [slot, putF, nbq, cRec, cLE, hdep] using h.d0), d1 := by first | (simp [slot, putF, nbq, cRec, cLE, hdep]; done) | (simpa [slot, putF, nbq, cRec, cLE, hdep] using h.d1), d3 := by first | (simp [slot, putF, nbq, cRec, cLE, hdep]; done) | (simpa [slot, putF, nbq, cRec, cLE, hdep] using h.d3), d4 := by first | (simp [slot, putF, nbq, cRec, cLE, hdep]; done) | (simpa [slot, putF, nbq, cRec, cLE, hdep] using h.d4), d5 := by first | (simp [slot, putF, nbq, cRec, cLE, hdep]; done) | (simpa [slot, putF, nbq, cRec, cLE, hdep] using h.d5), d6 := by first | (simp [slot, putF, nbq, cRec, cLE, hdep]; done) | (simpa [slot, putF, nbq, cRec, cLE, hdep] using h.d6), d7 := by first | (simp [slot, putF, nbq, cRec, cLE, hdep]; done) | (simpa [slot, putF, nbq, cRec, cLE, hdep] using h.d7), d11 := by first | (simp [slot, putF, nbq, cRec, cLE, hdep]; done) | (simpa [slot, putF, nbq, cRec, cLE, hdep] using h.d11), c1 := by first | (simp [slot, putF, nbq, cRec, cLE, hdep]; done) | (simpa [slot, putF, nbq, cRec, cLE, hdep] using h.c1), c2 := by first | (simp [slot, putF, nbq, cRec, cLE, hdep]; done) | (simpa [slot, putF, nbq, cRec, cLE, hdep] using h.c2), c6 := by first | (simp [slot, putF, nbq, cRec, cLE, hdep]; done) | (simpa [slot, putF, nbq, cRec, cLE, hdep] using h.c6), c7 := by first | (simp [slot, putF, nbq, cRec, cLE, hdep]; done) | (simpa [slot, putF, nbq, cRec, cLE, hdep] using h.c7), c8 := by first | (simp [slot, putF, nbq, cRec, cLE, hdep]; done) | (simpa [slot, putF, nbq, cRec, cLE, hdep] using h.c8), c82 := by first | (simp [slot, putF, nbq, cRec, cLE, hdep]; done) | (simpa [slot, putF, nbq, cRec, cLE, hdep] using h.c82), c9 := by first | (simp [slot, putF, nbq, cRec, cLE, hdep]; done) | (simpa [slot, putF, nbq, cRec, cLE, hdep] using h.c9), c10 := by first | (simp [slot, putF, nbq, cRec, cLE, hdep]; done) | (simpa [slot, putF, nbq, cRec, cLE, hdep] using h.c10), st0 := by simp [nbq], st1 := fun _ => ⟨τ, hτ, fun _ => ⟨by simp [slot, putF], rfl⟩, fun hq => by simp [nbq, h8'] at hq⟩ }
  · simp only [h.s1, ↓R1, R2, R3, R4, R5, Nat.reduceEqDiff, Nat.reduceAdd, Nat.reduceMul, Nat.reduceSub, Nat.reduceLeDiff, Nat.reduceLT, reduceIte, reduceCtorEq, Int.reduceBNe, Int.reduceBEq, cRec, cLE]
    exact {s1 := by first | (simp [slot, putF, nbq, cRec, cLE, hdep]; done) | (simpa [slot, putF, nbq, cRec, cLE, hdep] using h.s1), s2 := by first | (simp [slot, putF, nbq, cRec, cLE, hdep]; done) | (simpa [slot, putF, nbq, cRec, cLE, hdep] using h.s2), s5 := by first | (simp [slot, putF, nbq, cRec, cLE, hdep]; done) | (simpa [slot, putF, nbq, cRec, cLE, hdep] using h.s5), s8 := by first | (simp [slot, putF, nbq, cRec, cLE, hdep]; done) | (simpa [slot, putF, nbq, cRec, cLE, hdep] using h.s8), s10 := by first | (simp [slot, putF, nbq, cRec, cLE, hdep]; done) | (simpa [slot, putF, nbq, cRec, cLE, hdep] using h.s10), d0 := by first | (simp [slot, putF, nbq, cRec, cLE, hdep]; done) | (simpa [slot, putF, nbq, cRec, cLE, hdep] using h.d0), d1 := by first | (simp [slot, putF, nbq, cRec, cLE, hdep]; done) | (simpa [slot, putF, nbq, cRec, cLE, hdep] using h.d1), d3 := by first | (simp [slot, putF, nbq, cRec, cLE, hdep]; done) | (simpa [slot, putF, nbq, cRec, cLE, hdep] using h.d3), d4 := by first | (simp [slot, putF, nbq, cRec, cLE, hdep]; done) | (simpa [slot, putF, nbq, cRec, cLE, hdep] using h.d4), d5 := by first | (simp [slot, putF, nbq, cRec, cLE, hdep]; done) | (simpa [slot, putF, nbq, cRec, cLE, hdep] using h.d5), d6 := by first | (simp [slot, putF, nbq, cRec, cLE, hdep]; done) | (simpa [slot, putF, nbq, cRec, cLE, hdep] using h.d6), d7 := by first | (simp [slot, putF, nbq, cRec, cLE, hdep]; done) | (simpa [slot, putF, nbq, cRec, cLE, hdep] using h.d7), d11 := by first | (simp [slot, putF, nbq, cRec, cLE, hdep]; done) | (simpa [slot, putF, nbq, cRec, cLE, hdep] using h.d11), c1 := by first | (simp [slot, putF, nbq, cRec, cLE, hdep]; done) | (simpa [slot, putF, nbq, cRec, cLE, hdep] using h.c1), c2 := by first | (simp [slot, putF, nbq, cRec, cLE, hdep]; done) | (simpa [slot, putF, nbq, cRec, cLE, hdep] using h.c2), c6 := by first | (simp [slot, putF, nbq, cRec, cLE, hdep]; done) | (simpa [slot, putF, nbq, cRec, cLE, hdep] using h.c6), c7 := by first | (simp [slot, putF, nbq, cRec, cLE, hdep]; done) | (simpa [slot, putF, nbq, cRec, cLE, hdep] using h.c7), c8 := by first | (simp [slot, putF, nbq, cRec, cLE, hdep]; done) | (simpa [slot, putF, nbq, cRec, cLE, hdep] using h.c8), c82 := by first | (simp [slot, putF, nbq, cRec, cLE, hdep]; done) | (simpa [slot, putF, nbq, cRec, cLE, hdep] using h.c82), c9 := by first | (simp [slot, putF, nbq, cRec, cLE, hdep]; done) | (simpa [slot, putF, nbq, cRec, cLE, hdep] using h.c9), c10 := by first | (simp [slot, putF, nbq, cRec, cLE, hdep]; done) | (simpa [slot, putF, nbq, cRec, cLE, hdep] using h.c10), st0 := by first | (simp [slot, putF, nbq, cRec, cLE, hdep]; done) | (simpa [slot, putF, nbq, cRec, cLE, hdep] using h.st0), st1 := by simpa [slot, putF, nbq, cRec, cLE, hdep] using h.st1 }
  · simp only [h.s2, ↓R1, R2, R3, R4, R5, Nat.reduceEqDiff, Nat.reduceAdd, Nat.reduceMul, Nat.reduceSub, Nat.reduceLeDiff, Nat.reduceLT, reduceIte, reduceCtorEq, Int.reduceBNe, Int.reduceBEq, cRec, cLE]
    exact {s1 := by first | (simp [slot, putF, nbq, cRec, cLE, hdep]; done) | (simpa [slot, putF, nbq, cRec, cLE, hdep] using h.s1), s2 := by first | (simp [slot, putF, nbq, cRec, cLE, hdep]; done) | (simpa [slot, putF, nbq, cRec, cLE, hdep] using h.s2), s5 := by first | (simp [slot, putF, nbq, cRec, cLE, hdep]; done) | (simpa [slot, putF, nbq, cRec, cLE, hdep] using h.s5), s8 := by first | (simp [slot, putF, nbq, cRec, cLE, hdep]; done) | (simpa [slot, putF, nbq, cRec, cLE, hdep] using h.s8), s10 := by first | (simp [slot, putF, nbq, cRec, cLE, hdep]; done) | (simpa [slot, putF, nbq, cRec, cLE, hdep] using h.s10), d0 := by first | (simp [slot, putF, nbq, cRec, cLE, hdep]; done) | (simpa [slot, putF, nbq, cRec, cLE, hdep] using h.d0), d1 := by first | (simp [slot, putF, nbq, cRec, cLE, hdep]; done) | (simpa [slot, putF, nbq, cRec, cLE, hdep] using h.d1), d3 := by first | (simp [slot, putF, nbq, cRec, cLE, hdep]; done) | (simpa [slot, putF, nbq, cRec, cLE, hdep] using h.d3), d4 := by first | (simp [slot, putF, nbq, cRec, cLE, hdep]; done) | (simpa [slot, putF, nbq, cRec, cLE, hdep] using h.d4), d5 := by first | (simp [slot, putF, nbq, cRec, cLE, hdep]; done) | (simpa [slot, putF, nbq, cRec, cLE, hdep] using h.d5), d6 := by first | (simp [slot, putF, nbq, cRec, cLE, hdep]; done) | (simpa [slot, putF, nbq, cRec, cLE, hdep] using h.d6), d7 := by first | (simp [slot, putF, nbq, cRec, cLE, hdep]; done) | (simpa [slot, putF, nbq, cRec, cLE, hdep] using h.d7), d11 := by first | (simp [slot, putF, nbq, cRec, cLE, hdep]; done) | (simpa [slot, putF, nbq, cRec, cLE, hdep] using h.d11), c1 := by first | (simp [slot, putF, nbq, cRec, cLE, hdep]; done) | (simpa [slot, putF, nbq, cRec, cLE, hdep] using h.c1), c2 := by first | (simp [slot, putF, nbq, cRec, cLE, hdep]; done) | (simpa [slot, putF, nbq, cRec, cLE, hdep] using h.c2), c6 := by first | (simp [slot, putF, nbq, cRec, cLE, hdep]; done) | (simpa [slot, putF, nbq, cRec, cLE, hdep] using h.c6), c7 := by first | (simp [slot, putF, nbq, cRec, cLE, hdep]; done) | (simpa [slot, putF, nbq, cRec, cLE, hdep] using h.c7), c8 := by first | (simp [slot, putF, nbq, cRec, cLE, hdep]; done) | (simpa [slot, putF, nbq, cRec, cLE, hdep] using h.c8), c82 := by first | (simp [slot, putF, nbq, cRec, cLE, hdep]; done) | (simpa [slot, putF, nbq, cRec, cLE, hdep] using h.c82), c9 := by first | (simp [slot, putF, nbq, cRec, cLE, hdep]; done) | (simpa [slot, putF, nbq, cRec, cLE, hdep] using h.c9), c10 := by first | (simp [slot, putF, nbq, cRec, cLE, hdep]; done) | (simpa [slot, putF, nbq, cRec, cLE, hdep] using h.c10), st0 := by first | (simp [slot, putF, nbq, cRec, cLE, hdep]; done) | (simpa [slot, putF, nbq, cRec, cLE, hdep] using h.st0), st1 := by simpa [slot, putF, nbq, cRec, cLE, hdep] using h.st1 }
  · have h8' : D 8 = false := by
      cases hq : D 8 with
      | false => rfl
      | true => have := h.c6 (h.c7 (h.c8 hq)); rw [hD] at this; cases this
    have hbx : σ.box β8 = some (cRec x) := by
      cases hq : D 2 with
      | false => rw [h.st0 hq]; exact h8
      | true =>
        obtain ⟨τ, _, h3, _⟩ := h.st1 hq
        rw [(h3 h8').2]; exact h8
    simp only [cRec] at hbx
    simp only [h.s8, hbx, ↓R1, R2, R3, R4, R5, Nat.reduceEqDiff, Nat.reduceAdd, Nat.reduceMul, Nat.reduceSub, Nat.reduceLeDiff, Nat.reduceLT, reduceIte, reduceCtorEq, Int.reduceBNe, Int.reduceBEq, cRec, cLE]
    exact {s1 := by first | (simp [slot, putF, nbq, cRec, cLE, hdep]; done) | (simpa [slot, putF, nbq, cRec, cLE, hdep] using h.s1), s2 := by first | (simp [slot, putF, nbq, cRec, cLE, hdep]; done) | (simpa [slot, putF, nbq, cRec, cLE, hdep] using h.s2), s5 := by first | (simp [slot, putF, nbq, cRec, cLE, hdep]; done) | (simpa [slot, putF, nbq, cRec, cLE, hdep] using h.s5), s8 := by first | (simp [slot, putF, nbq, cRec, cLE, hdep]; done) | (simpa [slot, putF, nbq, cRec, cLE, hdep] using h.s8), s10 := by first | (simp [slot, putF, nbq, cRec, cLE, hdep]; done) | (simpa [slot, putF, nbq, cRec, cLE, hdep] using h.s10), d0 := by first | (simp [slot, putF, nbq, cRec, cLE, hdep]; done) | (simpa [slot, putF, nbq, cRec, cLE, hdep] using h.d0), d1 := by first | (simp [slot, putF, nbq, cRec, cLE, hdep]; done) | (simpa [slot, putF, nbq, cRec, cLE, hdep] using h.d1), d3 := by first | (simp [slot, putF, nbq, cRec, cLE, hdep]; done) | (simpa [slot, putF, nbq, cRec, cLE, hdep] using h.d3), d4 := by first | (simp [slot, putF, nbq, cRec, cLE, hdep]; done) | (simpa [slot, putF, nbq, cRec, cLE, hdep] using h.d4), d5 := by first | (simp [slot, putF, nbq, cRec, cLE, hdep]; done) | (simpa [slot, putF, nbq, cRec, cLE, hdep] using h.d5), d6 := by first | (simp [slot, putF, nbq, cRec, cLE, hdep]; done) | (simpa [slot, putF, nbq, cRec, cLE, hdep] using h.d6), d7 := by first | (simp [slot, putF, nbq, cRec, cLE, hdep]; done) | (simpa [slot, putF, nbq, cRec, cLE, hdep] using h.d7), d11 := by first | (simp [slot, putF, nbq, cRec, cLE, hdep]; done) | (simpa [slot, putF, nbq, cRec, cLE, hdep] using h.d11), c1 := by first | (simp [slot, putF, nbq, cRec, cLE, hdep]; done) | (simpa [slot, putF, nbq, cRec, cLE, hdep] using h.c1), c2 := by first | (simp [slot, putF, nbq, cRec, cLE, hdep]; done) | (simpa [slot, putF, nbq, cRec, cLE, hdep] using h.c2), c6 := by first | (simp [slot, putF, nbq, cRec, cLE, hdep]; done) | (simpa [slot, putF, nbq, cRec, cLE, hdep] using h.c6), c7 := by first | (simp [slot, putF, nbq, cRec, cLE, hdep]; done) | (simpa [slot, putF, nbq, cRec, cLE, hdep] using h.c7), c8 := by first | (simp [slot, putF, nbq, cRec, cLE, hdep]; done) | (simpa [slot, putF, nbq, cRec, cLE, hdep] using h.c8), c82 := by first | (simp [slot, putF, nbq, cRec, cLE, hdep]; done) | (simpa [slot, putF, nbq, cRec, cLE, hdep] using h.c82), c9 := by first | (simp [slot, putF, nbq, cRec, cLE, hdep]; done) | (simpa [slot, putF, nbq, cRec, cLE, hdep] using h.c9), c10 := by first | (simp [slot, putF, nbq, cRec, cLE, hdep]; done) | (simpa [slot, putF, nbq, cRec, cLE, hdep] using h.c10), st0 := by first | (simp [slot, putF, nbq, cRec, cLE, hdep]; done) | (simpa [slot, putF, nbq, cRec, cLE, hdep] using h.st0), st1 := by simpa [slot, putF, nbq, cRec, cLE, hdep] using h.st1 }
  · have e3 := h.d3 hdep.1
    have e4 := h.d4 hdep.2.1
    have e5 := h.d5 hdep.2.2
    simp only [cRec] at e5
    simp only [e3, e4, e5, ↓R1, R2, R3, R4, R5, Nat.reduceEqDiff, Nat.reduceAdd, Nat.reduceMul, Nat.reduceSub, Nat.reduceLeDiff, Nat.reduceLT, reduceIte, reduceCtorEq, Int.reduceBNe, Int.reduceBEq, cRec, cLE]
    exact {s1 := by first | (simp [slot, putF, nbq, cRec, cLE, hdep]; done) | (simpa [slot, putF, nbq, cRec, cLE, hdep] using h.s1), s2 := by first | (simp [slot, putF, nbq, cRec, cLE, hdep]; done) | (simpa [slot, putF, nbq, cRec, cLE, hdep] using h.s2), s5 := by first | (simp [slot, putF, nbq, cRec, cLE, hdep]; done) | (simpa [slot, putF, nbq, cRec, cLE, hdep] using h.s5), s8 := by first | (simp [slot, putF, nbq, cRec, cLE, hdep]; done) | (simpa [slot, putF, nbq, cRec, cLE, hdep] using h.s8), s10 := by first | (simp [slot, putF, nbq, cRec, cLE, hdep]; done) | (simpa [slot, putF, nbq, cRec, cLE, hdep] using h.s10), d0 := by first | (simp [slot, putF, nbq, cRec, cLE, hdep]; done) | (simpa [slot, putF, nbq, cRec, cLE, hdep] using h.d0), d1 := by first | (simp [slot, putF, nbq, cRec, cLE, hdep]; done) | (simpa [slot, putF, nbq, cRec, cLE, hdep] using h.d1), d3 := by first | (simp [slot, putF, nbq, cRec, cLE, hdep]; done) | (simpa [slot, putF, nbq, cRec, cLE, hdep] using h.d3), d4 := by first | (simp [slot, putF, nbq, cRec, cLE, hdep]; done) | (simpa [slot, putF, nbq, cRec, cLE, hdep] using h.d4), d5 := by first | (simp [slot, putF, nbq, cRec, cLE, hdep]; done) | (simpa [slot, putF, nbq, cRec, cLE, hdep] using h.d5), d6 := by first | (simp [slot, putF, nbq, cRec, cLE, hdep]; done) | (simpa [slot, putF, nbq, cRec, cLE, hdep] using h.d6), d7 := by first | (simp [slot, putF, nbq, cRec, cLE, hdep]; done) | (simpa [slot, putF, nbq, cRec, cLE, hdep] using h.d7), d11 := by first | (simp [slot, putF, nbq, cRec, cLE, hdep]; done) | (simpa [slot, putF, nbq, cRec, cLE, hdep] using h.d11), c1 := by first | (simp [slot, putF, nbq, cRec, cLE, hdep]; done) | (simpa [slot, putF, nbq, cRec, cLE, hdep] using h.c1), c2 := by first | (simp [slot, putF, nbq, cRec, cLE, hdep]; done) | (simpa [slot, putF, nbq, cRec, cLE, hdep] using h.c2), c6 := by first | (simp [slot, putF, nbq, cRec, cLE, hdep]; done) | (simpa [slot, putF, nbq, cRec, cLE, hdep] using h.c6), c7 := by first | (simp [slot, putF, nbq, cRec, cLE, hdep]; done) | (simpa [slot, putF, nbq, cRec, cLE, hdep] using h.c7), c8 := by first | (simp [slot, putF, nbq, cRec, cLE, hdep]; done) | (simpa [slot, putF, nbq, cRec, cLE, hdep] using h.c8), c82 := by first | (simp [slot, putF, nbq, cRec, cLE, hdep]; done) | (simpa [slot, putF, nbq, cRec, cLE, hdep] using h.c82), c9 := by first | (simp [slot, putF, nbq, cRec, cLE, hdep]; done) | (simpa [slot, putF, nbq, cRec, cLE, hdep] using h.c9), c10 := by first | (simp [slot, putF, nbq, cRec, cLE, hdep]; done) | (simpa [slot, putF, nbq, cRec, cLE, hdep] using h.c10), st0 := by first | (simp [slot, putF, nbq, cRec, cLE, hdep]; done) | (simpa [slot, putF, nbq, cRec, cLE, hdep] using h.st0), st1 := by simpa [slot, putF, nbq, cRec, cLE, hdep] using h.st1 }
  · have e6 := h.d6 hdep
    simp only [cLE] at e6
    simp only [e6, ↓R1, R2, R3, R4, R5, Nat.reduceEqDiff, Nat.reduceAdd, Nat.reduceMul, Nat.reduceSub, Nat.reduceLeDiff, Nat.reduceLT, reduceIte, reduceCtorEq, Int.reduceBNe, Int.reduceBEq, cRec, cLE]
    exact {s1 := by first | (simp [slot, putF, nbq, cRec, cLE, hdep]; done) | (simpa [slot, putF, nbq, cRec, cLE, hdep] using h.s1), s2 := by first | (simp [slot, putF, nbq, cRec, cLE, hdep]; done) | (simpa [slot, putF, nbq, cRec, cLE, hdep] using h.s2), s5 := by first | (simp [slot, putF, nbq, cRec, cLE, hdep]; done) | (simpa [slot, putF, nbq, cRec, cLE, hdep] using h.s5), s8 := by first | (simp [slot, putF, nbq, cRec, cLE, hdep]; done) | (simpa [slot, putF, nbq, cRec, cLE, hdep] using h.s8), s10 := by first | (simp [slot, putF, nbq, cRec, cLE, hdep]; done) | (simpa [slot, putF, nbq, cRec, cLE, hdep] using h.s10), d0 := by first | (simp [slot, putF, nbq, cRec, cLE, hdep]; done) | (simpa [slot, putF, nbq, cRec, cLE, hdep] using h.d0), d1 := by first | (simp [slot, putF, nbq, cRec, cLE, hdep]; done) | (simpa [slot, putF, nbq, cRec, cLE, hdep] using h.d1), d3 := by first | (simp [slot, putF, nbq, cRec, cLE, hdep]; done) | (simpa [slot, putF, nbq, cRec, cLE, hdep] using h.d3), d4 := by first | (simp [slot, putF, nbq, cRec, cLE, hdep]; done) | (simpa [slot, putF, nbq, cRec, cLE, hdep] using h.d4), d5 := by first | (simp [slot, putF, nbq, cRec, cLE, hdep]; done) | (simpa [slot, putF, nbq, cRec, cLE, hdep] using h.d5), d6 := by first | (simp [slot, putF, nbq, cRec, cLE, hdep]; done) | (simpa [slot, putF, nbq, cRec, cLE, hdep] using h.d6), d7 := by first | (simp [slot, putF, nbq, cRec, cLE, hdep]; done) | (simpa [slot, putF, nbq, cRec, cLE, hdep] using h.d7), d11 := by first | (simp [slot, putF, nbq, cRec, cLE, hdep]; done) | (simpa [slot, putF, nbq, cRec, cLE, hdep] using h.d11), c1 := by first | (simp [slot, putF, nbq, cRec, cLE, hdep]; done) | (simpa [slot, putF, nbq, cRec, cLE, hdep] using h.c1), c2 := by first | (simp [slot, putF, nbq, cRec, cLE, hdep]; done) | (simpa [slot, putF, nbq, cRec, cLE, hdep] using h.c2), c6 := by first | (simp [slot, putF, nbq, cRec, cLE, hdep]; done) | (simpa [slot, putF, nbq, cRec, cLE, hdep] using h.c6), c7 := by first | (simp [slot, putF, nbq, cRec, cLE, hdep]; done) | (simpa [slot, putF, nbq, cRec, cLE, hdep] using h.c7), c8 := by first | (simp [slot, putF, nbq, cRec, cLE, hdep]; done) | (simpa [slot, putF, nbq, cRec, cLE, hdep] using h.c8), c82 := by first | (simp [slot, putF, nbq, cRec, cLE, hdep]; done) | (simpa [slot, putF, nbq, cRec, cLE, hdep] using h.c82), c9 := by first | (simp [slot, putF, nbq, cRec, cLE, hdep]; done) | (simpa [slot, putF, nbq, cRec, cLE, hdep] using h.c9), c10 := by first | (simp [slot, putF, nbq, cRec, cLE, hdep]; done) | (simpa [slot, putF, nbq, cRec, cLE, hdep] using h.c10), st0 := by first | (simp [slot, putF, nbq, cRec, cLE, hdep]; done) | (simpa [slot, putF, nbq, cRec, cLE, hdep] using h.st0), st1 := by simpa [slot, putF, nbq, cRec, cLE, hdep] using h.st1 }
  · obtain ⟨τ, hτ, h3, _⟩ := h.st1 hdep.1
    obtain ⟨e1, e2⟩ := h3 hD
    have e7 := h.d7 hdep.2.1
    have h9 : D 9 = false := by
      cases hq : D 9 with
      | false => rfl
      | true => have := h.c9 hq; rw [hD] at this; cases this
    have h10' : D 10 = false := by
      cases hq : D 10 with
      | false => rfl
      | true => have := h.c10 hq; rw [h9] at this; cases this
    subst e2
    simp only [cLE] at e7
    simp only [e1, e7, ↓R1, R2, R3, R4, R5, Nat.reduceEqDiff, Nat.reduceAdd, Nat.reduceMul, Nat.reduceSub, Nat.reduceLeDiff, Nat.reduceLT, reduceIte, reduceCtorEq, Int.reduceBNe, Int.reduceBEq, cRec, cLE]
    refine appV_tslK rfl (St.tip_same _ _ _) (cLE_len l) rfl (by unfold maxLen; omega) (by omega) ?_
    simp only [↓R1, R2, R3, R4, R5, Nat.reduceEqDiff, Nat.reduceAdd, Nat.reduceMul, Nat.reduceSub, Nat.reduceLeDiff, Nat.reduceLT, reduceIte, reduceCtorEq, Int.reduceBNe, Int.reduceBEq, cRec, cLE]
    exact {s1 := by first | (simp [slot, putF, nbq, cRec, cLE, hdep]; done) | (simpa [slot, putF, nbq, cRec, cLE, hdep] using h.s1), s2 := by first | (simp [slot, putF, nbq, cRec, cLE, hdep]; done) | (simpa [slot, putF, nbq, cRec, cLE, hdep] using h.s2), s5 := by first | (simp [slot, putF, nbq, cRec, cLE, hdep]; done) | (simpa [slot, putF, nbq, cRec, cLE, hdep] using h.s5), s8 := by first | (simp [slot, putF, nbq, cRec, cLE, hdep]; done) | (simpa [slot, putF, nbq, cRec, cLE, hdep] using h.s8), s10 := by first | (simp [slot, putF, nbq, cRec, cLE, hdep]; done) | (simpa [slot, putF, nbq, cRec, cLE, hdep] using h.s10), d0 := by first | (simp [slot, putF, nbq, cRec, cLE, hdep]; done) | (simpa [slot, putF, nbq, cRec, cLE, hdep] using h.d0), d1 := by first | (simp [slot, putF, nbq, cRec, cLE, hdep]; done) | (simpa [slot, putF, nbq, cRec, cLE, hdep] using h.d1), d3 := by first | (simp [slot, putF, nbq, cRec, cLE, hdep]; done) | (simpa [slot, putF, nbq, cRec, cLE, hdep] using h.d3), d4 := by first | (simp [slot, putF, nbq, cRec, cLE, hdep]; done) | (simpa [slot, putF, nbq, cRec, cLE, hdep] using h.d4), d5 := by first | (simp [slot, putF, nbq, cRec, cLE, hdep]; done) | (simpa [slot, putF, nbq, cRec, cLE, hdep] using h.d5), d6 := by first | (simp [slot, putF, nbq, cRec, cLE, hdep]; done) | (simpa [slot, putF, nbq, cRec, cLE, hdep] using h.d6), d7 := by first | (simp [slot, putF, nbq, cRec, cLE, hdep]; done) | (simpa [slot, putF, nbq, cRec, cLE, hdep] using h.d7), d11 := by first | (simp [slot, putF, nbq, cRec, cLE, hdep]; done) | (simpa [slot, putF, nbq, cRec, cLE, hdep] using h.d11), c1 := by first | (simp [slot, putF, nbq, cRec, cLE, hdep]; done) | (simpa [slot, putF, nbq, cRec, cLE, hdep] using h.c1), c2 := by first | (simp [slot, putF, nbq, cRec, cLE, hdep]; done) | (simpa [slot, putF, nbq, cRec, cLE, hdep] using h.c2), c6 := by first | (simp [slot, putF, nbq, cRec, cLE, hdep]; done) | (simpa [slot, putF, nbq, cRec, cLE, hdep] using h.c6), c7 := by first | (simp [slot, putF, nbq, cRec, cLE, hdep]; done) | (simpa [slot, putF, nbq, cRec, cLE, hdep] using h.c7), c8 := by first | (simp [slot, putF, nbq, cRec, cLE, hdep]; done) | (simpa [slot, putF, nbq, cRec, cLE, hdep] using h.c8), c82 := by first | (simp [slot, putF, nbq, cRec, cLE, hdep]; done) | (simpa [slot, putF, nbq, cRec, cLE, hdep] using h.c82), c9 := by first | (simp [slot, putF, nbq, cRec, cLE, hdep]; done) | (simpa [slot, putF, nbq, cRec, cLE, hdep] using h.c9), c10 := by first | (simp [slot, putF, nbq, cRec, cLE, hdep]; done) | (simpa [slot, putF, nbq, cRec, cLE, hdep] using h.c10), st0 := by first | (simp [slot, putF, nbq, cRec, cLE, hdep]; done) | (simpa [slot, putF, nbq, cRec, cLE, hdep] using h.st0), st1 := fun _ => ⟨τ, hτ, fun hq => by simp [nbq] at hq, fun _ => ⟨by simp [slot, putF, cLE], fun hq => by simp [nbq, h9] at hq, fun _ => rfl, fun hq => by simp [nbq, h10'] at hq⟩⟩ }
  · obtain ⟨τ, hτ, _, h3⟩ := h.st1 (h.c82 hdep)
    have dd2 := h.c82 hdep
    obtain ⟨e1, _, e2, e3⟩ := h3 hdep
    have h10' : D 10 = false := by
      cases hq : D 10 with
      | false => rfl
      | true => have := h.c10 hq; rw [hD] at this; cases this
    simp only [cLE] at e1
    simp only [e1, ↓R1, R2, R3, R4, R5, Nat.reduceEqDiff, Nat.reduceAdd, Nat.reduceMul, Nat.reduceSub, Nat.reduceLeDiff, Nat.reduceLT, reduceIte, reduceCtorEq, Int.reduceBNe, Int.reduceBEq, cRec, cLE]
    exact {s1 := by first | (simp [slot, putF, nbq, cRec, cLE, hdep, dd2]; done) | (simpa [slot, putF, nbq, cRec, cLE, hdep, dd2] using h.s1), s2 := by first | (simp [slot, putF, nbq, cRec, cLE, hdep, dd2]; done) | (simpa [slot, putF, nbq, cRec, cLE, hdep, dd2] using h.s2), s5 := by first | (simp [slot, putF, nbq, cRec, cLE, hdep, dd2]; done) | (simpa [slot, putF, nbq, cRec, cLE, hdep, dd2] using h.s5), s8 := by first | (simp [slot, putF, nbq, cRec, cLE, hdep, dd2]; done) | (simpa [slot, putF, nbq, cRec, cLE, hdep, dd2] using h.s8), s10 := by first | (simp [slot, putF, nbq, cRec, cLE, hdep, dd2]; done) | (simpa [slot, putF, nbq, cRec, cLE, hdep, dd2] using h.s10), d0 := by first | (simp [slot, putF, nbq, cRec, cLE, hdep, dd2]; done) | (simpa [slot, putF, nbq, cRec, cLE, hdep, dd2] using h.d0), d1 := by first | (simp [slot, putF, nbq, cRec, cLE, hdep, dd2]; done) | (simpa [slot, putF, nbq, cRec, cLE, hdep, dd2] using h.d1), d3 := by first | (simp [slot, putF, nbq, cRec, cLE, hdep, dd2]; done) | (simpa [slot, putF, nbq, cRec, cLE, hdep, dd2] using h.d3), d4 := by first | (simp [slot, putF, nbq, cRec, cLE, hdep, dd2]; done) | (simpa [slot, putF, nbq, cRec, cLE, hdep, dd2] using h.d4), d5 := by first | (simp [slot, putF, nbq, cRec, cLE, hdep, dd2]; done) | (simpa [slot, putF, nbq, cRec, cLE, hdep, dd2] using h.d5), d6 := by first | (simp [slot, putF, nbq, cRec, cLE, hdep, dd2]; done) | (simpa [slot, putF, nbq, cRec, cLE, hdep, dd2] using h.d6), d7 := by first | (simp [slot, putF, nbq, cRec, cLE, hdep, dd2]; done) | (simpa [slot, putF, nbq, cRec, cLE, hdep, dd2] using h.d7), d11 := by first | (simp [slot, putF, nbq, cRec, cLE, hdep, dd2]; done) | (simpa [slot, putF, nbq, cRec, cLE, hdep, dd2] using h.d11), c1 := by first | (simp [slot, putF, nbq, cRec, cLE, hdep, dd2]; done) | (simpa [slot, putF, nbq, cRec, cLE, hdep, dd2] using h.c1), c2 := by first | (simp [slot, putF, nbq, cRec, cLE, hdep, dd2]; done) | (simpa [slot, putF, nbq, cRec, cLE, hdep, dd2] using h.c2), c6 := by first | (simp [slot, putF, nbq, cRec, cLE, hdep, dd2]; done) | (simpa [slot, putF, nbq, cRec, cLE, hdep, dd2] using h.c6), c7 := by first | (simp [slot, putF, nbq, cRec, cLE, hdep, dd2]; done) | (simpa [slot, putF, nbq, cRec, cLE, hdep, dd2] using h.c7), c8 := by first | (simp [slot, putF, nbq, cRec, cLE, hdep, dd2]; done) | (simpa [slot, putF, nbq, cRec, cLE, hdep, dd2] using h.c8), c82 := by first | (simp [slot, putF, nbq, cRec, cLE, hdep, dd2]; done) | (simpa [slot, putF, nbq, cRec, cLE, hdep, dd2] using h.c82), c9 := by first | (simp [slot, putF, nbq, cRec, cLE, hdep, dd2]; done) | (simpa [slot, putF, nbq, cRec, cLE, hdep, dd2] using h.c9), c10 := by first | (simp [slot, putF, nbq, cRec, cLE, hdep, dd2]; done) | (simpa [slot, putF, nbq, cRec, cLE, hdep, dd2] using h.c10), st0 := by first | (simp [slot, putF, nbq, cRec, cLE, hdep, dd2]; done) | (simpa [slot, putF, nbq, cRec, cLE, hdep, dd2] using h.st0), st1 := fun _ => ⟨τ, hτ, fun hq => by simp [nbq, hdep] at hq, fun _ => ⟨by simpa [slot, putF, cLE] using e1, fun _ => by simp [slot, putF, cLE], fun _ => e2 h10', fun hq => by simp [nbq, h10'] at hq⟩⟩ }
  · obtain ⟨dd9, dd8, dd0, dd1, dd2, _⟩ := hdep
    have hdep := dd9
    obtain ⟨τ, hτ, _, h3⟩ := h.st1 dd2
    obtain ⟨e1, e4, e2, _⟩ := h3 dd8
    have e5 := e4 dd9
    have e6 := e2 hD
    subst e6
    simp only [cLE] at e5
    simp only [h.s10, e5, h10, ↓R1, R2, R3, R4, R5, Nat.reduceEqDiff, Nat.reduceAdd, Nat.reduceMul, Nat.reduceSub, Nat.reduceLeDiff, Nat.reduceLT, reduceIte, reduceCtorEq, Int.reduceBNe, Int.reduceBEq, cRec, cLE]
    exact {s1 := by first | (simp [slot, putF, nbq, cRec, cLE, hdep, dd2, dd8]; done) | (simpa [slot, putF, nbq, cRec, cLE, hdep, dd2, dd8] using h.s1), s2 := by first | (simp [slot, putF, nbq, cRec, cLE, hdep, dd2, dd8]; done) | (simpa [slot, putF, nbq, cRec, cLE, hdep, dd2, dd8] using h.s2), s5 := by first | (simp [slot, putF, nbq, cRec, cLE, hdep, dd2, dd8]; done) | (simpa [slot, putF, nbq, cRec, cLE, hdep, dd2, dd8] using h.s5), s8 := by first | (simp [slot, putF, nbq, cRec, cLE, hdep, dd2, dd8]; done) | (simpa [slot, putF, nbq, cRec, cLE, hdep, dd2, dd8] using h.s8), s10 := by first | (simp [slot, putF, nbq, cRec, cLE, hdep, dd2, dd8]; done) | (simpa [slot, putF, nbq, cRec, cLE, hdep, dd2, dd8] using h.s10), d0 := by first | (simp [slot, putF, nbq, cRec, cLE, hdep, dd2, dd8]; done) | (simpa [slot, putF, nbq, cRec, cLE, hdep, dd2, dd8] using h.d0), d1 := by first | (simp [slot, putF, nbq, cRec, cLE, hdep, dd2, dd8]; done) | (simpa [slot, putF, nbq, cRec, cLE, hdep, dd2, dd8] using h.d1), d3 := by first | (simp [slot, putF, nbq, cRec, cLE, hdep, dd2, dd8]; done) | (simpa [slot, putF, nbq, cRec, cLE, hdep, dd2, dd8] using h.d3), d4 := by first | (simp [slot, putF, nbq, cRec, cLE, hdep, dd2, dd8]; done) | (simpa [slot, putF, nbq, cRec, cLE, hdep, dd2, dd8] using h.d4), d5 := by first | (simp [slot, putF, nbq, cRec, cLE, hdep, dd2, dd8]; done) | (simpa [slot, putF, nbq, cRec, cLE, hdep, dd2, dd8] using h.d5), d6 := by first | (simp [slot, putF, nbq, cRec, cLE, hdep, dd2, dd8]; done) | (simpa [slot, putF, nbq, cRec, cLE, hdep, dd2, dd8] using h.d6), d7 := by first | (simp [slot, putF, nbq, cRec, cLE, hdep, dd2, dd8]; done) | (simpa [slot, putF, nbq, cRec, cLE, hdep, dd2, dd8] using h.d7), d11 := by first | (simp [slot, putF, nbq, cRec, cLE, hdep, dd2, dd8]; done) | (simpa [slot, putF, nbq, cRec, cLE, hdep, dd2, dd8] using h.d11), c1 := by first | (simp [slot, putF, nbq, cRec, cLE, hdep, dd2, dd8]; done) | (simpa [slot, putF, nbq, cRec, cLE, hdep, dd2, dd8] using h.c1), c2 := by first | (simp [slot, putF, nbq, cRec, cLE, hdep, dd2, dd8]; done) | (simpa [slot, putF, nbq, cRec, cLE, hdep, dd2, dd8] using h.c2), c6 := by first | (simp [slot, putF, nbq, cRec, cLE, hdep, dd2, dd8]; done) | (simpa [slot, putF, nbq, cRec, cLE, hdep, dd2, dd8] using h.c6), c7 := by first | (simp [slot, putF, nbq, cRec, cLE, hdep, dd2, dd8]; done) | (simpa [slot, putF, nbq, cRec, cLE, hdep, dd2, dd8] using h.c7), c8 := by first | (simp [slot, putF, nbq, cRec, cLE, hdep, dd2, dd8]; done) | (simpa [slot, putF, nbq, cRec, cLE, hdep, dd2, dd8] using h.c8), c82 := by first | (simp [slot, putF, nbq, cRec, cLE, hdep, dd2, dd8]; done) | (simpa [slot, putF, nbq, cRec, cLE, hdep, dd2, dd8] using h.c82), c9 := by first | (simp [slot, putF, nbq, cRec, cLE, hdep, dd2, dd8]; done) | (simpa [slot, putF, nbq, cRec, cLE, hdep, dd2, dd8] using h.c9), c10 := by first | (simp [slot, putF, nbq, cRec, cLE, hdep, dd2, dd8]; done) | (simpa [slot, putF, nbq, cRec, cLE, hdep, dd2, dd8] using h.c10), st0 := by first | (simp [slot, putF, nbq, cRec, cLE, hdep, dd2, dd8]; done) | (simpa [slot, putF, nbq, cRec, cLE, hdep, dd2, dd8] using h.st0), st1 := fun _ => ⟨τ, hτ, fun hq => by simp [nbq, dd8] at hq, fun _ => ⟨by simpa [slot, putF, cLE] using e1, fun _ => by simpa [slot, putF, cLE] using e5, fun hq => by simp [nbq] at hq, fun _ => rfl⟩⟩ }
  · obtain ⟨dd10, _⟩ := hdep
    have hdep := dd10
    simp only [↓R1, R2, R3, R4, R5, Nat.reduceEqDiff, Nat.reduceAdd, Nat.reduceMul, Nat.reduceSub, Nat.reduceLeDiff, Nat.reduceLT, reduceIte, reduceCtorEq, Int.reduceBNe, Int.reduceBEq, cRec, cLE]
    exact {s1 := by first | (simp [slot, putF, nbq, cRec, cLE, hdep]; done) | (simpa [slot, putF, nbq, cRec, cLE, hdep] using h.s1), s2 := by first | (simp [slot, putF, nbq, cRec, cLE, hdep]; done) | (simpa [slot, putF, nbq, cRec, cLE, hdep] using h.s2), s5 := by first | (simp [slot, putF, nbq, cRec, cLE, hdep]; done) | (simpa [slot, putF, nbq, cRec, cLE, hdep] using h.s5), s8 := by first | (simp [slot, putF, nbq, cRec, cLE, hdep]; done) | (simpa [slot, putF, nbq, cRec, cLE, hdep] using h.s8), s10 := by first | (simp [slot, putF, nbq, cRec, cLE, hdep]; done) | (simpa [slot, putF, nbq, cRec, cLE, hdep] using h.s10), d0 := by first | (simp [slot, putF, nbq, cRec, cLE, hdep]; done) | (simpa [slot, putF, nbq, cRec, cLE, hdep] using h.d0), d1 := by first | (simp [slot, putF, nbq, cRec, cLE, hdep]; done) | (simpa [slot, putF, nbq, cRec, cLE, hdep] using h.d1), d3 := by first | (simp [slot, putF, nbq, cRec, cLE, hdep]; done) | (simpa [slot, putF, nbq, cRec, cLE, hdep] using h.d3), d4 := by first | (simp [slot, putF, nbq, cRec, cLE, hdep]; done) | (simpa [slot, putF, nbq, cRec, cLE, hdep] using h.d4), d5 := by first | (simp [slot, putF, nbq, cRec, cLE, hdep]; done) | (simpa [slot, putF, nbq, cRec, cLE, hdep] using h.d5), d6 := by first | (simp [slot, putF, nbq, cRec, cLE, hdep]; done) | (simpa [slot, putF, nbq, cRec, cLE, hdep] using h.d6), d7 := by first | (simp [slot, putF, nbq, cRec, cLE, hdep]; done) | (simpa [slot, putF, nbq, cRec, cLE, hdep] using h.d7), d11 := by first | (simp [slot, putF, nbq, cRec, cLE, hdep]; done) | (simpa [slot, putF, nbq, cRec, cLE, hdep] using h.d11), c1 := by first | (simp [slot, putF, nbq, cRec, cLE, hdep]; done) | (simpa [slot, putF, nbq, cRec, cLE, hdep] using h.c1), c2 := by first | (simp [slot, putF, nbq, cRec, cLE, hdep]; done) | (simpa [slot, putF, nbq, cRec, cLE, hdep] using h.c2), c6 := by first | (simp [slot, putF, nbq, cRec, cLE, hdep]; done) | (simpa [slot, putF, nbq, cRec, cLE, hdep] using h.c6), c7 := by first | (simp [slot, putF, nbq, cRec, cLE, hdep]; done) | (simpa [slot, putF, nbq, cRec, cLE, hdep] using h.c7), c8 := by first | (simp [slot, putF, nbq, cRec, cLE, hdep]; done) | (simpa [slot, putF, nbq, cRec, cLE, hdep] using h.c8), c82 := by first | (simp [slot, putF, nbq, cRec, cLE, hdep]; done) | (simpa [slot, putF, nbq, cRec, cLE, hdep] using h.c82), c9 := by first | (simp [slot, putF, nbq, cRec, cLE, hdep]; done) | (simpa [slot, putF, nbq, cRec, cLE, hdep] using h.c9), c10 := by first | (simp [slot, putF, nbq, cRec, cLE, hdep]; done) | (simpa [slot, putF, nbq, cRec, cLE, hdep] using h.c10), st0 := by first | (simp [slot, putF, nbq, cRec, cLE, hdep]; done) | (simpa [slot, putF, nbq, cRec, cLE, hdep] using h.st0), st1 := by simpa [slot, putF, nbq, cRec, cLE, hdep] using h.st1 }
end Go.Proofs.YtbbkckogjdjjgaaDoor
namespace Go.Proofs.YtbbkckogjdjjgaaDoor
open Go.Abs
set_option linter.all false
set_option maxRecDepth 100000
theorem tail_any {K : Fr → St → Prop} {σ0 : St} {β5 β8 β10 : Nat} {l : List LE} {x : LE} {fr0 : Fr} (hl : l.length ≤ 1000000) (h5 : σ0.box β5 = some [sl cLE l]) (h8 : σ0.box β8 = some (cRec x)) (h10 : σ0.box β10 = some [.nils])
    (s1 : slot 1 fr0 = .int .i64 x.t) (s2 : slot 2 fr0 = .int .u64 x.lab) (s5 : slot 5 fr0 = .ptr β5 0) (s8 : slot 8 fr0 = .ptr β8 0) (s10 : slot 10 fr0 = .ptr β10 0)
    (hK : ∀ fr τ, σ0.tip τ = none → slot 10 fr = .ptr β10 0 → slot 11 fr = .int .i64 0 → K fr ((σ0.setTip τ (31, 8, l.length + 1)).setBox β10 [.tsl τ (l.length + 1) (l.flatMap cLE ++ cLE x)])) :
    anyK Tryd.prog (mkT tl11 dp11 13 0) K fr0 σ0 := by
  refine any_mk tl11 dp11 (InvA σ0 β5 β8 β10 l x) (inv_step σ0 β5 β8 β10 l x hl h5 h8 h10) (fun D hq fr σ h => ?_) 13 0 fr0 σ0 ?_
  · have q0 := hq 0 (by decide)
    have q1 := hq 1 (by decide)
    have q2 := hq 2 (by decide)
    have q3 := hq 3 (by decide)
    have q4 := hq 4 (by decide)
    have q5 := hq 5 (by decide)
    have q6 := hq 6 (by decide)
    have q7 := hq 7 (by decide)
    have q8 := hq 8 (by decide)
    have q9 := hq 9 (by decide)
    have q10 := hq 10 (by decide)
    have q11 := hq 11 (by decide)
    simp [dp11] at q0
    simp [dp11, q0] at q1
    simp [dp11, q0, q1] at q2
    simp [dp11] at q3
    simp [dp11] at q4
    simp [dp11] at q5
    simp [dp11, q3, q4, q5] at q6
    simp [dp11, q6] at q7
    simp [dp11, q2, q7] at q8
    simp [dp11, q8] at q9
    simp [dp11, q0, q1, q2, q3, q4, q5, q6, q7, q8, q9] at q10
    simp [dp11, q0, q1, q2, q3, q4, q5, q6, q7, q8, q9, q10] at q11
    obtain ⟨τ, hτ, _, h3⟩ := h.st1 q2
    obtain ⟨_, _, _, h4⟩ := h3 q8
    rw [h4 q10]
    exact hK fr τ hτ h.s10 (h.d11 q11)
  · exact { s1 := s1, s2 := s2, s5 := s5, s8 := s8, s10 := s10, d0 := by simp, d1 := by simp, d3 := by simp, d4 := by simp, d5 := by simp, d6 := by simp, d7 := by simp, d11 := by simp, c1 := by simp, c2 := by simp, c6 := by simp, c7 := by simp, c8 := by simp, c82 := by simp, c9 := by simp, c10 := by simp, st0 := fun _ => rfl, st1 := by simp }
def lateX (l : List LE) (x : LE) : Bool := decide (0 < l.length) && decide (x.tick < (eAt l (l.length - 1)).tick)
def plB (p : Int) : Bool := decide (p < 0) || decide (64 < p)
def appE (l : List LE) (x : LE) (p : Int) : Int := bif chkE l == 0 then (bif (tenE x.t == 0) && !plB p then (bif rightE x == 0 then (bif misT l x.t x.lab then 13 else bif lateX l x then 9 else bif decide (p ≤ ((ofT l x.t).length : Int)) then 21 else 0) else rightE x) else 2) else chkE l
def appL (l : List LE) (x : LE) (p : Int) : List LE := bif appE l x p == 0 then l ++ [x] else []
theorem appL_no {l : List LE} {x : LE} {p : Int} (h : appE l x p ≠ 0) : appL l x p = [] := by
  rw [appL, beq_eq_false_iff_ne.2 h]; rfl
theorem ta_zero (l : List LE) : ∀ k, k ≤ l.length → ∀ i, (taK l k i).2 = 0 → (taK l k i).1 = 0
  | 0, _, i, _ => rfl
  | k + 1, hk, i, h => by
    have ih := ta_zero l k (by omega) i
    rw [taK_succ (by omega)] at h ⊢
    unfold withT at h ⊢
    cases hq : (withE (taK l k) (eAt l k) == 0) with
    | false => rw [hq] at h; simp only [cond_false] at h ⊢; exact ih h
    | true =>
      rw [hq] at h
      simp only [cond_true, taUp] at h ⊢
      cases hb : Nat.beq i (eAt l k).t.toNat with
      | false => rw [hb] at h; simp only [cond_false] at h ⊢; exact ih h
      | true => rw [hb] at h; simp at h
theorem taC_drop2 (T : Ta) {t : Int} (h1 : 1 ≤ t) (h2 : t ≤ 6) : ∃ r, (taC T).drop (Int.toNat t * 2) = .int .u64 (T t.toNat).1 :: .int .i64 (T t.toNat).2 :: r := by
  have h6 : t = 1 ∨ t = 2 ∨ t = 3 ∨ t = 4 ∨ t = 5 ∨ t = 6 := by omega
  rcases h6 with rfl | rfl | rfl | rfl | rfl | rfl <;> exact ⟨_, rfl⟩
theorem app_e1 (l : List LE) (x : LE) (p : Int) (hl : l.length ≤ 1000000) (he : chkE l ≠ 0) : Pu Tryd.prog 11 [.agg [sl cLE l], .int .i64 x.t, .int .u64 x.lab, .agg (cRec x), .int .i64 p] (.tup [.agg [sl cLE (appL l x p)], .int .i64 (appE l x p)]) := by
  have h := p34 l hl
  have hq : (chkE l == 0) = false := by simpa using he
  have hq2 : (chkE l != 0) = true := by simpa using he
  have hB : True := trivial
  have hB2 : True := trivial
  have e1 : appE l x p = chkE l := by simp only [appE, hq, cond_false]
  rw [appL_no (by rw [e1]; exact he), e1]
  (refine Pu_intro c11 b11 (Nat.le_of_ble_eq_true rfl) fun σ => ?_; simp only [c11, ↓R1, R2, R3, R4, R5, Nat.reduceEqDiff, Nat.reduceAdd, Nat.reduceMul, Nat.reduceSub, Nat.reduceLeDiff, Nat.reduceLT, reduceIte, reduceCtorEq, Int.reduceBNe, Int.reduceBEq, hq, hq2, hB, hB2, taC_take, taC_len, taC_drop])
  repeat' (first | (with_reducible rw [allocV_eq]) | (refine gdV_split (fun hc => ?_) (fun hc => ?_) <;> (try simp only [hc, ↓R1, R2, R3, R4, R5, Nat.reduceEqDiff, Nat.reduceAdd, Nat.reduceMul, Nat.reduceSub, Nat.reduceLeDiff, Nat.reduceLT, reduceIte, reduceCtorEq, Int.reduceBNe, Int.reduceBEq, hq, hq2, hB, hB2, taC_take, taC_len, taC_drop])) | ((first | refine condV_split (fun hc => ?_) (fun hc => ?_) | (with_reducible intro β hβ; (try simp only [St.box_noneA, St.tip_noneA, St.tip_set, St.box_tip, St.box_lp, St.tip_lp] at hβ); (repeat (obtain ⟨⟨_, _⟩, hβ⟩ := hβ)); (try (have hbis := apart_is (by assumption) hβ; obtain ⟨_, _⟩ := hbis)))) <;> (try simp only [↓R1, R2, R3, R4, R5, Nat.reduceEqDiff, Nat.reduceAdd, Nat.reduceMul, Nat.reduceSub, Nat.reduceLeDiff, Nat.reduceLT, reduceIte, reduceCtorEq, Int.reduceBNe, Int.reduceBEq, hq, hq2, hB, hB2, taC_take, taC_len, taC_drop])) | (with_reducible refine And.intro ?_ ?_; (focus (first | omega | (intros; (repeat' (with_reducible apply And.intro)) <;> first | omega | (simp only [cLE_len, taC_len, cRec_len, List.length_append, List.length_cons, List.length_nil]; omega))))) | (with_reducible apply And.intro) | ((first | refine Pu.to (h) (wkL_refl _) ?_ | refine callDV_pu (h) (wkL_refl _) ?_); (try simp only [↓R1, R2, R3, R4, R5, Nat.reduceEqDiff, Nat.reduceAdd, Nat.reduceMul, Nat.reduceSub, Nat.reduceLeDiff, Nat.reduceLT, reduceIte, reduceCtorEq, Int.reduceBNe, Int.reduceBEq, hq, hq2, hB, hB2, taC_take, taC_len, taC_drop])))
  all_goals first | (exfalso; simp_all; done) | (with_reducible intro hno; exfalso; simp_all; done) | skip
  all_goals first | exact taC_len _ | exact cRec_f _ | skip
  (refine endP_pu (by simp) (by first | (simp [rvsS, rvS]; done) | (simp only [rvsS, rvS, ↓R1, R2, R3, R4, R5, Nat.reduceEqDiff, Nat.reduceAdd, Nat.reduceMul, Nat.reduceSub, Nat.reduceLeDiff, Nat.reduceLT, reduceIte, reduceCtorEq, Int.reduceBNe, Int.reduceBEq, hq, hq2, hB, hB2, taC_take, taC_len, taC_drop]; try simp)) ?_ (by (repeat (first | exact St.le_refl _ | (refine St.le_new ?_ (by assumption)) | (refine St.le_newT ?_ (by assumption))))))
  simp only [resAV, rvV, List.map_cons, List.map_nil, ↓R1, R2, R3, R4, R5, Nat.reduceEqDiff, Nat.reduceAdd, Nat.reduceMul, Nat.reduceSub, Nat.reduceLeDiff, Nat.reduceLT, reduceIte, reduceCtorEq, Int.reduceBNe, Int.reduceBEq, hq, hq2, hB, hB2, taC_take, taC_len, taC_drop]
  (repeat' (first | exact wk_refl _ | exact wk_nils | exact wk_tsl _ _ _ | exact wk_full _ _ | exact wkL.nil | exact wkL_refl _ | refine wk_tup ?_ | refine wk_agg ?_ | refine wkL.cons ?_ ?_))
theorem app_e2 (l : List LE) (x : LE) (p : Int) (hl : l.length ≤ 1000000) (he : chkE l = 0) (hb : ((tenE x.t == 0) && !plB p) = false) : Pu Tryd.prog 11 [.agg [sl cLE l], .int .i64 x.t, .int .u64 x.lab, .agg (cRec x), .int .i64 p] (.tup [.agg [sl cLE (appL l x p)], .int .i64 (appE l x p)]) := by
  have h := p34 l hl
  have h2 := p35 x.t
  have hq : True := trivial
  have hq2 : True := trivial
  have e1 : appE l x p = 2 := by simp only [appE, he, hb]; rfl
  rw [appL_no (by rw [e1]; decide), e1]
  rw [he] at h
  cases ht : (tenE x.t == 0) with
  | true =>
    rw [ht] at h2 hb
    have hB : plB p = true := by simpa using hb
    have hB2 := hB
    simp only [plB] at hB2
    (refine Pu_intro c11 b11 (Nat.le_of_ble_eq_true rfl) fun σ => ?_; simp only [c11, ↓R1, R2, R3, R4, R5, Nat.reduceEqDiff, Nat.reduceAdd, Nat.reduceMul, Nat.reduceSub, Nat.reduceLeDiff, Nat.reduceLT, reduceIte, reduceCtorEq, Int.reduceBNe, Int.reduceBEq, hq, hq2, hB, hB2, taC_take, taC_len, taC_drop])
    repeat' (first | (with_reducible rw [allocV_eq]) | (refine gdV_split (fun hc => ?_) (fun hc => ?_) <;> (try simp only [hc, ↓R1, R2, R3, R4, R5, Nat.reduceEqDiff, Nat.reduceAdd, Nat.reduceMul, Nat.reduceSub, Nat.reduceLeDiff, Nat.reduceLT, reduceIte, reduceCtorEq, Int.reduceBNe, Int.reduceBEq, hq, hq2, hB, hB2, taC_take, taC_len, taC_drop])) | ((first | refine condV_split (fun hc => ?_) (fun hc => ?_) | (with_reducible intro β hβ; (try simp only [St.box_noneA, St.tip_noneA, St.tip_set, St.box_tip, St.box_lp, St.tip_lp] at hβ); (repeat (obtain ⟨⟨_, _⟩, hβ⟩ := hβ)); (try (have hbis := apart_is (by assumption) hβ; obtain ⟨_, _⟩ := hbis)))) <;> (try simp only [↓R1, R2, R3, R4, R5, Nat.reduceEqDiff, Nat.reduceAdd, Nat.reduceMul, Nat.reduceSub, Nat.reduceLeDiff, Nat.reduceLT, reduceIte, reduceCtorEq, Int.reduceBNe, Int.reduceBEq, hq, hq2, hB, hB2, taC_take, taC_len, taC_drop])) | (with_reducible refine And.intro ?_ ?_; (focus (first | omega | (intros; (repeat' (with_reducible apply And.intro)) <;> first | omega | (simp only [cLE_len, taC_len, cRec_len, List.length_append, List.length_cons, List.length_nil]; omega))))) | (with_reducible apply And.intro) | ((first | refine Pu.to (h) (wkL_refl _) ?_ | refine callDV_pu (h) (wkL_refl _) ?_ | refine Pu.to (h2) (wkL_refl _) ?_ | refine callDV_pu (h2) (wkL_refl _) ?_ | (refine callGV_pu (fun hgv => ⟨?_, (h2), wkL_refl _⟩) ?_; (first | trivial | (focus (simp only [↓R1, R2, R3, R4, R5, Nat.reduceEqDiff, Nat.reduceAdd, Nat.reduceMul, Nat.reduceSub, Nat.reduceLeDiff, Nat.reduceLT, reduceIte, reduceCtorEq, Int.reduceBNe, Int.reduceBEq, hq, hq2, hB, hB2, taC_take, taC_len, taC_drop]; done))))); (try simp only [↓R1, R2, R3, R4, R5, Nat.reduceEqDiff, Nat.reduceAdd, Nat.reduceMul, Nat.reduceSub, Nat.reduceLeDiff, Nat.reduceLT, reduceIte, reduceCtorEq, Int.reduceBNe, Int.reduceBEq, hq, hq2, hB, hB2, taC_take, taC_len, taC_drop])))
    all_goals first | (exfalso; simp_all; done) | (with_reducible intro hno; exfalso; simp_all; done) | skip
    all_goals first | exact taC_len _ | exact cRec_f _ | skip
    (refine endP_pu (by simp) (by first | (simp [rvsS, rvS]; done) | (simp only [rvsS, rvS, ↓R1, R2, R3, R4, R5, Nat.reduceEqDiff, Nat.reduceAdd, Nat.reduceMul, Nat.reduceSub, Nat.reduceLeDiff, Nat.reduceLT, reduceIte, reduceCtorEq, Int.reduceBNe, Int.reduceBEq, hq, hq2, hB, hB2, taC_take, taC_len, taC_drop]; try simp)) ?_ (by (repeat (first | exact St.le_refl _ | (refine St.le_new ?_ (by assumption)) | (refine St.le_newT ?_ (by assumption))))))
    simp only [resAV, rvV, List.map_cons, List.map_nil, ↓R1, R2, R3, R4, R5, Nat.reduceEqDiff, Nat.reduceAdd, Nat.reduceMul, Nat.reduceSub, Nat.reduceLeDiff, Nat.reduceLT, reduceIte, reduceCtorEq, Int.reduceBNe, Int.reduceBEq, hq, hq2, hB, hB2, taC_take, taC_len, taC_drop]
    (repeat' (first | exact wk_refl _ | exact wk_nils | exact wk_tsl _ _ _ | exact wk_full _ _ | exact wkL.nil | exact wkL_refl _ | refine wk_tup ?_ | refine wk_agg ?_ | refine wkL.cons ?_ ?_))
  | false =>
    rw [ht] at h2
    have hB : True := trivial
    have hB2 : True := trivial
    (refine Pu_intro c11 b11 (Nat.le_of_ble_eq_true rfl) fun σ => ?_; simp only [c11, ↓R1, R2, R3, R4, R5, Nat.reduceEqDiff, Nat.reduceAdd, Nat.reduceMul, Nat.reduceSub, Nat.reduceLeDiff, Nat.reduceLT, reduceIte, reduceCtorEq, Int.reduceBNe, Int.reduceBEq, hq, hq2, hB, hB2, taC_take, taC_len, taC_drop])
    repeat' (first | (with_reducible rw [allocV_eq]) | (refine gdV_split (fun hc => ?_) (fun hc => ?_) <;> (try simp only [hc, ↓R1, R2, R3, R4, R5, Nat.reduceEqDiff, Nat.reduceAdd, Nat.reduceMul, Nat.reduceSub, Nat.reduceLeDiff, Nat.reduceLT, reduceIte, reduceCtorEq, Int.reduceBNe, Int.reduceBEq, hq, hq2, hB, hB2, taC_take, taC_len, taC_drop])) | ((first | refine condV_split (fun hc => ?_) (fun hc => ?_) | (with_reducible intro β hβ; (try simp only [St.box_noneA, St.tip_noneA, St.tip_set, St.box_tip, St.box_lp, St.tip_lp] at hβ); (repeat (obtain ⟨⟨_, _⟩, hβ⟩ := hβ)); (try (have hbis := apart_is (by assumption) hβ; obtain ⟨_, _⟩ := hbis)))) <;> (try simp only [↓R1, R2, R3, R4, R5, Nat.reduceEqDiff, Nat.reduceAdd, Nat.reduceMul, Nat.reduceSub, Nat.reduceLeDiff, Nat.reduceLT, reduceIte, reduceCtorEq, Int.reduceBNe, Int.reduceBEq, hq, hq2, hB, hB2, taC_take, taC_len, taC_drop])) | (with_reducible refine And.intro ?_ ?_; (focus (first | omega | (intros; (repeat' (with_reducible apply And.intro)) <;> first | omega | (simp only [cLE_len, taC_len, cRec_len, List.length_append, List.length_cons, List.length_nil]; omega))))) | (with_reducible apply And.intro) | ((first | refine Pu.to (h) (wkL_refl _) ?_ | refine callDV_pu (h) (wkL_refl _) ?_ | refine Pu.to (h2) (wkL_refl _) ?_ | refine callDV_pu (h2) (wkL_refl _) ?_ | (refine callGV_pu (fun hgv => ⟨?_, (h2), wkL_refl _⟩) ?_; (first | trivial | (focus (simp only [↓R1, R2, R3, R4, R5, Nat.reduceEqDiff, Nat.reduceAdd, Nat.reduceMul, Nat.reduceSub, Nat.reduceLeDiff, Nat.reduceLT, reduceIte, reduceCtorEq, Int.reduceBNe, Int.reduceBEq, hq, hq2, hB, hB2, taC_take, taC_len, taC_drop]; done))))); (try simp only [↓R1, R2, R3, R4, R5, Nat.reduceEqDiff, Nat.reduceAdd, Nat.reduceMul, Nat.reduceSub, Nat.reduceLeDiff, Nat.reduceLT, reduceIte, reduceCtorEq, Int.reduceBNe, Int.reduceBEq, hq, hq2, hB, hB2, taC_take, taC_len, taC_drop])))
    all_goals first | (exfalso; simp_all; done) | (with_reducible intro hno; exfalso; simp_all; done) | skip
    all_goals first | exact taC_len _ | exact cRec_f _ | skip
    (refine endP_pu (by simp) (by first | (simp [rvsS, rvS]; done) | (simp only [rvsS, rvS, ↓R1, R2, R3, R4, R5, Nat.reduceEqDiff, Nat.reduceAdd, Nat.reduceMul, Nat.reduceSub, Nat.reduceLeDiff, Nat.reduceLT, reduceIte, reduceCtorEq, Int.reduceBNe, Int.reduceBEq, hq, hq2, hB, hB2, taC_take, taC_len, taC_drop]; try simp)) ?_ (by (repeat (first | exact St.le_refl _ | (refine St.le_new ?_ (by assumption)) | (refine St.le_newT ?_ (by assumption))))))
    simp only [resAV, rvV, List.map_cons, List.map_nil, ↓R1, R2, R3, R4, R5, Nat.reduceEqDiff, Nat.reduceAdd, Nat.reduceMul, Nat.reduceSub, Nat.reduceLeDiff, Nat.reduceLT, reduceIte, reduceCtorEq, Int.reduceBNe, Int.reduceBEq, hq, hq2, hB, hB2, taC_take, taC_len, taC_drop]
    (repeat' (first | exact wk_refl _ | exact wk_nils | exact wk_tsl _ _ _ | exact wk_full _ _ | exact wkL.nil | exact wkL_refl _ | refine wk_tup ?_ | refine wk_agg ?_ | refine wkL.cons ?_ ?_))
end Go.Proofs.YtbbkckogjdjjgaaDoor
