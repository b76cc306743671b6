/- Part 16 of the proof of MatchSorts: an abstract semantics that is proved sound for the model, contracts of functions in it, and plain facts (LW1 LW2 LW4 LR8 M10 LR9). No condition. -/
import Derived.Test.YtncadbcjikekhaaGreatDoorKMatchSorts15
import Derived.Shelf.Spec.TrailingZeros
set_option linter.all false
namespace Go.Proofs.YtncadbcjikekhaaGreatDoor
open Go.Abs
set_option linter.all false
set_option maxRecDepth 100000
def gTab : List AV := Lib.deBruijn64tab.map fun n => AV.int .u8 (n : Nat)
def gls : List (Nat × List AV) := [(0, gTab)]
theorem gls_get {σ : St} (h : GlobsOk gls σ) : σ.glob 0 = some gTab := h _ _ rfl
theorem w_zero {a : BitVec 64} (h : a.toNat = 0) : a = 0#64 := BitVec.eq_of_toNat_eq (by simpa using h)
theorem map_getD (l : List Nat) (i c : Nat) (h : i < l.length) (e : l.getD i 0 = c) : (l.map fun n => AV.int .u8 (n : Nat))[i]? = some (.int .u8 (c : Int)) := by
  rw [List.getD_eq_getElem?_getD, List.getElem?_eq_getElem h] at e
  rw [List.getElem?_map, List.getElem?_eq_getElem h, ← e]
  rfl
theorem tz_place (a : BitVec 64) (ha : a ≠ 0#64) : ∃ idx : Nat, (IntKind.u64.wrap (bits .and .u64 (a.toNat : Int) (IntKind.u64.wrap (0 - (a.toNat : Int))) * 285870213051353865)).fdiv (2 ^ min (Int.toNat 58) IntKind.u64.bits) = (idx : Int) ∧ idx < 64 ∧ gTab[idx]? = some (.int .u8 ((Lib.ctz 64 a.toNat : Nat) : Int)) := by
  have h0 : a.toNat ≠ 0 := fun h => ha (w_zero h)
  obtain ⟨hlow, hk⟩ := Lib.lowest_bit 64 a.toNat h0 a.isLt
  obtain ⟨hi, htab⟩ := Lib.deBruijn64_at _ hk
  have key := Go.Proofs.tz64_key a.toNat _ a.isLt h0 hlow
  generalize 2 ^ Lib.ctz 64 a.toNat * 285870213051353865 % 18446744073709551616 / 288230376151711744 = idx at hi htab key
  obtain ⟨c, hc⟩ : ∃ c, Lib.ctz 64 a.toNat = c := ⟨_, rfl⟩
  rw [hc] at htab ⊢
  clear hc hlow hk
  refine ⟨idx, ?_, hi, ?_⟩
  · have e : (2 : Int) ^ min (Int.toNat 58) IntKind.u64.bits = 288230376151711744 := by simp [IntKind.bits]
    rw [e, Int.zero_sub, Int.fdiv_eq_ediv_of_nonneg _ (by decide : (0 : Int) ≤ 288230376151711744)]; exact key
  · exact map_getD Lib.deBruijn64tab idx c (show idx < 64 from hi) htab
theorem gTab_len : gTab.length = 64 := by decide
theorem ctz_i64 (a : BitVec 64) (ha : a ≠ 0#64) : IntKind.i64.wrap ((Lib.ctz 64 a.toNat : Nat) : Int) = ((Lib.ctz 64 a.toNat : Nat) : Int) := by
  have := (ctz_bits a ha).1
  rw [wrap64 (by omega) (by omega)]
theorem p112 (a : BitVec 64) (ha : a ≠ 0#64) : PuG Tryz.prog gls 112 [.int .u64 a.toNat] (.int .i64 ((Lib.ctz 64 a.toNat : Nat) : Int)) := by
  have h0 : a.toNat ≠ 0 := fun h => ha (w_zero h)
  obtain ⟨idx, hidx, hi, ht⟩ := tz_place a ha
  have hz : ((a.toNat : Int) == 0) = false := by simp; omega
  (refine PuG_intro c112 b112 (Nat.le_of_ble_eq_true rfl) fun σ hσ => ?_; simp only [c112, ↓R1, RR, Nat.reduceEqDiff, Nat.reduceAdd, Nat.reduceMul, Nat.reduceSub, Nat.reduceLeDiff, Nat.reduceLT, reduceIte, reduceCtorEq, Int.reduceBNe, Int.reduceBEq])
  have hg := gls_get hσ
  have hl := gTab_len
  have hd : (List.drop (idx * 1) gTab)[0]? = some (.int .u8 ((Lib.ctz 64 a.toNat : Nat) : Int)) := by
    rw [Nat.mul_one, List.getElem?_drop, Nat.add_zero]; exact ht
  simp only [hz, hg, hidx, ↓R1, RR, Nat.reduceEqDiff, Nat.reduceAdd, Nat.reduceMul, Nat.reduceSub, Nat.reduceLeDiff, Nat.reduceLT, reduceIte, reduceCtorEq, Int.reduceBNe, Int.reduceBEq]
  rw [hd]
  refine ⟨by decide, ⟨by omega, by omega, by omega⟩, by simp; omega, trivial, ?_⟩
  (refine endP_pu (by simp) (by first | (simp [rvsS, rvS]; done) | (simp only [rvsS, rvS, ↓R1, RR, Nat.reduceEqDiff, Nat.reduceAdd, Nat.reduceMul, Nat.reduceSub, Nat.reduceLeDiff, Nat.reduceLT, reduceIte, reduceCtorEq, Int.reduceBNe, Int.reduceBEq]; try simp)) (wk_of_eq ?_) (by (repeat (first | exact St.le_refl _ | (refine St.le_new ?_ (by assumption)) | (refine St.le_newT ?_ (by assumption))))))
  (simp only [resAV, rvV, List.map_cons, List.map_nil, ↓R1, RR, Nat.reduceEqDiff, Nat.reduceAdd, Nat.reduceMul, Nat.reduceSub, Nat.reduceLeDiff, Nat.reduceLT, reduceIte, reduceCtorEq, Int.reduceBNe, Int.reduceBEq])
  rw [ctz_i64 a ha]
end Go.Proofs.YtncadbcjikekhaaGreatDoor
namespace Go.Proofs.YtncadbcjikekhaaGreatDoor
open Go.Abs
set_option linter.all false
set_option maxRecDepth 100000
theorem w_ne (b : BitVec 64) : ((b.toNat : Int) != 0) = !(b == 0#64) := by
  rw [show (0 : Int) = ((0#64 : BitVec 64).toNat : Int) by rfl, bne, eq64]
theorem w_sub1 (b : BitVec 64) : IntKind.u64.wrap ((b.toNat : Int) - 1) = ((b - 1#64).toNat : Int) := by
  rw [IntKind.wrap_u64, BitVec.toNat_sub]
  simp only [BitVec.toNat_ofNat]
  have := b.isLt
  omega
theorem p85 (a : BitVec 64) (σ : St) : AC Tryz.prog 85 [.int .u64 a.toNat] σ (fun r s => ∃ β, σ.box β = none ∧ r = .fn 111 [.ptr β 0] ∧ s = σ.setBox β [.int .u64 a.toNat]) := by
  refine AC_intro c85 b85 (Nat.le_of_ble_eq_true rfl) ?_
  simp only [c85, ↓R1, RR, seval]
  intro β hβ
  refine endP_id (by simp) (by simp [rvsS, rvS]) ?_
  exact ⟨β, hβ, rfl, rfl⟩
theorem RF_each {prs : List Nat} {asg body : CC} {fr : Fr} {Q : Exit → Fr → St → Prop} {β : Nat} (a : BitVec 64) (T : List Nat → BitVec 64 → St) (I : List Nat → Prop) (hps : prs.length = 1) (hI0 : I [])
    (hb : ∀ pre b, (T pre b).box β = some [.int .u64 b.toNat]) (hs : ∀ pre b b', (T pre b).setBox β [.int .u64 b'.toNat] = T pre b') (hg : ∀ pre b, GlobsOk gls (T pre b)) (hl : ∀ pre b L, (T pre b).lp L = (T [] a).lp L)
    (hround : ∀ L r pre k b, (T [] a).lp L = none → I pre → (∃ rest, cats a = pre ++ k :: rest) → aC Tryz.prog asg (putL prs [.int .i64 (k : Nat)] fr) ((T pre b).setLp L (r, fr)) (fun e fr1 σ2 => e = .normal ∧ σ2 = (T pre b).setLp L (r, fr) ∧
      aC Tryz.prog body fr1 ((T pre b).setLp L (busy r, fr)) (fun e _ σ3 => match e with
        | .normal => ∃ s, σ3 = s.setLp L (busy r, fr) ∧ s.lp L = none ∧ s = T (pre ++ [k]) b ∧ I (pre ++ [k])
        | .ret => ∃ s, σ3 = s.setLp L (busy r, fr) ∧ s.lp L = none ∧ Q .ret fr s
        | .exit id => ∃ s, σ3 = s.setLp L (busy r, fr) ∧ s.lp L = none ∧ Q (.exit id) fr s
        | _ => False)))
    (hend : I (cats a) → Q .normal fr (T (cats a) 0#64)) : RF Tryz.prog 111 [.ptr β 0] prs asg body fr (T [] a) Q := by
  refine ⟨by kernel_rfl, fun L r hL hr1 hr2 hY => ?_⟩
  have hg' : ∀ pre b, GlobsOk gls ((T pre b).setLp L (r, fr)) := fun pre b => hg pre b
  have hb' : ∀ pre b, ((T pre b).setLp L (r, fr)).box β = some [.int .u64 b.toNat] := fun pre b => hb pre b
  have hs' : ∀ pre b b', ((T pre b).setLp L (r, fr)).setBox β [.int .u64 b'.toNat] = (T pre b').setLp L (r, fr) := fun pre b b' => by rw [← St.setBox_setLp, hs]
  have hY' : ∀ pre k b, I pre → (∃ rest, cats a = pre ++ k :: rest) → YC Tryz.prog L [.int .i64 (k : Nat)] ((T pre b).setLp L (r, fr)) _ := fun pre k b hi hk =>
    RF_round (by rw [hl, hL]) hY (by simpa using hps.symm) (hround L r pre k b hL hi hk)
  refine AC_intro c111 b111 (Nat.le_of_ble_eq_true rfl) ?_
  simp only [c111, ↓R1, RR, seval]
  refine loopV_st (α := List Nat × BitVec 64) (fun _ => [(0, .yld L), (1, .ptr β 0)]) (fun z => (T z.1 z.2).setLp L (r, fr)) (fun z => cats a = z.1 ++ cats z.2 ∧ I z.1) (fun z => (cats z.2).length) ([], a) (by simp [subF, slot, wk_refl]) (St.le_refl _) ⟨rfl, hI0⟩ ?_
  rintro ⟨pre, b⟩ ⟨hI, hIp⟩
  simp only at hI hIp ⊢
  simp only [hb, w_ne, ↓R1, RR, seval]
  refine condV_split (fun hc => ?_) (fun hc => ?_)
  · have hb0 : b ≠ 0#64 := by simpa using hc
    have hcs := cats_step b hb0
    simp only [hb, ↓R1, RR, seval]
    refine PuG.to (p112 b hb0) (hg' _ _) (wkL_refl _) ?_
    simp only [hb, ↓R1, RR, seval]
    refine (hY' pre (Lib.ctz 64 b.toNat) b hIp ⟨_, by rw [hI, hcs]⟩).mono ?_
    rintro v s' (⟨rfl, s, rfl, hsl, rfl, hIn⟩ | ⟨rfl, h2⟩)
    · simp only [hb, w_sub1, bits_and64, hs', ↓R1, RR, seval]
      refine ⟨(pre ++ [Lib.ctz 64 b.toNat], b &&& b - 1#64), ⟨by simp only; rw [hI, hcs]; simp, hIn⟩, by simp [subF, slot, wk_refl], St.le_refl _, by simp only [hcs, List.length_cons]; omega⟩
    · simp only [↓R1, RR, seval]
      refine endP_id (by simp) (by simp [rvsS]) (.inr ?_)
      rcases h2 with ⟨s, rfl, h3, h4⟩ | ⟨id, s, rfl, h3, h4⟩
      · exact .inl ⟨St.lp_same _ _ _, by rw [St.drop_set h3]; exact h4⟩
      · exact .inr ⟨id, St.lp_same _ _ _, by rw [St.drop_set h3]; exact h4⟩
  · have hb0 : b = 0#64 := by simpa using hc
    subst hb0
    rw [cats_zero, List.append_nil] at hI
    subst hI
    simp only [↓R1, RR, seval]
    refine endP_id (by simp) (by simp [rvsS]) (.inl ⟨St.lp_same _ _ _, ?_⟩)
    rw [St.drop_set (by rw [hl, hL])]
    exact hend hIp
end Go.Proofs.YtncadbcjikekhaaGreatDoor
namespace Go.Proofs.YtncadbcjikekhaaGreatDoor
open Go.Abs
set_option linter.all false
set_option maxRecDepth 100000
def wds (l : List (BitVec 64)) : List AV := l.map w64
theorem wds_len (l : List (BitVec 64)) : (wds l).length = l.length := by simp [wds]
end Go.Proofs.YtncadbcjikekhaaGreatDoor
namespace Go.Proofs.YtncadbcjikekhaaGreatDoor
open Go.Abs
set_option linter.all false
set_option maxRecDepth 100000
def cInt (x : Int) : List AV := [.int .i64 x]
theorem cInt_get (l : List Int) (k : Nat) (h : k < l.length) : ((l.flatMap cInt).drop (k * 1)).take 1 = cInt l[k] := flat_get (f := cInt) (fun _ => rfl) l k h
theorem cInt_len (l : List Int) : (l.flatMap cInt).length = l.length * 1 := flat_len (f := cInt) (fun _ => rfl) l
theorem take_succ_eq {α : Type} {a b : List α} {k : Nat} (ha : k < a.length) (hb : k < b.length) (h : a.take k = b.take k) : a.take (k + 1) = b.take (k + 1) ↔ a[k] = b[k] := by
  have e1 := List.take_append_getElem ha
  have e2 := List.take_append_getElem hb
  rw [← e1, ← e2, h]
  constructor
  · intro e; exact (List.append_inj' e rfl).2 |> List.cons.inj |>.1
  · intro e; rw [e]
theorem ne_of_take {α : Type} {a b : List α} (k : Nat) (h : a.take k ≠ b.take k) : a ≠ b := fun e => h (by rw [e])
theorem p30 (a b : List Int) (hl : a.length ≤ maxLen) : Pu Tryz.prog 30 [sl cInt a, sl cInt b] (.bool (decide (a = b))) := by
  (refine Pu_intro c30 b30 (Nat.le_of_ble_eq_true rfl) fun σ => ?_; simp only [c30, ↓R1, RR, seval])
  simp only [sl, ↓R1, RR, seval]
  refine condV_split (fun h1 => ?_) (fun h1 => ?_) <;> simp at h1 <;> simp only [↓R1, RR, seval]
  · (refine endP_pu (by simp) (by first | (simp [rvsS, rvS]; done) | (simp only [rvsS, rvS, ↓R1, RR, seval]; try simp)) (wk_of_eq ?_) (by (repeat (first | exact St.le_refl _ | (refine St.le_new ?_ (by assumption)) | (refine St.le_newT ?_ (by assumption))))))
    (simp only [resAV, rvV, List.map_cons, List.map_nil, ↓R1, RR, seval])
    have : a ≠ b := fun e => h1 (by rw [e])
    simp [this]
  refine loopV_for a.length (fun k => [(5, .int .i64 k), (0, sl cInt a), (1, sl cInt b)]) (fun _ => σ) (fun k => a.take k = b.take k) (by simp [subF, slot, wk_refl, sl]) (St.le_refl _) (by simp) (fun k hk hI => ?_)
  simp only [sl, ↓R1, RR, seval]
  refine condV_split (fun h5 => ?_) (fun h5 => ?_) <;> simp at h5
  · have h6 : k < b.length := by omega
    have ht := take_succ_eq h5 h6 hI
    simp only [cInt_get _ _ h5, cInt_get _ _ h6, cInt, ↓R1, RR, seval]
    repeat' (with_reducible apply And.intro)
    all_goals try (intros; (repeat' (with_reducible apply And.intro)) <;> first | omega | (simp only [RZ, cInt_len, wds_len]; omega))
    refine condV_split (fun h7 => ?_) (fun h7 => ?_) <;> simp at h7 <;> simp only [↓R1, RR, seval]
    · (refine endP_pu (by simp) (by first | (simp [rvsS, rvS]; done) | (simp only [rvsS, rvS, ↓R1, RR, seval]; try simp)) (wk_of_eq ?_) (by (repeat (first | exact St.le_refl _ | (refine St.le_new ?_ (by assumption)) | (refine St.le_newT ?_ (by assumption))))))
      (simp only [resAV, rvV, List.map_cons, List.map_nil, ↓R1, RR, seval])
      have : a ≠ b := ne_of_take (k + 1) (fun e => h7 (ht.1 e))
      simp [this]
    · refine ⟨h5, ht.2 h7, ?_, by (repeat (first | exact St.le_refl _ | (refine St.le_new ?_ (by assumption)) | (refine St.le_newT ?_ (by assumption))))⟩
      simp only [subF, slot, wk_refl, ↓R1, RR, seval]
      exact wk_of_eq (by rw [wrap_succ h5 hl])
  · simp only [↓R1, RR, seval]
    (refine endP_pu (by simp) (by first | (simp [rvsS, rvS]; done) | (simp only [rvsS, rvS, ↓R1, RR, seval]; try simp)) (wk_of_eq ?_) (by (repeat (first | exact St.le_refl _ | (refine St.le_new ?_ (by assumption)) | (refine St.le_newT ?_ (by assumption))))))
    (simp only [resAV, rvV, List.map_cons, List.map_nil, ↓R1, RR, seval])
    rw [List.take_of_length_le (by omega), List.take_of_length_le (by omega)] at hI
    simp [hI]
end Go.Proofs.YtncadbcjikekhaaGreatDoor
namespace Go.Proofs.YtncadbcjikekhaaGreatDoor
open Go.Abs
set_option linter.all false
set_option maxRecDepth 100000
instance : DecidableEq Pl := fun x y => if h : x.p = y.p ∧ x.a = y.a then isTrue (by cases x; cases y; simp_all) else isFalse (fun e => h (by rw [e]; exact ⟨rfl, rfl⟩))
theorem pl_eq (x y : Pl) : ((x.p == y.p) && (x.a == y.a)) = decide (x = y) := by
  rw [Bool.eq_iff_iff, decide_eq_true_eq, Bool.and_eq_true, beq_iff_eq, beq_iff_eq]
  constructor
  · intro h; cases x; cases y; simp_all
  · intro e; rw [e]; exact ⟨rfl, rfl⟩
theorem p10 (l : List Pl) (hl : l.length ≤ 1000000) : Pu Tryz.prog 10 [.agg [.sl false l.length (l.flatMap cP)]] (.agg [.sl false l.length (l.flatMap cP)]) := by
  (refine Pu_intro c10 b10 (Nat.le_of_ble_eq_true rfl) fun σ => ?_; simp only [c10, ↓R1, RR, seval])
  repeat' (first | (with_reducible rw [allocV_eq]) | (with_reducible refine And.intro ?_ ?_; focus (intros; (repeat' (with_reducible apply And.intro)) <;> first | omega | (simp only [RZ, cP_len, cId_len, cI_len]; omega))) | (with_reducible apply And.intro) | ((first | (refine gdV_split (fun hc => ?_) (fun hc => ?_) <;> (try simp only [hc, ↓R1, RR, seval])) | refine condV_split (fun hc => ?_) (fun hc => ?_) | (with_reducible intro β hβ; (try simp only [RB] at hβ); (repeat (obtain ⟨⟨_, _⟩, hβ⟩ := hβ)); (try (have hbis := apart_is (by assumption) hβ; obtain ⟨_, _⟩ := hbis))) | ((first | refine appD_tslK (.inr rfl) rfl ?_ ?_ ?_ ?_ ?_ ?_ | refine appV_tslK rfl ?_ ?_ ?_ ?_ ?_ ?_); (first | rfl | exact St.tip_same _ _ _ | simp only [↓R1, RR, seval]); (iterate 2 (first | omega | (simp only [RZ, cP_len, cId_len, cI_len]; first | done | omega) | rfl)); (unfold maxLen; omega); omega) | (refine appV_tip (n := 0) (m := l.length) (cs := []) (ds := l.flatMap cP) rfl trivial rfl (by simp) (cP_len l) (by unfold maxLen; omega) (by omega) ?_; with_reducible intro τ hβ; (try simp only [RB] at hβ); (repeat (obtain ⟨⟨_, _⟩, hβ⟩ := hβ)); (try (have hbis := apart_is (by assumption) hβ; obtain ⟨_, _⟩ := hbis)))) <;> (try simp only [↓R1, RR, seval])))
  (refine endP_pu (by simp) (by first | (simp [rvsS, rvS]; done) | (simp only [rvsS, rvS, ↓R1, RR, seval]; try simp)) ?_ (by (repeat (first | exact St.le_refl _ | (refine St.le_new ?_ (by assumption)) | (refine St.le_newT ?_ (by assumption))))))
  simp only [resAV, rvV, List.map_cons, List.map_nil, ↓R1, RR, seval]
  (repeat' (first | exact wk_refl _ | exact wk_nils | exact wk_tsl _ _ _ | exact wk_full _ _ | exact wkL.nil | exact wkL_refl _ | refine wk_tup ?_ | refine wk_agg ?_ | refine wkL.cons ?_ ?_))
theorem p20 (a b : List Pl) (hl : a.length ≤ 1000000) (hl2 : b.length ≤ 1000000) : Pu Tryz.prog 20 [.agg [.sl false a.length (a.flatMap cP)], .agg [.sl false b.length (b.flatMap cP)]] (.bool (decide (a = b))) := by
  have q1 : True := trivial
  have q2 : True := trivial
  have hw : True := trivial
  have hd : True := trivial
  have hd2 : True := trivial
  by_cases hab : a.length = b.length
  · have q2 : ((a.length : Int) != (b.length : Int)) = false := by rw [hab]; simp
    (refine Pu_intro c20 b20 (Nat.le_of_ble_eq_true rfl) fun σ => ?_; simp only [c20, ↓R1, RR, seval, q1, q2, hw, hd, hd2, beq_self_eq_true, bne_self_eq_false])
    repeat' (first | (with_reducible rw [allocV_eq]) | (with_reducible refine And.intro ?_ ?_; focus (intros; (repeat' (with_reducible apply And.intro)) <;> first | omega | (simp only [RZ, cP_len, cId_len, cI_len]; omega))) | (with_reducible apply And.intro) | ((first | (refine gdV_split (fun hc => ?_) (fun hc => ?_) <;> (try simp only [hc, ↓R1, RR, seval, q1, q2, hw, hd, hd2, beq_self_eq_true, bne_self_eq_false])) | refine condV_split (fun hc => ?_) (fun hc => ?_) | (with_reducible intro β hβ; (try simp only [RB] at hβ); (repeat (obtain ⟨⟨_, _⟩, hβ⟩ := hβ)); (try (have hbis := apart_is (by assumption) hβ; obtain ⟨_, _⟩ := hbis)))) <;> (try simp only [↓R1, RR, seval, q1, q2, hw, hd, hd2, beq_self_eq_true, bne_self_eq_false])))
    rename_i b2 h2 a1 a2
    refine loopV_for a.length (fun k => [(2, .ptr b2 0), (3, .ptr β 0), (5, .int .i64 (k : Nat))]) (fun _ => (σ.setBox b2 [.sl false a.length (a.flatMap cP)]).setBox β [.sl false b.length (b.flatMap cP)]) (fun k => a.take k = b.take k) (by simp [subF, slot, wk_refl]) (St.le_refl _) (by simp) (fun k hk hI => ?_)
    by_cases hlt : k < a.length
    · have q1 : decide ((k : Int) < (a.length : Int)) = true := by rw [decide_eq_true_eq]; omega
      have hlb : k < b.length := by omega
      have hd := cP_get a hlt
      have hd2 := cP_get b hlb
      have hca := cP_len a
      have hcb := cP_len b
      have ht := take_succ_eq hlt hlb hI
      have hw : IntKind.i64.wrap ((k : Int) + 1) = ((k + 1 : Nat) : Int) := by rw [wrap64 (by omega) (by omega)]; omega
      simp only [cP] at hd hd2
      have hpe := pl_eq a[k] b[k]
      cases hq : decide (a[k] = b[k]) with
      | true =>
        rw [hq] at hpe
        have q2 := hpe
        simp only [q1, ↓R1, RR, seval, q1, q2, hw, hd, hd2, beq_self_eq_true, bne_self_eq_false]
        repeat' (first | (with_reducible rw [allocV_eq]) | (with_reducible refine And.intro ?_ ?_; focus (intros; (repeat' (with_reducible apply And.intro)) <;> first | omega | (simp only [RZ, cP_len, cId_len, cI_len]; omega))) | (with_reducible apply And.intro) | ((first | (refine gdV_split (fun hc => ?_) (fun hc => ?_) <;> (try simp only [hc, ↓R1, RR, seval, q1, q2, hw, hd, hd2, beq_self_eq_true, bne_self_eq_false])) | refine condV_split (fun hc => ?_) (fun hc => ?_) | (with_reducible intro β hβ; (try simp only [RB] at hβ); (repeat (obtain ⟨⟨_, _⟩, hβ⟩ := hβ)); (try (have hbis := apart_is (by assumption) hβ; obtain ⟨_, _⟩ := hbis)))) <;> (try simp only [↓R1, RR, seval, q1, q2, hw, hd, hd2, beq_self_eq_true, bne_self_eq_false])))
        · exact ht.2 (of_decide_eq_true hq)
        · simp [subF, slot, wk_refl]
        · exact St.le_refl _
      | false =>
        rw [hq] at hpe
        have q2 := hpe
        have hne : decide (a = b) = false := decide_eq_false (ne_of_take (k + 1) (fun e => of_decide_eq_false hq (ht.1 e)))
        rw [hne]
        simp only [q1, ↓R1, RR, seval, q1, q2, hw, hd, hd2, beq_self_eq_true, bne_self_eq_false]
        repeat' (first | (with_reducible rw [allocV_eq]) | (with_reducible refine And.intro ?_ ?_; focus (intros; (repeat' (with_reducible apply And.intro)) <;> first | omega | (simp only [RZ, cP_len, cId_len, cI_len]; omega))) | (with_reducible apply And.intro) | ((first | (refine gdV_split (fun hc => ?_) (fun hc => ?_) <;> (try simp only [hc, ↓R1, RR, seval, q1, q2, hw, hd, hd2, beq_self_eq_true, bne_self_eq_false])) | refine condV_split (fun hc => ?_) (fun hc => ?_) | (with_reducible intro β hβ; (try simp only [RB] at hβ); (repeat (obtain ⟨⟨_, _⟩, hβ⟩ := hβ)); (try (have hbis := apart_is (by assumption) hβ; obtain ⟨_, _⟩ := hbis)))) <;> (try simp only [↓R1, RR, seval, q1, q2, hw, hd, hd2, beq_self_eq_true, bne_self_eq_false])))
        (refine endP_pu (by simp) (by first | (simp [rvsS, rvS]; done) | (simp only [rvsS, rvS, ↓R1, RR, seval, q1, q2, hw, hd, hd2, beq_self_eq_true, bne_self_eq_false]; try simp)) (wk_of_eq ?_) (by (repeat (first | exact St.le_refl _ | (refine St.le_new ?_ (by assumption)) | (refine St.le_newT ?_ (by assumption))))))
        (simp only [resAV, rvV, List.map_cons, List.map_nil, ↓R1, RR, seval, q1, q2, hw, hd, hd2, beq_self_eq_true, bne_self_eq_false])
    · have hke : k = a.length := by omega
      subst hke
      have q1 : decide ((a.length : Int) < (a.length : Int)) = false := by simp
      rw [List.take_of_length_le (by omega), List.take_of_length_le (by omega)] at hI
      have hne : decide (a = b) = true := decide_eq_true hI
      rw [hne]
      simp only [q1, ↓R1, RR, seval, q1, q2, hw, hd, hd2, beq_self_eq_true, bne_self_eq_false]
      repeat' (first | (with_reducible rw [allocV_eq]) | (with_reducible refine And.intro ?_ ?_; focus (intros; (repeat' (with_reducible apply And.intro)) <;> first | omega | (simp only [RZ, cP_len, cId_len, cI_len]; omega))) | (with_reducible apply And.intro) | ((first | (refine gdV_split (fun hc => ?_) (fun hc => ?_) <;> (try simp only [hc, ↓R1, RR, seval, q1, q2, hw, hd, hd2, beq_self_eq_true, bne_self_eq_false])) | refine condV_split (fun hc => ?_) (fun hc => ?_) | (with_reducible intro β hβ; (try simp only [RB] at hβ); (repeat (obtain ⟨⟨_, _⟩, hβ⟩ := hβ)); (try (have hbis := apart_is (by assumption) hβ; obtain ⟨_, _⟩ := hbis)))) <;> (try simp only [↓R1, RR, seval, q1, q2, hw, hd, hd2, beq_self_eq_true, bne_self_eq_false])))
      (refine endP_pu (by simp) (by first | (simp [rvsS, rvS]; done) | (simp only [rvsS, rvS, ↓R1, RR, seval, q1, q2, hw, hd, hd2, beq_self_eq_true, bne_self_eq_false]; try simp)) (wk_of_eq ?_) (by (repeat (first | exact St.le_refl _ | (refine St.le_new ?_ (by assumption)) | (refine St.le_newT ?_ (by assumption))))))
      (simp only [resAV, rvV, List.map_cons, List.map_nil, ↓R1, RR, seval, q1, q2, hw, hd, hd2, beq_self_eq_true, bne_self_eq_false])
  · have q2 : ((a.length : Int) != (b.length : Int)) = true := by rw [bne_iff_ne]; omega
    have hne : decide (a = b) = false := decide_eq_false (fun e => hab (by rw [e]))
    rw [hne]
    (refine Pu_intro c20 b20 (Nat.le_of_ble_eq_true rfl) fun σ => ?_; simp only [c20, ↓R1, RR, seval, q1, q2, hw, hd, hd2, beq_self_eq_true, bne_self_eq_false])
    repeat' (first | (with_reducible rw [allocV_eq]) | (with_reducible refine And.intro ?_ ?_; focus (intros; (repeat' (with_reducible apply And.intro)) <;> first | omega | (simp only [RZ, cP_len, cId_len, cI_len]; omega))) | (with_reducible apply And.intro) | ((first | (refine gdV_split (fun hc => ?_) (fun hc => ?_) <;> (try simp only [hc, ↓R1, RR, seval, q1, q2, hw, hd, hd2, beq_self_eq_true, bne_self_eq_false])) | refine condV_split (fun hc => ?_) (fun hc => ?_) | (with_reducible intro β hβ; (try simp only [RB] at hβ); (repeat (obtain ⟨⟨_, _⟩, hβ⟩ := hβ)); (try (have hbis := apart_is (by assumption) hβ; obtain ⟨_, _⟩ := hbis)))) <;> (try simp only [↓R1, RR, seval, q1, q2, hw, hd, hd2, beq_self_eq_true, bne_self_eq_false])))
    (refine endP_pu (by simp) (by first | (simp [rvsS, rvS]; done) | (simp only [rvsS, rvS, ↓R1, RR, seval, q1, q2, hw, hd, hd2, beq_self_eq_true, bne_self_eq_false]; try simp)) (wk_of_eq ?_) (by (repeat (first | exact St.le_refl _ | (refine St.le_new ?_ (by assumption)) | (refine St.le_newT ?_ (by assumption))))))
    (simp only [resAV, rvV, List.map_cons, List.map_nil, ↓R1, RR, seval, q1, q2, hw, hd, hd2, beq_self_eq_true, bne_self_eq_false])
end Go.Proofs.YtncadbcjikekhaaGreatDoor
namespace Go.Proofs.YtncadbcjikekhaaGreatDoor
open Go.Abs
set_option linter.all false
set_option maxRecDepth 100000
theorem add64 (x y : BitVec 64) : IntKind.u64.wrap ((x.toNat : Int) + y.toNat) = ((x + y).toNat : Int) := by
  rw [IntKind.wrap_u64, BitVec.toNat_add]; omega
theorem k1 : (6148914691236517205 : Int) = ((6148914691236517205#64 : BitVec 64).toNat : Int) := rfl
theorem k2 : (3689348814741910323 : Int) = ((3689348814741910323#64 : BitVec 64).toNat : Int) := rfl
theorem k3 : (1085102592571150095 : Int) = ((1085102592571150095#64 : BitVec 64).toNat : Int) := rfl
end Go.Proofs.YtncadbcjikekhaaGreatDoor
