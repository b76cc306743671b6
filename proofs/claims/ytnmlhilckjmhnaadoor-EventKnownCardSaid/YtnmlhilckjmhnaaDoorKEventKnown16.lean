/- Part 16 of the proof of EventKnown: an abstract semantics that is proved sound for the model, contracts of functions in it, and plain facts (LW1 LW2 LW4 LW5 LR9 EV1 LW6 LR6). No condition. -/
import Derived.Test.YtnmlhilckjmhnaaDoorKEventKnown15
import Derived.Shelf.Spec.TrailingZeros
set_option linter.all false
namespace Go.Proofs.YtnmlhilckjmhnaaDoor
open Go.Abs
set_option linter.all false
set_option maxRecDepth 100000
def gTab : List AV := Lib.deBruijn64tab.map fun n => AV.int .u8 (n : Nat)
def gls : List (Nat × List AV) := [(0, gTab)]
theorem gls_get {σ : St} (h : GlobsOk gls σ) : σ.glob 0 = some gTab := h _ _ rfl
theorem w_zero {a : BitVec 64} (h : a.toNat = 0) : a = 0#64 := BitVec.eq_of_toNat_eq (by simpa using h)
theorem map_getD (l : List Nat) (i c : Nat) (h : i < l.length) (e : l.getD i 0 = c) : (l.map fun n => AV.int .u8 (n : Nat))[i]? = some (.int .u8 (c : Int)) := by
  rw [List.getD_eq_getElem?_getD, List.getElem?_eq_getElem h] at e
  rw [List.getElem?_map, List.getElem?_eq_getElem h, ← e]
  rfl
/-- What the table's place is reckoned to be. -/
theorem tz_place (a : BitVec 64) (ha : a ≠ 0#64) : ∃ idx : Nat, (IntKind.u64.wrap (bits .and .u64 (a.toNat : Int) (IntKind.u64.wrap (0 - (a.toNat : Int))) * 285870213051353865)).fdiv (2 ^ min (Int.toNat 58) IntKind.u64.bits) = (idx : Int) ∧ idx < 64 ∧ gTab[idx]? = some (.int .u8 ((Lib.ctz 64 a.toNat : Nat) : Int)) := by
  have h0 : a.toNat ≠ 0 := fun h => ha (w_zero h)
  obtain ⟨hlow, hk⟩ := Lib.lowest_bit 64 a.toNat h0 a.isLt
  obtain ⟨hi, htab⟩ := Lib.deBruijn64_at _ hk
  have key := Go.Proofs.tz64_key a.toNat _ a.isLt h0 hlow
  generalize 2 ^ Lib.ctz 64 a.toNat * 285870213051353865 % 18446744073709551616 / 288230376151711744 = idx at hi htab key
  obtain ⟨c, hc⟩ : ∃ c, Lib.ctz 64 a.toNat = c := ⟨_, rfl⟩
  rw [hc] at htab ⊢
  clear hc hlow hk
  refine ⟨idx, ?_, hi, ?_⟩
  · have e : (2 : Int) ^ min (Int.toNat 58) IntKind.u64.bits = 288230376151711744 := by simp [IntKind.bits]
    rw [e, Int.zero_sub, Int.fdiv_eq_ediv_of_nonneg _ (by decide : (0 : Int) ≤ 288230376151711744)]; exact key
  · exact map_getD Lib.deBruijn64tab idx c (show idx < 64 from hi) htab
theorem gTab_len : gTab.length = 64 := by decide
theorem ctz_i64 (a : BitVec 64) (ha : a ≠ 0#64) : IntKind.i64.wrap ((Lib.ctz 64 a.toNat : Nat) : Int) = ((Lib.ctz 64 a.toNat : Nat) : Int) := by
  have := (ctz_bits a ha).1
  rw [wrap64 (by omega) (by omega)]
theorem p78 (a : BitVec 64) (ha : a ≠ 0#64) : PuG Tryd.prog gls 78 [.int .u64 a.toNat] (.int .i64 ((Lib.ctz 64 a.toNat : Nat) : Int)) := by
  have h0 : a.toNat ≠ 0 := fun h => ha (w_zero h)
  obtain ⟨idx, hidx, hi, ht⟩ := tz_place a ha
  have hz : ((a.toNat : Int) == 0) = false := by simp; omega
  (refine PuG_intro c78 b78 (Nat.le_of_ble_eq_true rfl) fun σ hσ => ?_; simp only [c78, ↓R1, R2, R3, R4, R5, Nat.reduceEqDiff, Nat.reduceAdd, Nat.reduceMul, Nat.reduceSub, Nat.reduceLeDiff, Nat.reduceLT, reduceIte, reduceCtorEq, Int.reduceBNe, Int.reduceBEq])
  have hg := gls_get hσ
  have hl := gTab_len
  have hd : (List.drop (idx * 1) gTab)[0]? = some (.int .u8 ((Lib.ctz 64 a.toNat : Nat) : Int)) := by
    rw [Nat.mul_one, List.getElem?_drop, Nat.add_zero]; exact ht
  simp only [hz, hg, hidx, ↓R1, R2, R3, R4, R5, Nat.reduceEqDiff, Nat.reduceAdd, Nat.reduceMul, Nat.reduceSub, Nat.reduceLeDiff, Nat.reduceLT, reduceIte, reduceCtorEq, Int.reduceBNe, Int.reduceBEq]
  rw [hd]
  refine ⟨by decide, ⟨by omega, by omega, by omega⟩, by simp; omega, trivial, ?_⟩
  (refine endP_pu (by simp) (by first | (simp [rvsS, rvS]; done) | (simp only [rvsS, rvS, ↓R1, R2, R3, R4, R5, Nat.reduceEqDiff, Nat.reduceAdd, Nat.reduceMul, Nat.reduceSub, Nat.reduceLeDiff, Nat.reduceLT, reduceIte, reduceCtorEq, Int.reduceBNe, Int.reduceBEq]; try simp)) (wk_of_eq ?_) (by (repeat (first | exact St.le_refl _ | (refine St.le_new ?_ (by assumption)) | (refine St.le_newT ?_ (by assumption))))))
  (simp only [resAV, rvV, List.map_cons, List.map_nil, ↓R1, R2, R3, R4, R5, Nat.reduceEqDiff, Nat.reduceAdd, Nat.reduceMul, Nat.reduceSub, Nat.reduceLeDiff, Nat.reduceLT, reduceIte, reduceCtorEq, Int.reduceBNe, Int.reduceBEq])
  rw [ctz_i64 a ha]
end Go.Proofs.YtnmlhilckjmhnaaDoor
namespace Go.Proofs.YtnmlhilckjmhnaaDoor
open Go.Abs
set_option linter.all false
set_option maxRecDepth 100000
theorem w_ne (b : BitVec 64) : ((b.toNat : Int) != 0) = !(b == 0#64) := by
  rw [show (0 : Int) = ((0#64 : BitVec 64).toNat : Int) by rfl, bne, eq64]
theorem w_sub1 (b : BitVec 64) : IntKind.u64.wrap ((b.toNat : Int) - 1) = ((b - 1#64).toNat : Int) := by
  rw [IntKind.wrap_u64, BitVec.toNat_sub]
  simp only [BitVec.toNat_ofNat]
  have := b.isLt
  omega
theorem p63 (a : BitVec 64) (σ : St) : AC Tryd.prog 63 [.int .u64 a.toNat] σ (fun r s => ∃ β, σ.box β = none ∧ r = .fn 77 [.ptr β 0] ∧ s = σ.setBox β [.int .u64 a.toNat]) := by
  refine AC_intro c63 b63 (Nat.le_of_ble_eq_true rfl) ?_
  simp only [c63, ↓R1, R2, R3, R4, R5, Nat.reduceEqDiff, Nat.reduceAdd, Nat.reduceMul, Nat.reduceSub, Nat.reduceLeDiff, Nat.reduceLT, reduceIte, reduceCtorEq, Int.reduceBNe, Int.reduceBEq]
  intro β hβ
  refine endP_id (by simp) (by simp [rvsS, rvS]) ?_
  exact ⟨β, hβ, rfl, rfl⟩
/-- A loop over the categories of a label: 'T pre b' is the state when 'pre' have come, b's categories being still to come. -/
theorem RF_each {prs : List Nat} {asg body : CC} {fr : Fr} {Q : Exit → Fr → St → Prop} {β : Nat} (a : BitVec 64) (T : List Nat → BitVec 64 → St) (I : List Nat → Prop) (hps : prs.length = 1) (hI0 : I [])
    (hb : ∀ pre b, (T pre b).box β = some [.int .u64 b.toNat]) (hs : ∀ pre b b', (T pre b).setBox β [.int .u64 b'.toNat] = T pre b') (hg : ∀ pre b, GlobsOk gls (T pre b)) (hl : ∀ pre b L, (T pre b).lp L = (T [] a).lp L)
    (hround : ∀ L r pre k b, (T [] a).lp L = none → I pre → (∃ rest, cats a = pre ++ k :: rest) → aC Tryd.prog asg (putL prs [.int .i64 (k : Nat)] fr) ((T pre b).setLp L (r, fr)) (fun e fr1 σ2 => e = .normal ∧ σ2 = (T pre b).setLp L (r, fr) ∧
      aC Tryd.prog body fr1 ((T pre b).setLp L (busy r, fr)) (fun e _ σ3 => match e with
        | .normal => ∃ s, σ3 = s.setLp L (busy r, fr) ∧ s.lp L = none ∧ s = T (pre ++ [k]) b ∧ I (pre ++ [k])
        | .ret => ∃ s, σ3 = s.setLp L (busy r, fr) ∧ s.lp L = none ∧ Q .ret fr s
        | .exit id => ∃ s, σ3 = s.setLp L (busy r, fr) ∧ s.lp L = none ∧ Q (.exit id) fr s
        | _ => False)))
    (hend : I (cats a) → Q .normal fr (T (cats a) 0#64)) : RF Tryd.prog 77 [.ptr β 0] prs asg body fr (T [] a) Q := by
  refine ⟨by kernel_rfl, fun L r hL hr1 hr2 hY => ?_⟩
  have hg' : ∀ pre b, GlobsOk gls ((T pre b).setLp L (r, fr)) := fun pre b => hg pre b
  have hb' : ∀ pre b, ((T pre b).setLp L (r, fr)).box β = some [.int .u64 b.toNat] := fun pre b => hb pre b
  have hs' : ∀ pre b b', ((T pre b).setLp L (r, fr)).setBox β [.int .u64 b'.toNat] = (T pre b').setLp L (r, fr) := fun pre b b' => by rw [← St.setBox_setLp, hs]
  have hY' : ∀ pre k b, I pre → (∃ rest, cats a = pre ++ k :: rest) → YC Tryd.prog L [.int .i64 (k : Nat)] ((T pre b).setLp L (r, fr)) _ := fun pre k b hi hk =>
    RF_round (by rw [hl, hL]) hY (by simpa using hps.symm) (hround L r pre k b hL hi hk)
  refine AC_intro c77 b77 (Nat.le_of_ble_eq_true rfl) ?_
  simp only [c77, ↓R1, R2, R3, R4, R5, Nat.reduceEqDiff, Nat.reduceAdd, Nat.reduceMul, Nat.reduceSub, Nat.reduceLeDiff, Nat.reduceLT, reduceIte, reduceCtorEq, Int.reduceBNe, Int.reduceBEq]
  refine loopV_st (α := List Nat × BitVec 64) (fun _ => [(0, .yld L), (1, .ptr β 0)]) (fun z => (T z.1 z.2).setLp L (r, fr)) (fun z => cats a = z.1 ++ cats z.2 ∧ I z.1) (fun z => (cats z.2).length) ([], a) (by simp [subF, slot, wk_refl]) (St.le_refl _) ⟨rfl, hI0⟩ ?_
  rintro ⟨pre, b⟩ ⟨hI, hIp⟩
  simp only at hI hIp ⊢
  simp only [hb, w_ne, ↓R1, R2, R3, R4, R5, Nat.reduceEqDiff, Nat.reduceAdd, Nat.reduceMul, Nat.reduceSub, Nat.reduceLeDiff, Nat.reduceLT, reduceIte, reduceCtorEq, Int.reduceBNe, Int.reduceBEq]
  refine condV_split (fun hc => ?_) (fun hc => ?_)
  · have hb0 : b ≠ 0#64 := by simpa using hc
    have hcs := cats_step b hb0
    simp only [hb, ↓R1, R2, R3, R4, R5, Nat.reduceEqDiff, Nat.reduceAdd, Nat.reduceMul, Nat.reduceSub, Nat.reduceLeDiff, Nat.reduceLT, reduceIte, reduceCtorEq, Int.reduceBNe, Int.reduceBEq]
    refine PuG.to (p78 b hb0) (hg' _ _) (wkL_refl _) ?_
    simp only [hb, ↓R1, R2, R3, R4, R5, Nat.reduceEqDiff, Nat.reduceAdd, Nat.reduceMul, Nat.reduceSub, Nat.reduceLeDiff, Nat.reduceLT, reduceIte, reduceCtorEq, Int.reduceBNe, Int.reduceBEq]
    refine (hY' pre (Lib.ctz 64 b.toNat) b hIp ⟨_, by rw [hI, hcs]⟩).mono ?_
    rintro v s' (⟨rfl, s, rfl, hsl, rfl, hIn⟩ | ⟨rfl, h2⟩)
    · simp only [hb, w_sub1, bits_and64, hs', ↓R1, R2, R3, R4, R5, Nat.reduceEqDiff, Nat.reduceAdd, Nat.reduceMul, Nat.reduceSub, Nat.reduceLeDiff, Nat.reduceLT, reduceIte, reduceCtorEq, Int.reduceBNe, Int.reduceBEq]
      refine ⟨(pre ++ [Lib.ctz 64 b.toNat], b &&& b - 1#64), ⟨by simp only; rw [hI, hcs]; simp, hIn⟩, by simp [subF, slot, wk_refl], St.le_refl _, by simp only [hcs, List.length_cons]; omega⟩
    · simp only [↓R1, R2, R3, R4, R5, Nat.reduceEqDiff, Nat.reduceAdd, Nat.reduceMul, Nat.reduceSub, Nat.reduceLeDiff, Nat.reduceLT, reduceIte, reduceCtorEq, Int.reduceBNe, Int.reduceBEq]
      refine endP_id (by simp) (by simp [rvsS]) (.inr ?_)
      rcases h2 with ⟨s, rfl, h3, h4⟩ | ⟨id, s, rfl, h3, h4⟩
      · exact .inl ⟨St.lp_same _ _ _, by rw [St.drop_set h3]; exact h4⟩
      · exact .inr ⟨id, St.lp_same _ _ _, by rw [St.drop_set h3]; exact h4⟩
  · have hb0 : b = 0#64 := by simpa using hc
    subst hb0
    rw [cats_zero, List.append_nil] at hI
    subst hI
    simp only [↓R1, R2, R3, R4, R5, Nat.reduceEqDiff, Nat.reduceAdd, Nat.reduceMul, Nat.reduceSub, Nat.reduceLeDiff, Nat.reduceLT, reduceIte, reduceCtorEq, Int.reduceBNe, Int.reduceBEq]
    refine endP_id (by simp) (by simp [rvsS]) (.inl ⟨St.lp_same _ _ _, ?_⟩)
    rw [St.drop_set (by rw [hl, hL])]
    exact hend hIp
end Go.Proofs.YtnmlhilckjmhnaaDoor
namespace Go.Proofs.YtnmlhilckjmhnaaDoor
open Go.Abs
set_option linter.all false
set_option maxRecDepth 100000
theorem get1 {α : Type} (g : α → AV) (l : List α) (k : Nat) (h : k < l.length) : ((l.map g).drop (k * 1)).take 1 = [g l[k]] := by
  rw [Nat.mul_one, ← List.map_drop, List.drop_eq_getElem_cons h, List.map_cons]
  simp
theorem foldl_take {α β : Type} (f : β → α → β) (b : β) (l : List α) (k : Nat) (h : k < l.length) : f ((l.take k).foldl f b) l[k] = (l.take (k + 1)).foldl f b := by
  rw [← List.take_append_getElem h, List.foldl_append]; rfl
theorem lt_len {k n : Nat} : decide ((k : Int) < (n : Int)) = decide (k < n) := by simp
end Go.Proofs.YtnmlhilckjmhnaaDoor
namespace Go.Proofs.YtnmlhilckjmhnaaDoor
open Go.Abs
set_option linter.all false
set_option maxRecDepth 100000
/-- The byte at a place, the highest one first. -/
def byteN (a : BitVec 64) (i : Nat) : Nat := a.toNat / 2 ^ (56 - 8 * i) % 256
def bytesL (a : BitVec 64) : List UInt8 := (List.range 8).map fun i => UInt8.ofNat (byteN a i)
end Go.Proofs.YtnmlhilckjmhnaaDoor
namespace Go.Proofs.YtnmlhilckjmhnaaDoor
open Go.Abs
set_option linter.all false
set_option maxRecDepth 100000
theorem add64 (x y : BitVec 64) : IntKind.u64.wrap ((x.toNat : Int) + y.toNat) = ((x + y).toNat : Int) := by
  rw [IntKind.wrap_u64, BitVec.toNat_add]; omega
theorem k1 : (6148914691236517205 : Int) = ((6148914691236517205#64 : BitVec 64).toNat : Int) := rfl
theorem k2 : (3689348814741910323 : Int) = ((3689348814741910323#64 : BitVec 64).toNat : Int) := rfl
theorem k3 : (1085102592571150095 : Int) = ((1085102592571150095#64 : BitVec 64).toNat : Int) := rfl
def stepB (b : BitVec 64) (c : UInt8) : BitVec 64 := b <<< 8 ||| BitVec.ofNat 64 c.toNat
theorem step8 (b : BitVec 64) (c : UInt8) : bits .or .u64 (IntKind.u64.wrap ((b.toNat : Int) * 2 ^ min (Int.toNat 8) IntKind.u64.bits)) (IntKind.u64.wrap ((c.toNat : Nat) : Int)) = ((stepB b c).toNat : Int) := by
  have h1 : IntKind.u64.wrap ((b.toNat : Int) * 2 ^ min (Int.toNat 8) IntKind.u64.bits) = ((b <<< 8).toNat : Int) := shl64 b 8 (by decide)
  have hc := c.toNat_lt
  have h2 : IntKind.u64.wrap ((c.toNat : Nat) : Int) = ((BitVec.ofNat 64 c.toNat).toNat : Int) := by
    rw [IntKind.wrap_u64, BitVec.toNat_ofNat]; omega
  rw [h2, h1, bits_or64]
  rfl
theorem at_k {s : List UInt8} {k : Nat} (h : k < s.length) : s[k]?.getD 0 = s[k] := by simp [h]
/-- The first k of the bytes. -/
def rowK (a : BitVec 64) (k : Nat) : List AV := (List.range k).map fun i => .int .u8 (byteN a i : Nat)
theorem rowK_len (a : BitVec 64) (k : Nat) : (rowK a k).length = k := by simp [rowK]
theorem rowK_step (a : BitVec 64) (k : Nat) : rowK a k ++ [.int .u8 (byteN a k : Nat)] = rowK a (k + 1) := by simp [rowK, List.range_succ]
theorem rowK_bytes (a : BitVec 64) : (rowK a 8).map Go.Abs.byteOf = bytesL a := by
  simp only [rowK, bytesL, List.map_map]
  apply List.map_congr_left
  intro i _
  simp [Go.Abs.byteOf]
theorem rowK_isByte (a : BitVec 64) (k : Nat) : (rowK a k).all isByte = true := by
  rw [List.all_eq_true]
  intro x hx
  obtain ⟨i, _, rfl⟩ := List.mem_map.1 hx
  rfl
theorem byte_k (a : BitVec 64) (k : Nat) : IntKind.u8.wrap ((a.toNat : Int).fdiv (2 ^ min (56 - 8 * k) IntKind.u64.bits)) = (byteN a k : Nat) := by
  have e4 : min (56 - 8 * k) IntKind.u64.bits = 56 - 8 * k := Nat.min_eq_left (by simp [IntKind.bits]; omega)
  rw [e4, Int.fdiv_eq_ediv_of_nonneg _ (Int.pow_nonneg (by omega))]
  have e5 : ((a.toNat : Int) / 2 ^ (56 - 8 * k)) = ((a.toNat / 2 ^ (56 - 8 * k) : Nat) : Int) := by simp
  rw [e5]
  unfold byteN
  simp [IntKind.wrap, IntKind.signed, IntKind.bits]
end Go.Proofs.YtnmlhilckjmhnaaDoor
namespace Go.Proofs.YtnmlhilckjmhnaaDoor
open Go.Abs
set_option linter.all false
set_option maxRecDepth 100000
def checkE (k : Int) : Int := bif decide (k < 0) || decide (26 ≤ k) then 11 else 0
def idE (n : Int) : Int := bif decide (n < 1) || decide (1099511627776 < n) then 2 else 0
def soundE (no o t k : Int) : Int := bif idE no == 0 then (bif checkE k == 0 then (bif (decide (o < 1) || decide (1099511627776 < o)) || decide (1099511627776 < t) then 2 else 0) else checkE k) else idE no
def storeE (no o t k : Int) : Int := bif checkE k == 0 then soundE no o t k else checkE k
def storeC (l k v no o t : Int) : List AV := bif storeE no o t k == 0 then [.int .u64 l, .int .u64 no, .int .u64 o, .int .u64 t, .int .i64 k, .int .i64 v] else [.int .u64 0, .int .u64 0, .int .u64 0, .int .u64 0, .int .i64 0, .int .i64 0]
def cmpI (a m b n : Int) : Int := bif (a == b) && (m == n) then 0 else bif decide (a < b) || ((a == b) && decide (m < n)) then -1 else 1
theorem p25 (l k v : Int) : Pu Tryd.prog 25 [.agg [.int .u64 l, .int .i64 k, .int .i64 v]] (.int .i64 (checkE k)) := by
  (refine Pu_intro c25 b25 (Nat.le_of_ble_eq_true rfl) fun σ => ?_; simp only [c25, ↓R1, R2, R3, R4, R5, Nat.reduceEqDiff, Nat.reduceAdd, Nat.reduceMul, Nat.reduceSub, Nat.reduceLeDiff, Nat.reduceLT, reduceIte, reduceCtorEq, Int.reduceBNe, Int.reduceBEq])
  repeat' (first | (with_reducible rw [allocV_eq]) | (refine gdV_split (fun hc => ?_) (fun hc => ?_) <;> (try simp only [hc, ↓R1, R2, R3, R4, R5, Nat.reduceEqDiff, Nat.reduceAdd, Nat.reduceMul, Nat.reduceSub, Nat.reduceLeDiff, Nat.reduceLT, reduceIte, reduceCtorEq, Int.reduceBNe, Int.reduceBEq])) | ((first | refine condV_split (fun hc => ?_) (fun hc => ?_) | (with_reducible intro β hβ; (try simp only [St.box_noneA, St.tip_noneA, St.tip_set, St.box_tip, St.box_lp, St.tip_lp] at hβ); (repeat (obtain ⟨⟨_, _⟩, hβ⟩ := hβ)); (try (have hbis := apart_is (by assumption) hβ; obtain ⟨_, _⟩ := hbis)))) <;> (try simp only [↓R1, R2, R3, R4, R5, Nat.reduceEqDiff, Nat.reduceAdd, Nat.reduceMul, Nat.reduceSub, Nat.reduceLeDiff, Nat.reduceLT, reduceIte, reduceCtorEq, Int.reduceBNe, Int.reduceBEq])) | (with_reducible refine And.intro ?_ ?_; (focus (first | omega | (intros; (repeat' (with_reducible apply And.intro)) <;> first | omega | (simp only [List.length_map, List.length_append]; omega))))) | (with_reducible apply And.intro))
  all_goals first | ((refine endP_pu (by simp) (by first | (simp [rvsS, rvS]; done) | (simp only [rvsS, rvS, ↓R1, R2, R3, R4, R5, Nat.reduceEqDiff, Nat.reduceAdd, Nat.reduceMul, Nat.reduceSub, Nat.reduceLeDiff, Nat.reduceLT, reduceIte, reduceCtorEq, Int.reduceBNe, Int.reduceBEq]; try simp)) (wk_of_eq ?_) (by (repeat (first | exact St.le_refl _ | (refine St.le_new ?_ (by assumption)) | (refine St.le_newT ?_ (by assumption)))))); (simp only [resAV, rvV, List.map_cons, List.map_nil, ↓R1, R2, R3, R4, R5, Nat.reduceEqDiff, Nat.reduceAdd, Nat.reduceMul, Nat.reduceSub, Nat.reduceLeDiff, Nat.reduceLT, reduceIte, reduceCtorEq, Int.reduceBNe, Int.reduceBEq]); simp [checkE, hc]; done) | (exfalso; simp_all; done) | skip
theorem p38 (l n : Int) : Pu Tryd.prog 38 [.agg [.int .u64 l, .int .u64 n]] (.int .i64 (idE n)) := by
  (refine Pu_intro c38 b38 (Nat.le_of_ble_eq_true rfl) fun σ => ?_; simp only [c38, ↓R1, R2, R3, R4, R5, Nat.reduceEqDiff, Nat.reduceAdd, Nat.reduceMul, Nat.reduceSub, Nat.reduceLeDiff, Nat.reduceLT, reduceIte, reduceCtorEq, Int.reduceBNe, Int.reduceBEq])
  repeat' (first | (with_reducible rw [allocV_eq]) | (refine gdV_split (fun hc => ?_) (fun hc => ?_) <;> (try simp only [hc, ↓R1, R2, R3, R4, R5, Nat.reduceEqDiff, Nat.reduceAdd, Nat.reduceMul, Nat.reduceSub, Nat.reduceLeDiff, Nat.reduceLT, reduceIte, reduceCtorEq, Int.reduceBNe, Int.reduceBEq])) | ((first | refine condV_split (fun hc => ?_) (fun hc => ?_) | (with_reducible intro β hβ; (try simp only [St.box_noneA, St.tip_noneA, St.tip_set, St.box_tip, St.box_lp, St.tip_lp] at hβ); (repeat (obtain ⟨⟨_, _⟩, hβ⟩ := hβ)); (try (have hbis := apart_is (by assumption) hβ; obtain ⟨_, _⟩ := hbis)))) <;> (try simp only [↓R1, R2, R3, R4, R5, Nat.reduceEqDiff, Nat.reduceAdd, Nat.reduceMul, Nat.reduceSub, Nat.reduceLeDiff, Nat.reduceLT, reduceIte, reduceCtorEq, Int.reduceBNe, Int.reduceBEq])) | (with_reducible refine And.intro ?_ ?_; (focus (first | omega | (intros; (repeat' (with_reducible apply And.intro)) <;> first | omega | (simp only [List.length_map, List.length_append]; omega))))) | (with_reducible apply And.intro))
  all_goals first | ((refine endP_pu (by simp) (by first | (simp [rvsS, rvS]; done) | (simp only [rvsS, rvS, ↓R1, R2, R3, R4, R5, Nat.reduceEqDiff, Nat.reduceAdd, Nat.reduceMul, Nat.reduceSub, Nat.reduceLeDiff, Nat.reduceLT, reduceIte, reduceCtorEq, Int.reduceBNe, Int.reduceBEq]; try simp)) (wk_of_eq ?_) (by (repeat (first | exact St.le_refl _ | (refine St.le_new ?_ (by assumption)) | (refine St.le_newT ?_ (by assumption)))))); (simp only [resAV, rvV, List.map_cons, List.map_nil, ↓R1, R2, R3, R4, R5, Nat.reduceEqDiff, Nat.reduceAdd, Nat.reduceMul, Nat.reduceSub, Nat.reduceLeDiff, Nat.reduceLT, reduceIte, reduceCtorEq, Int.reduceBNe, Int.reduceBEq]); simp [idE, hc]; done) | (exfalso; simp_all; done) | skip
theorem p16 (l n o t k v : Int) : Pu Tryd.prog 16 [.agg [.int .u64 l, .int .u64 n, .int .u64 o, .int .u64 t, .int .i64 k, .int .i64 v]] (.agg [.int .u64 l, .int .i64 k, .int .i64 v]) := by
  (refine Pu_intro c16 b16 (Nat.le_of_ble_eq_true rfl) fun σ => ?_; simp only [c16, ↓R1, R2, R3, R4, R5, Nat.reduceEqDiff, Nat.reduceAdd, Nat.reduceMul, Nat.reduceSub, Nat.reduceLeDiff, Nat.reduceLT, reduceIte, reduceCtorEq, Int.reduceBNe, Int.reduceBEq])
  repeat' (first | (with_reducible rw [allocV_eq]) | (refine gdV_split (fun hc => ?_) (fun hc => ?_) <;> (try simp only [hc, ↓R1, R2, R3, R4, R5, Nat.reduceEqDiff, Nat.reduceAdd, Nat.reduceMul, Nat.reduceSub, Nat.reduceLeDiff, Nat.reduceLT, reduceIte, reduceCtorEq, Int.reduceBNe, Int.reduceBEq])) | ((first | refine condV_split (fun hc => ?_) (fun hc => ?_) | (with_reducible intro β hβ; (try simp only [St.box_noneA, St.tip_noneA, St.tip_set, St.box_tip, St.box_lp, St.tip_lp] at hβ); (repeat (obtain ⟨⟨_, _⟩, hβ⟩ := hβ)); (try (have hbis := apart_is (by assumption) hβ; obtain ⟨_, _⟩ := hbis)))) <;> (try simp only [↓R1, R2, R3, R4, R5, Nat.reduceEqDiff, Nat.reduceAdd, Nat.reduceMul, Nat.reduceSub, Nat.reduceLeDiff, Nat.reduceLT, reduceIte, reduceCtorEq, Int.reduceBNe, Int.reduceBEq])) | (with_reducible refine And.intro ?_ ?_; (focus (first | omega | (intros; (repeat' (with_reducible apply And.intro)) <;> first | omega | (simp only [List.length_map, List.length_append]; omega))))) | (with_reducible apply And.intro))
  (refine endP_pu (by simp) (by first | (simp [rvsS, rvS]; done) | (simp only [rvsS, rvS, ↓R1, R2, R3, R4, R5, Nat.reduceEqDiff, Nat.reduceAdd, Nat.reduceMul, Nat.reduceSub, Nat.reduceLeDiff, Nat.reduceLT, reduceIte, reduceCtorEq, Int.reduceBNe, Int.reduceBEq]; try simp)) (wk_of_eq ?_) (by (repeat (first | exact St.le_refl _ | (refine St.le_new ?_ (by assumption)) | (refine St.le_newT ?_ (by assumption))))))
  (simp only [resAV, rvV, List.map_cons, List.map_nil, ↓R1, R2, R3, R4, R5, Nat.reduceEqDiff, Nat.reduceAdd, Nat.reduceMul, Nat.reduceSub, Nat.reduceLeDiff, Nat.reduceLT, reduceIte, reduceCtorEq, Int.reduceBNe, Int.reduceBEq])
theorem p17 (l n o t k v : Int) : Pu Tryd.prog 17 [.agg [.int .u64 l, .int .u64 n, .int .u64 o, .int .u64 t, .int .i64 k, .int .i64 v]] (.int .i64 (soundE n o t k)) := by
  (refine Pu_intro c17 b17 (Nat.le_of_ble_eq_true rfl) fun σ => ?_; simp only [c17, ↓R1, R2, R3, R4, R5, Nat.reduceEqDiff, Nat.reduceAdd, Nat.reduceMul, Nat.reduceSub, Nat.reduceLeDiff, Nat.reduceLT, reduceIte, reduceCtorEq, Int.reduceBNe, Int.reduceBEq])
  repeat' (first | (with_reducible rw [allocV_eq]) | (refine gdV_split (fun hc => ?_) (fun hc => ?_) <;> (try simp only [hc, ↓R1, R2, R3, R4, R5, Nat.reduceEqDiff, Nat.reduceAdd, Nat.reduceMul, Nat.reduceSub, Nat.reduceLeDiff, Nat.reduceLT, reduceIte, reduceCtorEq, Int.reduceBNe, Int.reduceBEq])) | ((first | refine condV_split (fun hc => ?_) (fun hc => ?_) | (with_reducible intro β hβ; (try simp only [St.box_noneA, St.tip_noneA, St.tip_set, St.box_tip, St.box_lp, St.tip_lp] at hβ); (repeat (obtain ⟨⟨_, _⟩, hβ⟩ := hβ)); (try (have hbis := apart_is (by assumption) hβ; obtain ⟨_, _⟩ := hbis)))) <;> (try simp only [↓R1, R2, R3, R4, R5, Nat.reduceEqDiff, Nat.reduceAdd, Nat.reduceMul, Nat.reduceSub, Nat.reduceLeDiff, Nat.reduceLT, reduceIte, reduceCtorEq, Int.reduceBNe, Int.reduceBEq])) | (with_reducible refine And.intro ?_ ?_; (focus (first | omega | (intros; (repeat' (with_reducible apply And.intro)) <;> first | omega | (simp only [List.length_map, List.length_append]; omega))))) | (with_reducible apply And.intro) | ((first | refine Pu.to (p38 l n) (wkL_refl _) ?_ | refine callDV_pu (p38 l n) (wkL_refl _) ?_ | refine Pu.to (p16 l n o t k v) (wkL_refl _) ?_ | refine callDV_pu (p16 l n o t k v) (wkL_refl _) ?_ | refine Pu.to (p25 l k v) (wkL_refl _) ?_ | refine callDV_pu (p25 l k v) (wkL_refl _) ?_); (try simp only [↓R1, R2, R3, R4, R5, Nat.reduceEqDiff, Nat.reduceAdd, Nat.reduceMul, Nat.reduceSub, Nat.reduceLeDiff, Nat.reduceLT, reduceIte, reduceCtorEq, Int.reduceBNe, Int.reduceBEq])))
  all_goals first | (exfalso; simp_all; done) | ((refine endP_pu (by simp) (by first | (simp [rvsS, rvS]; done) | (simp only [rvsS, rvS, ↓R1, R2, R3, R4, R5, Nat.reduceEqDiff, Nat.reduceAdd, Nat.reduceMul, Nat.reduceSub, Nat.reduceLeDiff, Nat.reduceLT, reduceIte, reduceCtorEq, Int.reduceBNe, Int.reduceBEq]; try simp)) (wk_of_eq ?_) (by (repeat (first | exact St.le_refl _ | (refine St.le_new ?_ (by assumption)) | (refine St.le_newT ?_ (by assumption)))))); (simp only [resAV, rvV, List.map_cons, List.map_nil, ↓R1, R2, R3, R4, R5, Nat.reduceEqDiff, Nat.reduceAdd, Nat.reduceMul, Nat.reduceSub, Nat.reduceLeDiff, Nat.reduceLT, reduceIte, reduceCtorEq, Int.reduceBNe, Int.reduceBEq]); simp only [soundE, Bool.cond_eq_ite]; grind) | (simp_all; done)
theorem p15 (l k v n o t : Int) : Pu Tryd.prog 15 [.agg [.int .u64 l, .int .i64 k, .int .i64 v], .int .u64 n, .int .u64 o, .int .u64 t] (.tup [.agg (storeC l k v n o t), .int .i64 (storeE n o t k)]) := by
  (refine Pu_intro c15 b15 (Nat.le_of_ble_eq_true rfl) fun σ => ?_; simp only [c15, ↓R1, R2, R3, R4, R5, Nat.reduceEqDiff, Nat.reduceAdd, Nat.reduceMul, Nat.reduceSub, Nat.reduceLeDiff, Nat.reduceLT, reduceIte, reduceCtorEq, Int.reduceBNe, Int.reduceBEq])
  repeat' (first | (with_reducible rw [allocV_eq]) | (refine gdV_split (fun hc => ?_) (fun hc => ?_) <;> (try simp only [hc, ↓R1, R2, R3, R4, R5, Nat.reduceEqDiff, Nat.reduceAdd, Nat.reduceMul, Nat.reduceSub, Nat.reduceLeDiff, Nat.reduceLT, reduceIte, reduceCtorEq, Int.reduceBNe, Int.reduceBEq])) | ((first | refine condV_split (fun hc => ?_) (fun hc => ?_) | (with_reducible intro β hβ; (try simp only [St.box_noneA, St.tip_noneA, St.tip_set, St.box_tip, St.box_lp, St.tip_lp] at hβ); (repeat (obtain ⟨⟨_, _⟩, hβ⟩ := hβ)); (try (have hbis := apart_is (by assumption) hβ; obtain ⟨_, _⟩ := hbis)))) <;> (try simp only [↓R1, R2, R3, R4, R5, Nat.reduceEqDiff, Nat.reduceAdd, Nat.reduceMul, Nat.reduceSub, Nat.reduceLeDiff, Nat.reduceLT, reduceIte, reduceCtorEq, Int.reduceBNe, Int.reduceBEq])) | (with_reducible refine And.intro ?_ ?_; (focus (first | omega | (intros; (repeat' (with_reducible apply And.intro)) <;> first | omega | (simp only [List.length_map, List.length_append]; omega))))) | (with_reducible apply And.intro) | ((first | refine Pu.to (p25 l k v) (wkL_refl _) ?_ | refine callDV_pu (p25 l k v) (wkL_refl _) ?_ | refine Pu.to (p17 l n o t k v) (wkL_refl _) ?_ | refine callDV_pu (p17 l n o t k v) (wkL_refl _) ?_); (try simp only [↓R1, R2, R3, R4, R5, Nat.reduceEqDiff, Nat.reduceAdd, Nat.reduceMul, Nat.reduceSub, Nat.reduceLeDiff, Nat.reduceLT, reduceIte, reduceCtorEq, Int.reduceBNe, Int.reduceBEq])))
  all_goals first | (exfalso; simp_all; done) | ((refine endP_pu (by simp) (by first | (simp [rvsS, rvS]; done) | (simp only [rvsS, rvS, ↓R1, R2, R3, R4, R5, Nat.reduceEqDiff, Nat.reduceAdd, Nat.reduceMul, Nat.reduceSub, Nat.reduceLeDiff, Nat.reduceLT, reduceIte, reduceCtorEq, Int.reduceBNe, Int.reduceBEq]; try simp)) (wk_of_eq ?_) (by (repeat (first | exact St.le_refl _ | (refine St.le_new ?_ (by assumption)) | (refine St.le_newT ?_ (by assumption)))))); (simp only [resAV, rvV, List.map_cons, List.map_nil, ↓R1, R2, R3, R4, R5, Nat.reduceEqDiff, Nat.reduceAdd, Nat.reduceMul, Nat.reduceSub, Nat.reduceLeDiff, Nat.reduceLT, reduceIte, reduceCtorEq, Int.reduceBNe, Int.reduceBEq]); simp only [storeC, storeE, Bool.cond_eq_ite]; grind) | (simp_all; done)
theorem p10 (a m b n : Int) : Pu Tryd.prog 10 [.agg [.int .u64 a, .int .u64 m], .agg [.int .u64 b, .int .u64 n]] (.int .i64 (cmpI a m b n)) := by
  (refine Pu_intro c10 b10 (Nat.le_of_ble_eq_true rfl) fun σ => ?_; simp only [c10, ↓R1, R2, R3, R4, R5, Nat.reduceEqDiff, Nat.reduceAdd, Nat.reduceMul, Nat.reduceSub, Nat.reduceLeDiff, Nat.reduceLT, reduceIte, reduceCtorEq, Int.reduceBNe, Int.reduceBEq])
  repeat' (first | (with_reducible rw [allocV_eq]) | (refine gdV_split (fun hc => ?_) (fun hc => ?_) <;> (try simp only [hc, ↓R1, R2, R3, R4, R5, Nat.reduceEqDiff, Nat.reduceAdd, Nat.reduceMul, Nat.reduceSub, Nat.reduceLeDiff, Nat.reduceLT, reduceIte, reduceCtorEq, Int.reduceBNe, Int.reduceBEq])) | ((first | refine condV_split (fun hc => ?_) (fun hc => ?_) | (with_reducible intro β hβ; (try simp only [St.box_noneA, St.tip_noneA, St.tip_set, St.box_tip, St.box_lp, St.tip_lp] at hβ); (repeat (obtain ⟨⟨_, _⟩, hβ⟩ := hβ)); (try (have hbis := apart_is (by assumption) hβ; obtain ⟨_, _⟩ := hbis)))) <;> (try simp only [↓R1, R2, R3, R4, R5, Nat.reduceEqDiff, Nat.reduceAdd, Nat.reduceMul, Nat.reduceSub, Nat.reduceLeDiff, Nat.reduceLT, reduceIte, reduceCtorEq, Int.reduceBNe, Int.reduceBEq])) | (with_reducible refine And.intro ?_ ?_; (focus (first | omega | (intros; (repeat' (with_reducible apply And.intro)) <;> first | omega | (simp only [List.length_map, List.length_append]; omega))))) | (with_reducible apply And.intro))
  all_goals first | (exfalso; simp_all; done) | ((refine endP_pu (by simp) (by first | (simp [rvsS, rvS]; done) | (simp only [rvsS, rvS, ↓R1, R2, R3, R4, R5, Nat.reduceEqDiff, Nat.reduceAdd, Nat.reduceMul, Nat.reduceSub, Nat.reduceLeDiff, Nat.reduceLT, reduceIte, reduceCtorEq, Int.reduceBNe, Int.reduceBEq]; try simp)) (wk_of_eq ?_) (by (repeat (first | exact St.le_refl _ | (refine St.le_new ?_ (by assumption)) | (refine St.le_newT ?_ (by assumption)))))); (simp only [resAV, rvV, List.map_cons, List.map_nil, ↓R1, R2, R3, R4, R5, Nat.reduceEqDiff, Nat.reduceAdd, Nat.reduceMul, Nat.reduceSub, Nat.reduceLeDiff, Nat.reduceLT, reduceIte, reduceCtorEq, Int.reduceBNe, Int.reduceBEq]); simp only [cmpI, Bool.cond_eq_ite]; grind) | (simp_all; done)
theorem p40 : Pu Tryd.prog 40 [] (.agg [.int .u64 257, .int .i64 2, .int .i64 (-2)]) := by
  (refine Pu_intro c40 b40 (Nat.le_of_ble_eq_true rfl) fun σ => ?_; simp only [c40, ↓R1, R2, R3, R4, R5, Nat.reduceEqDiff, Nat.reduceAdd, Nat.reduceMul, Nat.reduceSub, Nat.reduceLeDiff, Nat.reduceLT, reduceIte, reduceCtorEq, Int.reduceBNe, Int.reduceBEq])
  repeat' (first | (with_reducible rw [allocV_eq]) | (refine gdV_split (fun hc => ?_) (fun hc => ?_) <;> (try simp only [hc, ↓R1, R2, R3, R4, R5, Nat.reduceEqDiff, Nat.reduceAdd, Nat.reduceMul, Nat.reduceSub, Nat.reduceLeDiff, Nat.reduceLT, reduceIte, reduceCtorEq, Int.reduceBNe, Int.reduceBEq])) | ((first | refine condV_split (fun hc => ?_) (fun hc => ?_) | (with_reducible intro β hβ; (try simp only [St.box_noneA, St.tip_noneA, St.tip_set, St.box_tip, St.box_lp, St.tip_lp] at hβ); (repeat (obtain ⟨⟨_, _⟩, hβ⟩ := hβ)); (try (have hbis := apart_is (by assumption) hβ; obtain ⟨_, _⟩ := hbis)))) <;> (try simp only [↓R1, R2, R3, R4, R5, Nat.reduceEqDiff, Nat.reduceAdd, Nat.reduceMul, Nat.reduceSub, Nat.reduceLeDiff, Nat.reduceLT, reduceIte, reduceCtorEq, Int.reduceBNe, Int.reduceBEq])) | (with_reducible refine And.intro ?_ ?_; (focus (first | omega | (intros; (repeat' (with_reducible apply And.intro)) <;> first | omega | (simp only [List.length_map, List.length_append]; omega))))) | (with_reducible apply And.intro))
  all_goals first | ((refine endP_pu (by simp) (by first | (simp [rvsS, rvS]; done) | (simp only [rvsS, rvS, ↓R1, R2, R3, R4, R5, Nat.reduceEqDiff, Nat.reduceAdd, Nat.reduceMul, Nat.reduceSub, Nat.reduceLeDiff, Nat.reduceLT, reduceIte, reduceCtorEq, Int.reduceBNe, Int.reduceBEq]; try simp)) (wk_of_eq ?_) (by (repeat (first | exact St.le_refl _ | (refine St.le_new ?_ (by assumption)) | (refine St.le_newT ?_ (by assumption)))))); (simp only [resAV, rvV, List.map_cons, List.map_nil, ↓R1, R2, R3, R4, R5, Nat.reduceEqDiff, Nat.reduceAdd, Nat.reduceMul, Nat.reduceSub, Nat.reduceLeDiff, Nat.reduceLT, reduceIte, reduceCtorEq, Int.reduceBNe, Int.reduceBEq]); done) | (simp_all; done)
end Go.Proofs.YtnmlhilckjmhnaaDoor
namespace Go.Proofs.YtnmlhilckjmhnaaDoor
open Go.Abs
set_option linter.all false
set_option maxRecDepth 100000
def rlAV (r : RL) : AV := .tup [.int .u64 r.l.toNat, .int .i64 (r.used : Nat), .agg [.int .i64 (r.err : Nat), .int .i64 (r.at_ : Nat)]]
theorem p92 (e a : Int) : Pu Tryd.prog 92 [.int .i64 e, .int .i64 a] (.tup [.int .u64 0, .int .i64 0, .agg [.int .i64 e, .int .i64 a]]) := by
  (refine Pu_intro c92 b92 (Nat.le_of_ble_eq_true rfl) fun σ => ?_; simp only [c92, ↓R1, R2, R3, R4, R5, Nat.reduceEqDiff, Nat.reduceAdd, Nat.reduceMul, Nat.reduceSub, Nat.reduceLeDiff, Nat.reduceLT, reduceIte, reduceCtorEq, Int.reduceBNe, Int.reduceBEq, ltN, lt1N, gt63, eqN, bAt123, bAt125, bAt44, bAt48, dig_eq, toNat1, toNat0])
  repeat' (first | (with_reducible rw [allocV_eq]) | (refine gdV_split (fun hc => ?_) (fun hc => ?_) <;> (try simp only [hc, ↓R1, R2, R3, R4, R5, Nat.reduceEqDiff, Nat.reduceAdd, Nat.reduceMul, Nat.reduceSub, Nat.reduceLeDiff, Nat.reduceLT, reduceIte, reduceCtorEq, Int.reduceBNe, Int.reduceBEq, ltN, lt1N, gt63, eqN, bAt123, bAt125, bAt44, bAt48, dig_eq, toNat1, toNat0])) | ((first | refine condV_split (fun hc => ?_) (fun hc => ?_) | (with_reducible intro β hβ; (try simp only [St.box_noneA, St.tip_noneA, St.tip_set, St.box_tip, St.box_lp, St.tip_lp] at hβ); (repeat (obtain ⟨⟨_, _⟩, hβ⟩ := hβ)); (try (have hbis := apart_is (by assumption) hβ; obtain ⟨_, _⟩ := hbis)))) <;> (try simp only [↓R1, R2, R3, R4, R5, Nat.reduceEqDiff, Nat.reduceAdd, Nat.reduceMul, Nat.reduceSub, Nat.reduceLeDiff, Nat.reduceLT, reduceIte, reduceCtorEq, Int.reduceBNe, Int.reduceBEq, ltN, lt1N, gt63, eqN, bAt123, bAt125, bAt44, bAt48, dig_eq, toNat1, toNat0])) | (with_reducible refine And.intro ?_ ?_; (focus (first | omega | (intros; (repeat' (with_reducible apply And.intro)) <;> first | omega | (simp only [List.length_map]; omega))))) | (with_reducible apply And.intro))
  (refine endP_pu (by simp) (by first | (simp [rvsS, rvS]; done) | (simp only [rvsS, rvS, ↓R1, R2, R3, R4, R5, Nat.reduceEqDiff, Nat.reduceAdd, Nat.reduceMul, Nat.reduceSub, Nat.reduceLeDiff, Nat.reduceLT, reduceIte, reduceCtorEq, Int.reduceBNe, Int.reduceBEq, ltN, lt1N, gt63, eqN, bAt123, bAt125, bAt44, bAt48, dig_eq, toNat1, toNat0]; try simp)) (wk_of_eq ?_) (by (repeat (first | exact St.le_refl _ | (refine St.le_new ?_ (by assumption)) | (refine St.le_newT ?_ (by assumption))))))
  (simp only [resAV, rvV, List.map_cons, List.map_nil, ↓R1, R2, R3, R4, R5, Nat.reduceEqDiff, Nat.reduceAdd, Nat.reduceMul, Nat.reduceSub, Nat.reduceLeDiff, Nat.reduceLT, reduceIte, reduceCtorEq, Int.reduceBNe, Int.reduceBEq, ltN, lt1N, gt63, eqN, bAt123, bAt125, bAt44, bAt48, dig_eq, toNat1, toNat0])
theorem p93 (b : UInt8) : Pu Tryd.prog 93 [.int .u8 b.toNat] (.bool (dig b)) := by
  (refine Pu_intro c93 b93 (Nat.le_of_ble_eq_true rfl) fun σ => ?_; simp only [c93, ↓R1, R2, R3, R4, R5, Nat.reduceEqDiff, Nat.reduceAdd, Nat.reduceMul, Nat.reduceSub, Nat.reduceLeDiff, Nat.reduceLT, reduceIte, reduceCtorEq, Int.reduceBNe, Int.reduceBEq, ltN, lt1N, gt63, eqN, bAt123, bAt125, bAt44, bAt48, dig_eq, toNat1, toNat0])
  repeat' (first | (with_reducible rw [allocV_eq]) | (refine gdV_split (fun hc => ?_) (fun hc => ?_) <;> (try simp only [hc, ↓R1, R2, R3, R4, R5, Nat.reduceEqDiff, Nat.reduceAdd, Nat.reduceMul, Nat.reduceSub, Nat.reduceLeDiff, Nat.reduceLT, reduceIte, reduceCtorEq, Int.reduceBNe, Int.reduceBEq, ltN, lt1N, gt63, eqN, bAt123, bAt125, bAt44, bAt48, dig_eq, toNat1, toNat0])) | ((first | refine condV_split (fun hc => ?_) (fun hc => ?_) | (with_reducible intro β hβ; (try simp only [St.box_noneA, St.tip_noneA, St.tip_set, St.box_tip, St.box_lp, St.tip_lp] at hβ); (repeat (obtain ⟨⟨_, _⟩, hβ⟩ := hβ)); (try (have hbis := apart_is (by assumption) hβ; obtain ⟨_, _⟩ := hbis)))) <;> (try simp only [↓R1, R2, R3, R4, R5, Nat.reduceEqDiff, Nat.reduceAdd, Nat.reduceMul, Nat.reduceSub, Nat.reduceLeDiff, Nat.reduceLT, reduceIte, reduceCtorEq, Int.reduceBNe, Int.reduceBEq, ltN, lt1N, gt63, eqN, bAt123, bAt125, bAt44, bAt48, dig_eq, toNat1, toNat0])) | (with_reducible refine And.intro ?_ ?_; (focus (first | omega | (intros; (repeat' (with_reducible apply And.intro)) <;> first | omega | (simp only [List.length_map]; omega))))) | (with_reducible apply And.intro))
  (refine endP_pu (by simp) (by first | (simp [rvsS, rvS]; done) | (simp only [rvsS, rvS, ↓R1, R2, R3, R4, R5, Nat.reduceEqDiff, Nat.reduceAdd, Nat.reduceMul, Nat.reduceSub, Nat.reduceLeDiff, Nat.reduceLT, reduceIte, reduceCtorEq, Int.reduceBNe, Int.reduceBEq, ltN, lt1N, gt63, eqN, bAt123, bAt125, bAt44, bAt48, dig_eq, toNat1, toNat0]; try simp)) (wk_of_eq ?_) (by (repeat (first | exact St.le_refl _ | (refine St.le_new ?_ (by assumption)) | (refine St.le_newT ?_ (by assumption))))))
  (simp only [resAV, rvV, List.map_cons, List.map_nil, ↓R1, R2, R3, R4, R5, Nat.reduceEqDiff, Nat.reduceAdd, Nat.reduceMul, Nat.reduceSub, Nat.reduceLeDiff, Nat.reduceLT, reduceIte, reduceCtorEq, Int.reduceBNe, Int.reduceBEq, ltN, lt1N, gt63, eqN, bAt123, bAt125, bAt44, bAt48, dig_eq, toNat1, toNat0])
theorem p73 (s : List UInt8) (hs : s.length ≤ 4611686018427387904) : Pu Tryd.prog 73 [.str s] (rlAV (readL s)) := by
  (refine Pu_intro c73 b73 (Nat.le_of_ble_eq_true rfl) fun σ => ?_; simp only [c73, ↓R1, R2, R3, R4, R5, Nat.reduceEqDiff, Nat.reduceAdd, Nat.reduceMul, Nat.reduceSub, Nat.reduceLeDiff, Nat.reduceLT, reduceIte, reduceCtorEq, Int.reduceBNe, Int.reduceBEq, ltN, lt1N, gt63, eqN, bAt123, bAt125, bAt44, bAt48, dig_eq, toNat1, toNat0])
  intro β hβ
  (try simp only [↓R1, R2, R3, R4, R5, Nat.reduceEqDiff, Nat.reduceAdd, Nat.reduceMul, Nat.reduceSub, Nat.reduceLeDiff, Nat.reduceLT, reduceIte, reduceCtorEq, Int.reduceBNe, Int.reduceBEq, ltN, lt1N, gt63, eqN, bAt123, bAt125, bAt44, bAt48, dig_eq, toNat1, toNat0])
  repeat' (first | (with_reducible rw [allocV_eq]) | (refine gdV_split (fun hc => ?_) (fun hc => ?_) <;> (try simp only [hc, ↓R1, R2, R3, R4, R5, Nat.reduceEqDiff, Nat.reduceAdd, Nat.reduceMul, Nat.reduceSub, Nat.reduceLeDiff, Nat.reduceLT, reduceIte, reduceCtorEq, Int.reduceBNe, Int.reduceBEq, ltN, lt1N, gt63, eqN, bAt123, bAt125, bAt44, bAt48, dig_eq, toNat1, toNat0])) | ((first | refine condV_split (fun hc => ?_) (fun hc => ?_) | (with_reducible intro β hβ; (try simp only [St.box_noneA, St.tip_noneA, St.tip_set, St.box_tip, St.box_lp, St.tip_lp] at hβ); (repeat (obtain ⟨⟨_, _⟩, hβ⟩ := hβ)); (try (have hbis := apart_is (by assumption) hβ; obtain ⟨_, _⟩ := hbis)))) <;> (try simp only [↓R1, R2, R3, R4, R5, Nat.reduceEqDiff, Nat.reduceAdd, Nat.reduceMul, Nat.reduceSub, Nat.reduceLeDiff, Nat.reduceLT, reduceIte, reduceCtorEq, Int.reduceBNe, Int.reduceBEq, ltN, lt1N, gt63, eqN, bAt123, bAt125, bAt44, bAt48, dig_eq, toNat1, toNat0])) | (with_reducible refine And.intro ?_ ?_; (focus (first | omega | (intros; (repeat' (with_reducible apply And.intro)) <;> first | omega | (simp only [List.length_map]; omega))))) | (with_reducible apply And.intro) | ((first | refine Pu.to (p92 _ _) (wkL_refl _) ?_ | refine callDV_pu (p92 _ _) (wkL_refl _) ?_); (try simp only [↓R1, R2, R3, R4, R5, Nat.reduceEqDiff, Nat.reduceAdd, Nat.reduceMul, Nat.reduceSub, Nat.reduceLeDiff, Nat.reduceLT, reduceIte, reduceCtorEq, Int.reduceBNe, Int.reduceBEq, ltN, lt1N, gt63, eqN, bAt123, bAt125, bAt44, bAt48, dig_eq, toNat1, toNat0])))
  all_goals (try simp only [St.set_set, ↓R1, R2, R3, R4, R5, Nat.reduceEqDiff, Nat.reduceAdd, Nat.reduceMul, Nat.reduceSub, Nat.reduceLeDiff, Nat.reduceLT, reduceIte, reduceCtorEq, Int.reduceBNe, Int.reduceBEq, ltN, lt1N, gt63, eqN, bAt123, bAt125, bAt44, bAt48, dig_eq, toNat1, toNat0])
  · intro h; simp at h; have : s.length ≠ 0 := fun e => h (List.eq_nil_of_length_eq_zero e); omega
  · (refine endP_pu (by simp) (by first | (simp [rvsS, rvS]; done) | (simp only [rvsS, rvS, ↓R1, R2, R3, R4, R5, Nat.reduceEqDiff, Nat.reduceAdd, Nat.reduceMul, Nat.reduceSub, Nat.reduceLeDiff, Nat.reduceLT, reduceIte, reduceCtorEq, Int.reduceBNe, Int.reduceBEq, ltN, lt1N, gt63, eqN, bAt123, bAt125, bAt44, bAt48, dig_eq, toNat1, toNat0]; try simp)) (wk_of_eq ?_) (by (repeat (first | exact St.le_refl _ | (refine St.le_new ?_ (by assumption)) | (refine St.le_newT ?_ (by assumption))))))
    (simp only [resAV, rvV, List.map_cons, List.map_nil, ↓R1, R2, R3, R4, R5, Nat.reduceEqDiff, Nat.reduceAdd, Nat.reduceMul, Nat.reduceSub, Nat.reduceLeDiff, Nat.reduceLT, reduceIte, reduceCtorEq, Int.reduceBNe, Int.reduceBEq, ltN, lt1N, gt63, eqN, bAt123, bAt125, bAt44, bAt48, dig_eq, toNat1, toNat0])
    have : s.length = 0 ∨ byteAt s 0 ≠ 123 := by simpa using hc
    rw [readL, if_pos this]; rfl
  · intro h; simp at h; omega
  · rename_i hc0
    (refine endP_pu (by simp) (by first | (simp [rvsS, rvS]; done) | (simp only [rvsS, rvS, ↓R1, R2, R3, R4, R5, Nat.reduceEqDiff, Nat.reduceAdd, Nat.reduceMul, Nat.reduceSub, Nat.reduceLeDiff, Nat.reduceLT, reduceIte, reduceCtorEq, Int.reduceBNe, Int.reduceBEq, ltN, lt1N, gt63, eqN, bAt123, bAt125, bAt44, bAt48, dig_eq, toNat1, toNat0]; try simp)) (wk_of_eq ?_) (by (repeat (first | exact St.le_refl _ | (refine St.le_new ?_ (by assumption)) | (refine St.le_newT ?_ (by assumption))))))
    (simp only [resAV, rvV, List.map_cons, List.map_nil, ↓R1, R2, R3, R4, R5, Nat.reduceEqDiff, Nat.reduceAdd, Nat.reduceMul, Nat.reduceSub, Nat.reduceLeDiff, Nat.reduceLT, reduceIte, reduceCtorEq, Int.reduceBNe, Int.reduceBEq, ltN, lt1N, gt63, eqN, bAt123, bAt125, bAt44, bAt48, dig_eq, toNat1, toNat0])
    have h0 : ¬ (s.length = 0 ∨ byteAt s 0 ≠ 123) := by simpa using hc0
    have h1 : 1 < s.length ∧ byteAt s 1 = 125 := by simpa using hc
    rw [readL, if_neg h0, if_pos h1]; rfl
  rename_i hc0
  have h0 : ¬ (s.length = 0 ∨ byteAt s 0 ≠ 123) := by simpa using hc0
  have h1 : ¬ (1 < s.length ∧ byteAt s 1 = 125) := by simpa using hc
  have hR : readL s = nums s (s.length + 1) 0#64 (-1) 1 := by rw [readL, if_neg h0, if_neg h1]
  rw [hR]
  obtain ⟨R, hR'⟩ : ∃ R, nums s (s.length + 1) 0#64 (-1) 1 = R := ⟨_, rfl⟩
  rw [hR'] at hR ⊢
  have hlen : 1 ≤ s.length := by rcases Nat.eq_zero_or_pos s.length with h | h; exact (h0 (.inl h)).elim; exact h
  clear hc hc0 h0 h1
  refine loopV_st (α := Nat × BitVec 64 × Int × Nat) (fun z => [(7, .int .i64 (z.2.2.2 : Nat)), (6, .int .i64 z.2.2.1), (0, .str s), (2, .int .u64 z.2.1.toNat), (4, .ptr β 0), (5, .fn 92 [])]) (fun _ => σ.setBox β [.int .i64 0, .int .i64 0])
    (fun z => nums s z.1 z.2.1 z.2.2.1 z.2.2.2 = R ∧ s.length + 1 < z.1 + z.2.2.2 ∧ z.2.2.2 ≤ s.length) (fun z => z.1) (s.length + 1, 0#64, -1, 1) (by simp [subF, slot, wk_refl]) (St.le_refl _) ⟨hR', by simp only; omega, hlen⟩ ?_
  rintro ⟨f, l, last, a⟩ ⟨hN, hf, ha⟩
  simp only at hN hf ha ⊢
  obtain ⟨f, rfl⟩ : ∃ g, f = g + 1 := ⟨f - 1, by omega⟩
  simp only [↓R1, R2, R3, R4, R5, Nat.reduceEqDiff, Nat.reduceAdd, Nat.reduceMul, Nat.reduceSub, Nat.reduceLeDiff, Nat.reduceLT, reduceIte, reduceCtorEq, Int.reduceBNe, Int.reduceBEq, ltN, lt1N, gt63, eqN, bAt123, bAt125, bAt44, bAt48, dig_eq, toNat1, toNat0]
  obtain ⟨sc, hsc⟩ : ∃ sc, scan s a (s.length - a) a 0 = sc := ⟨_, rfl⟩
  have hN2 := hN
  unfold nums at hN2
  rw [hsc] at hN2
  refine loopV_st (α := Nat × Nat) (fun z => [(7, .int .i64 (z.1 : Nat)), (9, .int .i64 (z.2 : Nat)), (8, .int .i64 (a : Nat)), (6, .int .i64 last), (0, .str s), (2, .int .u64 l.toNat), (4, .ptr β 0), (5, .fn 92 [])]) (fun _ => σ.setBox β [.int .i64 0, .int .i64 0])
    (fun z => scan s a (s.length - z.1) z.1 z.2 = sc ∧ a ≤ z.1 ∧ z.1 ≤ s.length ∧ z.2 ≤ 1000) (fun z => s.length - z.1) (a, 0) (by simp [subF, slot, wk_refl]) (St.le_refl _) ⟨hsc, by simp, ha, by simp⟩ ?_
  rintro ⟨b, n⟩ ⟨hS, hab, hbl, hn⟩
  simp only at hS hab hbl hn ⊢
  simp only [↓R1, R2, R3, R4, R5, Nat.reduceEqDiff, Nat.reduceAdd, Nat.reduceMul, Nat.reduceSub, Nat.reduceLeDiff, Nat.reduceLT, reduceIte, reduceCtorEq, Int.reduceBNe, Int.reduceBEq, ltN, lt1N, gt63, eqN, bAt123, bAt125, bAt44, bAt48, dig_eq, toNat1, toNat0]
  repeat' (first | (with_reducible rw [allocV_eq]) | (refine gdV_split (fun hc => ?_) (fun hc => ?_) <;> (try simp only [hc, ↓R1, R2, R3, R4, R5, Nat.reduceEqDiff, Nat.reduceAdd, Nat.reduceMul, Nat.reduceSub, Nat.reduceLeDiff, Nat.reduceLT, reduceIte, reduceCtorEq, Int.reduceBNe, Int.reduceBEq, ltN, lt1N, gt63, eqN, bAt123, bAt125, bAt44, bAt48, dig_eq, toNat1, toNat0])) | ((first | refine condV_split (fun hc => ?_) (fun hc => ?_) | (with_reducible intro β hβ; (try simp only [St.box_noneA, St.tip_noneA, St.tip_set, St.box_tip, St.box_lp, St.tip_lp] at hβ); (repeat (obtain ⟨⟨_, _⟩, hβ⟩ := hβ)); (try (have hbis := apart_is (by assumption) hβ; obtain ⟨_, _⟩ := hbis)))) <;> (try simp only [↓R1, R2, R3, R4, R5, Nat.reduceEqDiff, Nat.reduceAdd, Nat.reduceMul, Nat.reduceSub, Nat.reduceLeDiff, Nat.reduceLT, reduceIte, reduceCtorEq, Int.reduceBNe, Int.reduceBEq, ltN, lt1N, gt63, eqN, bAt123, bAt125, bAt44, bAt48, dig_eq, toNat1, toNat0])) | (with_reducible refine And.intro ?_ ?_; (focus (first | omega | (intros; (repeat' (with_reducible apply And.intro)) <;> first | omega | (simp only [List.length_map]; omega))))) | (with_reducible apply And.intro) | ((first | refine Pu.to (p92 _ _) (wkL_refl _) ?_ | refine callDV_pu (p92 _ _) (wkL_refl _) ?_ | refine Pu.to (p93 _) (wkL_refl _) ?_ | refine callDV_pu (p93 _) (wkL_refl _) ?_); (try simp only [↓R1, R2, R3, R4, R5, Nat.reduceEqDiff, Nat.reduceAdd, Nat.reduceMul, Nat.reduceSub, Nat.reduceLeDiff, Nat.reduceLT, reduceIte, reduceCtorEq, Int.reduceBNe, Int.reduceBEq, ltN, lt1N, gt63, eqN, bAt123, bAt125, bAt44, bAt48, dig_eq, toNat1, toNat0])))
  all_goals (simp only [decide_eq_true_eq, decide_eq_false_iff_not, Bool.and_eq_false_iff, Bool.and_eq_true, Bool.not_eq_true', Bool.not_eq_false'] at *)
  all_goals first | omega | (intro h; omega) | skip
  all_goals (have hdd : dig (byteAt s b) = dig ((s[b]?).getD 0) := rfl)
  all_goals first
    | (have hd : ¬ (b < s.length ∧ dig (byteAt s b) = true) := (by rw [hdd]; grind)
       have hA := scan_stop s a (s.length - b) b n hd
       rw [hS] at hA
       rw [hA] at hN2
       simp only [Bool.true_eq_false, if_false] at hN2
       first
       | ((refine endP_pu (by simp) (by first | (simp [rvsS, rvS]; done) | (simp only [rvsS, rvS, ↓R1, R2, R3, R4, R5, Nat.reduceEqDiff, Nat.reduceAdd, Nat.reduceMul, Nat.reduceSub, Nat.reduceLeDiff, Nat.reduceLT, reduceIte, reduceCtorEq, Int.reduceBNe, Int.reduceBEq, ltN, lt1N, gt63, eqN, bAt123, bAt125, bAt44, bAt48, dig_eq, toNat1, toNat0]; try simp)) (wk_of_eq ?_) (by (repeat (first | exact St.le_refl _ | (refine St.le_new ?_ (by assumption)) | (refine St.le_newT ?_ (by assumption))))))
          (simp only [resAV, rvV, List.map_cons, List.map_nil, ↓R1, R2, R3, R4, R5, Nat.reduceEqDiff, Nat.reduceAdd, Nat.reduceMul, Nat.reduceSub, Nat.reduceLeDiff, Nat.reduceLT, reduceIte, reduceCtorEq, Int.reduceBNe, Int.reduceBEq, ltN, lt1N, gt63, eqN, bAt123, bAt125, bAt44, bAt48, dig_eq, toNat1, toNat0])
          rw [← hN2]
          grind [rlAV, bad])
       | skip)
    | skip
  · rename_i h1 h2
    have h3 := hc
    obtain ⟨d, hd⟩ : ∃ d, s.length - b = d + 1 := ⟨s.length - b - 1, by omega⟩
    have hA := scan_zero s a d b n ⟨by omega, by rw [hdd]; exact h2.2⟩ ⟨h3.1, h3.2⟩
    rw [← hd, hS] at hA
    rw [hA] at hN2
    (refine endP_pu (by simp) (by first | (simp [rvsS, rvS]; done) | (simp only [rvsS, rvS, ↓R1, R2, R3, R4, R5, Nat.reduceEqDiff, Nat.reduceAdd, Nat.reduceMul, Nat.reduceSub, Nat.reduceLeDiff, Nat.reduceLT, reduceIte, reduceCtorEq, Int.reduceBNe, Int.reduceBEq, ltN, lt1N, gt63, eqN, bAt123, bAt125, bAt44, bAt48, dig_eq, toNat1, toNat0]; try simp)) (wk_of_eq ?_) (by (repeat (first | exact St.le_refl _ | (refine St.le_new ?_ (by assumption)) | (refine St.le_newT ?_ (by assumption))))))
    (simp only [resAV, rvV, List.map_cons, List.map_nil, ↓R1, R2, R3, R4, R5, Nat.reduceEqDiff, Nat.reduceAdd, Nat.reduceMul, Nat.reduceSub, Nat.reduceLeDiff, Nat.reduceLT, reduceIte, reduceCtorEq, Int.reduceBNe, Int.reduceBEq, ltN, lt1N, gt63, eqN, bAt123, bAt125, bAt44, bAt48, dig_eq, toNat1, toNat0])
    rw [← hN2]
    rfl
  · rename_i h1 h2
    have h3 := hc
    have hdg : dig (byteAt s b) = true := by rw [hdd]; exact h2.2
    obtain ⟨d, hd⟩ : ∃ d, s.length - b = d + 1 := ⟨s.length - b - 1, by omega⟩
    have hA := scan_go s a d b n ⟨by omega, hdg⟩ (by intro hz; rcases h3 with h | h; exact h hz.1; exact h hz.2)
    rw [← hd, hS] at hA
    refine ⟨(b + 1, min 1000 (10 * n + ((byteAt s b).toNat - 48))), ⟨?_, by simp only; omega, by simp only; omega, by simp only; omega⟩, ?_, St.le_refl _, by simp only; omega⟩
    · simp only; rw [show s.length - (b + 1) = d by omega]; exact hA.symm
    · simp only [subF, slot, wk_refl, ↓R1, R2, R3, R4, R5, Nat.reduceEqDiff, Nat.reduceAdd, Nat.reduceMul, Nat.reduceSub, Nat.reduceLeDiff, Nat.reduceLT, reduceIte, reduceCtorEq, Int.reduceBNe, Int.reduceBEq, ltN, lt1N, gt63, eqN, bAt123, bAt125, bAt44, bAt48, dig_eq, toNat1, toNat0]
      exact ⟨wk_of_eq (by rw [i64n (by omega)]), wk_of_eq (congrArg _ (dig_step (c := byteAt s b) hdg hn))⟩
  · rw [u64n hn]; omega
  · (refine endP_pu (by simp) (by first | (simp [rvsS, rvS]; done) | (simp only [rvsS, rvS, ↓R1, R2, R3, R4, R5, Nat.reduceEqDiff, Nat.reduceAdd, Nat.reduceMul, Nat.reduceSub, Nat.reduceLeDiff, Nat.reduceLT, reduceIte, reduceCtorEq, Int.reduceBNe, Int.reduceBEq, ltN, lt1N, gt63, eqN, bAt123, bAt125, bAt44, bAt48, dig_eq, toNat1, toNat0]; try simp)) (wk_of_eq ?_) (by (repeat (first | exact St.le_refl _ | (refine St.le_new ?_ (by assumption)) | (refine St.le_newT ?_ (by assumption))))))
    (simp only [resAV, rvV, List.map_cons, List.map_nil, ↓R1, R2, R3, R4, R5, Nat.reduceEqDiff, Nat.reduceAdd, Nat.reduceMul, Nat.reduceSub, Nat.reduceLeDiff, Nat.reduceLT, reduceIte, reduceCtorEq, Int.reduceBNe, Int.reduceBEq, ltN, lt1N, gt63, eqN, bAt123, bAt125, bAt44, bAt48, dig_eq, toNat1, toNat0])
    rw [or_bit l (by omega), i64n (by omega), ← hN2]
    grind [rlAV]
  · refine ⟨(f, l ||| 1#64 <<< n, (n : Int), b + 1), ⟨by simp only; rw [← hN2]; grind, by simp only; omega, by simp only; omega⟩, ?_, St.le_refl _, by simp only; omega⟩
    simp only [subF, slot, wk_refl, ↓R1, R2, R3, R4, R5, Nat.reduceEqDiff, Nat.reduceAdd, Nat.reduceMul, Nat.reduceSub, Nat.reduceLeDiff, Nat.reduceLT, reduceIte, reduceCtorEq, Int.reduceBNe, Int.reduceBEq, ltN, lt1N, gt63, eqN, bAt123, bAt125, bAt44, bAt48, dig_eq, toNat1, toNat0]
    exact ⟨wk_of_eq (by rw [i64n (by omega)]), wk_of_eq (by rw [or_bit l (by omega)])⟩
  · rw [u64n hn]; omega
end Go.Proofs.YtnmlhilckjmhnaaDoor
namespace Go.Proofs.YtnmlhilckjmhnaaDoor
open Go.Abs
set_option linter.all false
set_option maxRecDepth 100000
def plAV (r : RL) : AV := .tup [.int .u64 r.l.toNat, .agg [.int .i64 (r.err : Nat), .int .i64 (r.at_ : Nat)]]
theorem err0 {n : Nat} : ((n : Int) != 0) = !decide (n = 0) := by rw [Bool.eq_iff_iff]; simp
theorem p55 (s : List UInt8) (hs : s.length ≤ 4611686018427387904) : Pu Tryd.prog 55 [.str s] (plAV (parseL s)) := by
  have hr := p73 s hs
  unfold rlAV at hr
  (refine Pu_intro c55 b55 (Nat.le_of_ble_eq_true rfl) fun σ => ?_; simp only [c55, ↓R1, R2, R3, R4, R5, Nat.reduceEqDiff, Nat.reduceAdd, Nat.reduceMul, Nat.reduceSub, Nat.reduceLeDiff, Nat.reduceLT, reduceIte, reduceCtorEq, Int.reduceBNe, Int.reduceBEq, ltN, lt1N, gt63, eqN, bAt123, bAt125, bAt125n, bAt44, bAt48, dig_eq, toNat1, toNat0])
  repeat' (first | (with_reducible rw [allocV_eq]) | (refine gdV_split (fun hc => ?_) (fun hc => ?_) <;> (try simp only [hc, ↓R1, R2, R3, R4, R5, Nat.reduceEqDiff, Nat.reduceAdd, Nat.reduceMul, Nat.reduceSub, Nat.reduceLeDiff, Nat.reduceLT, reduceIte, reduceCtorEq, Int.reduceBNe, Int.reduceBEq, ltN, lt1N, gt63, eqN, bAt123, bAt125, bAt125n, bAt44, bAt48, dig_eq, toNat1, toNat0])) | ((first | refine condV_split (fun hc => ?_) (fun hc => ?_) | (with_reducible intro β hβ; (try simp only [St.box_noneA, St.tip_noneA, St.tip_set, St.box_tip, St.box_lp, St.tip_lp] at hβ); (repeat (obtain ⟨⟨_, _⟩, hβ⟩ := hβ)); (try (have hbis := apart_is (by assumption) hβ; obtain ⟨_, _⟩ := hbis)))) <;> (try simp only [↓R1, R2, R3, R4, R5, Nat.reduceEqDiff, Nat.reduceAdd, Nat.reduceMul, Nat.reduceSub, Nat.reduceLeDiff, Nat.reduceLT, reduceIte, reduceCtorEq, Int.reduceBNe, Int.reduceBEq, ltN, lt1N, gt63, eqN, bAt123, bAt125, bAt125n, bAt44, bAt48, dig_eq, toNat1, toNat0])) | (with_reducible refine And.intro ?_ ?_; (focus (first | omega | (intros; (repeat' (with_reducible apply And.intro)) <;> first | omega | (simp only [List.length_map]; omega))))) | (with_reducible apply And.intro) | ((first | refine Pu.to (hr) (wkL_refl _) ?_ | refine callDV_pu (hr) (wkL_refl _) ?_); (try simp only [↓R1, R2, R3, R4, R5, Nat.reduceEqDiff, Nat.reduceAdd, Nat.reduceMul, Nat.reduceSub, Nat.reduceLeDiff, Nat.reduceLT, reduceIte, reduceCtorEq, Int.reduceBNe, Int.reduceBEq, ltN, lt1N, gt63, eqN, bAt123, bAt125, bAt125n, bAt44, bAt48, dig_eq, toNat1, toNat0])))
  all_goals (refine endP_pu (by simp) (by first | (simp [rvsS, rvS]; done) | (simp only [rvsS, rvS, ↓R1, R2, R3, R4, R5, Nat.reduceEqDiff, Nat.reduceAdd, Nat.reduceMul, Nat.reduceSub, Nat.reduceLeDiff, Nat.reduceLT, reduceIte, reduceCtorEq, Int.reduceBNe, Int.reduceBEq, ltN, lt1N, gt63, eqN, bAt123, bAt125, bAt125n, bAt44, bAt48, dig_eq, toNat1, toNat0]; try simp)) (wk_of_eq ?_) (by (repeat (first | exact St.le_refl _ | (refine St.le_new ?_ (by assumption)) | (refine St.le_newT ?_ (by assumption))))))
  all_goals (simp only [resAV, rvV, List.map_cons, List.map_nil, ↓R1, R2, R3, R4, R5, Nat.reduceEqDiff, Nat.reduceAdd, Nat.reduceMul, Nat.reduceSub, Nat.reduceLeDiff, Nat.reduceLT, reduceIte, reduceCtorEq, Int.reduceBNe, Int.reduceBEq, ltN, lt1N, gt63, eqN, bAt123, bAt125, bAt125n, bAt44, bAt48, dig_eq, toNat1, toNat0])
  all_goals (simp only [decide_eq_true_eq, decide_eq_false_iff_not, bne_iff_ne, bne_eq_false_iff_eq] at *)
  all_goals grind [plAV, parseL, bad]
end Go.Proofs.YtnmlhilckjmhnaaDoor
