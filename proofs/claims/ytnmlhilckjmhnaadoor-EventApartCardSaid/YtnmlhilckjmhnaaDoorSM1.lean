/-
  Sums: the plain part: digits, texts of numbers, what is read back.
-/
import Derived.Test.YtnmlhilckjmhnaaDoorEV2
namespace Go.Proofs.YtnmlhilckjmhnaaDoor
open Go.Abs Go.Lib
set_option linter.all false
set_option maxRecDepth 100000
def fit (n : Int) : Bool := decide (-9223372036854775808 ≤ n ∧ n ≤ 9223372036854775807)
theorem fit_iff (n : Int) : fit n = true ↔ -9223372036854775808 ≤ n ∧ n ≤ 9223372036854775807 := by simp [fit]
theorem wI (n : Int) : IntKind.i64.wrap n = if 9223372036854775808 ≤ n % 18446744073709551616 then n % 18446744073709551616 - 18446744073709551616 else n % 18446744073709551616 := by
  simp [IntKind.wrap, IntKind.bits, IntKind.signed]
theorem wU (n : Int) : IntKind.u64.wrap n = n % 18446744073709551616 := by
  simp [IntKind.wrap, IntKind.bits, IntKind.signed]
theorem wU8 (n : Int) : IntKind.u8.wrap n = n % 256 := by
  simp [IntKind.wrap, IntKind.bits, IntKind.signed]
def dg (c : UInt8) : Bool := decide (48 ≤ c.toNat) && decide (c.toNat ≤ 57)
def vstep (a : Nat) (c : UInt8) : Nat := a * 10 + (c.toNat - 48)
def val (a : Nat) (l : List UInt8) : Nat := l.foldl vstep a
theorem val_snoc (l : List UInt8) (a : Nat) (c : UInt8) : val a (l ++ [c]) = val a l * 10 + (c.toNat - 48) := by
  unfold val
  rw [List.foldl_append]
  rfl
def firstB (s : List UInt8) : Bool := s == [] || (decide ((1 : Int) < s.length) && ((((s[0]?).getD 0).toNat : Nat) : Int) == 48)
def goodS (s : List UInt8) : Bool := !firstB s && s.all dg
theorem take_succ_val (s : List UInt8) (k : Nat) (h : k < s.length) : val 0 (s.take (k + 1)) = val 0 (s.take k) * 10 + (s[k].toNat - 48) := by
  rw [← List.take_append_getElem h, val_snoc]
theorem dg_no {s : List UInt8} (k : Nat) (h : k < s.length) (hc : dg s[k] = false) : s.all dg = false := by
  cases h2 : s.all dg with
  | false => rfl
  | true => rw [List.all_eq_true] at h2; rw [h2 _ (List.getElem_mem h)] at hc; cases hc
def digL (s : List UInt8) : List AV := [.int .u64 (bif goodS s then ((val 0 s % 18446744073709551616 : Nat) : Int) else 0), .bool (goodS s && decide (18446744073709551616 ≤ val 0 s)), .bool (goodS s)]
theorem sm_a1 (V d : Nat) (hd : d ≤ 9) : (18446744073709551616 ≤ V ∨ (V % 18446744073709551616 * 10) / 18446744073709551616 ≠ 0 ∨ ((V % 18446744073709551616 * 10) % 18446744073709551616 + d) / 18446744073709551616 ≠ 0) ↔ 18446744073709551616 ≤ V * 10 + d := by omega
theorem sm_a2 (V d : Nat) : ((V % 18446744073709551616 * 10) % 18446744073709551616 + d) % 18446744073709551616 = (V * 10 + d) % 18446744073709551616 := by omega
theorem step1 (V d : Nat) (hd : d ≤ 9) : (decide (18446744073709551616 ≤ V) || (((V % 18446744073709551616 * 10 / 18446744073709551616 : Nat) : Int) != 0) || ((((V % 18446744073709551616 * 10 % 18446744073709551616 + d) / 18446744073709551616 : Nat) : Int) != 0)) = decide (18446744073709551616 ≤ V * 10 + d) := by
  have h := sm_a1 V d hd
  rw [Bool.eq_iff_iff]
  simp only [Bool.or_eq_true, decide_eq_true_eq, bne_iff_ne, ne_eq, Int.natCast_eq_zero]
  rw [or_assoc]
  exact h
def natL (s : List UInt8) : List AV := [.int .u64 (bif goodS s then ((val 0 s % 18446744073709551616 : Nat) : Int) else 0), .bool (goodS s && decide (18446744073709551616 ≤ val 0 s)), .int .i64 (bif goodS s then 0 else 3)]
theorem sm_b1 (V d : Nat) (hd : d ≤ 9) : (18446744073709551616 ≤ V ∨ (18446744073709551615 - d) / 10 < V % 18446744073709551616) ↔ 18446744073709551616 ≤ V * 10 + d := by omega
theorem sm_b2 (V d : Nat) : ((10 * (V % 18446744073709551616)) % 18446744073709551616 + d) % 18446744073709551616 = (V * 10 + d) % 18446744073709551616 := by omega
theorem stepR (V d : Nat) (hd : d ≤ 9) : (decide (18446744073709551616 ≤ V) || decide ((((18446744073709551615 - d) / 10 : Nat) : Int) < ((V % 18446744073709551616 : Nat) : Int))) = decide (18446744073709551616 ≤ V * 10 + d) := by
  have h := sm_b1 V d hd
  rw [Bool.eq_iff_iff]
  simp only [Bool.or_eq_true, decide_eq_true_eq, Int.ofNat_lt]
  exact h
def minusB (s : List UInt8) : Bool := decide ((0 : Int) < s.length) && ((((s[0]?).getD 0).toNat : Nat) : Int) == 45
def tailS (s : List UInt8) : List UInt8 := bif minusB s then s.drop 1 else s
def intV5 (s : List UInt8) : Int := bif minusB s then -(val 0 (tailS s) : Int) else (val 0 (tailS s) : Int)
def badI (s : List UInt8) : Bool := !goodS (tailS s) || minusB s && tailS s == [48]
def intL (s : List UInt8) : List AV := bif badI s then [.int .i64 0, .int .i64 3] else bif fit (intV5 s) then [.int .i64 (intV5 s), .int .i64 0] else [.int .i64 0, .int .i64 2]
theorem intL_bad {s : List UInt8} (h : badI s = true) : AV.tup [.int .i64 0, .int .i64 3] = .tup (intL s) := by simp only [intL, h, cond_true]
theorem intL_no {s : List UInt8} (h : badI s = false) (hf : intV5 s < -9223372036854775808 ∨ 9223372036854775807 < intV5 s) : AV.tup [.int .i64 0, .int .i64 2] = .tup (intL s) := by
  have : fit (intV5 s) = false := by
    cases hq : fit (intV5 s) with
    | false => rfl
    | true => rw [fit_iff] at hq; omega
  simp only [intL, h, this, cond_false]
theorem intL_yes {s : List UInt8} {x : Int} (h : badI s = false) (h1 : -9223372036854775808 ≤ intV5 s) (h2 : intV5 s ≤ 9223372036854775807) (hx : x = intV5 s) : AV.tup [.int .i64 x, .int .i64 0] = .tup (intL s) := by
  have : fit (intV5 s) = true := (fit_iff _).2 ⟨h1, h2⟩
  subst hx
  simp only [intL, h, this, cond_false, cond_true]
theorem u_neg (n : Nat) (h : n ≤ 9223372036854775808) : IntKind.i64.wrap (IntKind.u64.wrap (0 - (n : Int))) = -(n : Int) := by
  rw [wU, wI]; split <;> omega
theorem u_pos (n : Nat) (h : n < 9223372036854775808) : IntKind.i64.wrap (n : Int) = (n : Int) := by
  rw [wI]; split <;> omega
theorem val_ge : ∀ (l : List UInt8) (a : Nat), a ≤ val a l
  | [], a => Nat.le_refl _
  | c :: l, a => by
    have := val_ge l (vstep a c)
    have h2 : a ≤ vstep a c := by unfold vstep; omega
    exact Nat.le_trans h2 this
theorem val_zero {t : List UInt8} (hg : goodS t = true) : (val 0 t == 0) = (t == [48]) := by
  simp only [goodS, Bool.and_eq_true, Bool.not_eq_true'] at hg
  obtain ⟨h1, h2⟩ := hg
  cases t with
  | nil => simp [firstB] at h1
  | cons c l =>
    simp only [List.all_cons, Bool.and_eq_true, dg, decide_eq_true_eq] at h2
    have e : val 0 (c :: l) = val (c.toNat - 48) l := by unfold val; simp [vstep]
    rw [e]
    cases l with
    | nil =>
      rw [Bool.eq_iff_iff]
      simp only [val, List.foldl_nil, beq_iff_eq, List.cons.injEq, and_true]
      constructor
      · intro h; exact UInt8.toNat_inj.1 (show c.toNat = 48 by omega)
      · intro h; subst h; rfl
    | cons d l =>
      have h3 : c.toNat ≠ 48 := by
        intro h
        simp [firstB, h] at h1
        omega
      have h4 := val_ge (d :: l) (c.toNat - 48)
      rw [Bool.eq_iff_iff]
      simp only [beq_iff_eq, List.cons.injEq]
      constructor
      · intro h; omega
      · intro h; simp at h
theorem minus_eq (s : List UInt8) : (!(s == []) && ((((s[0]?).getD 0).toNat : Nat) : Int) == 45) = minusB s := by
  cases s with
  | nil => rfl
  | cons c l =>
    have : decide ((0 : Int) < ((c :: l).length : Int)) = true := by simp
    simp only [minusB, this, Bool.true_and]
    rfl
def intX (s : List UInt8) : Int := bif badI s then 0 else bif fit (intV5 s) then intV5 s else 0
def intE (s : List UInt8) : Int := bif badI s then 3 else bif fit (intV5 s) then 0 else 2
theorem intL_eq (s : List UInt8) : intL s = [.int .i64 (intX s), .int .i64 (intE s)] := by
  unfold intL intX intE
  cases badI s <;> cases fit (intV5 s) <;> rfl
def natN (s : List UInt8) (m : Int) : List AV := bif goodS s then (bif decide (18446744073709551616 ≤ val 0 s) || decide (m < ((val 0 s % 18446744073709551616 : Nat) : Int)) then [.int .u64 0, .int .i64 2] else [.int .u64 ((val 0 s % 18446744073709551616 : Nat) : Int), .int .i64 0]) else [.int .u64 0, .int .i64 3]
def natB (s : List UInt8) (m : Int) : Bool := decide (18446744073709551616 ≤ val 0 s) || decide (m < ((val 0 s % 18446744073709551616 : Nat) : Int))
def natX (s : List UInt8) (m : Int) : Int := bif goodS s then (bif natB s m then 0 else ((val 0 s % 18446744073709551616 : Nat) : Int)) else 0
def natE (s : List UInt8) (m : Int) : Int := bif goodS s then (bif natB s m then 2 else 0) else 3
theorem natN_eq (s : List UInt8) (m : Int) : natN s m = [.int .u64 (natX s m), .int .i64 (natE s m)] := by
  have e : natN s m = bif goodS s then (bif natB s m then [.int .u64 0, .int .i64 2] else [.int .u64 ((val 0 s % 18446744073709551616 : Nat) : Int), .int .i64 0]) else [.int .u64 0, .int .i64 3] := rfl
  rw [e]
  unfold natX natE
  cases goodS s <;> cases natB s m <;> rfl
theorem sm_toNat (n : Nat) (h : n < 256) : (UInt8.ofNat n).toNat = n := by simp [UInt8.toNat_ofNat']; omega
theorem dec_facts : ∀ (N : Nat), val 0 (decDigits N) = N ∧ (decDigits N).all dg = true ∧ decDigits N ≠ [] ∧ (0 < N → ((decDigits N)[0]?).getD 0 ≠ 48) ∧ ((decDigits N)[0]?).getD 0 ≠ 45 ∧ (N = 0 → decDigits N = [48]) := by
  intro N
  induction N using Nat.strongRecOn with
  | _ N ih =>
    rw [decDigits]
    split
    · rename_i h
      have e : (UInt8.ofNat (48 + N)).toNat = 48 + N := sm_toNat _ (by omega)
      refine ⟨?_, ?_, by simp, fun h0 h1 => ?_, fun h1 => ?_, fun h0 => by subst h0; rfl⟩
      · simp only [val, List.foldl_cons, List.foldl_nil, vstep, e]; omega
      · simp only [List.all_cons, List.all_nil, dg, e, Bool.and_true, Bool.and_eq_true, decide_eq_true_eq]; omega
      · have := congrArg UInt8.toNat h1
        simp only [List.getElem?_cons_zero, Option.getD_some, e] at this
        have h48 : (48 : UInt8).toNat = 48 := rfl
        omega
      · have := congrArg UInt8.toNat h1
        simp only [List.getElem?_cons_zero, Option.getD_some, e] at this
        have h48 : (45 : UInt8).toNat = 45 := rfl
        omega
    · rename_i h
      obtain ⟨i1, i2, i3, i4, i5, i6⟩ := ih (N / 10) (by omega)
      have e : (UInt8.ofNat (48 + N % 10)).toNat = 48 + N % 10 := sm_toNat _ (by omega)
      have hh : ((decDigits (N / 10) ++ [UInt8.ofNat (48 + N % 10)])[0]?).getD 0 = ((decDigits (N / 10))[0]?).getD 0 := by
        cases hd : decDigits (N / 10) with
        | nil => exact absurd hd i3
        | cons c l => rfl
      refine ⟨?_, ?_, by simp, fun h0 => ?_, ?_, fun h0 => by omega⟩
      · rw [val_snoc, i1, e]; omega
      · rw [List.all_append, i2]
        simp only [List.all_cons, List.all_nil, dg, e, Bool.and_true, Bool.true_and, Bool.and_eq_true, decide_eq_true_eq]; omega
      · rw [hh]; exact i4 (by omega)
      · rw [hh]; exact i5
theorem firstB_dec (N : Nat) : firstB (decDigits N) = false := by
  obtain ⟨i1, i2, i3, i4, i5, i6⟩ := dec_facts N
  by_cases h0 : N = 0
  · rw [i6 h0]; rfl
  · have h4 := i4 (by omega)
    simp only [firstB, Bool.or_eq_false_iff, Bool.and_eq_false_iff]
    refine ⟨by simpa using i3, .inr ?_⟩
    rw [beq_eq_false_iff_ne]
    intro h
    apply h4
    apply UInt8.toNat_inj.1
    have h48 : (48 : UInt8).toNat = 48 := rfl
    omega
theorem goodS_dec (N : Nat) : goodS (decDigits N) = true := by
  simp only [goodS, firstB_dec, (dec_facts N).2.1]; rfl
theorem minus_dec (N : Nat) : minusB (decDigits N) = false := by
  have h5 := (dec_facts N).2.2.2.2.1
  simp only [minusB, Bool.and_eq_false_iff]
  refine .inr ?_
  rw [beq_eq_false_iff_ne]
  intro h
  apply h5
  apply UInt8.toNat_inj.1
  have h48 : (45 : UInt8).toNat = 45 := rfl
  omega
theorem read_itoa (n : Int) (hn : I64 n) : intX (itoa n) = n ∧ intE (itoa n) = 0 := by
  unfold I64 at hn
  unfold itoa
  split
  · rename_i h
    have hm : minusB (45 :: decDigits n.natAbs) = true := by
      simp only [minusB, Bool.and_eq_true]
      refine ⟨by simp, rfl⟩
    have ht : tailS (45 :: decDigits n.natAbs) = decDigits n.natAbs := by simp only [tailS, hm, cond_true]; rfl
    have hv : intV5 (45 :: decDigits n.natAbs) = n := by
      simp only [intV5, hm, ht, cond_true, (dec_facts _).1]; omega
    have hz : (decDigits n.natAbs == [48]) = false := by
      rw [← val_zero (goodS_dec _), (dec_facts _).1]
      exact beq_eq_false_iff_ne.2 (by omega)
    have hb : badI (45 :: decDigits n.natAbs) = false := by simp only [badI, ht, hm, goodS_dec, hz]; rfl
    have hf : fit n = true := (fit_iff n).2 hn
    simp [intX, intE, hb, hv, hf]
  · rename_i h
    have ht : tailS (decDigits n.toNat) = decDigits n.toNat := by simp only [tailS, minus_dec, cond_false]
    have hv : intV5 (decDigits n.toNat) = n := by
      simp only [intV5, minus_dec, ht, cond_false, (dec_facts _).1]; omega
    have hb : badI (decDigits n.toNat) = false := by simp only [badI, ht, minus_dec, goodS_dec]; rfl
    have hf : fit n = true := (fit_iff n).2 hn
    simp [intX, intE, hb, hv, hf]
theorem dec_snoc (N : Nat) (c : UInt8) (hN : 0 < N) (hc : dg c = true) : decDigits (N * 10 + (c.toNat - 48)) = decDigits N ++ [c] := by
  simp only [dg, Bool.and_eq_true, decide_eq_true_eq] at hc
  rw [decDigits, dif_neg (by omega)]
  have h1 : (N * 10 + (c.toNat - 48)) / 10 = N := by omega
  have h2 : 48 + (N * 10 + (c.toNat - 48)) % 10 = c.toNat := by omega
  rw [h1, h2]
  congr 2
  exact UInt8.ofNat_toNat
theorem dec_of_val : ∀ (r : List UInt8) (a : Nat), 0 < a → r.all dg = true → decDigits (val a r) = decDigits a ++ r
  | [], a, _, _ => by simp [val]
  | c :: l, a, ha, h => by
    rw [List.all_cons, Bool.and_eq_true] at h
    have e : val a (c :: l) = val (a * 10 + (c.toNat - 48)) l := rfl
    rw [e, dec_of_val l _ (by omega) h.2, dec_snoc a c ha h.1, List.append_assoc]; rfl
theorem dec_val {t : List UInt8} (hg : goodS t = true) : decDigits (val 0 t) = t := by
  have hz := val_zero hg
  simp only [goodS, Bool.and_eq_true, Bool.not_eq_true'] at hg
  obtain ⟨h1, h2⟩ := hg
  cases t with
  | nil => simp [firstB] at h1
  | cons c l =>
    have hall := h2
    simp only [List.all_cons, Bool.and_eq_true] at h2
    have hc := h2.1
    simp only [dg, Bool.and_eq_true, decide_eq_true_eq] at hc
    have e : val 0 (c :: l) = val (c.toNat - 48) l := by unfold val; simp [vstep]
    have hone : decDigits (c.toNat - 48) = [c] := by
      rw [decDigits, dif_pos (by omega)]
      congr 1
      rw [show 48 + (c.toNat - 48) = c.toNat by omega]
      exact UInt8.ofNat_toNat
    by_cases h0 : c.toNat - 48 = 0
    · cases l with
      | nil => rw [e, h0]; rw [h0] at hone; exact hone
      | cons d l =>
        have : c.toNat = 48 := by omega
        simp [firstB, this] at h1
        omega
    · rw [e, dec_of_val l _ (by omega) h2.2, hone]; rfl
theorem write_read (s : List UInt8) (h : intE s = 0) : itoa (intX s) = s := by
  unfold intE at h
  cases hb : badI s with
  | true => rw [hb] at h; simp at h
  | false =>
    rw [hb] at h
    cases hf : fit (intV5 s) with
    | false => rw [hf] at h; simp at h
    | true =>
      have hx : intX s = intV5 s := by simp [intX, hb, hf]
      rw [hx]
      simp only [badI, Bool.or_eq_false_iff, Bool.not_eq_false'] at hb
      have hd := dec_val hb.1
      cases hm : minusB s with
      | false =>
        have ht : tailS s = s := by simp only [tailS, hm, cond_false]
        have hv : intV5 s = (val 0 s : Int) := by simp only [intV5, hm, ht, cond_false]
        rw [hv]
        unfold itoa
        rw [if_neg (by omega), Int.toNat_natCast]
        rw [ht] at hd
        exact hd
      | true =>
        have ht : tailS s = s.drop 1 := by simp only [tailS, hm, cond_true]
        have hv : intV5 s = -(val 0 (s.drop 1) : Int) := by simp only [intV5, hm, ht, cond_true]
        rw [ht] at hb hd
        have hz : (val 0 (s.drop 1) == 0) = false := by rw [val_zero hb.1]; simpa [hm] using hb.2
        have hp : 0 < val 0 (s.drop 1) := Nat.pos_of_ne_zero (beq_eq_false_iff_ne.1 hz)
        rw [hv]
        unfold itoa
        rw [if_pos (by omega), Int.natAbs_neg, Int.natAbs_natCast, hd]
        simp only [minusB, Bool.and_eq_true, beq_iff_eq] at hm
        cases s with
        | nil => simp at hm
        | cons c l =>
          have q : ((c.toNat : Nat) : Int) = 45 := hm.2
          have q2 : c.toNat = 45 := by omega
          have : c = 45 := UInt8.toNat_inj.1 (q2.trans rfl)
          rw [this]; rfl
end Go.Proofs.YtnmlhilckjmhnaaDoor
