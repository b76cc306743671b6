/-
  Layer 5: what is read is what was written, and only that; cutting twice; rounding up.
-/
import Derived.Test.YtfnhgenilbgklaaDoorQ65
import Derived.Test.YtfnhgenilbgklaaDoorQ58
namespace Go.Proofs.YtfnhgenilbgklaaDoor
open Go.Abs Go.Lib
set_option linter.all false
set_option maxRecDepth 100000
theorem toNat_ofNat (n : Nat) (h : n < 256) : (UInt8.ofNat n).toNat = n := by simp [UInt8.toNat_ofNat']; omega
theorem dec_facts : ∀ (N : Nat), val 0 (decDigits N) = N ∧ (decDigits N).all dg = true ∧ decDigits N ≠ [] ∧ (0 < N → ((decDigits N)[0]?).getD 0 ≠ 48) ∧ ((decDigits N)[0]?).getD 0 ≠ 45 ∧ (N = 0 → decDigits N = [48]) := by
  intro N
  induction N using Nat.strongRecOn with
  | _ N ih =>
    rw [decDigits]
    split
    · rename_i h
      have e : (UInt8.ofNat (48 + N)).toNat = 48 + N := toNat_ofNat _ (by omega)
      refine ⟨?_, ?_, by simp, fun h0 h1 => ?_, fun h1 => ?_, fun h0 => by subst h0; rfl⟩
      · simp only [val, List.foldl_cons, List.foldl_nil, vstep, e]; omega
      · simp only [List.all_cons, List.all_nil, dg, e, Bool.and_true, Bool.and_eq_true, decide_eq_true_eq]; omega
      · have := congrArg UInt8.toNat h1
        simp only [List.getElem?_cons_zero, Option.getD_some, e] at this
        have h48 : (48 : UInt8).toNat = 48 := rfl
        omega
      · have := congrArg UInt8.toNat h1
        simp only [List.getElem?_cons_zero, Option.getD_some, e] at this
        have h48 : (45 : UInt8).toNat = 45 := rfl
        omega
    · rename_i h
      obtain ⟨i1, i2, i3, i4, i5, i6⟩ := ih (N / 10) (by omega)
      have e : (UInt8.ofNat (48 + N % 10)).toNat = 48 + N % 10 := toNat_ofNat _ (by omega)
      have hh : ((decDigits (N / 10) ++ [UInt8.ofNat (48 + N % 10)])[0]?).getD 0 = ((decDigits (N / 10))[0]?).getD 0 := by
        cases hd : decDigits (N / 10) with
        | nil => exact absurd hd i3
        | cons c l => rfl
      refine ⟨?_, ?_, by simp, fun h0 => ?_, ?_, fun h0 => by omega⟩
      · rw [val_snoc, i1, e]; omega
      · rw [List.all_append, i2]
        simp only [List.all_cons, List.all_nil, dg, e, Bool.and_true, Bool.true_and, Bool.and_eq_true, decide_eq_true_eq]; omega
      · rw [hh]; exact i4 (by omega)
      · rw [hh]; exact i5
theorem firstB_dec (N : Nat) : firstB (decDigits N) = false := by
  obtain ⟨i1, i2, i3, i4, i5, i6⟩ := dec_facts N
  by_cases h0 : N = 0
  · rw [i6 h0]; rfl
  · have h4 := i4 (by omega)
    simp only [firstB, Bool.or_eq_false_iff, Bool.and_eq_false_iff]
    refine ⟨by simpa using i3, .inr ?_⟩
    rw [beq_eq_false_iff_ne]
    intro h
    apply h4
    apply UInt8.toNat_inj.1
    have h48 : (48 : UInt8).toNat = 48 := rfl
    omega
theorem goodS_dec (N : Nat) : goodS (decDigits N) = true := by
  simp only [goodS, firstB_dec, (dec_facts N).2.1]; rfl
theorem minus_dec (N : Nat) : minusB (decDigits N) = false := by
  have h5 := (dec_facts N).2.2.2.2.1
  simp only [minusB, Bool.and_eq_false_iff]
  refine .inr ?_
  rw [beq_eq_false_iff_ne]
  intro h
  apply h5
  apply UInt8.toNat_inj.1
  have h48 : (45 : UInt8).toNat = 45 := rfl
  omega
theorem read_itoa (n : Int) (hn : I64 n) : intX (itoa n) = n ∧ intE (itoa n) = 0 := by
  unfold I64 at hn
  unfold itoa
  split
  · rename_i h
    have hm : minusB (45 :: decDigits n.natAbs) = true := by
      simp only [minusB, Bool.and_eq_true]
      refine ⟨by simp, rfl⟩
    have ht : tailS (45 :: decDigits n.natAbs) = decDigits n.natAbs := by simp only [tailS, hm, cond_true]; rfl
    have hv : intV5 (45 :: decDigits n.natAbs) = n := by
      simp only [intV5, hm, ht, cond_true, (dec_facts _).1]; omega
    have hz : (decDigits n.natAbs == [48]) = false := by
      rw [← val_zero (goodS_dec _), (dec_facts _).1]
      exact beq_eq_false_iff_ne.2 (by omega)
    have hb : badI (45 :: decDigits n.natAbs) = false := by simp only [badI, ht, hm, goodS_dec, hz]; rfl
    have hf : fit n = true := (fit_iff n).2 hn
    simp [intX, intE, hb, hv, hf]
  · rename_i h
    have ht : tailS (decDigits n.toNat) = decDigits n.toNat := by simp only [tailS, minus_dec, cond_false]
    have hv : intV5 (decDigits n.toNat) = n := by
      simp only [intV5, minus_dec, ht, cond_false, (dec_facts _).1]; omega
    have hb : badI (decDigits n.toNat) = false := by simp only [badI, ht, minus_dec, goodS_dec]; rfl
    have hf : fit n = true := (fit_iff n).2 hn
    simp [intX, intE, hb, hv, hf]
theorem dec_snoc (N : Nat) (c : UInt8) (hN : 0 < N) (hc : dg c = true) : decDigits (N * 10 + (c.toNat - 48)) = decDigits N ++ [c] := by
  simp only [dg, Bool.and_eq_true, decide_eq_true_eq] at hc
  rw [decDigits, dif_neg (by omega)]
  have h1 : (N * 10 + (c.toNat - 48)) / 10 = N := by omega
  have h2 : 48 + (N * 10 + (c.toNat - 48)) % 10 = c.toNat := by omega
  rw [h1, h2]
  congr 2
  exact UInt8.ofNat_toNat
theorem dec_of_val : ∀ (r : List UInt8) (a : Nat), 0 < a → r.all dg = true → decDigits (val a r) = decDigits a ++ r
  | [], a, _, _ => by simp [val]
  | c :: l, a, ha, h => by
    rw [List.all_cons, Bool.and_eq_true] at h
    have e : val a (c :: l) = val (a * 10 + (c.toNat - 48)) l := rfl
    rw [e, dec_of_val l _ (by omega) h.2, dec_snoc a c ha h.1, List.append_assoc]; rfl
theorem dec_val {t : List UInt8} (hg : goodS t = true) : decDigits (val 0 t) = t := by
  have hz := val_zero hg
  simp only [goodS, Bool.and_eq_true, Bool.not_eq_true'] at hg
  obtain ⟨h1, h2⟩ := hg
  cases t with
  | nil => simp [firstB] at h1
  | cons c l =>
    have hall := h2
    simp only [List.all_cons, Bool.and_eq_true] at h2
    have hc := h2.1
    simp only [dg, Bool.and_eq_true, decide_eq_true_eq] at hc
    have e : val 0 (c :: l) = val (c.toNat - 48) l := by unfold val; simp [vstep]
    have hone : decDigits (c.toNat - 48) = [c] := by
      rw [decDigits, dif_pos (by omega)]
      congr 1
      rw [show 48 + (c.toNat - 48) = c.toNat by omega]
      exact UInt8.ofNat_toNat
    by_cases h0 : c.toNat - 48 = 0
    · cases l with
      | nil => rw [e, h0]; rw [h0] at hone; exact hone
      | cons d l =>
        have : c.toNat = 48 := by omega
        simp [firstB, this] at h1
        omega
    · rw [e, dec_of_val l _ (by omega) h2.2, hone]; rfl
theorem write_read (s : List UInt8) (h : intE s = 0) : itoa (intX s) = s := by
  unfold intE at h
  cases hb : badI s with
  | true => rw [hb] at h; simp at h
  | false =>
    rw [hb] at h
    cases hf : fit (intV5 s) with
    | false => rw [hf] at h; simp at h
    | true =>
      have hx : intX s = intV5 s := by simp [intX, hb, hf]
      rw [hx]
      simp only [badI, Bool.or_eq_false_iff, Bool.not_eq_false'] at hb
      have hd := dec_val hb.1
      cases hm : minusB s with
      | false =>
        have ht : tailS s = s := by simp only [tailS, hm, cond_false]
        have hv : intV5 s = (val 0 s : Int) := by simp only [intV5, hm, ht, cond_false]
        rw [hv]
        unfold itoa
        rw [if_neg (by omega), Int.toNat_natCast]
        rw [ht] at hd
        exact hd
      | true =>
        have ht : tailS s = s.drop 1 := by simp only [tailS, hm, cond_true]
        have hv : intV5 s = -(val 0 (s.drop 1) : Int) := by simp only [intV5, hm, ht, cond_true]
        rw [ht] at hb hd
        have hz : (val 0 (s.drop 1) == 0) = false := by rw [val_zero hb.1]; simpa [hm] using hb.2
        have hp : 0 < val 0 (s.drop 1) := Nat.pos_of_ne_zero (beq_eq_false_iff_ne.1 hz)
        rw [hv]
        unfold itoa
        rw [if_pos (by omega), Int.natAbs_neg, Int.natAbs_natCast, hd]
        simp only [minusB, Bool.and_eq_true, beq_iff_eq] at hm
        cases s with
        | nil => simp at hm
        | cons c l =>
          have q : ((c.toNat : Nat) : Int) = 45 := hm.2
          have q2 : c.toNat = 45 := by omega
          have : c = 45 := UInt8.toNat_inj.1 (q2.trans rfl)
          rw [this]; rfl
end Go.Proofs.YtfnhgenilbgklaaDoor
