/-
  Labels: which label a text begins with: the plain part.
-/
import Derived.Test.YtnmlhilckjmhnaaDoorLS2
namespace Go.Proofs.YtnmlhilckjmhnaaDoor
open Go.Abs
def dig (b : UInt8) : Bool := decide (48 ≤ b.toNat) && decide (b.toNat ≤ 57)
def byteAt (s : List UInt8) (i : Nat) : UInt8 := (s[i]?).getD 0
/-- What a number begun at an offset is: where it ends, and its value, at most 1000; none: a needless zero, told at the offset. -/
def scan (s : List UInt8) (from_ : Nat) : Nat → Nat → Nat → (Bool × Nat × Nat)
  | 0, at_, n => (true, at_, n)
  | f + 1, at_, n =>
    if at_ < s.length ∧ dig (byteAt s at_) = true then
      if from_ < at_ ∧ byteAt s from_ = 48 then (false, at_, n) else scan s from_ f (at_ + 1) (min 1000 (10 * n + ((byteAt s at_).toNat - 48)))
    else (true, at_, n)
structure RL where
  l : BitVec 64
  used : Nat
  err : Nat
  at_ : Nat
def bad (e a : Nat) : RL := ⟨0#64, 0, e, a⟩
/-- The numbers of a label's text, from an offset on. -/
def nums (s : List UInt8) : Nat → BitVec 64 → Int → Nat → RL
  | 0, _, _, a => bad 3 a
  | f + 1, l, last, a =>
    if (scan s a (s.length - a) a 0).1 = false then bad 3 (scan s a (s.length - a) a 0).2.1
    else if (scan s a (s.length - a) a 0).2.1 = a then bad 3 a
    else if 63 < (scan s a (s.length - a) a 0).2.2 then bad 2 a
    else if ((scan s a (s.length - a) a 0).2.2 : Int) ≤ last then bad 9 a
    else if (scan s a (s.length - a) a 0).2.1 = s.length then bad 3 s.length
    else if byteAt s (scan s a (s.length - a) a 0).2.1 = 125 then ⟨l ||| (1#64 <<< (scan s a (s.length - a) a 0).2.2), (scan s a (s.length - a) a 0).2.1 + 1, 0, 0⟩
    else if byteAt s (scan s a (s.length - a) a 0).2.1 ≠ 44 then bad 3 (scan s a (s.length - a) a 0).2.1
    else nums s f (l ||| (1#64 <<< (scan s a (s.length - a) a 0).2.2)) (scan s a (s.length - a) a 0).2.2 ((scan s a (s.length - a) a 0).2.1 + 1)
def readL (s : List UInt8) : RL :=
  if s.length = 0 ∨ byteAt s 0 ≠ 123 then bad 3 0
  else if 1 < s.length ∧ byteAt s 1 = 125 then ⟨0#64, 2, 0, 0⟩
  else nums s (s.length + 1) 0#64 (-1) 1
def parseL (s : List UInt8) : RL :=
  if (readL s).err ≠ 0 then ⟨0#64, 0, (readL s).err, (readL s).at_⟩
  else if (readL s).used < s.length then bad 4 (readL s).used else ⟨(readL s).l, 0, 0, 0⟩
theorem scan_ge (s : List UInt8) (from_ : Nat) : ∀ (f a n : Nat), a ≤ (scan s from_ f a n).2.1
  | 0, a, n => Nat.le_refl _
  | f + 1, a, n => by
    unfold scan
    split
    · split
      · exact Nat.le_refl _
      · exact Nat.le_trans (Nat.le_succ a) (scan_ge s from_ f (a + 1) _)
    · exact Nat.le_refl _
theorem scan_le (s : List UInt8) (from_ : Nat) : ∀ (f a n : Nat), a ≤ s.length → (scan s from_ f a n).2.1 ≤ s.length
  | 0, a, n, h => h
  | f + 1, a, n, h => by
    unfold scan
    split
    · rename_i hh
      split
      · exact h
      · exact scan_le s from_ f (a + 1) _ (by omega)
    · exact h
theorem scan_n (s : List UInt8) (from_ : Nat) : ∀ (f a n : Nat), n ≤ 1000 → (scan s from_ f a n).2.2 ≤ 1000
  | 0, a, n, h => h
  | f + 1, a, n, h => by
    unfold scan
    split
    · split
      · exact h
      · exact scan_n s from_ f (a + 1) _ (by omega)
    · exact h
theorem scan_stop (s : List UInt8) (from_ f a n : Nat) (h : ¬ (a < s.length ∧ dig (byteAt s a) = true)) : scan s from_ f a n = (true, a, n) := by
  cases f with
  | zero => rfl
  | succ f => unfold scan; rw [if_neg h]
theorem scan_zero (s : List UInt8) (from_ f a n : Nat) (h : a < s.length ∧ dig (byteAt s a) = true) (hz : from_ < a ∧ byteAt s from_ = 48) : scan s from_ (f + 1) a n = (false, a, n) := by
  unfold scan; rw [if_pos h, if_pos hz]
theorem scan_go (s : List UInt8) (from_ f a n : Nat) (h : a < s.length ∧ dig (byteAt s a) = true) (hz : ¬ (from_ < a ∧ byteAt s from_ = 48)) : scan s from_ (f + 1) a n = scan s from_ f (a + 1) (min 1000 (10 * n + ((byteAt s a).toNat - 48))) := by
  conv => lhs; unfold scan
  rw [if_pos h, if_neg hz]
theorem bAt_eq (s : List UInt8) (i : Nat) (k : UInt8) : ((((s[i]?).getD 0).toNat : Int) == (k.toNat : Int)) = decide (byteAt s i = k) := by
  unfold byteAt
  rw [Bool.eq_iff_iff]
  simp only [beq_iff_eq, decide_eq_true_eq, Int.natCast_inj, UInt8.toNat_inj]
theorem bAt_ne (s : List UInt8) (i : Nat) (k : UInt8) : ((((s[i]?).getD 0).toNat : Int) != (k.toNat : Int)) = !decide (byteAt s i = k) := by
  rw [bne, bAt_eq]
theorem bAt123 (s : List UInt8) (i : Nat) : ((((s[i]?).getD 0).toNat : Int) != 123) = !decide (byteAt s i = 123) := bAt_ne s i 123
theorem bAt125 (s : List UInt8) (i : Nat) : ((((s[i]?).getD 0).toNat : Int) == 125) = decide (byteAt s i = 125) := bAt_eq s i 125
theorem bAt125n (s : List UInt8) (i : Nat) : ((((s[i]?).getD 0).toNat : Int) != 125) = !decide (byteAt s i = 125) := bAt_ne s i 125
theorem bAt44 (s : List UInt8) (i : Nat) : ((((s[i]?).getD 0).toNat : Int) != 44) = !decide (byteAt s i = 44) := bAt_ne s i 44
theorem bAt48 (s : List UInt8) (i : Nat) : ((((s[i]?).getD 0).toNat : Int) == 48) = decide (byteAt s i = 48) := bAt_eq s i 48
theorem dig_eq (b : UInt8) : (decide (48 ≤ (b.toNat : Int)) && decide ((b.toNat : Int) ≤ 57)) = dig b := by
  unfold dig; rw [Bool.eq_iff_iff]; simp; omega
theorem toNat1 : Int.toNat 1 = 1 := rfl
theorem toNat0 : Int.toNat 0 = 0 := rfl
theorem ltN {k n : Nat} : decide ((k : Int) < (n : Int)) = decide (k < n) := by simp
theorem lt1N {n : Nat} : decide ((1 : Int) < (n : Int)) = decide (1 < n) := by rw [Bool.eq_iff_iff]; simp; omega
theorem gt63 {n : Nat} : decide ((63 : Int) < (n : Int)) = decide (63 < n) := by rw [Bool.eq_iff_iff]; simp; omega
theorem eqN {k n : Nat} : ((k : Int) == (n : Int)) = decide (k = n) := by rw [Bool.eq_iff_iff]; simp; omega
theorem u64n {n : Nat} (h : n ≤ 1000) : IntKind.u64.wrap (n : Int) = n := by rw [IntKind.wrap_u64]; omega
theorem i64n {b : Nat} (h : b ≤ 4611686018427387904) : IntKind.i64.wrap ((b : Int) + 1) = ((b + 1 : Nat) : Int) := by rw [wrap64 (by omega) (by omega)]; simp
theorem or_bit (l : BitVec 64) {n : Nat} (h : n ≤ 63) : bits .or .u64 (l.toNat : Int) (IntKind.u64.wrap (1 * 2 ^ min (IntKind.u64.wrap (n : Int)).toNat IntKind.u64.bits)) = ((l ||| 1#64 <<< n).toNat : Int) := by
  rw [u64n (by omega), Int.toNat_natCast]
  have e : (1 : Int) = ((1#64 : BitVec 64).toNat : Int) := rfl
  have := shl64 (1#64) n (by omega)
  rw [e, show IntKind.u64.bits = 64 from rfl, this, bits_or64]
theorem dig_step {c : UInt8} {n : Nat} (h : dig c = true) (hn : n ≤ 1000) : (if IntKind.i64.wrap (IntKind.i64.wrap (10 * (n : Int)) + IntKind.i64.wrap (IntKind.u8.wrap ((c.toNat : Int) - 48))) < 1000 then IntKind.i64.wrap (IntKind.i64.wrap (10 * (n : Int)) + IntKind.i64.wrap (IntKind.u8.wrap ((c.toNat : Int) - 48))) else 1000) = ((min 1000 (10 * n + (c.toNat - 48)) : Nat) : Int) := by
  have hd : 48 ≤ c.toNat ∧ c.toNat ≤ 57 := by simpa [dig] using h
  have e1 : IntKind.u8.wrap ((c.toNat : Int) - 48) = ((c.toNat - 48 : Nat) : Int) := by simp [IntKind.wrap, IntKind.signed, IntKind.bits]; omega
  have e2 : IntKind.i64.wrap ((c.toNat - 48 : Nat) : Int) = ((c.toNat - 48 : Nat) : Int) := by rw [wrap64 (by omega) (by omega)]
  have e3 : IntKind.i64.wrap (10 * (n : Int)) = 10 * n := by rw [wrap64 (by omega) (by omega)]
  have e4 : IntKind.i64.wrap (10 * (n : Int) + ((c.toNat - 48 : Nat) : Int)) = ((10 * n + (c.toNat - 48) : Nat) : Int) := by rw [wrap64 (by omega) (by omega)]; simp
  rw [e1, e2, e3, e4]
  split <;> omega
end Go.Proofs.YtnmlhilckjmhnaaDoor
