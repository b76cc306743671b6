/-
  Labels: counts, the order, joins and meets of the reference; labels of eight bytes.
-/
import Derived.Test.YtnmlhilckjmhnaaDoorLR8
import Derived.Test.YtnmlhilckjmhnaaDoorLS5
namespace Go.Proofs.YtnmlhilckjmhnaaDoor
open Go.Abs
set_option linter.all false
set_option maxRecDepth 100000

theorem ones_cats (a : BitVec 64) : ones a.toNat 64 = (cats a).length := by
  unfold ones cats
  rw [List.countP_eq_length_filter]; rfl
theorem add64 (x y : BitVec 64) : IntKind.u64.wrap ((x.toNat : Int) + y.toNat) = ((x + y).toNat : Int) := by
  rw [IntKind.wrap_u64, BitVec.toNat_add]; omega
def swarB (x : BitVec 64) : BitVec 64 :=
  let y := ((x >>> 1) &&& 6148914691236517205#64) + (x &&& 6148914691236517205#64)
  let z := ((y >>> 2) &&& 3689348814741910323#64) + (y &&& 3689348814741910323#64)
  let u := ((z >>> 4) + z) &&& 1085102592571150095#64
  let v := u + u >>> 8
  let w := v + v >>> 16
  w + w >>> 32
theorem swarB_eq (x : BitVec 64) : (swarB x).toNat < 9223372036854775808 ∧ (swarB x).toNat % 128 = (cats x).length := by
  obtain ⟨h1, h2, h3⟩ := swar3_eq x.isLt
  obtain ⟨h4, h5⟩ := swar_end x.isLt _ rfl
  rw [← ones_cats, ← h5]
  unfold swarB
  simp only [BitVec.toNat_add, BitVec.toNat_and, BitVec.toNat_ushiftRight, BitVec.toNat_ofNat, Nat.reducePow, Nat.reduceMod]
  rw [Nat.mod_eq_of_lt h2]
  rw [Nat.mod_eq_of_lt (Nat.lt_of_le_of_lt h3 (by omega))]
  generalize hz : (((((x.toNat >>> 1) &&& 6148914691236517205) + (x.toNat &&& 6148914691236517205)) >>> 2) &&& 3689348814741910323) + ((((x.toNat >>> 1) &&& 6148914691236517205) + (x.toNat &&& 6148914691236517205)) &&& 3689348814741910323) = z at h3
  have hsw : swar3 x.toNat = ((z >>> 4) + z) &&& 1085102592571150095 := by unfold swar3; simp only [hz]
  have hz4 : z >>> 4 + z < 18446744073709551616 := by rw [Nat.shiftRight_eq_div_pow]; omega
  rw [Nat.mod_eq_of_lt hz4, ← hsw]
  generalize swar3 x.toNat = u at h4
  simp only [Nat.shiftRight_eq_div_pow, Nat.reducePow]
  have e1 : (u + u / 256) % 18446744073709551616 = u + u / 256 := Nat.mod_eq_of_lt (by omega)
  rw [e1]
  have e2 : (u + u / 256 + (u + u / 256) / 65536) % 18446744073709551616 = u + u / 256 + (u + u / 256) / 65536 := Nat.mod_eq_of_lt (by omega)
  rw [e2]
  have e3 : (u + u / 256 + (u + u / 256) / 65536 + (u + u / 256 + (u + u / 256) / 65536) / 4294967296) % 18446744073709551616 = u + u / 256 + (u + u / 256) / 65536 + (u + u / 256 + (u + u / 256) / 65536) / 4294967296 := Nat.mod_eq_of_lt (by omega)
  rw [e3]
  exact ⟨by omega, rfl⟩
theorem and127 {n : Nat} (h : n < 9223372036854775808) : bits .and .i64 (IntKind.i64.wrap (n : Int)) 127 = ((n % 128 : Nat) : Int) := by
  rw [wrap64 (by omega) (by omega)]
  show IntKind.i64.wrap ((BitVec.ofInt 64 (n : Int) &&& BitVec.ofInt 64 127).toNat : Int) = _
  rw [BitVec.toNat_and, BitVec.ofInt_natCast, BitVec.toNat_ofNat, Nat.mod_eq_of_lt (by omega)]
  have : (BitVec.ofInt 64 127).toNat = 2 ^ 7 - 1 := by decide
  rw [this, Nat.and_two_pow_sub_one_eq_mod]
  have : n % 2 ^ 7 < 128 := Nat.mod_lt _ (by decide)
  rw [wrap64 (by omega) (by omega)]
theorem k1 : (6148914691236517205 : Int) = ((6148914691236517205#64 : BitVec 64).toNat : Int) := rfl
theorem k2 : (3689348814741910323 : Int) = ((3689348814741910323#64 : BitVec 64).toNat : Int) := rfl
theorem k3 : (1085102592571150095 : Int) = ((1085102592571150095#64 : BitVec 64).toNat : Int) := rfl
theorem sh (x : BitVec 64) (k : Nat) (b : Int) (hb : b = (k : Int)) (h : k ≤ 64) : (x.toNat : Int).fdiv (2 ^ min b.toNat IntKind.u64.bits) = ((x >>> k).toNat : Int) := by
  subst hb; exact shr64 x k h
theorem sh1 (x : BitVec 64) : (x.toNat : Int).fdiv (2 ^ min (Int.toNat 1) IntKind.u64.bits) = ((x >>> 1).toNat : Int) := sh x 1 1 rfl (by decide)
theorem sh2 (x : BitVec 64) : (x.toNat : Int).fdiv (2 ^ min (Int.toNat 2) IntKind.u64.bits) = ((x >>> 2).toNat : Int) := sh x 2 2 rfl (by decide)
theorem sh4 (x : BitVec 64) : (x.toNat : Int).fdiv (2 ^ min (Int.toNat 4) IntKind.u64.bits) = ((x >>> 4).toNat : Int) := sh x 4 4 rfl (by decide)
theorem sh8 (x : BitVec 64) : (x.toNat : Int).fdiv (2 ^ min (Int.toNat 8) IntKind.u64.bits) = ((x >>> 8).toNat : Int) := sh x 8 8 rfl (by decide)
theorem sh16 (x : BitVec 64) : (x.toNat : Int).fdiv (2 ^ min (Int.toNat 16) IntKind.u64.bits) = ((x >>> 16).toNat : Int) := sh x 16 16 rfl (by decide)
theorem sh32 (x : BitVec 64) : (x.toNat : Int).fdiv (2 ^ min (Int.toNat 32) IntKind.u64.bits) = ((x >>> 32).toNat : Int) := sh x 32 32 rfl (by decide)
def leTo (a b : BitVec 64) (k : Nat) : Prop := ∀ i, i < k → a.getLsbD i = true → b.getLsbD i = true
theorem leB_to (a b : BitVec 64) (h : leTo a b 64) : leB a b = true := (leB_iff a b).2 fun i hi => by
  by_cases h2 : i < 64
  · exact h i h2 hi
  · rw [BitVec.getLsbD_of_ge _ _ (by omega)] at hi; cases hi
theorem leB_no (a b : BitVec 64) {k : Nat} (h1 : a.getLsbD k = true) (h2 : b.getLsbD k = false) : leB a b = false := by
  cases h : leB a b with
  | false => rfl
  | true => have := (leB_iff a b).1 h k h1; rw [h2] at this; cases this
def stepB (b : BitVec 64) (c : UInt8) : BitVec 64 := b <<< 8 ||| BitVec.ofNat 64 c.toNat
theorem step8 (b : BitVec 64) (c : UInt8) : bits .or .u64 (IntKind.u64.wrap ((b.toNat : Int) * 2 ^ min (Int.toNat 8) IntKind.u64.bits)) (IntKind.u64.wrap ((c.toNat : Nat) : Int)) = ((stepB b c).toNat : Int) := by
  have h1 : IntKind.u64.wrap ((b.toNat : Int) * 2 ^ min (Int.toNat 8) IntKind.u64.bits) = ((b <<< 8).toNat : Int) := shl64 b 8 (by decide)
  have hc := c.toNat_lt
  have h2 : IntKind.u64.wrap ((c.toNat : Nat) : Int) = ((BitVec.ofNat 64 c.toNat).toNat : Int) := by
    rw [IntKind.wrap_u64, BitVec.toNat_ofNat]; omega
  rw [h2, h1, bits_or64]
  rfl
theorem at_k {s : List UInt8} {k : Nat} (h : k < s.length) : s[k]?.getD 0 = s[k] := by simp [h]
/-- The label of eight bytes. -/
def of8V (s : List UInt8) : BitVec 64 := if s.length = 8 then s.foldl stepB 0#64 else 0#64
def of8E (s : List UInt8) : Int := if s.length = 8 then 0 else 3
/-- The first k of the bytes. -/
def rowK (a : BitVec 64) (k : Nat) : List AV := (List.range k).map fun i => .int .u8 (byteN a i : Nat)
theorem rowK_len (a : BitVec 64) (k : Nat) : (rowK a k).length = k := by simp [rowK]
theorem rowK_step (a : BitVec 64) (k : Nat) : rowK a k ++ [.int .u8 (byteN a k : Nat)] = rowK a (k + 1) := by simp [rowK, List.range_succ]
theorem rowK_bytes (a : BitVec 64) : (rowK a 8).map Go.Abs.byteOf = bytesL a := by
  simp only [rowK, bytesL, List.map_map]
  apply List.map_congr_left
  intro i _
  simp [Go.Abs.byteOf]
theorem rowK_isByte (a : BitVec 64) (k : Nat) : (rowK a k).all isByte = true := by
  rw [List.all_eq_true]
  intro x hx
  obtain ⟨i, _, rfl⟩ := List.mem_map.1 hx
  rfl
theorem shr_i {k : Nat} (h : k < 8) : IntKind.i64.wrap (8 * (7 - (k : Int))) = ((56 - 8 * k : Nat) : Int) := by rw [wrap64 (by omega) (by omega)]; omega
theorem shr_u {k : Nat} : IntKind.u64.wrap ((56 - 8 * k : Nat) : Int) = ((56 - 8 * k : Nat) : Int) := by rw [IntKind.wrap_u64]; omega
theorem byte_k (a : BitVec 64) (k : Nat) : IntKind.u8.wrap ((a.toNat : Int).fdiv (2 ^ min (56 - 8 * k) IntKind.u64.bits)) = (byteN a k : Nat) := by
  have e4 : min (56 - 8 * k) IntKind.u64.bits = 56 - 8 * k := Nat.min_eq_left (by simp [IntKind.bits]; omega)
  rw [e4, Int.fdiv_eq_ediv_of_nonneg _ (Int.pow_nonneg (by omega))]
  have e5 : ((a.toNat : Int) / 2 ^ (56 - 8 * k)) = ((a.toNat / 2 ^ (56 - 8 * k) : Nat) : Int) := by simp
  rw [e5]
  unfold byteN
  simp [IntKind.wrap, IntKind.signed, IntKind.bits]
end Go.Proofs.YtnmlhilckjmhnaaDoor
