/-
  Words of 64 bits: Go's operations on uint64 are those on BitVec 64.
-/
import Derived.Test.YtnmlhilckjmhnaaDoorAbs13
import Derived.Laws.Bits64b
namespace Go.Abs
def w64 (x : BitVec 64) : AV := .int .u64 (x.toNat : Int)
theorem ofInt_toNat (x : BitVec 64) : BitVec.ofInt 64 (x.toNat : Int) = x := by
  apply BitVec.eq_of_toNat_eq
  rw [BitVec.ofInt_natCast, BitVec.toNat_ofNat]
  exact Nat.mod_eq_of_lt x.isLt
theorem wrap_toNat (x : BitVec 64) : IntKind.u64.wrap (x.toNat : Int) = x.toNat := by
  have := x.isLt
  rw [IntKind.wrap_u64]; omega
theorem bits_and64 (x y : BitVec 64) : bits .and .u64 (x.toNat : Int) (y.toNat : Int) = ((x &&& y).toNat : Int) := by
  show IntKind.u64.wrap ((BitVec.ofInt 64 (x.toNat : Int) &&& BitVec.ofInt 64 (y.toNat : Int)).toNat : Int) = _
  rw [ofInt_toNat, ofInt_toNat, wrap_toNat]
theorem bits_or64 (x y : BitVec 64) : bits .or .u64 (x.toNat : Int) (y.toNat : Int) = ((x ||| y).toNat : Int) := by
  show IntKind.u64.wrap ((BitVec.ofInt 64 (x.toNat : Int) ||| BitVec.ofInt 64 (y.toNat : Int)).toNat : Int) = _
  rw [ofInt_toNat, ofInt_toNat, wrap_toNat]
theorem bits_xor64 (x y : BitVec 64) : bits .xor .u64 (x.toNat : Int) (y.toNat : Int) = ((x ^^^ y).toNat : Int) := by
  show IntKind.u64.wrap ((BitVec.ofInt 64 (x.toNat : Int) ^^^ BitVec.ofInt 64 (y.toNat : Int)).toNat : Int) = _
  rw [ofInt_toNat, ofInt_toNat, wrap_toNat]
theorem bits_andNot64 (x y : BitVec 64) : bits .andNot .u64 (x.toNat : Int) (y.toNat : Int) = ((x &&& ~~~y).toNat : Int) := by
  show IntKind.u64.wrap ((BitVec.ofInt 64 (x.toNat : Int) &&& ~~~BitVec.ofInt 64 (y.toNat : Int)).toNat : Int) = _
  rw [ofInt_toNat, ofInt_toNat, wrap_toNat]
theorem bits_not64 (x : BitVec 64) : bits .xor .u64 18446744073709551615 (x.toNat : Int) = ((~~~x).toNat : Int) := by
  have : (18446744073709551615 : Int) = ((BitVec.allOnes 64).toNat : Int) := by decide
  rw [this, bits_xor64, BitVec.allOnes_xor]
theorem shr64 (x : BitVec 64) (b : Nat) (hb : b ≤ 64) : (x.toNat : Int).fdiv (2 ^ min b 64) = ((x >>> b).toNat : Int) := by
  rw [Nat.min_eq_left hb, BitVec.toNat_ushiftRight, Nat.shiftRight_eq_div_pow]
  rw [Int.fdiv_eq_ediv_of_nonneg _ (by exact Int.pow_nonneg (by omega))]
  simp
theorem shl64 (x : BitVec 64) (b : Nat) (hb : b ≤ 64) : IntKind.u64.wrap ((x.toNat : Int) * 2 ^ min b 64) = ((x <<< b).toNat : Int) := by
  rw [Nat.min_eq_left hb, BitVec.toNat_shiftLeft, IntKind.wrap_u64, Nat.shiftLeft_eq]
  simp
theorem eq64 (x y : BitVec 64) : ((x.toNat : Int) == (y.toNat : Int)) = (x == y) := by
  rw [Bool.eq_iff_iff]
  simp only [beq_iff_eq]
  constructor
  · intro h; apply BitVec.eq_of_toNat_eq; omega
  · rintro rfl; rfl
theorem u64_word {n : Int} (h : 0 ≤ n ∧ n ≤ 18446744073709551615) : ∃ x : BitVec 64, n = x.toNat := by
  refine ⟨BitVec.ofNat 64 n.toNat, ?_⟩
  rw [BitVec.toNat_ofNat, Nat.mod_eq_of_lt (by omega)]; omega
end Go.Abs
