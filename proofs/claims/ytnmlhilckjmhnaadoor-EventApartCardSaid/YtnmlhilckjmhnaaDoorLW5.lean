/-
  Labels: the eight bytes.
-/
import Derived.Test.YtnmlhilckjmhnaaDoorLW4
namespace Go.Proofs.YtnmlhilckjmhnaaDoor
open Go.Abs
set_option linter.all false
set_option maxRecDepth 100000

/-- The byte at a place, the highest one first. -/
def byteN (a : BitVec 64) (i : Nat) : Nat := a.toNat / 2 ^ (56 - 8 * i) % 256
def bytesL (a : BitVec 64) : List UInt8 := (List.range 8).map fun i => UInt8.ofNat (byteN a i)
def rowB (a : BitVec 64) (k : Nat) : List AV := (List.range 8).map fun i => .int .u8 (if i < k then (byteN a i : Nat) else 0 : Int)
theorem rowB_step (a : BitVec 64) {k : Nat} (h : k < 8) : (rowB a k).take k ++ [.int .u8 (byteN a k : Nat)] ++ (rowB a k).drop (k + 1) = rowB a (k + 1) := by
  rcases (by omega : k = 0 ∨ k = 1 ∨ k = 2 ∨ k = 3 ∨ k = 4 ∨ k = 5 ∨ k = 6 ∨ k = 7) with rfl | rfl | rfl | rfl | rfl | rfl | rfl | rfl <;> rfl
theorem rowB_bytes (a : BitVec 64) : (rowB a 8).map Go.Abs.byteOf = bytesL a := by
  simp only [rowB, bytesL, List.map_map]
  apply List.map_congr_left
  intro i hi
  have : i < 8 := by simpa using hi
  simp [Go.Abs.byteOf, this]
theorem rowB_isByte (a : BitVec 64) (k : Nat) : (rowB a k).all isByte = true := by
  rw [List.all_eq_true]
  intro x hx
  obtain ⟨i, _, rfl⟩ := List.mem_map.1 hx
  rfl
theorem rowB_len (a : BitVec 64) (k : Nat) : (rowB a k).length = 8 := by simp [rowB]
theorem byte_shr (a : BitVec 64) {k : Nat} (h : k < 8) : IntKind.u8.wrap ((a.toNat : Int).fdiv (2 ^ min (IntKind.u64.wrap (IntKind.i64.wrap (56 - IntKind.i64.wrap (8 * (k : Int))))).toNat IntKind.u64.bits)) = (byteN a k : Nat) := by
  have e1 : IntKind.i64.wrap (8 * (k : Int)) = 8 * k := by rw [wrap64 (by omega) (by omega)]
  have e2 : IntKind.i64.wrap (56 - 8 * (k : Int)) = ((56 - 8 * k : Nat) : Int) := by rw [wrap64 (by omega) (by omega)]; omega
  have e3 : IntKind.u64.wrap ((56 - 8 * k : Nat) : Int) = ((56 - 8 * k : Nat) : Int) := by rw [IntKind.wrap_u64]; omega
  rw [e1, e2, e3, Int.toNat_natCast]
  have e4 : min (56 - 8 * k) IntKind.u64.bits = 56 - 8 * k := Nat.min_eq_left (by simp [IntKind.bits]; omega)
  rw [e4, Int.fdiv_eq_ediv_of_nonneg _ (Int.pow_nonneg (by omega))]
  have e5 : ((a.toNat : Int) / 2 ^ (56 - 8 * k)) = ((a.toNat / 2 ^ (56 - 8 * k) : Nat) : Int) := by simp
  rw [e5]
  unfold byteN
  simp [IntKind.wrap, IntKind.signed, IntKind.bits]
end Go.Proofs.YtnmlhilckjmhnaaDoor
