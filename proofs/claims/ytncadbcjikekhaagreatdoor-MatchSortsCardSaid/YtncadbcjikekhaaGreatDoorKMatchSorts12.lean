/- Part 12 of the proof of MatchSorts: an abstract semantics that is proved sound for the model, contracts of functions in it, and plain facts (LS2 LS5 LS4 LS6). No condition. -/
import Derived.Test.YtncadbcjikekhaaGreatDoorKMatchSorts11
import Derived.Lib.TrailingZeros
set_option linter.all false
namespace Go.Proofs.YtncadbcjikekhaaGreatDoor
open Go.Abs
def cats (a : BitVec 64) : List Nat := (List.range 64).filter a.getLsbD
theorem cats_zero : cats 0#64 = [] := by simp [cats]
theorem cats_len (a : BitVec 64) : (cats a).length ≤ 64 := Nat.le_trans (List.length_filter_le _ _) (by simp)
theorem cats_lt {a : BitVec 64} {i : Nat} (h : i ∈ cats a) : i < 64 := by
  have := (List.mem_filter.1 h).1
  simpa using this
theorem filter_first {n k : Nat} {p q : Nat → Bool} (hk : k < n) (hpk : p k = true) (hlt : ∀ i, i < k → p i = false) (hqk : q k = false) (hqlt : ∀ i, i < k → q i = false) (hgt : ∀ i, k < i → i < n → q i = p i) :
    (List.range n).filter p = k :: (List.range n).filter q := by
  obtain ⟨d, rfl⟩ : ∃ d, n = k + (1 + d) := ⟨n - k - 1, by omega⟩
  have e : List.range (k + (1 + d)) = List.range k ++ ([k] ++ (List.range d).map (k + 1 + ·)) := by
    rw [List.range_add, List.range_add]
    simp only [List.map_append, List.map_map]
    congr 1
    congr 1
    exact List.map_congr_left fun x _ => by simp only [Function.comp]; omega
  rw [e, List.filter_append, List.filter_append, List.filter_append, List.filter_append]
  have h1 : ∀ r : Nat → Bool, (∀ i, i < k → r i = false) → (List.range k).filter r = [] := fun r hr => by
    rw [List.filter_eq_nil_iff]
    intro x hx
    simp [hr x (by simpa using hx)]
  rw [h1 p hlt, h1 q hqlt]
  simp only [List.nil_append, List.filter_cons, hpk, hqk, List.filter_nil, if_true, Bool.false_eq_true, if_false, List.cons_append, List.nil_append]
  congr 1
  apply List.filter_congr
  intro x hx
  obtain ⟨y, hy, rfl⟩ := List.mem_map.1 hx
  have := List.mem_range.1 hy
  exact (hgt _ (by omega) (by omega)).symm
theorem ctz_bits (b : BitVec 64) (h : b ≠ 0#64) : Lib.ctz 64 b.toNat < 64 ∧ b.getLsbD (Lib.ctz 64 b.toNat) = true ∧ (∀ i, i < Lib.ctz 64 b.toNat → b.getLsbD i = false) ∧ ∀ i, (b &&& (b - 1#64)).getLsbD i = (b.getLsbD i && i != Lib.ctz 64 b.toNat) := by
  have h0 : b.toNat ≠ 0 := fun e => h (BitVec.eq_of_toNat_eq (by simpa using e))
  have e0 : Lib.ctz 64 b.toNat = Lib.ctzFrom 64 b.toNat := by simp [Lib.ctz, h0]
  obtain ⟨m, hm, hk⟩ := Lib.ctzFrom_spec 64 b.toNat (by omega) b.isLt
  rw [e0]
  generalize Lib.ctzFrom 64 b.toNat = k at hm hk
  have hb : ∀ i, b.getLsbD i = (decide (k ≤ i) && (2 * m + 1).testBit (i - k)) := fun i => by
    show b.toNat.testBit i = _
    rw [hm, Nat.mul_comm, Nat.testBit_mul_two_pow]
  have h1 : (b - 1#64).toNat = 2 ^ k * (2 * m) + (2 ^ k - 1) := by
    have hp := Nat.two_pow_pos k
    have : (b - 1#64).toNat = b.toNat - 1 := by
      rw [BitVec.toNat_sub]
      have := b.isLt
      simp only [BitVec.toNat_ofNat]
      omega
    rw [this, hm, Nat.mul_add]
    omega
  have hs : ∀ i, (b - 1#64).getLsbD i = if k ≤ i then (2 * m).testBit (i - k) else true := fun i => by
    show (b - 1#64).toNat.testBit i = _
    have hlt : 2 ^ k - 1 < 2 ^ k := by have := Nat.two_pow_pos k; omega
    rw [h1, Nat.testBit_two_pow_mul_add _ hlt]
    by_cases hik : k ≤ i
    · rw [if_pos hik, if_neg (by omega)]
    · rw [if_neg hik, if_pos (by omega), Nat.testBit_two_pow_sub_one]; simp; omega
  refine ⟨hk, ?_, fun i hi => ?_, fun i => ?_⟩
  · rw [hb]; simp [Nat.testBit_zero]
  · rw [hb]; simp [Nat.not_le_of_lt hi]
  · rw [BitVec.getLsbD_and, hs, hb]
    rcases Nat.lt_trichotomy i k with h2 | rfl | h2
    · simp [Nat.not_le_of_lt h2]
    · simp [Nat.testBit_zero]
    · obtain ⟨d, rfl⟩ : ∃ d, i = k + (d + 1) := ⟨i - k - 1, by omega⟩
      have e3 : k + (d + 1) - k = d + 1 := by omega
      have d1 : (2 * m + 1) / 2 = m := by omega
      have d2 : (2 * m) / 2 = m := by omega
      have hne : (k + (d + 1) != k) = true := by simp
      rw [e3, Nat.testBit_succ, Nat.testBit_succ, d1, d2, hne]
      simp
theorem cats_step (b : BitVec 64) (h : b ≠ 0#64) : cats b = Lib.ctz 64 b.toNat :: cats (b &&& (b - 1#64)) := by
  obtain ⟨h1, h2, h3, h4⟩ := ctz_bits b h
  refine filter_first h1 h2 h3 ?_ (fun i hi => ?_) (fun i hi _ => ?_)
  · rw [h4]; simp
  · rw [h4, h3 i hi]; rfl
  · rw [h4]
    have : (i != Lib.ctz 64 b.toNat) = true := by simp; omega
    rw [this, Bool.and_true]
def dec2 (k : Nat) : List UInt8 := if k < 10 then [UInt8.ofNat (48 + k)] else [UInt8.ofNat (48 + k / 10), UInt8.ofNat (48 + k % 10)]
def commas : List Nat → List UInt8
  | [] => []
  | k :: l => 44 :: (dec2 k ++ commas l)
def bodyT : List Nat → List UInt8
  | [] => []
  | k :: l => dec2 k ++ commas l
def textL (a : BitVec 64) : List UInt8 := 123 :: (bodyT (cats a) ++ [125])
theorem dec2_len (k : Nat) : 1 ≤ (dec2 k).length ∧ (dec2 k).length ≤ 2 := by unfold dec2; split <;> simp
theorem commas_len : ∀ l, (commas l).length ≤ 3 * l.length
  | [] => by simp [commas]
  | k :: l => by
    have := commas_len l
    have := dec2_len k
    simp only [commas, List.length_cons, List.length_append]
    omega
theorem bodyT_len (a : BitVec 64) : (bodyT (cats a)).length ≤ 192 := by
  have := cats_len a
  cases h : cats a with
  | nil => simp [bodyT]
  | cons k l =>
    have h1 := commas_len l
    have h2 := dec2_len k
    rw [h] at this
    simp only [List.length_cons] at this
    simp only [bodyT, List.length_append]
    omega
end Go.Proofs.YtncadbcjikekhaaGreatDoor
namespace Go.Proofs.YtncadbcjikekhaaGreatDoor
open Go.Abs
def p1 (b : Nat) : Nat := ((b >>> 1) &&& 85) + ((b >>> 0) &&& 85)
def p2 (b : Nat) : Nat := ((b >>> 2) &&& 51) + ((b >>> 0) &&& 51)
def p3 (b : Nat) : Nat := (b / 16 + b) % 16
end Go.Proofs.YtncadbcjikekhaaGreatDoor
namespace Go.Proofs.YtncadbcjikekhaaGreatDoor
open Go.Abs
structure RL where
  l : BitVec 64
  used : Nat
  err : Nat
  at_ : Nat
def bad (e a : Nat) : RL := ⟨0#64, 0, e, a⟩
end Go.Proofs.YtncadbcjikekhaaGreatDoor
namespace Go.Proofs.YtncadbcjikekhaaGreatDoor
open Go.Abs
def Inc (last : Int) : List Nat → Prop
  | [] => True
  | k :: ks => last < (k : Int) ∧ k ≤ 63 ∧ Inc (k : Int) ks
theorem Inc.all : ∀ {ks : List Nat} {last : Int}, Inc last ks → ∀ x ∈ ks, last < (x : Int) ∧ x ≤ 63
  | k :: ks, last, h, x, hx => by
    obtain ⟨h1, h2, h3⟩ := h
    rcases List.mem_cons.1 hx with rfl | hx
    · exact ⟨h1, h2⟩
    · have := Inc.all h3 x hx; omega
end Go.Proofs.YtncadbcjikekhaaGreatDoor
