/-
  Labels: counting the ones of a word by adding within it.
-/
import Derived.Test.YtnmlhilckjmhnaaDoorLS2
namespace Go.Proofs.YtnmlhilckjmhnaaDoor
open Go.Abs
def ev8 : List Nat → Nat
  | [] => 0
  | b :: bs => 256 * ev8 bs + b
theorem ev8_lt : ∀ (l : List Nat), (∀ b ∈ l, b < 256) → ev8 l < 256 ^ l.length
  | [], _ => by simp [ev8]
  | b :: l, h => by
    have h1 := ev8_lt l fun x hx => h x (by simp [hx])
    have h2 := h b (by simp)
    simp only [ev8, List.length_cons, Nat.pow_succ]
    omega
theorem ev8_bit (h b : Nat) (hb : b < 256) (i : Nat) : (256 * h + b).testBit i = if i < 8 then b.testBit i else h.testBit (i - 8) := by
  have := Nat.testBit_two_pow_mul_add (i := 8) h (b := b) (by simpa using hb) i
  simpa using this
theorem hi_bit {b : Nat} {n i : Nat} (hb : b < 2 ^ n) (h : n ≤ i) : b.testBit i = false := Nat.testBit_lt_two_pow (Nat.lt_of_lt_of_le hb (Nat.pow_le_pow_right (by omega) h))
/-- A shift and a mask go byte by byte, where the mask keeps nothing of the next byte. -/
theorem ev8_mask (s m : Nat) (hm : m < 2 ^ (8 - s)) (hs : s < 8) : ∀ (l : List Nat), (∀ b ∈ l, b < 256) → (ev8 l >>> s) &&& ev8 (l.map fun _ => m) = ev8 (l.map fun b => (b >>> s) &&& m)
  | [], _ => by simp [ev8]
  | b :: l, h => by
    have ih := ev8_mask s m hm hs l fun x hx => h x (by simp [hx])
    have hb := h b (by simp)
    have hm2 : m < 256 := Nat.lt_of_lt_of_le hm (Nat.pow_le_pow_right (n := 2) (by omega) (by omega : 8 - s ≤ 8))
    have hx : (b >>> s) &&& m < 256 := Nat.lt_of_le_of_lt Nat.and_le_right hm2
    simp only [List.map_cons, ev8]
    rw [← ih]
    apply Nat.eq_of_testBit_eq
    intro i
    rw [Nat.testBit_and, Nat.testBit_shiftRight, ev8_bit _ _ hb, ev8_bit _ _ hm2, ev8_bit _ _ hx]
    by_cases h1 : i < 8
    · rw [if_pos h1, if_pos h1, Nat.testBit_and, Nat.testBit_shiftRight]
      by_cases h2 : s + i < 8
      · rw [if_pos h2]
      · have : m.testBit i = false := hi_bit hm (by omega)
        rw [this]; simp
    · rw [if_neg h1, if_neg h1, if_neg (by omega), Nat.testBit_and, Nat.testBit_shiftRight, show s + i - 8 = s + (i - 8) by omega]
theorem ev8_add (f g : Nat → Nat) : ∀ l : List Nat, ev8 (l.map f) + ev8 (l.map g) = ev8 (l.map fun b => f b + g b)
  | [] => by simp [ev8]
  | b :: l => by
    have := ev8_add f g l
    simp only [List.map_cons, ev8]; omega
def p1 (b : Nat) : Nat := ((b >>> 1) &&& 85) + ((b >>> 0) &&& 85)
def p2 (b : Nat) : Nat := ((b >>> 2) &&& 51) + ((b >>> 0) &&& 51)
def p3 (b : Nat) : Nat := (b / 16 + b) % 16
/-- The number of ones. -/
def ones (x n : Nat) : Nat := (List.range n).countP fun i => x.testBit i
theorem p1_lt : ∀ b : Fin 256, p1 b.val < 256 := by decide +kernel
theorem p2_lt : ∀ b : Fin 256, p2 (p1 b.val) % 16 ≤ 4 ∧ p2 (p1 b.val) / 16 ≤ 4 := by decide +kernel
theorem p3_eq : ∀ b : Fin 256, p3 (p2 (p1 b.val)) = ones b.val 8 := by decide +kernel
/-- The third step. -/
theorem ev8_fold : ∀ (l : List Nat), (∀ b ∈ l, b % 16 ≤ 4 ∧ b / 16 ≤ 4) → (ev8 l / 16 + ev8 l) &&& ev8 (l.map fun _ => 15) = ev8 (l.map p3) ∧ ev8 l % 16 ≤ 4
  | [], _ => by simp [ev8]
  | b :: l, h => by
    obtain ⟨ih, hl⟩ := ev8_fold l fun x hx => h x (by simp [hx])
    have hb := h b (by simp)
    simp only [List.map_cons, ev8]
    refine ⟨?_, by omega⟩
    rw [← ih]
    have e : (256 * ev8 l + b) / 16 + (256 * ev8 l + b) = 256 * (ev8 l / 16 + ev8 l) + (16 * (ev8 l % 16) + b / 16 + b) := by omega
    have hlo : 16 * (ev8 l % 16) + b / 16 + b < 256 := by omega
    have hp : p3 b < 256 := by unfold p3; omega
    have hp2 : (16 * (ev8 l % 16) + b / 16 + b) % 16 = p3 b := by unfold p3; omega
    rw [e]
    apply Nat.eq_of_testBit_eq
    intro i
    rw [Nat.testBit_and, ev8_bit _ _ hlo, ev8_bit _ _ (show 15 < 256 by omega), ev8_bit _ _ hp]
    by_cases h1 : i < 8
    · rw [if_pos h1, if_pos h1, if_pos h1, ← hp2, ← Nat.testBit_and]
      congr 1
      exact Nat.and_two_pow_sub_one_eq_mod _ 4
    · rw [if_neg h1, if_neg h1, if_neg h1, Nat.testBit_and]
def bytes8 (x : Nat) : List Nat := [x % 256, x / 256 % 256, x / 65536 % 256, x / 16777216 % 256, x / 4294967296 % 256, x / 1099511627776 % 256, x / 281474976710656 % 256, x / 72057594037927936 % 256]
theorem ev8_bytes {x : Nat} (h : x < 18446744073709551616) : ev8 (bytes8 x) = x := by simp only [bytes8, ev8]; omega
theorem bytes8_lt (x : Nat) : ∀ b ∈ bytes8 x, b < 256 := by
  intro b hb
  simp only [bytes8, List.mem_cons, List.not_mem_nil, or_false] at hb
  omega
theorem ones_step (h b n : Nat) (hb : b < 256) : ones (256 * h + b) (8 + n) = ones b 8 + ones h n := by
  unfold ones
  rw [List.range_add, List.countP_append, List.countP_map]
  congr 1
  · apply List.countP_congr
    intro i hi
    rw [ev8_bit _ _ hb, if_pos (by simpa using hi)]
  · apply List.countP_congr
    intro i _
    simp only [Function.comp]
    rw [ev8_bit _ _ hb, if_neg (by omega), show 8 + i - 8 = i by omega]
theorem ones_ev8 : ∀ l : List Nat, (∀ b ∈ l, b < 256) → ones (ev8 l) (8 * l.length) = (l.map fun b => ones b 8).sum
  | [], _ => by simp [ones]
  | b :: l, h => by
    rw [List.length_cons, Nat.mul_add, Nat.mul_one, Nat.add_comm, ev8, ones_step _ _ _ (h b (by simp)), ones_ev8 l fun x hx => h x (by simp [hx]), List.map_cons, List.sum_cons]
theorem ones_le (x n : Nat) : ones x n ≤ n := by
  have := List.countP_le_length (p := fun i => x.testBit i) (l := List.range n)
  simpa [ones] using this
/-- The steps on a word. -/
def swar3 (x : Nat) : Nat :=
  let y := ((x >>> 1) &&& 6148914691236517205) + (x &&& 6148914691236517205)
  let z := ((y >>> 2) &&& 3689348814741910323) + (y &&& 3689348814741910323)
  ((z >>> 4) + z) &&& 1085102592571150095
theorem swar_1 (l : List Nat) (hn : l.length = 8) (h : ∀ b ∈ l, b < 256) : ((ev8 l >>> 1) &&& 6148914691236517205) + (ev8 l &&& 6148914691236517205) = ev8 (l.map p1) := by
  have em : ev8 (l.map fun _ => 85) = 6148914691236517205 := by
    rw [List.map_const', hn]; rfl
  have h1 := ev8_mask 1 85 (by decide) (by decide) l h
  have h0 := ev8_mask 0 85 (by decide) (by decide) l h
  rw [em] at h1 h0
  rw [Nat.shiftRight_zero] at h0
  rw [h1, h0, ev8_add]
  rfl
theorem swar_2 (l : List Nat) (hn : l.length = 8) (h : ∀ b ∈ l, b < 256) : ((ev8 l >>> 2) &&& 3689348814741910323) + (ev8 l &&& 3689348814741910323) = ev8 (l.map p2) := by
  have em : ev8 (l.map fun _ => 51) = 3689348814741910323 := by
    rw [List.map_const', hn]; rfl
  have h1 := ev8_mask 2 51 (by decide) (by decide) l h
  have h0 := ev8_mask 0 51 (by decide) (by decide) l h
  rw [em] at h1 h0
  rw [Nat.shiftRight_zero] at h0
  rw [h1, h0, ev8_add]
  rfl
theorem swar_3 (l : List Nat) (hn : l.length = 8) (h : ∀ b ∈ l, b % 16 ≤ 4 ∧ b / 16 ≤ 4) : ((ev8 l >>> 4) + ev8 l) &&& 1085102592571150095 = ev8 (l.map p3) := by
  have em : ev8 (l.map fun _ => 15) = 1085102592571150095 := by
    rw [List.map_const', hn]; rfl
  have h1 := (ev8_fold l h).1
  rw [em] at h1
  rw [Nat.shiftRight_eq_div_pow]
  exact h1
theorem swar3_eq {x : Nat} (h : x < 18446744073709551616) : swar3 x = ev8 ((bytes8 x).map fun b => ones b 8) ∧ ((x >>> 1) &&& 6148914691236517205) + (x &&& 6148914691236517205) < 18446744073709551616 ∧
    (((((x >>> 1) &&& 6148914691236517205) + (x &&& 6148914691236517205)) >>> 2) &&& 3689348814741910323) + ((((x >>> 1) &&& 6148914691236517205) + (x &&& 6148914691236517205)) &&& 3689348814741910323) ≤ 17361641481138401520 := by
  have hl := bytes8_lt x
  have e := ev8_bytes h
  have s1 := swar_1 (bytes8 x) rfl hl
  have hl1 : ∀ b ∈ (bytes8 x).map p1, b < 256 := fun b hb => by
    obtain ⟨c, hc, rfl⟩ := List.mem_map.1 hb
    exact p1_lt ⟨c, hl c hc⟩
  have s2 := swar_2 ((bytes8 x).map p1) rfl hl1
  have hl2 : ∀ b ∈ ((bytes8 x).map p1).map p2, b % 16 ≤ 4 ∧ b / 16 ≤ 4 := fun b hb => by
    simp only [List.map_map] at hb
    obtain ⟨c, hc, rfl⟩ := List.mem_map.1 hb
    exact p2_lt ⟨c, hl c hc⟩
  have s3 := swar_3 (((bytes8 x).map p1).map p2) rfl hl2
  rw [e] at s1
  have b1 := ev8_lt _ hl1
  rw [← s1] at s2 b1
  have b2 : ev8 (((bytes8 x).map p1).map p2) ≤ 17361641481138401520 := by
    have hl3 : ∀ b ∈ ((bytes8 x).map p1).map p2, b ≤ 68 := fun b hb => by have := hl2 b hb; omega
    simp only [bytes8, List.map_cons, List.map_nil, ev8] at hl3 ⊢
    simp only [List.mem_cons, List.not_mem_nil, or_false, forall_eq_or_imp, forall_eq] at hl3
    omega
  rw [← s2] at s3 b2
  refine ⟨?_, by simpa [bytes8] using b1, b2⟩
  unfold swar3
  rw [s3, List.map_map, List.map_map]
  congr 1
  apply List.map_congr_left
  intro b hb
  exact p3_eq ⟨b, hl b hb⟩
theorem divK {K A a X : Nat} (h : a < K) (e : X = K * A + a) : X / K = A := by
  rw [e, Nat.mul_add_div (by omega), Nat.div_eq_of_lt h, Nat.add_zero]
theorem modK {K A a X : Nat} (h : a < K) (e : X = K * A + a) : X % K = a := by
  rw [e, Nat.mul_add_mod, Nat.mod_eq_of_lt h]
theorem swar_sum (q0 q1 q2 q3 q4 q5 q6 q7 : Nat) (h0 : q0 ≤ 8) (h1 : q1 ≤ 8) (h2 : q2 ≤ 8) (h3 : q3 ≤ 8) (h4 : q4 ≤ 8) (h5 : q5 ≤ 8) (h6 : q6 ≤ 8) (h7 : q7 ≤ 8) :
    256 * (256 * (256 * (256 * (256 * (256 * (256 * (256 * 0 + q7) + q6) + q5) + q4) + q3) + q2) + q1) + q0 ≤ 578721382704613384 ∧
    (256 * (256 * (256 * (256 * (256 * (256 * (256 * (256 * 0 + q7) + q6) + q5) + q4) + q3) + q2) + q1) + q0 +
      (256 * (256 * (256 * (256 * (256 * (256 * (256 * (256 * 0 + q7) + q6) + q5) + q4) + q3) + q2) + q1) + q0) / 256 +
      (256 * (256 * (256 * (256 * (256 * (256 * (256 * (256 * 0 + q7) + q6) + q5) + q4) + q3) + q2) + q1) + q0 +
        (256 * (256 * (256 * (256 * (256 * (256 * (256 * (256 * 0 + q7) + q6) + q5) + q4) + q3) + q2) + q1) + q0) / 256) / 65536 +
      (256 * (256 * (256 * (256 * (256 * (256 * (256 * (256 * 0 + q7) + q6) + q5) + q4) + q3) + q2) + q1) + q0 +
        (256 * (256 * (256 * (256 * (256 * (256 * (256 * (256 * 0 + q7) + q6) + q5) + q4) + q3) + q2) + q1) + q0) / 256 +
        (256 * (256 * (256 * (256 * (256 * (256 * (256 * (256 * 0 + q7) + q6) + q5) + q4) + q3) + q2) + q1) + q0 +
          (256 * (256 * (256 * (256 * (256 * (256 * (256 * (256 * 0 + q7) + q6) + q5) + q4) + q3) + q2) + q1) + q0) / 256) / 65536) / 4294967296) % 128 =
      q0 + (q1 + (q2 + (q3 + (q4 + (q5 + (q6 + (q7 + 0))))))) := by
  refine ⟨by omega, ?_⟩
  generalize hY : 256 * (256 * (256 * (256 * (256 * (256 * (256 * (256 * 0 + q7) + q6) + q5) + q4) + q3) + q2) + q1) + q0 = Y
  have d1 : Y / 256 = q1 + 256 * q2 + 65536 * q3 + 16777216 * q4 + 4294967296 * q5 + 1099511627776 * q6 + 281474976710656 * q7 := divK (a := q0) (by omega) (by omega)
  rw [d1]
  generalize hZ : Y + (q1 + 256 * q2 + 65536 * q3 + 16777216 * q4 + 4294967296 * q5 + 1099511627776 * q6 + 281474976710656 * q7) = Z
  have d2 : Z / 65536 = (q2 + q3) + 256 * (q3 + q4) + 65536 * (q4 + q5) + 16777216 * (q5 + q6) + 4294967296 * (q6 + q7) + 1099511627776 * q7 := divK (a := q0 + q1 + 256 * (q1 + q2)) (by omega) (by omega)
  rw [d2]
  generalize hX : Z + ((q2 + q3) + 256 * (q3 + q4) + 65536 * (q4 + q5) + 16777216 * (q5 + q6) + 4294967296 * (q6 + q7) + 1099511627776 * q7) = X
  have d3 : X / 4294967296 = (q4 + q5 + q6 + q7) + 256 * (q5 + q6 + q7) + 65536 * (q6 + q7) + 16777216 * q7 := divK (a := (q0 + q1 + q2 + q3) + 256 * (q1 + q2 + q3 + q4) + 65536 * (q2 + q3 + q4 + q5) + 16777216 * (q3 + q4 + q5 + q6)) (by omega) (by omega)
  rw [d3]
  exact modK (A := 2 * (q1 + q2 + q3 + q4) + 512 * (q2 + q3 + q4 + q5) + 131072 * (q3 + q4 + q5 + q6) + 33554432 * ((q4 + q5 + q6 + q7) + 256 * (q5 + q6 + q7) + 65536 * (q6 + q7) + 16777216 * q7) + 2 * (q5 + q6 + q7) + 512 * (q6 + q7) + 131072 * q7) (by omega) (by omega)
theorem swar_end {x : Nat} (h : x < 18446744073709551616) (y : Nat) (hy : y = swar3 x) : y ≤ 578721382704613384 ∧ (y + y / 256 + (y + y / 256) / 65536 + (y + y / 256 + (y + y / 256) / 65536) / 4294967296) % 128 = ones x 64 := by
  have e := ones_ev8 (bytes8 x) (bytes8_lt x)
  rw [ev8_bytes h] at e
  have e' : ones x 64 = ((bytes8 x).map fun b => ones b 8).sum := e
  rw [e']
  subst hy
  rw [(swar3_eq h).1]
  have hle : ∀ c ∈ (bytes8 x).map fun b => ones b 8, c ≤ 8 := fun c hc => by
    obtain ⟨b, _, rfl⟩ := List.mem_map.1 hc
    exact ones_le _ _
  obtain ⟨q0, q1, q2, q3, q4, q5, q6, q7, hq⟩ : ∃ q0 q1 q2 q3 q4 q5 q6 q7, (bytes8 x).map (fun b => ones b 8) = [q0, q1, q2, q3, q4, q5, q6, q7] := ⟨_, _, _, _, _, _, _, _, rfl⟩
  rw [hq] at hle ⊢
  simp only [List.mem_cons, List.not_mem_nil, or_false, forall_eq_or_imp, forall_eq] at hle
  simp only [ev8, List.sum_cons, List.sum_nil]
  exact swar_sum q0 q1 q2 q3 q4 q5 q6 q7 hle.1 hle.2.1 hle.2.2.1 hle.2.2.2.1 hle.2.2.2.2.1 hle.2.2.2.2.2.1 hle.2.2.2.2.2.2.1 hle.2.2.2.2.2.2.2
end Go.Proofs.YtnmlhilckjmhnaaDoor
