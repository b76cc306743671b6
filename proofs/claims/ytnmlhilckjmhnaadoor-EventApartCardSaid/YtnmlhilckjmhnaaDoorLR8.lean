/-
  Labels: categories to labels, both; the rest of the reference.
-/
import Derived.Test.YtnmlhilckjmhnaaDoorLR7
import Derived.Test.YtnmlhilckjmhnaaDoorLW5
namespace Go.Proofs.YtnmlhilckjmhnaaDoor
open Go.Abs
set_option linter.all false
set_option maxRecDepth 100000

def cInt (x : Int) : List AV := [.int .i64 x]
theorem cInt_get (l : List Int) (k : Nat) (h : k < l.length) : ((l.flatMap cInt).drop (k * 1)).take 1 = cInt l[k] := flat_get (f := cInt) (fun _ => rfl) l k h
theorem cInt_len (l : List Int) : (l.flatMap cInt).length = l.length * 1 := flat_len (f := cInt) (fun _ => rfl) l
theorem take_succ_eq {α : Type} {a b : List α} {k : Nat} (ha : k < a.length) (hb : k < b.length) (h : a.take k = b.take k) : a.take (k + 1) = b.take (k + 1) ↔ a[k] = b[k] := by
  have e1 := List.take_append_getElem ha
  have e2 := List.take_append_getElem hb
  rw [← e1, ← e2, h]
  constructor
  · intro e; exact (List.append_inj' e rfl).2 |> List.cons.inj |>.1
  · intro e; rw [e]
theorem ne_of_take {α : Type} {a b : List α} (k : Nat) (h : a.take k ≠ b.take k) : a ≠ b := fun e => h (by rw [e])
def inR (c : Int) : Bool := decide (0 ≤ c) && decide (c ≤ 63)
def orC (b : BitVec 64) (c : Int) : BitVec 64 := b ||| 1#64 <<< c.toNat
/-- The label of some categories, and whether they are ones. -/
def ofV (l : List Int) : BitVec 64 := bif l.all inR then l.foldl orC 0#64 else 0#64
def ofE (l : List Int) : Int := bif l.all inR then 0 else 2
theorem shl1 {c : Int} (h : inR c = true) : IntKind.u64.wrap (1 * 2 ^ min (IntKind.u64.wrap c).toNat IntKind.u64.bits) = ((1#64 <<< c.toNat).toNat : Int) := by
  simp only [inR, Bool.and_eq_true, decide_eq_true_eq] at h
  have := shl64 (1#64) c.toNat (by omega)
  rw [IntKind.wrap_u64 c, Int.emod_eq_of_lt (by omega) (by omega)]
  exact this
theorem wrapC {c : Int} (h : inR c = true) : 0 ≤ IntKind.u64.wrap c := by rw [IntKind.wrap_u64]; omega
theorem all_take {l : List Int} {k : Nat} (hk : k < l.length) (h : (l.take k).all inR = true) (hc : inR l[k] = true) : (l.take (k + 1)).all inR = true := by
  rw [← List.take_append_getElem hk, List.all_append, h]; simp [hc]
theorem all_no {l : List Int} {k : Nat} (hk : k < l.length) (hc : inR l[k] = false) : l.all inR = false := by
  rw [List.all_eq_false]; exact ⟨l[k], List.getElem_mem hk, by simp [hc]⟩
theorem notIn {c : Int} : (decide (c < 0) || decide (63 < c)) = !inR c := by
  unfold inR; rw [Bool.eq_iff_iff]; simp only [Bool.or_eq_true, decide_eq_true_eq, Bool.not_eq_true', Bool.and_eq_false_iff, decide_eq_false_iff_not]; omega
theorem inR_nat {c : Int} (h : inR c = true) : ∃ k : Nat, k < 64 ∧ c = k := by
  simp only [inR, Bool.and_eq_true, decide_eq_true_eq] at h
  exact ⟨c.toNat, by omega, by omega⟩
theorem and_one (a : BitVec 64) (k : Nat) : (a &&& 1#64 <<< k != 0#64) = (decide (k < 64) && a.getLsbD k) := by
  rw [Bool.eq_iff_iff, bne_iff_ne, Bool.and_eq_true, decide_eq_true_eq]
  have hb : ∀ i, (1#64 <<< k).getLsbD i = (decide (i < 64) && decide (i = k)) := fun i => by
    rw [BitVec.getLsbD_shiftLeft]
    by_cases hi : i < 64
    · by_cases hk : i < k
      · simp [hi, hk]; omega
      · by_cases he : i = k
        · subst he; simp [hi]
        · obtain ⟨d, hd⟩ : ∃ d, i - k = d + 1 := ⟨i - k - 1, by omega⟩
          simp [hi, hk, he, hd, BitVec.getLsbD_one]
    · simp [hi]
  constructor
  · intro hne
    have : ∃ i, i < 64 ∧ (a &&& 1#64 <<< k).getLsbD i = true := by
      apply Classical.byContradiction
      intro hno
      apply hne
      apply BitVec.eq_of_getLsbD_eq
      intro i hi
      cases h : (a &&& 1#64 <<< k).getLsbD i with
      | false => simp
      | true => exact (hno ⟨i, hi, h⟩).elim
    obtain ⟨i, hi, hbit⟩ := this
    rw [BitVec.getLsbD_and, hb] at hbit
    simp only [Bool.and_eq_true, decide_eq_true_eq] at hbit
    obtain ⟨h1, _, rfl⟩ := hbit
    exact ⟨hi, h1⟩
  · rintro ⟨hk, h1⟩ he
    have : (a &&& 1#64 <<< k).getLsbD k = (0#64).getLsbD k := by rw [he]
    rw [BitVec.getLsbD_and, hb, h1] at this
    simp [hk] at this
theorem bit_test (a : BitVec 64) (c : Int) : (bits .and .u64 (a.toNat : Int) ((ofV [c]).toNat : Int) != 0) = (inR c && a.getLsbD c.toNat) := by
  rw [bits_and64, w_ne]
  unfold ofV
  cases hin : inR c with
  | false => simp [hin]
  | true =>
    obtain ⟨k, hk, rfl⟩ := inR_nat hin
    have := and_one a k
    simp only [bne] at this
    simp [hin, orC, this, hk]
end Go.Proofs.YtnmlhilckjmhnaaDoor
