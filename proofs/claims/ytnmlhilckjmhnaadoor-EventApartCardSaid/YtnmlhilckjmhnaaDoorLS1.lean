/-
  Labels: the plain part: sets of 64 categories as words.
-/
import Derived.Test.YtnmlhilckjmhnaaDoorAbs25
namespace Go.Proofs.YtnmlhilckjmhnaaDoor
open Go.Abs
def leB (a b : BitVec 64) : Bool := (a &&& ~~~b) == 0#64
theorem leB_iff (a b : BitVec 64) : leB a b = true ↔ ∀ i, a.getLsbD i = true → b.getLsbD i = true := by
  simp only [leB, beq_iff_eq]
  constructor
  · intro h i ha
    have h1 : (a &&& ~~~b).getLsbD i = false := by rw [h]; simp
    have hi : i < 64 := by
      rcases Nat.lt_or_ge i 64 with h2 | h2
      · exact h2
      · rw [BitVec.getLsbD_of_ge _ _ h2] at ha; cases ha
    simp [hi, ha] at h1
    exact h1
  · intro h
    apply BitVec.eq_of_getLsbD_eq
    intro i hi
    have := h i
    simp [hi]
    exact this
theorem leB_refl (a : BitVec 64) : leB a a = true := (leB_iff a a).2 fun _ h => h
theorem leB_anti {a b : BitVec 64} (h : leB a b = true) (k : leB b a = true) : a = b := by
  apply BitVec.eq_of_getLsbD_eq
  intro i _
  have h1 := (leB_iff a b).1 h i
  have h2 := (leB_iff b a).1 k i
  cases ha : a.getLsbD i <;> cases hb : b.getLsbD i <;> simp_all
theorem leB_trans {a b c : BitVec 64} (h : leB a b = true) (k : leB b c = true) : leB a c = true :=
  (leB_iff a c).2 fun i hi => (leB_iff b c).1 k i ((leB_iff a b).1 h i hi)
theorem leB_join (a b c : BitVec 64) : leB (a ||| b) c = (leB a c && leB b c) := by
  rw [Bool.eq_iff_iff, Bool.and_eq_true, leB_iff, leB_iff, leB_iff]
  constructor
  · exact fun h => ⟨fun i hi => h i (by simp [hi]), fun i hi => h i (by simp [hi])⟩
  · rintro ⟨h, k⟩ i hi
    simp only [BitVec.getLsbD_or, Bool.or_eq_true] at hi
    exact hi.elim (h i) (k i)
theorem leB_meet (a b c : BitVec 64) : leB c (a &&& b) = (leB c a && leB c b) := by
  rw [Bool.eq_iff_iff, Bool.and_eq_true, leB_iff, leB_iff, leB_iff]
  constructor
  · exact fun h => ⟨fun i hi => by have := h i hi; simp only [BitVec.getLsbD_and, Bool.and_eq_true] at this; exact this.1, fun i hi => by have := h i hi; simp only [BitVec.getLsbD_and, Bool.and_eq_true] at this; exact this.2⟩
  · rintro ⟨h, k⟩ i hi
    simp only [BitVec.getLsbD_and, Bool.and_eq_true]
    exact ⟨h i hi, k i hi⟩
theorem leB_or (a b : BitVec 64) : leB a b = ((a ||| b) == b) := by
  rw [Bool.eq_iff_iff, beq_iff_eq]
  constructor
  · intro h
    apply BitVec.eq_of_getLsbD_eq
    intro i _
    have := (leB_iff a b).1 h i
    simp only [BitVec.getLsbD_or]
    cases ha : a.getLsbD i <;> cases hb : b.getLsbD i <;> simp_all
  · intro h
    rw [leB_iff]
    intro i hi
    rw [← h]
    simp [hi]
theorem leB_and (a b : BitVec 64) : leB a b = ((a &&& b) == a) := by
  rw [Bool.eq_iff_iff, beq_iff_eq]
  constructor
  · intro h
    apply BitVec.eq_of_getLsbD_eq
    intro i _
    have := (leB_iff a b).1 h i
    simp only [BitVec.getLsbD_and]
    cases ha : a.getLsbD i <;> cases hb : b.getLsbD i <;> simp_all
  · intro h
    rw [leB_iff]
    intro i hi
    rw [← h] at hi
    simp only [BitVec.getLsbD_and, Bool.and_eq_true] at hi
    exact hi.2
theorem alg1 (a b c : BitVec 64) : a ||| b ||| c = c ||| a ||| b ||| a := by
  apply BitVec.eq_of_getLsbD_eq; intro i _
  simp only [BitVec.getLsbD_or]
  cases a.getLsbD i <;> cases b.getLsbD i <;> cases c.getLsbD i <;> rfl
theorem alg2 (a b c : BitVec 64) : a &&& b &&& c = c &&& a &&& b &&& a := by
  apply BitVec.eq_of_getLsbD_eq; intro i _
  simp only [BitVec.getLsbD_and]
  cases a.getLsbD i <;> cases b.getLsbD i <;> cases c.getLsbD i <;> rfl
theorem alg3 (a b : BitVec 64) : a ||| (a &&& b) = a := by
  apply BitVec.eq_of_getLsbD_eq; intro i _
  simp only [BitVec.getLsbD_or, BitVec.getLsbD_and]
  cases a.getLsbD i <;> cases b.getLsbD i <;> rfl
theorem alg4 (a b : BitVec 64) : a &&& (a ||| b) = a := by
  apply BitVec.eq_of_getLsbD_eq; intro i _
  simp only [BitVec.getLsbD_or, BitVec.getLsbD_and]
  cases a.getLsbD i <;> cases b.getLsbD i <;> rfl
theorem alg5 (a b : BitVec 64) : leB (a &&& ~~~b) a = true := by
  rw [leB_iff]; intro i hi
  simp only [BitVec.getLsbD_and, Bool.and_eq_true] at hi
  exact hi.1
theorem alg6 (a b : BitVec 64) : a &&& ~~~b &&& b = 0#64 := by
  apply BitVec.eq_of_getLsbD_eq; intro i hi
  simp only [BitVec.getLsbD_and, BitVec.getLsbD_not, hi, decide_true, Bool.true_and, BitVec.getLsbD_zero]
  cases a.getLsbD i <;> cases b.getLsbD i <;> rfl
theorem alg7 (a b : BitVec 64) : a &&& ~~~b ||| a &&& b = a := by
  apply BitVec.eq_of_getLsbD_eq; intro i hi
  simp only [BitVec.getLsbD_and, BitVec.getLsbD_or, BitVec.getLsbD_not, hi, decide_true, Bool.true_and]
  cases a.getLsbD i <;> cases b.getLsbD i <;> rfl
end Go.Proofs.YtnmlhilckjmhnaaDoor
