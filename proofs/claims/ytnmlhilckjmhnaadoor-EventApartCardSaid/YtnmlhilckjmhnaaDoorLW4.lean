/-
  Labels: joins, meets, the order, of the program.
-/
import Derived.Test.YtnmlhilckjmhnaaDoorLW1
namespace Go.Proofs.YtnmlhilckjmhnaaDoor
open Go.Abs
set_option linter.all false
set_option maxRecDepth 100000

theorem get1 {α : Type} (g : α → AV) (l : List α) (k : Nat) (h : k < l.length) : ((l.map g).drop (k * 1)).take 1 = [g l[k]] := by
  rw [Nat.mul_one, ← List.map_drop, List.drop_eq_getElem_cons h, List.map_cons]
  simp
theorem foldl_take {α β : Type} (f : β → α → β) (b : β) (l : List α) (k : Nat) (h : k < l.length) : f ((l.take k).foldl f b) l[k] = (l.take (k + 1)).foldl f b := by
  rw [← List.take_append_getElem h, List.foldl_append]; rfl
def wds (l : List (BitVec 64)) : List AV := l.map w64
theorem wds_get (l : List (BitVec 64)) (k : Nat) (h : k < l.length) : ((wds l).drop (k * 1)).take 1 = [w64 l[k]] := get1 w64 l k h
theorem wds_len (l : List (BitVec 64)) : (wds l).length = l.length := by simp [wds]
def joinV (l : List (BitVec 64)) : BitVec 64 := l.foldl (· ||| ·) 0#64
def meetV (l : List (BitVec 64)) : BitVec 64 := l.foldl (· &&& ·) (BitVec.allOnes 64)
theorem all64 : (18446744073709551615 : Int) = ((BitVec.allOnes 64).toNat : Int) := by decide
theorem lt_len {k n : Nat} : decide ((k : Int) < (n : Int)) = decide (k < n) := by simp
theorem eq0 (a : BitVec 64) : ((a.toNat : Int) == 0) = (a == 0#64) := by
  rw [show (0 : Int) = ((0#64 : BitVec 64).toNat : Int) by rfl, eq64]
end Go.Proofs.YtnmlhilckjmhnaaDoor
