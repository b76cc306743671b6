/-
  LabelKnown and awake: evaluated; the loops over categories by their contracts.
-/
import Derived.Test.YthdeocddilacnaaDoorCT01
import Derived.Test.YthdeocddilacnaaDoorLW3
import Derived.Test.YthdeocddilacnaaDoorLW5
namespace Go.Proofs.YthdeocddilacnaaDoor
open Go.Abs
set_option linter.all false
set_option maxRecDepth 100000
def wd (n : Int) : Option (BitVec 64) := bif decide (0 ≤ n) && decide (n ≤ 18446744073709551615) then some (BitVec.ofNat 64 n.toNat) else none
theorem wd_eq {n : Int} {a : BitVec 64} (h : wd n = some a) : n = a.toNat := by
  unfold wd at h
  cases hb : decide (0 ≤ n) && decide (n ≤ 18446744073709551615) with
  | false => rw [hb] at h; cases h
  | true =>
    rw [hb] at h
    simp only [cond_true, Option.some.injEq] at h
    subst h
    simp only [Bool.and_eq_true, decide_eq_true_eq] at hb
    rw [BitVec.toNat_ofNat, Nat.mod_eq_of_lt (by omega)]; omega
def spText (n : Int) : Option AV := (wd n).map fun a => .str (textL a)
def spBytes (n : Int) : Option AV := (wd n).map fun a => .str (bytesL a)
def spList (n : Int) : Option AV := (wd n).map fun a => .sl false (cats a).length (ints (cats a))
def spLeast (n : Int) : Option AV := (wd n).map fun a => .tup [.int .i64 (match cats a with | [] => 0 | k :: _ => (k : Nat) : Int), .int .i64 (match cats a with | [] => 2 | _ :: _ => 0 : Int)]
theorem sp_ok {f : Nat} {g : BitVec 64 → AV} (h : ∀ a : BitVec 64, PuG Tryd.prog gls f [.int .u64 a.toNat] (g a)) : CallOk Tryd.prog gls (xU f fun n => (wd n).map g) :=
  xU_ok fun n v hv => by
    cases hw : wd n with
    | none => rw [hw] at hv; cases hv
    | some a =>
      rw [hw] at hv
      cases hv
      rw [wd_eq hw]
      exact h a
def X : Go.Abs.Call := xOr (xOr (xU 23 spText) (xU 21 spBytes)) (xOr (xU 33 spList) (xU 30 spLeast))
theorem X_ok : CallOk Tryd.prog gls X :=
  xOr_ok (xOr_ok (sp_ok p23) (sp_ok fun a => (p21 a).g)) (xOr_ok (sp_ok fun a => (p33 a).pu) (sp_ok p30))
theorem t_aw : eBg X eT gls 200 50 10 [] isTrue = true := by kernel_rfl
theorem t_kn : eBg X eT gls 200 50 6 [] isTrue = true := by kernel_rfl
theorem gls_cl : clG gls = true := by decide
theorem awake_pu : PuG Tryd.prog gls 10 [] (.bool true) := closed_trueG X_ok (tabB_ok eT_ok) rfl gls_cl t_aw
theorem known_pu : PuG Tryd.prog gls 6 [] (.bool true) := closed_trueG X_ok (tabB_ok eT_ok) rfl gls_cl t_kn
end Go.Proofs.YthdeocddilacnaaDoor
