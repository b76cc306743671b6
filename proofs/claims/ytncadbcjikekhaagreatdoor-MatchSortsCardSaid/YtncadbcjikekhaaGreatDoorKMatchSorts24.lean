/- Part 24 of the proof of MatchSorts: an abstract semantics that is proved sound for the model, contracts of functions in it, and plain facts (LD17p). No condition. -/
import Derived.Test.YtncadbcjikekhaaGreatDoorKMatchSorts23
import Derived.Test.YtncadbcjikekhaaGreatDoorRows
import Derived.WalkKit
import Derived.ProofKit
import Derived.LaidMore
import Derived.OpenShut
import Derived.MakeChecks
import Derived.Lay
set_option linter.all false
namespace Go.Proofs.YtncadbcjikekhaaGreatDoor
open Go.Abs Go.ChangeShapes Go.WideShapes Go.ChangeAt Go.RowKit
set_option linter.all false
theorem hp_own : ownKnob Tryz.prog.godebug = none := by kernel_rfl
def laid1 : List (String × DataW Unit) := Rows.matchItemsRow.laid
theorem hp_plain (os : Os) (args : Array Value) : laidMetH Tryz.prog laid1 ((World.laidAll Tryz.prog os laid1).forCall (fun _ _ => 0) ⟨#[], args, []⟩).memory := by
  rw [MakeChecks.laidMetH_plain _ _ _ (by kernel_rfl)]; exact laidMet_laidAll _ (by kernel_rfl) (by kernel_rfl)
def dbJ : List Int := [0, 1, 56, 2, 57, 49, 28, 3, 61, 58, 42, 50, 38, 29, 17, 4, 62, 47, 59, 36, 45, 43, 51, 22, 53, 39, 33, 30, 24, 18, 12, 5, 63, 55, 48, 27, 60, 41, 37, 16, 46, 35, 44, 21, 52, 32, 23, 11, 54, 26, 40, 15, 34, 20, 31, 10, 25, 14, 19, 9, 13, 8, 7, 6]
theorem gTab_eqp : gTab = dbJ.map (AV.int .u8) := rfl
theorem gDbp : Tryz.prog.globalNamed "math/bits.deBruijn64tab" = some 0 := by kernel_rfl
theorem hp_tabs {W : World} (h : laidMetH Tryz.prog laid1 W) : Lib.TabIs Tryz.prog W "math/bits.deBruijn64tab" .u8 dbJ ∧ Lib.TabIs Tryz.prog W "internal/strconv.uint64pow10" .u64 Lib.pow10Tab := by
  rw [MakeChecks.laidMetH_plain _ _ _ (by kernel_rfl)] at h
  obtain ⟨ps, ⟨g0, t0, cs0, f0, p0, q0, hg0, ht0, hv0, hd0, ⟨g1, t1, cs1, f1, p1, q1, hg1, ht1, hv1, hd1, ⟨g2, t2, cs2, f2, p2, q2, hg2, ht2, hv2, hd2, _, _⟩, _⟩, _⟩, _, _⟩ := h
  refine ⟨?_, ?_⟩
  · obtain rfl := Option.some.inj (gDbp.symm.trans hg1)
    obtain rfl := Option.some.inj ((show (Tryz.prog.globals[0]?).map (·.type) = some 160 by kernel_rfl).symm.trans ht1)
    unfold Lib.TabIs
    have := Lib.cells_of_tab (zs := dbJ) (k := .u8) Tryz.underlying160 Tryz.underlying5 (by kernel_rfl) (by kernel_rfl) hd1
    rw [hv1]
    congr 1
    exact Array.ext' this
  · obtain rfl := Option.some.inj (gPow.symm.trans hg2)
    obtain rfl := Option.some.inj ((show (Tryz.prog.globals[2]?).map (·.type) = some 184 by kernel_rfl).symm.trans ht2)
    unfold Lib.TabIs
    have := Lib.cells_of_tab (zs := Lib.pow10Tab) (k := .u64) Tryz.underlying184 Tryz.underlying60 (by kernel_rfl) (by kernel_rfl) hd2
    rw [hv2]
    congr 1
    exact Array.ext' this
theorem hp_gl {W : World} (h : laidMetH Tryz.prog laid1 W) : ∀ k cs, Go.Abs.look k gl3 = some cs → GlobOk g0 W k cs := by
  intro k cs hk
  simp only [gl3, Go.Abs.look] at hk
  cases hb : Nat.beq k 0 with
  | false =>
    rw [hb] at hk
    simp only [cond_false] at hk
    cases hb2 : Nat.beq k 2 with
    | false => rw [hb2] at hk; cases hk
    | true =>
      rw [hb2] at hk
      have := Nat.eq_of_beq_eq_true hb2
      subst this
      cases hk
      exact glob_of_tab (hp_tabs h).2 gPow
  | true =>
    rw [hb] at hk
    have := Nat.eq_of_beq_eq_true hb
    subst this
    cases hk
    rw [gTab_eqp]
    exact glob_of_tab (hp_tabs h).1 gDbp
end Go.Proofs.YtncadbcjikekhaaGreatDoor
