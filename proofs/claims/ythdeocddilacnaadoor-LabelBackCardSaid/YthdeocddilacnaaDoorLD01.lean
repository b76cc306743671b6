/-
  The listed tables of this seat: what they read as, in the world in which a call begins.
-/
import Derived.Test.YthdeocddilacnaaDoorK01
import Derived.Test.YthdeocddilacnaaDoorRows
import Derived.WalkKit
import Derived.ProofKit
import Derived.LaidMore
import Derived.OpenShut
import Derived.MakeChecks
namespace Go.Proofs.YthdeocddilacnaaDoor
open Go.Abs Go.ChangeShapes Go.WideShapes Go.ChangeAt Go.RowKit
set_option linter.all false

theorem hk_own : ownKnob Tryd.prog.godebug = none := by kernel_rfl
def laid0 : List (String × DataW Unit) := Rows.labelKnownRow.laid
theorem hk_door (os : Os) (args : Array Value) : laidMetH Tryd.prog laid0 ((World.doorLaid Tryd.prog 400 os).forCall (fun _ _ => 0) ⟨#[], args, []⟩).memory :=
  laidMetH_of_parts3 (fuel := 8) (laidMet_of_run' 8 (by kernel_rfl) (by kernel_rfl)) (by kernel_rfl) (by kernel_rfl)
def dbI : List Int := [0, 1, 56, 2, 57, 49, 28, 3, 61, 58, 42, 50, 38, 29, 17, 4, 62, 47, 59, 36, 45, 43, 51, 22, 53, 39, 33, 30, 24, 18, 12, 5, 63, 55, 48, 27, 60, 41, 37, 16, 46, 35, 44, 21, 52, 32, 23, 11, 54, 26, 40, 15, 34, 20, 31, 10, 25, 14, 19, 9, 13, 8, 7, 6]
theorem gTab_eq : gTab = dbI.map (AV.int .u8) := rfl
theorem gDb : Tryd.prog.globalNamed "math/bits.deBruijn64tab" = some 0 := by kernel_rfl
theorem hk_tab {W : World} (h : laidMetH Tryd.prog laid0 W) : Lib.TabIs Tryd.prog W "math/bits.deBruijn64tab" .u8 dbI := by
  rw [MakeChecks.laidMetH_plain _ _ _ (by kernel_rfl)] at h
  obtain ⟨ps, ⟨g0, t0, cs0, f0, p0, q0, hg0, ht0, hv0, hd0, ⟨g1, t1, cs1, f1, p1, q1, hg1, ht1, hv1, hd1, _, _⟩, _⟩, _, _⟩ := h
  obtain rfl := Option.some.inj (gDb.symm.trans hg1)
  obtain rfl := Option.some.inj ((show (Tryd.prog.globals[0]?).map (·.type) = some 77 by kernel_rfl).symm.trans ht1)
  unfold Lib.TabIs
  have := Lib.cells_of_tab (zs := dbI) (k := .u8) Tryd.underlying77 Tryd.underlying5 (by kernel_rfl) (by kernel_rfl) hd1
  rw [hv1]
  congr 1
  exact Array.ext' this
theorem hk_gl {W : World} (h : laidMetH Tryd.prog laid0 W) : ∀ k cs, Go.Abs.look k gls = some cs → GlobOk g0 W k cs := by
  intro k cs hk
  simp only [gls, Go.Abs.look] at hk
  cases hb : Nat.beq k 0 with
  | false => rw [hb] at hk; cases hk
  | true =>
    rw [hb] at hk
    have := Nat.eq_of_beq_eq_true hb
    subst this
    cases hk
    rw [gTab_eq]
    exact glob_of_tab (hk_tab h) gDb
end Go.Proofs.YthdeocddilacnaaDoor
