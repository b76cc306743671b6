/- Part 23 of the proof of AuditParts: an abstract semantics that is proved sound for the model, contracts of functions in it, and plain facts (LD28). No condition. -/
import Derived.Test.YtbbkckogjdjjgaaDoorKAuditParts22
import Derived.Test.YtbbkckogjdjjgaaDoorRows
import Derived.WalkKit
import Derived.ProofKit
import Derived.LaidMore
import Derived.OpenShut
import Derived.MakeChecks
set_option linter.all false
namespace Go.Proofs.YtbbkckogjdjjgaaDoor
open Go.Abs Go.ChangeShapes Go.WideShapes Go.ChangeAt Go.RowKit
set_option linter.all false
theorem hk_own : ownKnob Tryd.prog.godebug = none := by kernel_rfl
def laid0 : List (String × DataW Unit) := Rows.auditAppendsRow.laid
theorem hk_door (os : Os) (args : Array Value) : laidMetH Tryd.prog laid0 ((World.doorLaid Tryd.prog 400 os).forCall (fun _ _ => 0) ⟨#[], args, []⟩).memory :=
  laidMetH_of_parts3 (fuel := 8) (laidMet_of_run' 8 (by kernel_rfl) (by kernel_rfl)) (by kernel_rfl) (by kernel_rfl)
def dbI : List Int := [0, 1, 56, 2, 57, 49, 28, 3, 61, 58, 42, 50, 38, 29, 17, 4, 62, 47, 59, 36, 45, 43, 51, 22, 53, 39, 33, 30, 24, 18, 12, 5, 63, 55, 48, 27, 60, 41, 37, 16, 46, 35, 44, 21, 52, 32, 23, 11, 54, 26, 40, 15, 34, 20, 31, 10, 25, 14, 19, 9, 13, 8, 7, 6]
theorem gTab_eq : gTab = dbI.map (AV.int .u8) := rfl
theorem gDb : Tryd.prog.globalNamed "math/bits.deBruijn64tab" = some 0 := by kernel_rfl
theorem hk_tabs {W : World} (h : laidMetH Tryd.prog laid0 W) : Lib.TabIs Tryd.prog W "math/bits.deBruijn64tab" .u8 dbI ∧ Lib.TabIs Tryd.prog W "internal/strconv.uint64pow10" .u64 Lib.pow10Tab := by
  rw [MakeChecks.laidMetH_plain _ _ _ (by kernel_rfl)] at h
  obtain ⟨ps, ⟨g0, t0, cs0, f0, p0, q0, hg0, ht0, hv0, hd0, ⟨g1, t1, cs1, f1, p1, q1, hg1, ht1, hv1, hd1, ⟨g2, t2, cs2, f2, p2, q2, hg2, ht2, hv2, hd2, _, _⟩, _⟩, _⟩, _, _⟩ := h
  refine ⟨?_, ?_⟩
  · obtain rfl := Option.some.inj (gDb.symm.trans hg1)
    obtain rfl := Option.some.inj ((show (Tryd.prog.globals[0]?).map (·.type) = some 110 by kernel_rfl).symm.trans ht1)
    unfold Lib.TabIs
    have := Lib.cells_of_tab (zs := dbI) (k := .u8) Tryd.underlying110 Tryd.underlying5 (by kernel_rfl) (by kernel_rfl) hd1
    rw [hv1]
    congr 1
    exact Array.ext' this
  · obtain rfl := Option.some.inj (gPow.symm.trans hg2)
    obtain rfl := Option.some.inj ((show (Tryd.prog.globals[1]?).map (·.type) = some 114 by kernel_rfl).symm.trans ht2)
    unfold Lib.TabIs
    have := Lib.cells_of_tab (zs := Lib.pow10Tab) (k := .u64) Tryd.underlying114 Tryd.underlying25 (by kernel_rfl) (by kernel_rfl) hd2
    rw [hv2]
    congr 1
    exact Array.ext' this
theorem hk_gl {W : World} (h : laidMetH Tryd.prog laid0 W) : ∀ k cs, Go.Abs.look k gl3 = some cs → GlobOk g0 W k cs := by
  intro k cs hk
  simp only [gl3, Go.Abs.look] at hk
  cases hb : Nat.beq k 0 with
  | false =>
    rw [hb] at hk
    simp only [cond_false] at hk
    cases hb2 : Nat.beq k 1 with
    | false => rw [hb2] at hk; cases hk
    | true =>
      rw [hb2] at hk
      have := Nat.eq_of_beq_eq_true hb2
      subst this
      cases hk
      exact glob_of_tab (hk_tabs h).2 gPow
  | true =>
    rw [hb] at hk
    have := Nat.eq_of_beq_eq_true hb
    subst this
    cases hk
    rw [gTab_eq]
    exact glob_of_tab (hk_tabs h).1 gDb
end Go.Proofs.YtbbkckogjdjjgaaDoor
