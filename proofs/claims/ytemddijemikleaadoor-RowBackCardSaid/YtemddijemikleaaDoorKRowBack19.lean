/- Part 19 of the proof of RowBack: an abstract semantics that is proved sound for the model, contracts of functions in it, and plain facts (LD06p). No condition. -/
import Derived.Test.YtemddijemikleaaDoorKRowBack18
import Derived.Test.YtemddijemikleaaDoorRows
import Derived.WalkKit
import Derived.ProofKit
import Derived.LaidMore
import Derived.OpenShut
import Derived.MakeChecks
import Derived.Lay
set_option linter.all false
namespace Go.Proofs.YtemddijemikleaaDoor
open Go.Abs Go.ChangeShapes Go.WideShapes Go.ChangeAt Go.RowKit
set_option linter.all false
theorem hp_own : ownKnob Tryd.prog.godebug = none := by kernel_rfl
def laid1 : List (String × DataW Unit) := Rows.rowWritesRow.laid
theorem hp_plain (os : Os) (args : Array Value) : laidMetH Tryd.prog laid1 ((World.laidAll Tryd.prog os laid1).forCall (fun _ _ => 0) ⟨#[], args, []⟩).memory := by
  rw [MakeChecks.laidMetH_plain _ _ _ (by kernel_rfl)]; exact laidMet_laidAll _ (by kernel_rfl) (by kernel_rfl)
theorem hp_gl {W : World} (h : laidMetH Tryd.prog laid1 W) : ∀ k cs, Go.Abs.look k [] = some cs → GlobOk g0 W k cs := by
  intro k cs hk
  simp [Go.Abs.look] at hk
end Go.Proofs.YtemddijemikleaaDoor
