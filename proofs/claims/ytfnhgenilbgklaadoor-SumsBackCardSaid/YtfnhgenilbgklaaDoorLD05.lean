/-
  The listed tables of this seat: what they read as, in the world in which a call begins.
-/
import Derived.Test.YtfnhgenilbgklaaDoorK05
import Derived.Test.YtfnhgenilbgklaaDoorRows
import Derived.WalkKit
import Derived.ProofKit
import Derived.LaidMore
import Derived.OpenShut
import Derived.MakeChecks
namespace Go.Proofs.YtfnhgenilbgklaaDoor
open Go.Abs Go.ChangeShapes Go.WideShapes Go.ChangeAt Go.RowKit
set_option linter.all false

theorem hk_own : ownKnob Tryd.prog.godebug = none := by kernel_rfl
def laid0 : List (String × DataW Unit) := Rows.sumsKnownRow.laid
theorem hk_door (os : Os) (args : Array Value) : laidMetH Tryd.prog laid0 ((World.doorLaid Tryd.prog 400 os).forCall (fun _ _ => 0) ⟨#[], args, []⟩).memory :=
  laidMetH_of_parts3 (fuel := 8) (laidMet_of_run' 8 (by kernel_rfl) (by kernel_rfl)) (by kernel_rfl) (by kernel_rfl)
theorem hk_tab {W : World} (h : laidMetH Tryd.prog laid0 W) : Lib.TabIs Tryd.prog W "internal/strconv.uint64pow10" .u64 Lib.pow10Tab := by
  rw [MakeChecks.laidMetH_plain _ _ _ (by kernel_rfl)] at h
  obtain ⟨ps, ⟨g0, t0, cs0, f0, p0, q0, hg0, ht0, hv0, hd0, ⟨g1, t1, cs1, f1, p1, q1, hg1, ht1, hv1, hd1, ⟨g2, t2, cs2, f2, p2, q2, hg2, ht2, hv2, hd2, _, _⟩, _⟩, _⟩, _, _⟩ := h
  obtain rfl := Option.some.inj (gPow.symm.trans hg2)
  obtain rfl := Option.some.inj ((show (Tryd.prog.globals[0]?).map (·.type) = some 86 by kernel_rfl).symm.trans ht2)
  unfold Lib.TabIs
  have := Lib.cells_of_tab (zs := Lib.pow10Tab) (k := .u64) Tryd.underlying86 Tryd.underlying30 (by kernel_rfl) (by kernel_rfl) hd2
  rw [hv2]
  congr 1
  exact Array.ext' this
theorem hk_gl {W : World} (h : laidMetH Tryd.prog laid0 W) : ∀ k cs, Go.Abs.look k gls = some cs → GlobOk g0 W k cs := by
  intro k cs hk
  simp only [gls, Go.Abs.look] at hk
  cases hb : Nat.beq k 0 with
  | false => rw [hb] at hk; cases hk
  | true =>
    rw [hb] at hk
    have := Nat.eq_of_beq_eq_true hb
    subst this
    cases hk
    exact glob_of_tab (hk_tab h) gPow
end Go.Proofs.YtfnhgenilbgklaaDoor
