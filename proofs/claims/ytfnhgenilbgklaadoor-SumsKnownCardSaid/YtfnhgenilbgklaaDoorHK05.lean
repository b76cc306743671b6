/- SumsKnown returns true: the whole call, which takes nothing, was evaluated abstractly (texts CT05 and K05; strconv.FormatInt and math/bits by the library's contracts), and the abstract evaluation is sound for the model. The listed tables are tied to the program's text. No condition. -/
import Derived.Test.YtfnhgenilbgklaaDoorK05
import Derived.Test.YtfnhgenilbgklaaDoorRows
import Derived.Test.YtfnhgenilbgklaaDoorTie
import Derived.Test.YtfnhgenilbgklaaDoorCards
import Derived.WalkKit
import Derived.ProofKit
import Derived.LaidMore
import Derived.OpenShut
import Derived.MakeChecks
import Derived.SevenTiedAt
namespace Go.Proofs.YtfnhgenilbgklaaDoor
open Go.Abs Go.ChangeShapes Go.WideShapes Go.ChangeAt Go.RowKit
set_option linter.all false

theorem hk_own : ownKnob Tryd.prog.godebug = none := by kernel_rfl
def laid0 : List (String × DataW Unit) := Rows.sumsKnownRow.laid
theorem hk_door (os : Os) (args : Array Value) : laidMetH Tryd.prog laid0 ((World.doorLaid Tryd.prog 400 os).forCall (fun _ _ => 0) ⟨#[], args, []⟩).memory :=
  laidMetH_of_parts3 (fuel := 8) (laidMet_of_run' 8 (by kernel_rfl) (by kernel_rfl)) (by kernel_rfl) (by kernel_rfl)
theorem hk_tab {W : World} (h : laidMetH Tryd.prog laid0 W) : Lib.TabIs Tryd.prog W "internal/strconv.uint64pow10" .u64 Lib.pow10Tab := by
  rw [MakeChecks.laidMetH_plain _ _ _ (by kernel_rfl)] at h
  obtain ⟨ps, ⟨g0, t0, cs0, f0, p0, q0, hg0, ht0, hv0, hd0, ⟨g1, t1, cs1, f1, p1, q1, hg1, ht1, hv1, hd1, ⟨g2, t2, cs2, f2, p2, q2, hg2, ht2, hv2, hd2, _, _⟩, _⟩, _⟩, _, _⟩ := h
  obtain rfl := Option.some.inj (gPow.symm.trans hg2)
  obtain rfl := Option.some.inj ((show (Tryd.prog.globals[0]?).map (·.type) = some 86 by kernel_rfl).symm.trans ht2)
  unfold Lib.TabIs
  have := Lib.cells_of_tab (zs := Lib.pow10Tab) (k := .u64) Tryd.underlying86 Tryd.underlying30 (by kernel_rfl) (by kernel_rfl) hd2
  rw [hv2]
  congr 1
  exact Array.ext' this
theorem hk_gl {W : World} (h : laidMetH Tryd.prog laid0 W) : ∀ k cs, Go.Abs.look k gls = some cs → GlobOk g0 W k cs := by
  intro k cs hk
  simp only [gls, Go.Abs.look] at hk
  cases hb : Nat.beq k 0 with
  | false => rw [hb] at hk; cases hk
  | true =>
    rw [hb] at hk
    have := Nat.eq_of_beq_eq_true hb
    subst this
    cases hk
    exact glob_of_tab (hk_tab h) gPow

set_option maxRecDepth 100000 in
theorem hk_lifted (os : Os) (started : os.Started) (H : Type) (enc : TypeId × Value → H) :
    ReturnsInHanded {} Tryd.checked os 7 .any (fun w args => (Rows.sumsKnownSpec.pre enc Tryd.prog Tryd.f7 [] false w args ∧ laidMetH Tryd.prog laid0 w) ∧ sizedMet enc Tryd.prog Tryd.f7 (OpenSpec.ofChange Rows.sumsKnownSpec) false w args)
      (Rows.sumsKnownSpec.post enc Tryd.prog Tryd.f7 false true false false) := by
  refine returnsInHanded_of_change_and (C := Tryd.checked) (X := fun w _ => laidMetH Tryd.prog laid0 w) (fun _ _ _ hh h => h.of_heap hh) hk_own started (by kernel_rfl) Tryd.func7
    (ChangeSpec.witness_shaped (enc := enc) (C := Tryd.checked) (os := os) (X := fun w _ => laidMetH Tryd.prog laid0 w) false (World.doorLaid Tryd.prog 400 os) #[] 8 rfl (World.shaped_of_RefB (by kernel_rfl) (by kernel_rfl)) (by kernel_rfl) (by kernel_rfl) (by kernel_rfl) (hk_door os _)) ?_
  intro W base args ds gs before hval0 hW _ _ hL _
  have hW' := hW
  obtain ⟨p, q, hA0, hV, rfl, hfz, hnd⟩ := hW
  have hA : DataW.TrodAll enc Tryd.prog W 0 (fun _ => true) true Tryd.f7.params.toList args.toList ds p := hA0
  rw [Tryd.params7] at hA
  obtain ⟨e1, rfl, rfl⟩ := trodAll_none hA
  obtain ⟨rfl, rfl⟩ := trodVars_none hV
  simp only [List.append_nil] at hW'
  have hcalls := law_callsG (w := W) (vs := []) eb7 known_pu (hk_gl hL) .nil
  rw [← e1] at hcalls
  refine hcalls.mono fun e W' ⟨he, hg⟩ => ?_
  subst he
  exact ⟨_, rfl, post_of_below (pa := []) (pv := []) hW' (fun _ _ _ => (trodAll_cons_mk (shut_bool Tryd.underlying4 _) trodAll_mk0)) (fun sp _ => by first | rfl | (rw [e1]; rfl)) (fun _ _ => rfl) rfl
    hg (ok_one (by kernel_rfl) rfl (okWide_bool_mk Tryd.underlying4 _))⟩

theorem sumsKnown_row : Rows.SumsKnownSaid :=
  OpenClaim.holds_of_wide 7 Tryd.f7 rfl rfl rfl rfl rfl rfl rfl ⟨rfl, rfl, rfl, rfl, rfl⟩ rfl rfl rfl rfl rfl (by kernel_rfl) Tryd.func7 (by kernel_rfl)
    (of_decide_eq_true (by kernel_rfl)) (by unfold Func.isWrapper; first | (rw [if_pos (by decide +kernel)]; kernel_rfl) | (rw [if_neg (by decide +kernel)]; exact ⟨rfl, rfl⟩))
    (fun os started H enc _ => hk_lifted os started H enc)
theorem sumsKnown_holds : Rows.SumsKnownCardSaid :=
  Claim7.holds_tied_plain_at .later [] [.data, .data, .data] true Rows.sumsKnownCard.stood.harness false
    sumsKnown_row (fun _ h => by cases h) (by kernel_rfl) (fun _ h => by cases h) sumsKnown_row_tie rfl ⟨rfl, rfl⟩ (by kernel_rfl) rfl
    (fun f fn hf hfn => by
      obtain rfl : f = 7 := Option.some.inj ((show Tryd.prog.funcNamed "partywall/partywalllaw05.SumsKnown" = some 7 by kernel_rfl).symm.trans hf) |>.symm
      obtain rfl : fn = Tryd.f7 := (Option.some.inj (Tryd.func7.symm.trans hfn)).symm
      exact ⟨by kernel_rfl, fun j t ht => by
        rw [Tryd.params7] at ht
        have hm : t ∈ ([] : List Nat) := by simpa using Array.mem_of_getElem? ht
        cases hm⟩)
    (by kernel_rfl)
#print axioms sumsKnown_holds
end Go.Proofs.YtfnhgenilbgklaaDoor
