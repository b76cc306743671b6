/- MatchBack returns true whatever the input: every function that it calls was given a contract by an abstract evaluation that is sound for the model; the program and the reference compute the same. The listed tables are tied to the text. No condition. -/
import Derived.Test.YtncadbcjikekhaaGreatDoorKMatchBack24
import Derived.Test.YtncadbcjikekhaaGreatDoorTie
import Derived.Test.YtncadbcjikekhaaGreatDoorCards
import Derived.Lay
import Derived.WalkKit
import Derived.ProofKit
import Derived.LaidMore
import Derived.OpenShut
import Derived.MakeChecks
import Derived.SevenTiedAt
import Derived.ChangeMaps5
namespace Go.Proofs.YtncadbcjikekhaaGreatDoor
open Go.Abs Go.ChangeShapes Go.WideShapes Go.ChangeAt Go.RowKit
set_option linter.all false
set_option maxRecDepth 100000 in
theorem lift_MatchBack (os : Os) (started : os.Started) (H : Type) (enc : TypeId × Value → H) :
    ReturnsInHanded {} Tryz.checked os 7 .any (fun w args => (Rows.matchBackSpec.pre enc Tryz.prog Tryz.f7 [] false w args ∧ laidMetH Tryz.prog laid1 w) ∧ sizedMet enc Tryz.prog Tryz.f7 (OpenSpec.ofChange Rows.matchBackSpec) false w args)
      (Rows.matchBackSpec.post enc Tryz.prog Tryz.f7 false true false false) := by
  refine returnsInHanded_of_change_and (C := Tryz.checked) (X := fun w _ => laidMetH Tryz.prog laid1 w) (fun _ _ _ hh h => h.of_heap hh) hp_own started (by kernel_rfl) Tryz.func7
    (ChangeSpec.witness_shaped (enc := enc) (C := Tryz.checked) (os := os) (X := fun w _ => laidMetH Tryz.prog laid1 w) false (World.laidAll Tryz.prog os laid1) #[.slice none 0 0, .slice none 0 0, .int .i64 0, .string .empty] 8 (World.laidAll_os _ _ _) (World.shaped_of_ZipB (by kernel_rfl) (by kernel_rfl)) (by kernel_rfl) (by kernel_rfl) (by kernel_rfl) (hp_plain os _)) ?_
  intro W base args ds gs before hval0 hW _ _ hL _
  have hval : ∀ (j : Nat) t v, Tryz.f7.params[j]? = some t → args[j]? = some v → Value.okWide Tryz.prog W .any base t v := hval0
  have hW' := hW
  obtain ⟨p, q, hA0, hV, rfl, hfz, hnd⟩ := hW
  have hA : DataW.TrodAll enc Tryz.prog W 0 (fun _ => true) true Tryz.f7.params.toList args.toList ds p := hA0
  rw [Tryz.params7] at hA hval
  obtain ⟨v0, vs0, d0, ds0, p0, q0, hargs, rfl, rfl, h0, r0⟩ := trodAll_cons hA
  obtain ⟨v1, vs1, d1, ds1, p1, q1, rfl, rfl, rfl, h1, r1⟩ := trodAll_cons r0
  obtain ⟨v2, vs2, d2, ds2, p2, q2, rfl, rfl, rfl, h2, r2⟩ := trodAll_cons r1
  obtain ⟨v3, vs3, d3, ds3, p3, q3, rfl, rfl, rfl, h3, r3⟩ := trodAll_cons r2
  obtain ⟨rfl, rfl, rfl⟩ := trodAll_nil r3
  obtain rfl : args = #[v0, v1, v2, v3] := by cases args; simp_all
  obtain ⟨rfl, rfl⟩ := trodVars_none hV
  have hA2 : DataW.TrodAll enc Tryz.prog W 0 (fun _ => true) true Tryz.f7.params.toList _ _ _ := hA0
  obtain ⟨us0, hh0, hs0, hn0⟩ := arg_rel (d := (.sl (.int .i64))) (by kernel_rfl) (hval 0 23 v0 rfl rfl) h0
  obtain ⟨a0, rfl, m0, w0⟩ := has_list has_i64 hh0
  have e0 := hn0 rfl _ rfl
  obtain ⟨us1, hh1, hs1, hn1⟩ := arg_rel (d := (.sl (.int .i64))) (by kernel_rfl) (hval 1 24 v1 rfl rfl) h1
  obtain ⟨a1, rfl, m1, w1⟩ := has_list has_i64 hh1
  have e1 := hn1 rfl _ rfl
  obtain ⟨a2, rfl, rfl, rfl, w2⟩ := open_int Tryz.underlying3 (hval 2 3 v2 rfl rfl) h2
  obtain ⟨a3, rfl, rfl, rfl, w3⟩ := Go.ChangeMaps.open_string Tryz.underlying9 (hval 3 9 v3 rfl rfl) h3
  clear hval0
  simp only [List.append_nil] at hW'
  try simp only [List.append_nil] at hA2
  have x2 : -9223372036854775808 ≤ a2 ∧ a2 ≤ 9223372036854775807 := by simpa [Lit.wf, IntKind.min, IntKind.max, IntKind.bits, IntKind.signed] using w2
  have x3 : a3.data.toList.length ≤ maxLen := by simpa using w3
  refine (law_callsG (w := W) (vs := [v0, v1, .int .i64 a2, .string a3]) b7 ((arg_MatchBack a0 a1 a2 a3.data.toList w0 w1 x2)) (hp_gl hL) (.cons e0 (.cons e1 (.cons (.int .i64 a2) (.cons str_rel .nil))))).mono fun e W' ⟨he, hg⟩ => ?_
  subst he
  exact ⟨_, rfl, law_post hW' hA2 ⟨rfl, rfl, rfl⟩ rfl (by kernel_rfl) (by kernel_rfl) hg rfl Tryz.underlying4⟩
theorem row_MatchBack : Rows.MatchBackSaid :=
  OpenClaim.holds_of_wide 7 Tryz.f7 rfl rfl rfl rfl rfl rfl rfl ⟨rfl, rfl, rfl, rfl, rfl⟩ rfl rfl rfl rfl rfl (by kernel_rfl) Tryz.func7 (by kernel_rfl)
    (of_decide_eq_true (by kernel_rfl)) (by unfold Func.isWrapper; first | (rw [if_pos (by decide +kernel)]; kernel_rfl) | (rw [if_neg (by decide +kernel)]; exact ⟨rfl, rfl⟩))
    (fun os started H enc _ => lift_MatchBack os started H enc)
theorem holds_MatchBack : Rows.MatchBackCardSaid :=
  Claim7.holds_tied_plain_at .later [] [.data, .data, .data, .data, .pinned] true Rows.matchBackCard.stood.harness true
    row_MatchBack (fun _ h => by cases h) (by kernel_rfl) (fun _ h => by cases h) matchBack_row_tie rfl ⟨rfl, rfl⟩ (by kernel_rfl) rfl
    (fun f fn hf hfn => by
      obtain rfl : f = 7 := Option.some.inj ((show Tryz.prog.funcNamed "partywall/partywalllaw17.MatchBack" = some 7 by kernel_rfl).symm.trans hf) |>.symm
      obtain rfl : fn = Tryz.f7 := (Option.some.inj (Tryz.func7.symm.trans hfn)).symm
      exact ⟨by kernel_rfl, fun j t ht => by
        rw [Tryz.params7] at ht
        have hm : t ∈ [23, 24, 3, 9] := by simpa using Array.mem_of_getElem? ht
        have hall : ([23, 24, 3, 9].all fun u => !Tryz.prog.wantsStandIn u) = true := by kernel_rfl
        exact (show Tryz.prog.wantsStandIn t = false by simpa using List.all_eq_true.1 hall t hm)⟩)
    (by kernel_rfl)
#print axioms holds_MatchBack
end Go.Proofs.YtncadbcjikekhaaGreatDoor
