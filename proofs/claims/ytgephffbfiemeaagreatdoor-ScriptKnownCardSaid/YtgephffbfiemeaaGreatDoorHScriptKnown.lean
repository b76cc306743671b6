/- ScriptKnown returns true whatever the input: every function that it calls was given a contract by an abstract evaluation that is sound for the model; the program and the reference compute the same. The listed tables are tied to the text. No condition. -/
import Derived.Test.YtgephffbfiemeaaGreatDoorKScriptKnown31
import Derived.Test.YtgephffbfiemeaaGreatDoorTie
import Derived.Test.YtgephffbfiemeaaGreatDoorCards
import Derived.Lay
import Derived.WalkKit
import Derived.ProofKit
import Derived.LaidMore
import Derived.OpenShut
import Derived.MakeChecks
import Derived.SevenTiedAt
import Derived.ChangeMaps5
namespace Go.Proofs.YtgephffbfiemeaaGreatDoor
open Go.Abs Go.ChangeShapes Go.WideShapes Go.ChangeAt Go.RowKit Go.Proofs.YtgephffbfiemeaaGreatDoor
set_option linter.all false
set_option maxRecDepth 100000 in
theorem kM (os:Os) (started:os.Started) (H:Type) (enc:TypeId × Value→H) :
  ReturnsInHanded {} Tryz.checked os 9 .any (fun w args=>(Rows.scriptKnownSpec.pre enc Tryz.prog Tryz.f9 [] false w args∧laidMetH Tryz.prog lu w)∧sizedMet enc Tryz.prog Tryz.f9 (OpenSpec.ofChange Rows.scriptKnownSpec) false w args)
   (Rows.scriptKnownSpec.post enc Tryz.prog Tryz.f9 false true false false):=by
 refine returnsInHanded_of_change_and (C:=Tryz.checked) (X:=fun w _=>laidMetH Tryz.prog lu w) (fun _ _ _ hh h=>h.of_heap hh) JQ started OA Tryz.func9
  (ChangeSpec.witness_shaped (enc:=enc) (C:=Tryz.checked) (os:=os) (X:=fun w _=>laidMetH Tryz.prog lu w) false (World.laidAll Tryz.prog os lu) #[] 8 (World.laidAll_os _ _ _) (World.shaped_of_ZipB OA OA) OA OA OA (Du os _)) ?_
 intro W base args ds gs before hval0 hW _ _ hL _
 have hval:∀ (j:Nat) t v,Tryz.f9.params[j]? =some t→args[j]? =some v→Value.okWide Tryz.prog W .any base t v:=hval0
 have hW':=hW
 obtain ⟨p,q,hA0,hV,rfl,hfz,hnd⟩:=hW
 have hA:DataW.TrodAll enc Tryz.prog W 0 (fun _=>true) true Tryz.f9.params.toList args.toList ds p:=hA0
 rw [Tryz.params9] at hA hval
 obtain ⟨e1,rfl,rfl⟩:=trodAll_nil hA
 obtain rfl:args= #[]:=by cases args;simp_all
 obtain ⟨rfl,rfl⟩:=trodVars_none hV
 have hA2:DataW.TrodAll enc Tryz.prog W 0 (fun _=>true) true Tryz.f9.params.toList _ _ _:=hA0
 clear hval0
 simp only [List.append_nil] at hW'
 try simp only [List.append_nil] at hA2
 refine (tY (w:=W) (vs:= []) b9 (lD) (LP hL) .nil).mono fun e W' ⟨he,hg⟩=>?_
 subst he
 exact ⟨_,rfl,BX hW' hA2 ⟨rfl,rfl,rfl⟩ rfl OA OA hg rfl Tryz.underlying4⟩
theorem lE:(Rows.scriptKnownRow.inPlace == Tryz.pinned.checked.prog.inPlace 9)=true:=OA
theorem lF:(Rows.scriptKnownRow.unfollowed == Tryz.pinned.checked.prog.unfollowed 9)=true:=OA
theorem lG:(Rows.scriptKnownRow.recurses == Tryz.pinned.checked.prog.recurses 9)=true:=OA
theorem lH:(Rows.scriptKnownRow.named == Tryz.pinned.checked.prog.varsNamed 9)=true:=OA
theorem nx:joinedFacts Tryz.pinned.checked.prog 9 Tryz.f9 Rows.scriptKnownSpec Rows.scriptKnownRow=true:=by
 unfold joinedFacts
 rw [lE,lF,lG,lH]
 kernel_rfl
theorem lI:Rows.ScriptKnownSaid :=
 OpenClaim.holds_of_wide 9 Tryz.f9 rfl rfl rfl rfl rfl rfl rfl ⟨rfl,rfl,rfl,rfl,rfl⟩ rfl rfl rfl rfl rfl OA Tryz.func9 nx
  (of_decide_eq_true OA) (by unfold Func.isWrapper;first|(rw [if_pos (by decide +kernel)];kernel_rfl)|(rw [if_neg (by decide +kernel)];exact ⟨rfl,rfl⟩))
  (fun os started H enc _=>kM os started H enc)
theorem holds_ScriptKnown:Rows.ScriptKnownCardSaid :=
 Claim7.holds_tied_plain_at .later [] [.data, .data, .data, .data, .data, .pinned] true Rows.scriptKnownCard.stood.harness true
  lI (fun _ h=>by cases h) OA (fun _ h=>by cases h) scriptKnown_row_tie rfl ⟨rfl,rfl⟩ OA rfl
  (fun f fn hf hfn=>by
   obtain rfl:f=9:=Option.some.inj ((show Tryz.prog.funcNamed "partywall/partywalllaw40.ScriptKnown" =some 9 by kernel_rfl).symm.trans hf) |>.symm
   obtain rfl:fn=Tryz.f9:=(Option.some.inj (Tryz.func9.symm.trans hfn)).symm
   exact ⟨by kernel_rfl,fun j t ht=>by
    rw [Tryz.params9] at ht
    have hm:t∈ []:=by simpa using Array.mem_of_getElem? ht
    have hall:([].all fun u=> !Tryz.prog.wantsStandIn u)=true:=OA
    exact (show Tryz.prog.wantsStandIn t=false by simpa using List.all_eq_true.1 hall t hm)⟩)
  OA
#print axioms holds_ScriptKnown
end Go.Proofs.YtgephffbfiemeaaGreatDoor
