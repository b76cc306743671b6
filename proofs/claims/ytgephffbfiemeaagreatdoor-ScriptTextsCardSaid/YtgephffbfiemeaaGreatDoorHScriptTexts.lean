/- ScriptTexts returns true whatever the input: every function that it calls was given a contract by an abstract evaluation that is sound for the model; the program and the reference compute the same. The listed tables are tied to the text. No condition. -/
import Derived.Test.YtgephffbfiemeaaGreatDoorKScriptTexts33
import Derived.Test.YtgephffbfiemeaaGreatDoorTie
import Derived.Test.YtgephffbfiemeaaGreatDoorCards
import Derived.Lay
import Derived.WalkKit
import Derived.ProofKit
import Derived.LaidMore
import Derived.OpenShut
import Derived.MakeChecks
import Derived.SevenTiedAt
import Derived.ChangeMaps5
namespace Go.Proofs.YtgephffbfiemeaaGreatDoor
open Go.Abs Go.ChangeShapes Go.WideShapes Go.ChangeAt Go.RowKit Go.Proofs.YtgephffbfiemeaaGreatDoor
set_option linter.all false
set_option maxRecDepth 100000 in
theorem kp (os:Os) (started:os.Started) (H:Type) (enc:TypeId × Value→H) :
  ReturnsInHanded {} Tryz.checked os 5 .any (fun w args=>(Rows.scriptTextsSpec.pre enc Tryz.prog Tryz.f5 [] false w args∧laidMetH Tryz.prog k7 w)∧sizedMet enc Tryz.prog Tryz.f5 (OpenSpec.ofChange Rows.scriptTextsSpec) false w args)
   (Rows.scriptTextsSpec.post enc Tryz.prog Tryz.f5 false true false false):=by
 refine returnsInHanded_of_change_and (C:=Tryz.checked) (X:=fun w _=>laidMetH Tryz.prog k7 w) (fun _ _ _ hh h=>h.of_heap hh) Iu started (by kernel_rfl) Tryz.func5
  (ChangeSpec.witness_shaped (enc:=enc) (C:=Tryz.checked) (os:=os) (X:=fun w _=>laidMetH Tryz.prog k7 w) false (World.laidAll Tryz.prog os k7) #[.slice none 0 0, .agg #[.int .i64 0, .int .i64 0, .int .u64 0, .string .empty, .int .i64 0, .int .i64 0, .int .u64 0, .int .u64 0]] 8 (World.laidAll_os _ _ _) (World.shaped_of_ZipB (by kernel_rfl) (by kernel_rfl)) (by kernel_rfl) (by kernel_rfl) (by kernel_rfl) (Cf os _)) ?_
 intro W base args ds gs before hval0 hW _ _ hL _
 have hval:∀ (j:Nat) t v,Tryz.f5.params[j]? =some t→args[j]? =some v→Value.okWide Tryz.prog W .any base t v:=hval0
 have hW':=hW
 obtain ⟨p,q,hA0,hV,rfl,hfz,hnd⟩:=hW
 have hA:DataW.TrodAll enc Tryz.prog W 0 (fun _=>true) true Tryz.f5.params.toList args.toList ds p:=hA0
 rw [Tryz.params5] at hA hval
 obtain ⟨v0,vs0,d0,ds0,p0,q0,hargs,rfl,rfl,h0,r0⟩:=trodAll_cons hA
 obtain ⟨v1,vs1,d1,ds1,p1,q1,rfl,rfl,rfl,h1,r1⟩:=trodAll_cons r0
 obtain ⟨rfl,rfl,rfl⟩:=trodAll_nil r1
 obtain rfl:args= #[v0,v1]:=by cases args;simp_all
 obtain ⟨rfl,rfl⟩:=trodVars_none hV
 have hA2:DataW.TrodAll enc Tryz.prog W 0 (fun _=>true) true Tryz.f5.params.toList _ _ _:=hA0
 obtain ⟨us0,hh0,hs0,hn0⟩:=uT (d:=(.sl It)) (by kernel_rfl) (hval 0 23 v0 rfl rfl) h0
 obtain ⟨a0,rfl,m0,w0⟩:=Ba Ce hh0
 have e0:=hn0 rfl _ rfl
 obtain ⟨us1,hh1,hs1,hn1⟩:=uT (d:=It) (by kernel_rfl) (hval 1 33 v1 rfl rfl) h1
 obtain ⟨a1,rfl,w1⟩:=Ce _ hh1
 have e1:=hs1 rfl
 clear hval0
 simp only [List.append_nil] at hW'
 try simp only [List.append_nil] at hA2
 refine (ti (w:=W) (vs:= [v0,v1]) b5 ((lk a0 a1 m0 w0 w1)) (Kc hL) (.cons e0 (.cons e1 .nil))).mono fun e W' ⟨he,hg⟩=>?_
 subst he
 exact ⟨_,rfl,A8 hW' hA2 ⟨rfl,rfl,rfl⟩ rfl (by kernel_rfl) (by kernel_rfl) hg rfl Tryz.underlying4⟩
theorem ln:(Rows.scriptTextsRow.inPlace == Tryz.pinned.checked.prog.inPlace 5)=true:=by kernel_rfl
theorem lq:(Rows.scriptTextsRow.unfollowed == Tryz.pinned.checked.prog.unfollowed 5)=true:=by kernel_rfl
theorem lr:(Rows.scriptTextsRow.recurses == Tryz.pinned.checked.prog.recurses 5)=true:=by kernel_rfl
theorem lu:(Rows.scriptTextsRow.named == Tryz.pinned.checked.prog.varsNamed 5)=true:=by kernel_rfl
theorem mY:joinedFacts Tryz.pinned.checked.prog 5 Tryz.f5 Rows.scriptTextsSpec Rows.scriptTextsRow=true:=by
 unfold joinedFacts
 rw [ln,lq,lr,lu]
 kernel_rfl
theorem lv:Rows.ScriptTextsSaid :=
 OpenClaim.holds_of_wide 5 Tryz.f5 rfl rfl rfl rfl rfl rfl rfl ⟨rfl,rfl,rfl,rfl,rfl⟩ rfl rfl rfl rfl rfl (by kernel_rfl) Tryz.func5 mY
  (of_decide_eq_true (by kernel_rfl)) (by unfold Func.isWrapper;first|(rw [if_pos (by decide +kernel)];kernel_rfl)|(rw [if_neg (by decide +kernel)];exact ⟨rfl,rfl⟩))
  (fun os started H enc _=>kp os started H enc)
theorem holds_ScriptTexts:Rows.ScriptTextsCardSaid :=
 Claim7.holds_tied_plain_at .later [] [.data, .data, .data, .data, .data, .pinned] true Rows.scriptTextsCard.stood.harness true
  lv (fun _ h=>by cases h) (by kernel_rfl) (fun _ h=>by cases h) scriptTexts_row_tie rfl ⟨rfl,rfl⟩ (by kernel_rfl) rfl
  (fun f fn hf hfn=>by
   obtain rfl:f=5:=Option.some.inj ((show Tryz.prog.funcNamed "partywall/partywalllaw40.ScriptTexts" =some 5 by kernel_rfl).symm.trans hf) |>.symm
   obtain rfl:fn=Tryz.f5:=(Option.some.inj (Tryz.func5.symm.trans hfn)).symm
   exact ⟨by kernel_rfl,fun j t ht=>by
    rw [Tryz.params5] at ht
    have hm:t∈ [23,33]:=by simpa using Array.mem_of_getElem? ht
    have hall:([23,33].all fun u=> !Tryz.prog.wantsStandIn u)=true:=by kernel_rfl
    exact (show Tryz.prog.wantsStandIn t=false by simpa using List.all_eq_true.1 hall t hm)⟩)
  (by kernel_rfl)
#print axioms holds_ScriptTexts
end Go.Proofs.YtgephffbfiemeaaGreatDoor
