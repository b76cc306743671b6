/- ScriptConfigs returns true whatever the input: every function that it calls was given a contract by an abstract evaluation that is sound for the model; the program and the reference compute the same. The listed tables are tied to the text. No condition. -/
import Derived.Test.YtgephffbfiemeaaGreatDoorKScriptConfigs32
import Derived.Test.YtgephffbfiemeaaGreatDoorTie
import Derived.Test.YtgephffbfiemeaaGreatDoorCards
import Derived.Lay
import Derived.WalkKit
import Derived.ProofKit
import Derived.LaidMore
import Derived.OpenShut
import Derived.MakeChecks
import Derived.SevenTiedAt
import Derived.ChangeMaps5
namespace Go.Proofs.YtgephffbfiemeaaGreatDoor
open Go.Abs Go.ChangeShapes Go.WideShapes Go.ChangeAt Go.RowKit Go.Proofs.YtgephffbfiemeaaGreatDoor
set_option linter.all false
set_option maxRecDepth 100000 in
theorem ku (os:Os) (started:os.Started) (H:Type) (enc:TypeId × Value→H) :
  ReturnsInHanded {} Tryz.checked os 4 .any (fun w args=>(Rows.scriptConfigsSpec.pre enc Tryz.prog Tryz.f4 [] false w args∧laidMetH Tryz.prog mN w)∧sizedMet enc Tryz.prog Tryz.f4 (OpenSpec.ofChange Rows.scriptConfigsSpec) false w args)
   (Rows.scriptConfigsSpec.post enc Tryz.prog Tryz.f4 false true false false):=by
 refine returnsInHanded_of_change_and (C:=Tryz.checked) (X:=fun w _=>laidMetH Tryz.prog mN w) (fun _ _ _ hh h=>h.of_heap hh) Lg started P7 Tryz.func4
  (ChangeSpec.witness_shaped (enc:=enc) (C:=Tryz.checked) (os:=os) (X:=fun w _=>laidMetH Tryz.prog mN w) false (World.laidAll Tryz.prog os mN) #[.agg #[.slice none 0 0, .int .i64 0, .int .i64 0, .int .i64 0, .int .i64 0, .int .i64 0, .int .i64 0, .int .i64 0, .int .i64 0, .int .i64 0, .int .i64 0, .int .i64 0, .int .i64 0, .int .i64 0, .int .i64 0, .int .i64 0, .int .i64 0, .int .i64 0, .int .i64 0, .int .i64 0, .int .i64 0, .int .i64 0, .int .i64 0, .int .i64 0, .int .i64 0, .int .i64 0, .int .i64 0, .int .i64 0, .int .i64 0, .int .i64 0, .int .i64 0, .slice none 0 0, .int .u64 0], .string .empty] 8 (World.laidAll_os _ _ _) (World.shaped_of_ZipB P7 P7) P7 P7 P7 (ED os _)) ?_
 intro W base args ds gs before hval0 hW _ _ hL _
 have hval:∀ (j:Nat) t v,Tryz.f4.params[j]? =some t→args[j]? =some v→Value.okWide Tryz.prog W .any base t v:=hval0
 have hW':=hW
 obtain ⟨p,q,hA0,hV,rfl,hfz,hnd⟩:=hW
 have hA:DataW.TrodAll enc Tryz.prog W 0 (fun _=>true) true Tryz.f4.params.toList args.toList ds p:=hA0
 rw [Tryz.params4] at hA hval
 obtain ⟨v0,vs0,d0,ds0,p0,q0,hargs,rfl,rfl,h0,r0⟩:=trodAll_cons hA
 obtain ⟨v1,vs1,d1,ds1,p1,q1,rfl,rfl,rfl,h1,r1⟩:=trodAll_cons r0
 obtain ⟨rfl,rfl,rfl⟩:=trodAll_nil r1
 obtain rfl:args= #[v0,v1]:=by cases args;simp_all
 obtain ⟨rfl,rfl⟩:=trodVars_none hV
 have hA2:DataW.TrodAll enc Tryz.prog W 0 (fun _=>true) true Tryz.f4.params.toList _ _ _:=hA0
 obtain ⟨us0,hh0,hs0,hn0⟩:=Gy (d:=HW) P7 (hval 0 44 v0 rfl rfl) h0
 obtain ⟨a0,rfl,w0⟩:=Hu _ hh0
 have e0:=hs0 rfl
 obtain ⟨a1,rfl,rfl,rfl,w1⟩:=Go.ChangeMaps.open_string Tryz.underlying9 (hval 1 9 v1 rfl rfl) h1
 clear hval0
 simp only [List.append_nil] at hW'
 try simp only [List.append_nil] at hA2
 have x1:a1.data.toList.length≤maxLen:=by simpa using w1
 refine (vj (w:=W) (vs:= [v0, .string a1]) b4 ((ll a0 _ w0 x1)) (Nr hL) (.cons e0 (.cons wY .nil))).mono fun e W' ⟨he,hg⟩=>?_
 subst he
 exact ⟨_,rfl,Dp hW' hA2 ⟨rfl,rfl,rfl⟩ rfl P7 P7 hg rfl Tryz.underlying4⟩
theorem ln:(Rows.scriptConfigsRow.inPlace == Tryz.pinned.checked.prog.inPlace 4)=true:=P7
theorem lq:(Rows.scriptConfigsRow.unfollowed == Tryz.pinned.checked.prog.unfollowed 4)=true:=P7
theorem lr:(Rows.scriptConfigsRow.recurses == Tryz.pinned.checked.prog.recurses 4)=true:=P7
theorem lu:(Rows.scriptConfigsRow.named == Tryz.pinned.checked.prog.varsNamed 4)=true:=P7
theorem mb:joinedFacts Tryz.pinned.checked.prog 4 Tryz.f4 Rows.scriptConfigsSpec Rows.scriptConfigsRow=true:=by
 unfold joinedFacts
 rw [ln,lq,lr,lu]
 kernel_rfl
theorem lv:Rows.ScriptConfigsSaid :=
 OpenClaim.holds_of_wide 4 Tryz.f4 rfl rfl rfl rfl rfl rfl rfl ⟨rfl,rfl,rfl,rfl,rfl⟩ rfl rfl rfl rfl rfl P7 Tryz.func4 mb
  (of_decide_eq_true P7) (by unfold Func.isWrapper;first|(rw [if_pos (by decide +kernel)];kernel_rfl)|(rw [if_neg (by decide +kernel)];exact ⟨rfl,rfl⟩))
  (fun os started H enc _=>ku os started H enc)
theorem holds_ScriptConfigs:Rows.ScriptConfigsCardSaid :=
 Claim7.holds_tied_plain_at .later [] [.data, .data, .data, .data, .pinned] true Rows.scriptConfigsCard.stood.harness true
  lv (fun _ h=>by cases h) P7 (fun _ h=>by cases h) scriptConfigs_row_tie rfl ⟨rfl,rfl⟩ P7 rfl
  (fun f fn hf hfn=>by
   obtain rfl:f=4:=Option.some.inj ((show Tryz.prog.funcNamed "partywall/partywalllaw40.ScriptConfigs" =some 4 by kernel_rfl).symm.trans hf) |>.symm
   obtain rfl:fn=Tryz.f4:=(Option.some.inj (Tryz.func4.symm.trans hfn)).symm
   exact ⟨by kernel_rfl,fun j t ht=>by
    rw [Tryz.params4] at ht
    have hm:t∈ [44,9]:=by simpa using Array.mem_of_getElem? ht
    have hall:([44,9].all fun u=> !Tryz.prog.wantsStandIn u)=true:=P7
    exact (show Tryz.prog.wantsStandIn t=false by simpa using List.all_eq_true.1 hall t hm)⟩)
  P7
#print axioms holds_ScriptConfigs
end Go.Proofs.YtgephffbfiemeaaGreatDoor
