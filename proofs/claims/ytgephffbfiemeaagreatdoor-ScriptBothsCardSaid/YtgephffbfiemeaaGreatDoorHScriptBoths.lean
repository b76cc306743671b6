/- ScriptBoths returns true whatever the input: every function that it calls was given a contract by an abstract evaluation that is sound for the model; the program and the reference compute the same. The listed tables are tied to the text. No condition. -/
import Derived.Test.YtgephffbfiemeaaGreatDoorKScriptBoths31
import Derived.Test.YtgephffbfiemeaaGreatDoorTie
import Derived.Test.YtgephffbfiemeaaGreatDoorCards
import Derived.Lay
import Derived.WalkKit
import Derived.ProofKit
import Derived.LaidMore
import Derived.OpenShut
import Derived.MakeChecks
import Derived.SevenTiedAt
import Derived.ChangeMaps5
namespace Go.Proofs.YtgephffbfiemeaaGreatDoor
open Go.Abs Go.ChangeShapes Go.WideShapes Go.ChangeAt Go.RowKit Go.Proofs.YtgephffbfiemeaaGreatDoor
set_option linter.all false
set_option maxRecDepth 100000 in
theorem kW (os:Os) (started:os.Started) (H:Type) (enc:TypeId × Value→H) :
  ReturnsInHanded {} Tryz.checked os 7 .any (fun w args=>(Rows.scriptBothsSpec.pre enc Tryz.prog Tryz.f7 [] false w args∧laidMetH Tryz.prog lG w)∧sizedMet enc Tryz.prog Tryz.f7 (OpenSpec.ofChange Rows.scriptBothsSpec) false w args)
   (Rows.scriptBothsSpec.post enc Tryz.prog Tryz.f7 false true false false):=by
 refine returnsInHanded_of_change_and (C:=Tryz.checked) (X:=fun w _=>laidMetH Tryz.prog lG w) (fun _ _ _ hh h=>h.of_heap hh) IT started MY Tryz.func7
  (ChangeSpec.witness_shaped (enc:=enc) (C:=Tryz.checked) (os:=os) (X:=fun w _=>laidMetH Tryz.prog lG w) false (World.laidAll Tryz.prog os lG) #[.agg #[.slice none 0 0, .int .i64 0, .int .i64 0, .int .i64 0, .int .i64 0, .int .i64 0, .int .i64 0, .int .i64 0, .int .i64 0, .int .i64 0, .int .i64 0, .int .i64 0, .int .i64 0, .int .i64 0, .int .i64 0, .int .i64 0, .int .i64 0, .int .i64 0, .int .i64 0, .int .i64 0, .int .i64 0, .int .i64 0, .int .i64 0, .int .i64 0, .int .i64 0, .int .i64 0, .int .i64 0, .int .i64 0, .int .i64 0, .int .i64 0, .int .i64 0, .slice none 0 0, .int .u64 0], .slice none 0 0, .string .empty] 8 (World.laidAll_os _ _ _) (World.shaped_of_ZipB MY MY) MY MY MY (CN os _)) ?_
 intro W base args ds gs before hval0 hW _ _ hL _
 have hval:∀ (j:Nat) t v,Tryz.f7.params[j]? =some t→args[j]? =some v→Value.okWide Tryz.prog W .any base t v:=hval0
 have hW':=hW
 obtain ⟨p,q,hA0,hV,rfl,hfz,hnd⟩:=hW
 have hA:DataW.TrodAll enc Tryz.prog W 0 (fun _=>true) true Tryz.f7.params.toList args.toList ds p:=hA0
 rw [Tryz.params7] at hA hval
 obtain ⟨v0,vs0,d0,ds0,p0,q0,hargs,rfl,rfl,h0,r0⟩:=trodAll_cons hA
 obtain ⟨v1,vs1,d1,ds1,p1,q1,rfl,rfl,rfl,h1,r1⟩:=trodAll_cons r0
 obtain ⟨v2,vs2,d2,ds2,p2,q2,rfl,rfl,rfl,h2,r2⟩:=trodAll_cons r1
 obtain ⟨rfl,rfl,rfl⟩:=trodAll_nil r2
 obtain rfl:args= #[v0,v1,v2]:=by cases args;simp_all
 obtain ⟨rfl,rfl⟩:=trodVars_none hV
 have hA2:DataW.TrodAll enc Tryz.prog W 0 (fun _=>true) true Tryz.f7.params.toList _ _ _:=hA0
 obtain ⟨us0,hh0,hs0,hn0⟩:=vz (d:=FQ) MY (hval 0 44 v0 rfl rfl) h0
 obtain ⟨a0,rfl,w0⟩:=Fq _ hh0
 have e0:=hs0 rfl
 obtain ⟨us1,hh1,hs1,hn1⟩:=vz (d:=(.sl KG)) MY (hval 1 23 v1 rfl rfl) h1
 obtain ⟨a1,rfl,m1,w1⟩:=mP IS hh1
 have e1:=hn1 rfl _ rfl
 obtain ⟨a2,rfl,rfl,rfl,w2⟩:=Go.ChangeMaps.open_string Tryz.underlying9 (hval 2 9 v2 rfl rfl) h2
 clear hval0
 simp only [List.append_nil] at hW'
 try simp only [List.append_nil] at hA2
 have x2:a2.data.toList.length≤maxLen:=by simpa using w2
 refine (tZ (w:=W) (vs:= [v0,v1, .string a2]) b7 ((lN a0 a1 _ w0 m1 w1 x2)) (KI hL) (.cons e0 (.cons e1 (.cons pQ .nil)))).mono fun e W' ⟨he,hg⟩=>?_
 subst he
 exact ⟨_,rfl,BI hW' hA2 ⟨rfl,rfl,rfl⟩ rfl MY MY hg rfl Tryz.underlying4⟩
theorem lO:(Rows.scriptBothsRow.inPlace == Tryz.pinned.checked.prog.inPlace 7)=true:=MY
theorem lP:(Rows.scriptBothsRow.unfollowed == Tryz.pinned.checked.prog.unfollowed 7)=true:=MY
theorem lQ:(Rows.scriptBothsRow.recurses == Tryz.pinned.checked.prog.recurses 7)=true:=MY
theorem lR:(Rows.scriptBothsRow.named == Tryz.pinned.checked.prog.varsNamed 7)=true:=MY
theorem nJ:joinedFacts Tryz.pinned.checked.prog 7 Tryz.f7 Rows.scriptBothsSpec Rows.scriptBothsRow=true:=by
 unfold joinedFacts
 rw [lO,lP,lQ,lR]
 kernel_rfl
theorem lS:Rows.ScriptBothsSaid :=
 OpenClaim.holds_of_wide 7 Tryz.f7 rfl rfl rfl rfl rfl rfl rfl ⟨rfl,rfl,rfl,rfl,rfl⟩ rfl rfl rfl rfl rfl MY Tryz.func7 nJ
  (of_decide_eq_true MY) (by unfold Func.isWrapper;first|(rw [if_pos (by decide +kernel)];kernel_rfl)|(rw [if_neg (by decide +kernel)];exact ⟨rfl,rfl⟩))
  (fun os started H enc _=>kW os started H enc)
theorem holds_ScriptBoths:Rows.ScriptBothsCardSaid :=
 Claim7.holds_tied_plain_at .later [] [.data, .data, .data, .data, .data, .pinned] true Rows.scriptBothsCard.stood.harness true
  lS (fun _ h=>by cases h) MY (fun _ h=>by cases h) scriptBoths_row_tie rfl ⟨rfl,rfl⟩ MY rfl
  (fun f fn hf hfn=>by
   obtain rfl:f=7:=Option.some.inj ((show Tryz.prog.funcNamed "partywall/partywalllaw40.ScriptBoths" =some 7 by kernel_rfl).symm.trans hf) |>.symm
   obtain rfl:fn=Tryz.f7:=(Option.some.inj (Tryz.func7.symm.trans hfn)).symm
   exact ⟨by kernel_rfl,fun j t ht=>by
    rw [Tryz.params7] at ht
    have hm:t∈ [44,23,9]:=by simpa using Array.mem_of_getElem? ht
    have hall:([44,23,9].all fun u=> !Tryz.prog.wantsStandIn u)=true:=MY
    exact (show Tryz.prog.wantsStandIn t=false by simpa using List.all_eq_true.1 hall t hm)⟩)
  MY
#print axioms holds_ScriptBoths
end Go.Proofs.YtgephffbfiemeaaGreatDoor
