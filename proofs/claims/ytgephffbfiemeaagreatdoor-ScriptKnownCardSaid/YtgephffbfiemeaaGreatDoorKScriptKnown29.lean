/- Part 29 of the proof of ScriptKnown: an abstract semantics that is proved sound for the model, contracts of functions in it, and plain facts (X1 X2 X3 X4 X13 X14 X15 X5 X6 X7a X7 X8 X9 X10 X16 ZP1 ZP2 ZP3). No condition. -/
import Derived.Test.YtgephffbfiemeaaGreatDoorKScriptKnown28
import Derived.Defers
import Derived.Recover
import Derived.LoopTactic
import Derived.BigCall
set_option linter.all false
namespace Go.Proofs.YtgephffbfiemeaaGreatDoor
open Go.Abs Go.Lib
set_option linter.all false
set_option maxRecDepth 100000
abbrev TS:Nat:=137
def oO (e a:Int):Except Ft Unit:=if e=0 then .ok () else .error (e,a)
theorem w44 (e a:Int) (w:World) :
  Calls Tryz.prog 44 #[.int .i64 e, .int .i64 a] w fun r w'=>w'=w∧((e=0∧r= .returned (.tuple #[]))∨(e≠0∧r= .panicked [{ v:= .iface TS (.agg #[.int .i64 e, .int .i64 a]),recovered:=false }])):=by
 go_enter Tryz.func44,Tryz.ntmps44
 go_wp2
 ·exact ⟨rfl,rfl, .inr ⟨by simpa using ‹(e != 0)=true›,rfl⟩⟩
 ·simp [bodyPost,results,Tryz.results44]
  simpa using ‹(e != 0)=false›
theorem x44 (e a:Int) (σ σ0:St) (hl:St.lw σ0 σ):AX Tryz.prog 44 [.int .i64 e, .int .i64 a] σ (oX TS (oO e a) (fun _=> .tup []) (fun _=>σ) σ0):=by
 intro g w vs hI hv
 refine .inl ⟨Go.Proofs.enters_of Tryz.func44 OA rfl _ _,?_⟩
 obtain ⟨v1,vs,rfl,r1,hv⟩:=hv.cons_inv
 obtain ⟨v2,vs,rfl,r2,hv⟩:=hv.cons_inv
 rw [hv.bK,r1.a8,r2.a8]
 refine (w44 e a w).mono ?_
 rintro r w' ⟨rfl,⟨h,rfl⟩|⟨h,rfl⟩⟩
 ·exact ⟨_, .tup [],σ,g, .inl ⟨rfl,(),by simp [oO,h],rfl,rfl⟩,hI, .refl g _, .dA .nil⟩
 ·exact ⟨_,iT TS (e,a),σ0,g, .inr ⟨rfl,(e,a),by simp [oO,h],rfl,rfl⟩,hI.lw hl, .refl g _, .ifc _ _ _ (.gV ⟨.cons (.int _ _) (.cons (.int _ _) .nil),by simp [Value.oneCell']⟩)⟩
theorem pZ {g:Gh} {σ:St} {w:World} {fr:Fr} {a:Act} {N id:Nat} {ops:Array Oper} {l:List CI} {K:Fr→St→Prop} {Q:Exit→Act→World→Prop} (hl:cE Tryz.prog N ops ops.toList l=true) (hS:Sim g σ w fr a N) (h:cA Tryz.prog l fr σ K)
  (hQ:∀ fr' σ' g' w' a',K fr' σ'→Sim g' σ' w' fr' a' N→Ext g w g' w'→a'.defers=a.defers→Q .normal a' w'):(Code.region id ops false).wp Tryz.prog Q a w :=
 (wpIn_wide (n:=0)).1 (wpIn_region_list (gy ops (rn:=none) ops.toList l g σ w fr a K hl hS h hQ))
theorem sq {g:Gh} {σ:St} {w:World} {fr:Fr} {a:Act} {N t:Nat} {b:Bool} (hS:Sim g σ w fr a N) (h:slot t fr= .bool b):a.eval (.tmp t)= .bool b:=by
 have:=hS.rel t
 rw [h] at this
 exact this.cT
def z2:List AV:= [.int .i64 0, .int .i64 0]
theorem Jn {g:Gh} {σ:St} {w:World} {β b:Nat} (hI:Inv g σ w) (hβ:σ.box β=some z2) (hg:g.box β=some b) (e a:Int) :
    CallsD Tryz.prog 86 #[.pointer (some ⟨b,0,none⟩)] (.panicking [{ v:= .iface TS (.agg #[.int .i64 e, .int .i64 a]),recovered:=false }]) w fun r u' w' =>
      r= .returned (.tuple #[])∧u'= .panicking [{ v:= .iface TS (.agg #[.int .i64 e, .int .i64 a]),recovered:=true }]∧∃ g',Inv g' (σ.ad β [.int .i64 e, .int .i64 a]) w'∧Ext g w g' w':=by
  refine callsD_of_wpS Tryz.func86 rfl fun c₀ cs hu=>?_
  apply wpS_seq
  apply wpS_region
  simp [wpOpsS,go_sem,recoverD,hu,Tryz.ntmps86,Exit.thenS]
  refine wpS_of_wp ?_
  have hS:Sim g σ w [(0, .ptr β 0),(1, .ifc TS (.agg [.int .i64 e, .int .i64 a]))] { tmps:= #[Value.pointer (some { block:=b,off:=0 })]++((Array.replicate 16 undef).setIfInBounds 3 (Value.iface TS (Value.agg #[Value.int IntKind.i64 e,Value.int IntKind.i64 a]))).setIfInBounds 0 (Value.iface TS (Value.agg #[Value.int IntKind.i64 e,Value.int IntKind.i64 a])),defers:= [] } 17:=by
    refine ⟨hI,fun t=>?_,by simp, .nil⟩
    rw [Array.getD_eq_getD_getElem?]
    cases t with
    | zero=>simp only [slot,if_true];rw [Array.getElem?_append_left OF];exact .ptr _ _ _ hg
    | succ t =>
      rw [Array.getElem?_append_right OF]
      cases t with
      | zero =>
        simp only [slot]
        rw [Array.getElem?_setIfInBounds]
        simp
        exact .ifc _ _ _ (.gV ⟨.cons (.int _ _) (.cons (.int _ _) .nil),by simp [Value.oneCell']⟩)
      | succ t=>simp only [slot];rw [if_neg Oz,if_neg Oz];exact .junk _
  refine wp_seq (pZ (l:= [⟨some 5, .mv (.t 1),none⟩,⟨some 6, .isnil 3 true (.t 5),none⟩]) (K:=fun f s=>slot 0 f= .ptr β 0∧slot 1 f= .ifc TS (.agg [.int .i64 e, .int .i64 a])∧slot 6 f= .bool true∧s=σ) OA hS ?_ ?_)
  · simp only [↓R1,RR,seval]
    intro b hb
    subst hb
    rfl
  rintro f1 s1 g1 w1 a1 ⟨h0,h1,h6,hs⟩ hS1 hE1 hd1
  rw [hs] at hS1
  simp only [Exit.then]
  refine wp_cond_true (sq hS1 h6) ?_
  refine wp_seq (pZ (l:= [⟨some 8, .mv (.t 1),none⟩,⟨some 9, .asT [137] [] false (.agg [.int .i64 0, .int .i64 0]) (.t 8),none⟩,⟨some 7, .mv (.t 9),none⟩,⟨some 10, .ext (.t 7) 0,none⟩,⟨some 11, .ext (.t 7) 1,none⟩,⟨some 2, .alloc [.int .i64 0, .int .i64 0],none⟩,⟨none, .st 2 (.t 2) (.t 10),none⟩,⟨some 3, .mv (.t 11),none⟩])
    (K:=fun f s=>∃ γ,σ.box γ=none∧slot 0 f= .ptr β 0∧slot 2 f= .ptr γ 0∧slot 3 f= .bool true∧s=σ.ad γ [.int .i64 e, .int .i64 a]) OA hS1 ?_ ?_)
  · simp only [h1,↓R1,RR,seval]
    rw [ah]
    intro γ hγ
    simp only [h0,↓R1,RR,seval]
    exact ⟨γ,hγ,by simp⟩
  rintro f2 s2 g2 w2 a2 ⟨γ,hγ,h0,h2,h3,hs2⟩ hS2 hE2 hd2
  rw [hs2] at hS2
  have hne:β≠γ:=fun e=>by rw [e,hγ] at hβ;cases hβ
  simp only [Exit.then]
  refine wp_seq (wp_seq (pZ (l:= [⟨some 12, .mv (.t 3),none⟩,⟨some 13, .un .not (.t 12),none⟩]) (K:=fun f s=>slot 0 f= .ptr β 0∧slot 2 f= .ptr γ 0∧slot 13 f= .bool false∧s=σ.ad γ [.int .i64 e, .int .i64 a]) OA hS2 ?_ ?_))
  · simp only [h0,h2,h3,↓R1,RR,seval]
  rintro f3 s3 g3 w3 a3 ⟨h0,h2,h13,hs3⟩ hS3 hE3 hd3
  rw [hs3] at hS3
  simp only [Exit.then]
  refine wp_cond_false (sq hS3 h13) (wp_skip ?_)
  simp only [Exit.then]
  refine pZ (l:= [⟨some 15, .fldA 0 (.t 2),none⟩,⟨some 16, .ld (some 2) (.t 15),none⟩,⟨none, .st 2 (.t 0) (.t 16),none⟩]) (K:=fun _ s=>s=(σ.ad γ [.int .i64 e, .int .i64 a]).ad β [.int .i64 e, .int .i64 a]) OA hS3 ?_ ?_
  · have hb2:(σ.ad γ [.int .i64 e, .int .i64 a]).box β=some z2:=by simp [St.ad,upd,hne,hβ]
    simp only [h0,h2,↓R1,RR,seval]
    rw [hb2]
    simp only [z2,↓R1,RR,seval]
  rintro f4 s4 g4 w4 a4 hs4 hS4 hE4 hd4
  rw [hs4] at hS4
  refine ⟨by rw [hd4,hd3,hd2,hd1],_,rfl, .tuple #[],by simp [results,Tryz.results86],rfl,rfl,g4,hS4.inv.le ?_,hE1.trans (hE2.trans (hE3.trans hE4))⟩
  rw [St.set_comm _ hne.symm]
  exact St.aR (St.le_refl _) (by simp [St.ad,upd,hne.symm,hγ])
theorem Jo (b:Nat) (w:World) :
  CallsD Tryz.prog 86 #[.pointer (some ⟨b,0,none⟩)] .returning w fun e u' w'=>e= .returned (.tuple #[])∧u'= .returning∧w'=w:=by
 refine callsD_of_wpS Tryz.func86 rfl fun c₀ cs hu=>?_
 apply wpS_seq
 apply wpS_region
 simp [wpOpsS,go_sem,recoverD,hu,Tryz.ntmps86,Exit.thenS]
 apply wpS_seq
 apply wpS_region
 simp [wpOpsS,go_sem,Exit.thenS]
 refine wpS_cond (t:=false) (by simp [Act.eval,Array.replicate]) ?_
 simp only [Bool.false_eq_true,if_false]
 refine wpS_of_wp (wp_skip ?_)
 cases c₀
 simp_all [bodyPostS,results,Tryz.results86]
theorem CJ {g:Gh} {w:World} {a b:Int} {us:List Value} (h:RelC g w [.int .i64 a, .int .i64 b] us):us= [.int .i64 a, .int .i64 b]:=by
 obtain ⟨v1,vs,rfl,r1,h2⟩:=h.1.cons_inv
 obtain ⟨v2,vs,rfl,r2,h3⟩:=h2.cons_inv
 rw [h3.bK,r1.a8,r2.a8]
theorem j4 {w:World} {b o:Nat} {vs:Array Value} {T:TypeId} {q:Nat × Nat} {v:Value} (hb:w.heap[b]? =some (.cells vs T q)) (hv:vs[o]? =some v):w.setCell ⟨b,o,none⟩ v=w:=by
 have hlt:=(Array.getElem?_eq_some_iff.1 hb).1
 have hbe:=(Array.getElem?_eq_some_iff.1 hb).2
 have hm:∀ f:Obj→Obj,f (.cells vs T q)= .cells vs T q→w.heap.modify b f=w.heap:=by
  intro f hf
  apply Array.ext_getElem?
  intro i
  rw [Array.getElem?_modify]
  split
  ·rename_i e;subst e;rw [hb,Option.map_some,hf]
  ·rfl
 simp only [World.setCell]
 rw [hm]
 obtain ⟨h1,h2⟩:=Array.getElem?_eq_some_iff.1 hv
 simp only [Option.isSome_none,Bool.false_eq_true,if_false,Obj.cells.injEq,and_true]
 apply Array.ext_getElem?
 intro i
 rw [Array.getElem?_setIfInBounds]
 split
 ·rename_i e;subst e;rw [hv]
 ·rfl
def p7 (f:Ft):AV:= .agg [.int .i64 f.1, .int .i64 f.2]
theorem _root_.PL {p:Prop} (h:p:=by simp [World.cell?,k2]):p:=h
theorem a40 {α:Type} {fc:Nat} {cap:List AV} {σ:St} {o:Except Ft α} {s1:α→St} {s0:St} (hent:∀ xs w,(callFunc fc xs).run Tryz.prog w= .ok (.enter fc xs) w)
  (h:∀ β,σ.box β=none→AX Tryz.prog fc cap (σ.ad β z2) (oX TS o (fun _=> .tup []) (fun a=>(s1 a).ad β z2) (s0.ad β z2)))
  (h1:∀ β a,σ.box β=none→(s1 a).box β=none) (h0:∀ β,σ.box β=none→s0.box β=none) :
  AC Tryz.prog 40 [.fn fc cap] σ (fun r s=>(∃ a,o= .ok a∧r=p7 (0,0)∧s=s1 a)∨∃ f,o= .error f∧r=p7 f∧s=s0):=by
 intro g w vs hI hv
 refine .inl ⟨Go.Proofs.enters_of Tryz.func40 OA rfl _ _,?_⟩
 obtain ⟨v1,vs2,rfl,r1,hv2⟩:=hv.cons_inv
 have hvn:=hv2.bK
 subst hvn
 obtain ⟨us,rfl,hu⟩:=r1.lY
 have hnb:=dR hI
 have hI1:=hI.bc (cs:=z2) (vs:= #[.int .i64 0, .int .i64 0]) (T:=26) ⟨.cons (.int _ _) (.cons (.int _ _) .nil),by simp [Value.oneCell']⟩
 have hE1:=Ext.bc hI (.cells #[.int .i64 0, .int .i64 0] 26)
 have hbox:(g.bc w).box g.nb=some w.heap.size:=PA
 have hmf:∀ (fn:Fn) (first cap:Array Value) (w:World),(Instr.makeFunc fn first cap).run Tryz.prog w= .ok (.func fn first cap) w:=fun _ _ _ _=>rfl
 have hent1:=hent us.toArray (w.alloc (.cells #[.int .i64 0, .int .i64 0] 26))
 have hc:Calls Tryz.prog fc us.toArray (w.alloc (.cells #[.int .i64 0, .int .i64 0] 26)) (CPX (g.bc w) (w.alloc (.cells #[.int .i64 0, .int .i64 0] 26)) (oX TS o (fun _=> .tup []) (fun a=>(s1 a).ad g.nb z2) (s0.ad g.nb z2))):=by
  rcases h g.nb hnb (g.bc w) _ us hI1 (hu.mono hE1) with ⟨_,h2⟩|⟨v,w',h2,_⟩
  ·exact h2
  ·rw [hent] at h2;cases h2
 go_enter_defers Tryz.func40,Tryz.ntmps40
 go_wp2
 refine hc.mono ?_
 rintro e w' ⟨v,r,σ',g',(⟨rfl,a,ho,rfl,rfl⟩|⟨rfl,f,ho,rfl,rfl⟩),hI',hE',hr⟩
 ·have hbx:(St.ad (s1 a) g.nb z2).box g.nb=some z2:=St.bo _ _ _
  obtain ⟨b,vs,T,k1,k2,k3⟩:=hI'.box _ _ hbx
  rw [hE'.box _ _ hbox] at k1
  cases k1
  have hvs:vs= #[.int .i64 0, .int .i64 0]:=by rw [←Array.toList_inj];exact CJ k3
  subst hvs
  have hc0:w'.cell? ⟨w.heap.size,0,none⟩=some (.int .i64 0):=PL
  have hc1:w'.cell? ⟨w.heap.size,1,none⟩=some (.int .i64 0):=PL
  have hf0:w'.frozen? ⟨w.heap.size,0,none⟩=false:=by simp [World.frozen?,k2]
  have hs0:w'.setCell ⟨w.heap.size,0,none⟩ (.int .i64 0)=w':=j4 k2 OF
  have hs1:w'.setCell ⟨w.heap.size,1,none⟩ (.int .i64 0)=w':=j4 k2 OF
  have hf1:w'.frozen? ⟨w.heap.size,1,none⟩=false:=by simp [World.frozen?,k2]
  simp only
  rename_i hk1 _ hk2
  refine hk2 _ _ ?_
  unfold wpList
  simp only [Exit.then]
  refine hk1 _ _ ?_
  go_wp2
  show Leaves _ _ _ _ _ _ _
  refine leaves_cons (f:=86) (args:= #[.pointer (some ⟨w.heap.size,0,none⟩)]) OF (by simp [go_sem]) ?_
  refine (Jo _ _).mono ?_
  rintro e u' w'' ⟨rfl,rfl,rfl⟩
  simp [Leaves,settle,results,Tryz.results40,go_sem,hc0,hc1]
  exact ⟨_,p7 (0,0),s1 a,g',rfl,(by first|exact .inl ⟨a,ho,rfl,rfl⟩|exact ⟨rfl,rfl⟩|simp [ho]),hI'.le (St.aR (St.le_refl _) (h1 _ a hnb)),hE1.trans hE', .gV ⟨.cons (.int _ _) (.cons (.int _ _) .nil),by simp [Value.oneCell']⟩⟩
 ·obtain ⟨u,rfl,hu2⟩:=hr.o7
  obtain ⟨us2,rfl,hu3⟩:=hu2.dt
  have hus:=CJ hu3
  subst hus
  have hbx:(St.ad s0 g.nb z2).box g.nb=some z2:=St.bo _ _ _
  show Leaves _ _ _ _ _ _ _
  refine leaves_cons (f:=86) (args:= #[.pointer (some ⟨w.heap.size,0,none⟩)]) OF (by simp [go_sem]) ?_
  refine (Jn hI' hbx (hE'.box _ _ hbox) f.1 f.2).mono ?_
  rintro e u' w'' ⟨rfl,rfl,g2,hI2,hE2⟩
  rw [St.set_set] at hI2
  have hbx2:(St.ad s0 g.nb [.int .i64 f.1, .int .i64 f.2]).box g.nb=some [.int .i64 f.1, .int .i64 f.2]:=St.bo _ _ _
  obtain ⟨b,vs,T,k1,k2,k3⟩:=hI2.box _ _ hbx2
  rw [hE2.box _ _ (hE'.box _ _ hbox)] at k1
  cases k1
  have hvs:vs= #[.int .i64 f.1, .int .i64 f.2]:=by rw [←Array.toList_inj];exact CJ k3
  subst hvs
  have hc0:w''.cell? ⟨w.heap.size,0,none⟩=some (.int .i64 f.1):=PL
  have hc1:w''.cell? ⟨w.heap.size,1,none⟩=some (.int .i64 f.2):=PL
  simp [Leaves,settle,results,Tryz.results40,go_sem,hc0,hc1]
  exact ⟨_,p7 f,s0,g2,rfl, .inr ⟨f.1,f.2,ho,rfl,rfl⟩,hI2.le (St.aR (St.le_refl _) (h0 _ hnb)),hE1.trans (hE'.trans hE2), .gV ⟨.cons (.int _ _) (.cons (.int _ _) .nil),by simp [Value.oneCell']⟩⟩
def cur (r:Rw) (k:Nat):List AV:= [.int .i64 (r.a:Nat), .sl false r.ws.length (r.ws.flatMap cWd), .int .i64 (k:Nat)]
theorem p8 (l:List Wd):(l.flatMap cWd).length=l.length*3:=by
 induction l with
 | nil=>rfl
 | cons w l ih=>simp only [List.flatMap_cons,List.length_append,List.length_cons,ih];simp only [cWd,List.length_cons,List.length_nil];omega
theorem uO {l:List Wd} {k:Nat} {w:Wd} (h:l[k]? =some w):((l.flatMap cWd).drop (k*3)).take 3=cWd w:=by
  induction l generalizing k with
  | nil=>simp at h
  | cons x l ih =>
    cases k with
    | zero=>simp at h;subst h;simp [cWd]
    | succ k =>
      simp only [List.getElem?_cons_succ] at h
      have:=ih h
      rw [List.flatMap_cons,show (k+1)*3=(cWd x).length+k*3 by simp [cWd];omega,List.drop_append,List.drop_eq_nil_of_le Oz,List.nil_append,Nat.add_sub_cancel_left]
      exact this
set_option maxHeartbeats 2000000 in
theorem a182 {σ:St} {β k:Nat} {rw_:Rw} {w:Wd} (hb:σ.box β=some (cur rw_ k)) (hw:rw_.ws[k]? =some w) (hl:rw_.ws.length≤20000):AC Tryz.prog 182 [.ptr β 0] σ (fun r s=>r= .agg (cWd w)∧s=σ.ad β (cur rw_ (k+1))):=by
 have hlt:=(List.getElem?_eq_some_iff.1 hw).1
 haveI:BoxIs σ β [.int .i64 (rw_.a:Nat), .sl false rw_.ws.length (rw_.ws.flatMap cWd), .int .i64 (k:Nat)]:=⟨hb⟩
 have he1:IntKind.i64.wrap ((k:Int)+1)=((k+1:Nat):Int):=OD
 have he2:IntKind.i64.wrap (((k+1:Nat):Int) - 1)=(k:Nat):=OD
 have he3:=uO hw
 have hln:=p8 rw_.ws
 have hc3:(cWd w).length=3:=rfl
 have hc4:(cWd w).take 3=cWd w:=rfl
 (refine Bv IN Nb ?_;simp only [IN,↓R1,RR,seval,he1,he2,he3,cur,hc3,hc4])
 repeat' (first|(with_reducible rw [ah])|(with_reducible refine And.intro ?_ ?_;exact ak)|((with_reducible intro β hβ;(try simp only [RB] at hβ);(repeat (obtain ⟨⟨_,_⟩,hβ⟩:=hβ));(try (have hbis:=ag OB hβ;obtain ⟨_,_⟩:=hbis)))<;>(try simp only [↓R1,RR,seval,he1,he2,he3,cur,hc3,hc4])))
 all_goals (try omega)
 all_goals (try (simp only [hc4];omega))
 all_goals (try (simp [hc3];done))
 (refine LX ?_ ?_ (by first|(simp [aw,rvS];done)|(simp only [aw,rvS,↓R1,RR,seval,he1,he2,he3,cur,hc3,hc4];try simp)))
 ·simp only [ar,↓R1,RR,seval,he1,he2,he3,cur,hc3,hc4]
  simp only [cWd]
  exact ae _
 ·(repeat' (first|exact St.an _|(refine St.dw ?_)|(refine St.eh ?_ (by first|assumption|(simp only [St.bn,St.bU];assumption)))|(refine St.eC ?_ ?_)|(refine St.c7 ?_ (by first|assumption|(simp only [St.br,St.bu];assumption)))|exact wkL.nil|exact aa _|(refine wkL.cons ?_ ?_)|exact ae _|exact dc|exact dD _ _ _|exact cQ _ _))
def e8 {α:Type} (w:Wd) (x:α) (e:Int):Except Ft α:=if w.q=true then .error (3,w.a) else if e=0 then .ok x else .error (e,w.a)
theorem lS {α:Type} {w:Wd} {x:α} {e:Int} (h:w.q=true):e8 w x e= .error (3,(w.a:Int)):=by simp [e8,h]
theorem lU {α:Type} {w:Wd} {x:α} {e:Int} (h:w.q=false) (he:e≠0):e8 w x e= .error (e,(w.a:Int)):=by simp [e8,h,he]
theorem j5 {α:Type} {w:Wd} {x:α} {e:Int} (h:w.q=false) (he:e=0):e8 w x e= .ok x:=by simp [e8,h,he]
theorem df {σ0 σ:St} {β:Nat} (h:St.lw σ0 σ) (hn:σ.box β=none):σ0.box β=none:=by
 cases hb:σ0.box β with
 | none=>rfl
 | some c=>obtain ⟨c',h1,_⟩:=h.1 β c hb;rw [hn] at h1;cases h1
theorem dK {σ0 σ:St} {τ:Nat} (h:St.lw σ0 σ) (hn:σ.tip τ=none):σ0.tip τ=none:=by
 cases hb:σ0.tip τ with
 | none=>rfl
 | some c=>rw [h.2.1 τ c hb] at hn;cases hn
theorem _root_.OI {p:Prop} (h:p:=by first|assumption|exact dK (by assumption) (by assumption)|(simp only [St.bn,St.bU];assumption)):p:=h
theorem _root_.ON {p:Prop} (h:p:=by first|assumption|exact df (by assumption) (by assumption)|(simp only [St.br,St.bu];assumption)):p:=h
theorem ba {p:Prop} (h:p:=by repeat' (first|assumption|exact St.an _|(refine St.dw ?_)|(refine St.eh ?_ OI)|(refine St.eC ?_ ?_)|(refine St.c7 ?_ ON)|exact wkL.nil|exact aa _|(refine wkL.cons ?_ ?_)|exact ae _|exact dc|exact dD _ _ _|exact cQ _ _)):p:=h
theorem bh {σ0 s:St} {e a:Int} {d:Option Nat} {l:List XI} {fr:Fr} {Q:Exit→Fr→St→Prop} {h:Hold (s,l,fr,Q)} (he:e≠0) (hl:St.lw σ0 s) (hq:Q (.panic []) [(0,iT TS (e,a))] σ0):re Tryz.prog 44 [.int .i64 e, .int .i64 a] s d l fr Q h :=
 aH (x44 e a s σ0 hl) (aa _) (fun _ ho=>by rw [oO,if_neg he] at ho;cases ho) (fun f ho=>by rw [oO,if_neg he] at ho;cases ho;exact hq)
theorem eL {s:St} {e a:Int} {d:Option Nat} {l:List XI} {fr:Fr} {Q:Exit→Fr→St→Prop} {h:Hold (s,l,fr,Q)} (he:e=0) (hq:cm Tryz.prog l (putF d (.tup []) fr) s Q):re Tryz.prog 44 [.int .i64 e, .int .i64 a] s d l fr Q h :=
 aH (x44 e a s s (St.an _)) (aa _) (fun _ ho=>hq) (fun f ho=>by rw [oO,if_pos he] at ho;cases ho)
theorem _root_.OV {p:Prop} (h:p:=by simp only [↓R1,RR,seval,hq,cWd,RX]):p:=h
theorem _root_.Pn {p:Prop} (h:p:=by exact ba):p:=h
set_option maxHeartbeats 2000000 in
theorem Ll {f:Nat} {cap:List AV} {σ σ0:St} {β k:Nat} {rw_:Rw} {w:Wd} {x:Int} {e:Int} (hb:σ.box β=some (cur rw_ k)) (hw:rw_.ws[k]? =some w) (hl:rw_.ws.length≤20000) (h0:σ0.box β=none) (hlw:St.lw σ0 σ)
    (hr:∀ s:St,s.glob=σ.glob→AC Tryz.prog f (.agg (cWd w)::cap) s (fun r s'=>r= .tup [.int .u64 x, .int .i64 e]∧s'=s)) :
    AX Tryz.prog 202 [.ptr β 0, .fn f cap] σ (oX TS (e8 w x e) (fun v=> .int .u64 v) (fun _=>σ.ad β (cur rw_ (k+1))) σ0):=by
  have hlt:=(List.getElem?_eq_some_iff.1 hw).1
  haveI:BoxIs σ β (cur rw_ k):=⟨hb⟩
  have hr':∀ s:St,s.glob=σ.glob→AC Tryz.prog f (.agg [.bool w.q, .str w.t, .int .i64 (w.a:Nat)]::cap) s (fun r s'=>r= .tup [.int .u64 x, .int .i64 e]∧s'=s):=hr
  cases hq:w.q with
  | true =>
    have ho:=lS (x:=x) (e:=e) hq
    (refine aB uh IP ?_;simp only [uh,↓R1,RR,seval,hq,cWd,RX])
    repeat' (first|(with_reducible rw [ah])|((first|(with_reducible intro β hβ;(try simp only [RB] at hβ);(repeat (obtain ⟨⟨_,_⟩,hβ⟩:=hβ));(try (have hbis:=ag OB hβ;obtain ⟨_,_⟩:=hbis)))|((refine AC.mono (AC.wk (a182 (k:=k) (rw_:=rw_) (w:=w) OV hw hl) (aa _)) ?_;(rintro _ _ ⟨rfl,rfl⟩)))|((refine bh (σ0:=σ0) OK Pn ?_)))<;>(try simp only [↓R1,RR,seval,hq,cWd,RX])))
    exact ax ho (St.an _)
  | false =>
    rw [hq] at hr'
    by_cases he:e=0
    · have ho:=j5 (x:=x) hq he
      (refine aB uh IP ?_;simp only [uh,↓R1,RR,seval,hq,cWd,RX])
      repeat' (first|(with_reducible rw [ah])|((first|(with_reducible intro β hβ;(try simp only [RB] at hβ);(repeat (obtain ⟨⟨_,_⟩,hβ⟩:=hβ));(try (have hbis:=ag OB hβ;obtain ⟨_,_⟩:=hbis)))|((refine AC.mono (AC.wk (a182 (k:=k) (rw_:=rw_) (w:=w) OV hw hl) (aa _)) ?_;(rintro _ _ ⟨rfl,rfl⟩)))|((refine AC.mono (AC.wk (hr' _ rfl) (aa _)) ?_;(rintro _ _ ⟨rfl,rfl⟩)))|((refine eL he ?_)))<;>(try simp only [↓R1,RR,seval,hq,cWd,RX])))
      (refine bF OB ?_ ?_)
      · simp only [ar,↓R1,RR,seval,hq,cWd,RX]
        exact ae _
      · exact ba
    · have ho:=lU (x:=x) hq he
      (refine aB uh IP ?_;simp only [uh,↓R1,RR,seval,hq,cWd,RX])
      repeat' (first|(with_reducible rw [ah])|((first|(with_reducible intro β hβ;(try simp only [RB] at hβ);(repeat (obtain ⟨⟨_,_⟩,hβ⟩:=hβ));(try (have hbis:=ag OB hβ;obtain ⟨_,_⟩:=hbis)))|((refine AC.mono (AC.wk (a182 (k:=k) (rw_:=rw_) (w:=w) OV hw hl) (aa _)) ?_;(rintro _ _ ⟨rfl,rfl⟩)))|((refine AC.mono (AC.wk (hr' _ rfl) (aa _)) ?_;(rintro _ _ ⟨rfl,rfl⟩)))|((refine bh (σ0:=σ0) he Pn ?_)))<;>(try simp only [↓R1,RR,seval,hq,cWd,RX])))
      exact ax ho (St.an _)
set_option maxHeartbeats 2000000 in
theorem N3 {f:Nat} {cap:List AV} {σ σ0:St} {β k:Nat} {rw_:Rw} {w:Wd} {x:Int} {e:Int} (hb:σ.box β=some (cur rw_ k)) (hw:rw_.ws[k]? =some w) (hl:rw_.ws.length≤20000) (h0:σ0.box β=none) (hlw:St.lw σ0 σ)
    (hr:∀ s:St,s.glob=σ.glob→AC Tryz.prog f (.agg (cWd w)::cap) s (fun r s'=>r= .tup [.int .i64 x, .int .i64 e]∧s'=s)) :
    AX Tryz.prog 205 [.ptr β 0, .fn f cap] σ (oX TS (e8 w x e) (fun v=> .int .i64 v) (fun _=>σ.ad β (cur rw_ (k+1))) σ0):=by
  have hlt:=(List.getElem?_eq_some_iff.1 hw).1
  haveI:BoxIs σ β (cur rw_ k):=⟨hb⟩
  have hr':∀ s:St,s.glob=σ.glob→AC Tryz.prog f (.agg [.bool w.q, .str w.t, .int .i64 (w.a:Nat)]::cap) s (fun r s'=>r= .tup [.int .i64 x, .int .i64 e]∧s'=s):=hr
  cases hq:w.q with
  | true =>
    have ho:=lS (x:=x) (e:=e) hq
    (refine aB ui IS ?_;simp only [ui,↓R1,RR,seval,hq,cWd,RX])
    repeat' (first|(with_reducible rw [ah])|((first|(with_reducible intro β hβ;(try simp only [RB] at hβ);(repeat (obtain ⟨⟨_,_⟩,hβ⟩:=hβ));(try (have hbis:=ag OB hβ;obtain ⟨_,_⟩:=hbis)))|((refine AC.mono (AC.wk (a182 (k:=k) (rw_:=rw_) (w:=w) OV hw hl) (aa _)) ?_;(rintro _ _ ⟨rfl,rfl⟩)))|((refine bh (σ0:=σ0) OK Pn ?_)))<;>(try simp only [↓R1,RR,seval,hq,cWd,RX])))
    exact ax ho (St.an _)
  | false =>
    rw [hq] at hr'
    by_cases he:e=0
    · have ho:=j5 (x:=x) hq he
      (refine aB ui IS ?_;simp only [ui,↓R1,RR,seval,hq,cWd,RX])
      repeat' (first|(with_reducible rw [ah])|((first|(with_reducible intro β hβ;(try simp only [RB] at hβ);(repeat (obtain ⟨⟨_,_⟩,hβ⟩:=hβ));(try (have hbis:=ag OB hβ;obtain ⟨_,_⟩:=hbis)))|((refine AC.mono (AC.wk (a182 (k:=k) (rw_:=rw_) (w:=w) OV hw hl) (aa _)) ?_;(rintro _ _ ⟨rfl,rfl⟩)))|((refine AC.mono (AC.wk (hr' _ rfl) (aa _)) ?_;(rintro _ _ ⟨rfl,rfl⟩)))|((refine eL he ?_)))<;>(try simp only [↓R1,RR,seval,hq,cWd,RX])))
      (refine bF OB ?_ ?_)
      · simp only [ar,↓R1,RR,seval,hq,cWd,RX]
        exact ae _
      · exact ba
    · have ho:=lU (x:=x) hq he
      (refine aB ui IS ?_;simp only [ui,↓R1,RR,seval,hq,cWd,RX])
      repeat' (first|(with_reducible rw [ah])|((first|(with_reducible intro β hβ;(try simp only [RB] at hβ);(repeat (obtain ⟨⟨_,_⟩,hβ⟩:=hβ));(try (have hbis:=ag OB hβ;obtain ⟨_,_⟩:=hbis)))|((refine AC.mono (AC.wk (a182 (k:=k) (rw_:=rw_) (w:=w) OV hw hl) (aa _)) ?_;(rintro _ _ ⟨rfl,rfl⟩)))|((refine AC.mono (AC.wk (hr' _ rfl) (aa _)) ?_;(rintro _ _ ⟨rfl,rfl⟩)))|((refine bh (σ0:=σ0) he Pn ?_)))<;>(try simp only [↓R1,RR,seval,hq,cWd,RX])))
      exact ax ho (St.an _)
set_option maxHeartbeats 2000000 in
theorem N4 {f:Nat} {cap:List AV} {σ σ0:St} {β k:Nat} {rw_:Rw} {w:Wd} {x:Int} {e:Int} (hb:σ.box β=some (cur rw_ k)) (hw:rw_.ws[k]? =some w) (hl:rw_.ws.length≤20000) (h0:σ0.box β=none) (hlw:St.lw σ0 σ)
    (hr:∀ s:St,s.glob=σ.glob→AC Tryz.prog f (.agg (cWd w)::cap) s (fun r s'=>r= .tup [.int .i64 x, .int .i64 e]∧s'=s)) :
    AX Tryz.prog 207 [.ptr β 0, .fn f cap] σ (oX TS (e8 w x e) (fun v=> .int .i64 v) (fun _=>σ.ad β (cur rw_ (k+1))) σ0):=by
  have hlt:=(List.getElem?_eq_some_iff.1 hw).1
  haveI:BoxIs σ β (cur rw_ k):=⟨hb⟩
  have hr':∀ s:St,s.glob=σ.glob→AC Tryz.prog f (.agg [.bool w.q, .str w.t, .int .i64 (w.a:Nat)]::cap) s (fun r s'=>r= .tup [.int .i64 x, .int .i64 e]∧s'=s):=hr
  cases hq:w.q with
  | true =>
    have ho:=lS (x:=x) (e:=e) hq
    (refine aB uj IT ?_;simp only [uj,↓R1,RR,seval,hq,cWd,RX])
    repeat' (first|(with_reducible rw [ah])|((first|(with_reducible intro β hβ;(try simp only [RB] at hβ);(repeat (obtain ⟨⟨_,_⟩,hβ⟩:=hβ));(try (have hbis:=ag OB hβ;obtain ⟨_,_⟩:=hbis)))|((refine AC.mono (AC.wk (a182 (k:=k) (rw_:=rw_) (w:=w) OV hw hl) (aa _)) ?_;(rintro _ _ ⟨rfl,rfl⟩)))|((refine bh (σ0:=σ0) OK Pn ?_)))<;>(try simp only [↓R1,RR,seval,hq,cWd,RX])))
    exact ax ho (St.an _)
  | false =>
    rw [hq] at hr'
    by_cases he:e=0
    · have ho:=j5 (x:=x) hq he
      (refine aB uj IT ?_;simp only [uj,↓R1,RR,seval,hq,cWd,RX])
      repeat' (first|(with_reducible rw [ah])|((first|(with_reducible intro β hβ;(try simp only [RB] at hβ);(repeat (obtain ⟨⟨_,_⟩,hβ⟩:=hβ));(try (have hbis:=ag OB hβ;obtain ⟨_,_⟩:=hbis)))|((refine AC.mono (AC.wk (a182 (k:=k) (rw_:=rw_) (w:=w) OV hw hl) (aa _)) ?_;(rintro _ _ ⟨rfl,rfl⟩)))|((refine AC.mono (AC.wk (hr' _ rfl) (aa _)) ?_;(rintro _ _ ⟨rfl,rfl⟩)))|((refine eL he ?_)))<;>(try simp only [↓R1,RR,seval,hq,cWd,RX])))
      (refine bF OB ?_ ?_)
      · simp only [ar,↓R1,RR,seval,hq,cWd,RX]
        exact ae _
      · exact ba
    · have ho:=lU (x:=x) hq he
      (refine aB uj IT ?_;simp only [uj,↓R1,RR,seval,hq,cWd,RX])
      repeat' (first|(with_reducible rw [ah])|((first|(with_reducible intro β hβ;(try simp only [RB] at hβ);(repeat (obtain ⟨⟨_,_⟩,hβ⟩:=hβ));(try (have hbis:=ag OB hβ;obtain ⟨_,_⟩:=hbis)))|((refine AC.mono (AC.wk (a182 (k:=k) (rw_:=rw_) (w:=w) OV hw hl) (aa _)) ?_;(rintro _ _ ⟨rfl,rfl⟩)))|((refine AC.mono (AC.wk (hr' _ rfl) (aa _)) ?_;(rintro _ _ ⟨rfl,rfl⟩)))|((refine bh (σ0:=σ0) he Pn ?_)))<;>(try simp only [↓R1,RR,seval,hq,cWd,RX])))
      exact ax ho (St.an _)
set_option maxHeartbeats 2000000 in
theorem N5 {f:Nat} {cap:List AV} {σ σ0:St} {β k:Nat} {rw_:Rw} {w:Wd} {x:Int × Int} {e:Int} (hb:σ.box β=some (cur rw_ k)) (hw:rw_.ws[k]? =some w) (hl:rw_.ws.length≤20000) (h0:σ0.box β=none) (hlw:St.lw σ0 σ)
    (hr:∀ s:St,s.glob=σ.glob→AC Tryz.prog f (.agg (cWd w)::cap) s (fun r s'=>r= .tup [.agg [.int .u64 x.1, .int .u64 x.2], .int .i64 e]∧s'=s)) :
    AX Tryz.prog 212 [.ptr β 0, .fn f cap] σ (oX TS (e8 w x e) (fun v=> .agg [.int .u64 v.1, .int .u64 v.2]) (fun _=>σ.ad β (cur rw_ (k+1))) σ0):=by
  have hlt:=(List.getElem?_eq_some_iff.1 hw).1
  haveI:BoxIs σ β (cur rw_ k):=⟨hb⟩
  have hr':∀ s:St,s.glob=σ.glob→AC Tryz.prog f (.agg [.bool w.q, .str w.t, .int .i64 (w.a:Nat)]::cap) s (fun r s'=>r= .tup [.agg [.int .u64 x.1, .int .u64 x.2], .int .i64 e]∧s'=s):=hr
  cases hq:w.q with
  | true =>
    have ho:=lS (x:=x) (e:=e) hq
    (refine aB uk IV ?_;simp only [uk,↓R1,RR,seval,hq,cWd,RX])
    repeat' (first|(with_reducible rw [ah])|((first|(with_reducible intro β hβ;(try simp only [RB] at hβ);(repeat (obtain ⟨⟨_,_⟩,hβ⟩:=hβ));(try (have hbis:=ag OB hβ;obtain ⟨_,_⟩:=hbis)))|((refine AC.mono (AC.wk (a182 (k:=k) (rw_:=rw_) (w:=w) OV hw hl) (aa _)) ?_;(rintro _ _ ⟨rfl,rfl⟩)))|((refine bh (σ0:=σ0) OK Pn ?_)))<;>(try simp only [↓R1,RR,seval,hq,cWd,RX])))
    exact ax ho (St.an _)
  | false =>
    rw [hq] at hr'
    by_cases he:e=0
    · have ho:=j5 (x:=x) hq he
      (refine aB uk IV ?_;simp only [uk,↓R1,RR,seval,hq,cWd,RX])
      repeat' (first|(with_reducible rw [ah])|((first|(with_reducible intro β hβ;(try simp only [RB] at hβ);(repeat (obtain ⟨⟨_,_⟩,hβ⟩:=hβ));(try (have hbis:=ag OB hβ;obtain ⟨_,_⟩:=hbis)))|((refine AC.mono (AC.wk (a182 (k:=k) (rw_:=rw_) (w:=w) OV hw hl) (aa _)) ?_;(rintro _ _ ⟨rfl,rfl⟩)))|((refine AC.mono (AC.wk (hr' _ rfl) (aa _)) ?_;(rintro _ _ ⟨rfl,rfl⟩)))|((refine eL he ?_)))<;>(try simp only [↓R1,RR,seval,hq,cWd,RX])))
      (refine bF OB ?_ ?_ (by first|(simp [aw,rvS];done)|(simp only [aw,rvS,↓R1,RR,seval,hq,cWd,RX];try simp)))
      · simp only [ar,↓R1,RR,seval,hq,cWd,RX]
        exact ae _
      · exact ba
    · have ho:=lU (x:=x) hq he
      (refine aB uk IV ?_;simp only [uk,↓R1,RR,seval,hq,cWd,RX])
      repeat' (first|(with_reducible rw [ah])|((first|(with_reducible intro β hβ;(try simp only [RB] at hβ);(repeat (obtain ⟨⟨_,_⟩,hβ⟩:=hβ));(try (have hbis:=ag OB hβ;obtain ⟨_,_⟩:=hbis)))|((refine AC.mono (AC.wk (a182 (k:=k) (rw_:=rw_) (w:=w) OV hw hl) (aa _)) ?_;(rintro _ _ ⟨rfl,rfl⟩)))|((refine AC.mono (AC.wk (hr' _ rfl) (aa _)) ?_;(rintro _ _ ⟨rfl,rfl⟩)))|((refine bh (σ0:=σ0) he Pn ?_)))<;>(try simp only [↓R1,RR,seval,hq,cWd,RX])))
      exact ax ho (St.an _)
def nO (q:Bool) (t:List UInt8) (lo hi:Int):Int × Int :=
 bif q|| !dW t then (0,3)
 else bif (decide (18446744073709551616≤ca t)||decide (((ca t % 18446744073709551616:Nat):Int)<lo))||decide (hi<((ca t % 18446744073709551616:Nat):Int)) then (0,2)
 else (((ca t % 18446744073709551616:Nat):Int),0)
theorem FM (q:Bool) (t:List UInt8) (lo hi:Int):CE q t lo hi= .tup [.int .u64 (nO q t lo hi).1, .int .i64 (nO q t lo hi).2]:=by
 unfold CE nO
 cases (q|| !dW t)<;>simp only [cond_true,cond_false]
 cases ((decide (18446744073709551616≤ca t)||decide (((ca t % 18446744073709551616:Nat):Int)<lo))||decide (hi<((ca t % 18446744073709551616:Nat):Int)))<;>rfl
def sr (q:Bool) (t:List UInt8):Int × Int :=
 bif (q|| !dW (cL t))||(fZ t&&decide (ca (cL t)=0)) then (0,3)
 else bif (decide (18446744073709551616≤ca (cL t))||decide (9223372036854775808<ca (cL t)))||(decide (ca (cL t)=9223372036854775808)&& !fZ t) then (0,2)
 else ((bif fZ t then -((ca (cL t):Nat):Int) else ((ca (cL t):Nat):Int)),0)
theorem CK (q:Bool) (t:List UInt8):so q t= .tup [.int .i64 (sr q t).1, .int .i64 (sr q t).2]:=by
 unfold so sr
 cases ((q|| !dW (cL t))||(fZ t&&decide (ca (cL t)=0)))<;>simp only [cond_true,cond_false]
 cases ((decide (18446744073709551616≤ca (cL t))||decide (9223372036854775808<ca (cL t)))||(decide (ca (cL t)=9223372036854775808)&& !fZ t))<;>rfl
def yH (s:List UInt8):Int × Int:=bif lA s then (((cR (hS s 35)).l.toNat:Nat),(kC (tS s 35):Nat)) else (0,0)
theorem FN (s:List UInt8):yx s= [.int .u64 (yH s).1, .int .u64 (yH s).2]:=by
 unfold yx yH;cases lA s<;>rfl
def db (w:Wd):Except Ft Int:=e8 w (nO w.q w.t 0 1099511627776).1 (nO w.q w.t 0 1099511627776).2
def cz (w:Wd):Except Ft Int:=e8 w (sr w.q w.t).1 (sr w.q w.t).2
def fN (w:Wd):Except Ft Int:=e8 w (((cR w.t).l.toNat:Nat):Int) ((cR w.t).err:Nat)
def ss (w:Wd):Except Ft Int:=e8 w (Cf w.t) (Cg w.t)
def Jp (w:Wd):Except Ft (Int × Int):=e8 w (yH w.t) (yy w.t)
def mZ (w:Wd):Except Ft (List UInt8):=if 1000<w.t.length then .error (4,w.a) else .ok w.t
theorem N6 (w:Wd) (hl:w.t.length≤1000000):Pu Tryz.prog 224 [.agg (cWd w)] (.tup [.int .u64 (nO w.q w.t 0 1099511627776).1, .int .i64 (nO w.q w.t 0 1099511627776).2]):=by
 have hn:=NY w.q w.t (w.a:Nat) 0 1099511627776 hl
 rw [FM] at hn
 simp only [cWd]
 (refine av IX Nh fun σ=>?_;simp only [IX,↓R1,RR,seval])
 repeat' ((first|(with_reducible intro β hβ;(try simp only [RB] at hβ);(repeat (obtain ⟨⟨_,_⟩,hβ⟩:=hβ));(try (have hbis:=ag OB hβ;obtain ⟨_,_⟩:=hbis)))|(refine Pt (hn) ?_))<;>(try simp only [↓R1,RR,seval]))
 (refine aq (af ?_))
 (simp only [ar,↓R1,RR,seval])
theorem N7 (w:Wd) (hl:w.t.length≤1000000):Pu Tryz.prog 203 [.agg (cWd w)] (.tup [.int .u64 ((cR w.t).l.toNat:Nat), .int .i64 ((cR w.t).err:Nat)]):=by
 have hn:=K1 w.t Oz
 simp only [Fe] at hn
 simp only [cWd]
 (refine av IQ Nd fun σ=>?_;simp only [IQ,↓R1,RR,seval])
 repeat' (first|(with_reducible rw [ah])|((first|(with_reducible intro β hβ;(try simp only [RB] at hβ);(repeat (obtain ⟨⟨_,_⟩,hβ⟩:=hβ));(try (have hbis:=ag OB hβ;obtain ⟨_,_⟩:=hbis)))|(refine Pt (hn) ?_))<;>(try simp only [↓R1,RR,seval])))
 (refine aq (af ?_))
 (simp only [ar,↓R1,RR,seval])
theorem N8 (w:Wd) (hl:w.t.length≤1000000):Pu Tryz.prog 208 [.agg (cWd w)] (.tup [.int .i64 (Cf w.t), .int .i64 (Cg w.t)]):=by
 have hn:=NP w.t
 rw [Ch] at hn
 simp only [cWd]
 (refine av IU Nf fun σ=>?_;simp only [IU,↓R1,RR,seval])
 repeat' ((first|(with_reducible intro β hβ;(try simp only [RB] at hβ);(repeat (obtain ⟨⟨_,_⟩,hβ⟩:=hβ));(try (have hbis:=ag OB hβ;obtain ⟨_,_⟩:=hbis)))|(refine Pt (hn) ?_))<;>(try simp only [↓R1,RR,seval]))
 (refine aq (af ?_))
 (simp only [ar,↓R1,RR,seval])
theorem _root_.O7 {p:Prop} (h:p:=by first|(simp [aw,rvS];done)|(simp only [aw,rvS,↓R1,RR,seval];try simp)):p:=h
theorem N9 (w:Wd) (hl:w.t.length≤1000000):PuG Tryz.prog gl3 213 [.agg (cWd w)] (.tup [.agg [.int .u64 (yH w.t).1, .int .u64 (yH w.t).2], .int .i64 (yy w.t)]):=by
 have hn:=NN w.t hl
 rw [FN] at hn
 simp only [cWd]
 (refine aO IW Ng fun σ hσ=>?_;simp only [IW,↓R1,RR,seval])
 repeat' (first|(with_reducible rw [ah])|((first|(with_reducible intro β hβ;(try simp only [RB] at hβ);(repeat (obtain ⟨⟨_,_⟩,hβ⟩:=hβ));(try (have hbis:=ag OB hβ;obtain ⟨_,_⟩:=hbis)))|(refine PuG.to (hn) hσ (aa _) ?_))<;>(try simp only [↓R1,RR,seval])))
 (refine aq (af ?_) O7)
 (simp only [ar,↓R1,RR,seval])
structure Cu (σ0 σ:St) (β:Nat) (r:Rw) (k:Nat):Prop where
 hb:σ.box β=some (cur r k)
 h0:σ0.box β=none
 lw:St.lw σ0 σ
 n:r.ws.length≤20000
 t:∀ w∈r.ws,w.t.length≤1000000
theorem Cu.to {σ0 σ:St} {β k j:Nat} {r:Rw} (h:Cu σ0 σ β r k):Cu σ0 (σ.ad β (cur r j)) β r j:=⟨St.bo _ _ _,h.h0,St.c7 h.lw h.h0,h.n,h.t⟩
theorem Cu.new {σ0 σ:St} {β γ k:Nat} {r:Rw} {c:List AV} (h:Cu σ0 σ β r k) (hn:σ.box γ=none):Cu σ0 (σ.ad γ c) β r k:=by
 have hne:β≠γ:=fun e=>by have:=h.hb;rw [e,hn] at this;cases this
 exact ⟨by simp [St.ad,upd,hne,h.hb],h.h0,St.c7 h.lw (df h.lw hn),h.n,h.t⟩
theorem Cu.len {σ0 σ:St} {β k:Nat} {r:Rw} {w:Wd} (h:Cu σ0 σ β r k) (hw:r.ws[k]? =some w):w.t.length≤1000000:=h.t w (List.mem_of_getElem? hw)
theorem _root_.OM {p:Prop} (h:p:=by (repeat' (first|assumption|(refine Cu.to (k:=1) ?_)|(refine Cu.new ?_ (by first|assumption|(simp only [↓R1,RR,seval,RX];done)))))):p:=h
theorem CL {σ σ0:St} {β k:Nat} {r:Rw} {w:Wd} (h:Cu σ0 σ β r k) (hw:r.ws[k]? =some w):AX Tryz.prog 181 [.ptr β 0] σ (oX TS (db w) (fun v=> .int .u64 v) (fun _=>σ.ad β (cur r (k+1))) σ0):=by
 haveI:BoxIs σ β (cur r k):=⟨h.hb⟩
 have ht:∀ z,Cu σ0 z β r k→z.glob=σ.glob→AX Tryz.prog 202 [.ptr β 0, .fn 224 []] z (oX TS (db w) (fun v=> .int .u64 v) (fun _=>z.ad β (cur r (k+1))) σ0):=fun z hz hgz=>Ll hz.hb hw hz.n hz.h0 hz.lw (fun s _=>N6 w (h.len hw) s)
 (refine aB IM Na ?_;simp only [IM,↓R1,RR,seval,RX])
 repeat' (((refine aH (ht _ OM rfl) (aa _) (fun a ho=>?_) (fun e ho=>?_)))<;>(try simp only [↓R1,RR,seval,RX]))
 all_goals first|exact ax ho (St.an _)|(refine bF ho ?_ ?_;(focus (simp only [ar,↓R1,RR,seval,RX];exact ae _));exact ba)
theorem CM {σ σ0:St} {β k:Nat} {r:Rw} {w:Wd} (h:Cu σ0 σ β r k) (hw:r.ws[k]? =some w):AX Tryz.prog 151 [.ptr β 0] σ (oX TS (fN w) (fun v=> .int .u64 v) (fun _=>σ.ad β (cur r (k+1))) σ0):=by
 haveI:BoxIs σ β (cur r k):=⟨h.hb⟩
 have ht:∀ z,Cu σ0 z β r k→z.glob=σ.glob→AX Tryz.prog 202 [.ptr β 0, .fn 203 []] z (oX TS (fN w) (fun v=> .int .u64 v) (fun _=>z.ad β (cur r (k+1))) σ0):=fun z hz hgz=>Ll hz.hb hw hz.n hz.h0 hz.lw (fun s _=>N7 w (h.len hw) s)
 (refine aB IE M1 ?_;simp only [IE,↓R1,RR,seval,RX])
 repeat' (((refine aH (ht _ OM rfl) (aa _) (fun a ho=>?_) (fun e ho=>?_)))<;>(try simp only [↓R1,RR,seval,RX]))
 all_goals first|exact ax ho (St.an _)|(refine bF ho ?_ ?_;(focus (simp only [ar,↓R1,RR,seval,RX];exact ae _));exact ba)
theorem Lm {σ σ0:St} {β k:Nat} {r:Rw} {w:Wd} (h:Cu σ0 σ β r k) (hw:r.ws[k]? =some w):AX Tryz.prog 154 [.ptr β 0] σ (oX TS (ss w) (fun v=> .int .i64 v) (fun _=>σ.ad β (cur r (k+1))) σ0):=by
 haveI:BoxIs σ β (cur r k):=⟨h.hb⟩
 have ht:∀ z,Cu σ0 z β r k→z.glob=σ.glob→AX Tryz.prog 207 [.ptr β 0, .fn 208 []] z (oX TS (ss w) (fun v=> .int .i64 v) (fun _=>z.ad β (cur r (k+1))) σ0):=fun z hz hgz=>N4 hz.hb hw hz.n hz.h0 hz.lw (fun s _=>N8 w (h.len hw) s)
 (refine aB IG M4 ?_;simp only [IG,↓R1,RR,seval,RX])
 repeat' (((refine aH (ht _ OM rfl) (aa _) (fun a ho=>?_) (fun e ho=>?_)))<;>(try simp only [↓R1,RR,seval,RX]))
 all_goals first|exact ax ho (St.an _)|(refine bF ho ?_ ?_;(focus (simp only [ar,↓R1,RR,seval,RX];exact ae _));exact ba)
theorem Oa {σ σ0:St} {β k:Nat} {r:Rw} {w:Wd} (h:Cu σ0 σ β r k) (hw:r.ws[k]? =some w) (hσ:bw gl3 σ):AX Tryz.prog 156 [.ptr β 0] σ (oX TS (Jp w) (fun v=> .agg [.int .u64 v.1, .int .u64 v.2]) (fun _=>σ.ad β (cur r (k+1))) σ0):=by
 haveI:BoxIs σ β (cur r k):=⟨h.hb⟩
 have ht:∀ z,Cu σ0 z β r k→z.glob=σ.glob→AX Tryz.prog 212 [.ptr β 0, .fn 213 []] z (oX TS (Jp w) (fun v=> .agg [.int .u64 v.1, .int .u64 v.2]) (fun _=>z.ad β (cur r (k+1))) σ0):=fun z hz hgz=>N5 hz.hb hw hz.n hz.h0 hz.lw (fun s hg=>N9 w (h.len hw) s (by intro k cs hk;rw [hg,hgz];exact hσ k cs hk))
 (refine aB IH M5 ?_;simp only [IH,↓R1,RR,seval,RX])
 repeat' (first|(with_reducible rw [ah])|((first|(with_reducible intro β hβ;(try simp only [RB] at hβ);(repeat (obtain ⟨⟨_,_⟩,hβ⟩:=hβ));(try (have hbis:=ag OB hβ;obtain ⟨_,_⟩:=hbis)))|((refine aH (ht _ OM rfl) (aa _) (fun a ho=>?_) (fun e ho=>?_))))<;>(try simp only [↓R1,RR,seval,RX])))
 all_goals first|exact ax ho (St.an _)|(refine bF ho ?_ ?_ (by first|(simp [aw,rvS];done)|(simp only [aw,rvS,↓R1,RR,seval,RX];try simp));(focus (simp only [ar,↓R1,RR,seval,RX];exact ae _));exact ba)
theorem na {σ σ0:St} {β k:Nat} {r:Rw} {w:Wd} (h:Cu σ0 σ β r k) (hw:r.ws[k]? =some w):AX Tryz.prog 153 [.ptr β 0] σ (oX TS (cz w) (fun v=> .int .i64 v) (fun _=>σ.ad β (cur r (k+1))) σ0):=by
 haveI:BoxIs σ β (cur r k):=⟨h.hb⟩
 have ht:∀ z,Cu σ0 z β r k→z.glob=σ.glob→AX Tryz.prog 205 [.ptr β 0, .fn 206 []] z (oX TS (cz w) (fun v=> .int .i64 v) (fun _=>z.ad β (cur r (k+1))) σ0):=fun z hz hgz=>N3 hz.hb hw hz.n hz.h0 hz.lw (fun s _=>(by have:=N2 w.q w.t (w.a:Nat) (h.len hw) s;rw [CK] at this;exact this))
 (refine aB IF M3 ?_;simp only [IF,↓R1,RR,seval,RX])
 repeat' (((refine aH (ht _ OM rfl) (aa _) (fun a ho=>?_) (fun e ho=>?_)))<;>(try simp only [↓R1,RR,seval,RX]))
 all_goals first|exact ax ho (St.an _)|(refine bF ho ?_ ?_;(focus (simp only [ar,↓R1,RR,seval,RX];exact ae _));exact ba)
theorem yI {σ σ0:St} {β k:Nat} {r:Rw} {w:Wd} (h:Cu σ0 σ β r k) (hw:r.ws[k]? =some w):AX Tryz.prog 150 [.ptr β 0] σ (oX TS (cz w) (fun v=> .int .i64 v) (fun _=>σ.ad β (cur r (k+1))) σ0):=by
 haveI:BoxIs σ β (cur r k):=⟨h.hb⟩
 (refine aB ID M0 ?_;simp only [ID,↓R1,RR,seval,RX])
 repeat' (((refine aH (na (σ0:=σ0) (r:=r) (k:=k) OM hw) (aa _) (fun a ho=>?_) (fun e ho=>?_)))<;>(try simp only [↓R1,RR,seval,RX]))
 all_goals first|exact ax ho (St.an _)|(refine bF ho ?_ ?_;(focus (simp only [ar,↓R1,RR,seval,RX];exact ae _));exact ba)
theorem Ln {σ σ0:St} {β k:Nat} {r:Rw} {w:Wd} (h:Cu σ0 σ β r k) (hw:r.ws[k]? =some w):AX Tryz.prog 152 [.ptr β 0] σ (oX TS (mZ w) (fun v=> .str v) (fun _=>σ.ad β (cur r (k+1))) σ0):=by
 haveI:BoxIs σ β (cur r k):=⟨h.hb⟩
 have h0:=h.h0
 have hlw:=h.lw
 by_cases hc:1000<w.t.length
 ·have ho:mZ w= .error (4,(w.a:Int)):=by simp [mZ,hc]
  have q1:decide ((1000:Int)<(w.t.length:Int))=true:=OQ
  (refine aB BH KV ?_;simp only [BH,↓R1,RR,seval,q1,cWd,RX])
  repeat' (first|(with_reducible rw [ah])|((first|(with_reducible intro β hβ;(try simp only [RB] at hβ);(repeat (obtain ⟨⟨_,_⟩,hβ⟩:=hβ));(try (have hbis:=ag OB hβ;obtain ⟨_,_⟩:=hbis)))|((refine AC.mono (AC.wk (a182 (k:=k) (rw_:=r) (w:=w) (by simp only [↓R1,RR,seval,q1,cWd,RX]) hw h.n) (aa _)) ?_;(rintro _ _ ⟨rfl,rfl⟩)))|((refine bh (σ0:=σ0) OK Pn ?_)))<;>(try simp only [↓R1,RR,seval,q1,cWd,RX])))
  exact ax ho (St.an _)
 ·have ho:mZ w= .ok w.t:=by simp [mZ,hc]
  have q1:decide ((1000:Int)<(w.t.length:Int))=false:=Pe
  (refine aB BH KV ?_;simp only [BH,↓R1,RR,seval,q1,cWd,RX])
  repeat' (first|(with_reducible rw [ah])|((first|(with_reducible intro β hβ;(try simp only [RB] at hβ);(repeat (obtain ⟨⟨_,_⟩,hβ⟩:=hβ));(try (have hbis:=ag OB hβ;obtain ⟨_,_⟩:=hbis)))|((refine AC.mono (AC.wk (a182 (k:=k) (rw_:=r) (w:=w) (by simp only [↓R1,RR,seval,q1,cWd,RX]) hw h.n) (aa _)) ?_;(rintro _ _ ⟨rfl,rfl⟩))))<;>(try simp only [↓R1,RR,seval,q1,cWd,RX])))
  (refine bF ho ?_ ?_;(focus (simp only [ar,↓R1,RR,seval,q1,cWd,RX];exact ae _));exact ba)
def fu (s:List UInt8):Except Ft (List Rw):=match e6 s with
 | .ok rs=> .ok rs
 | .error (e,a)=> .error ((e:Nat),(a:Nat))
theorem yJ {s:List UInt8} {e a:Nat} (h:e6 s= .error (e,a)):e≠0:=by rcases uB h with rfl|rfl<;>decide
theorem x42 {σ σ0:St} (s:List UInt8) (hs:s.length≤1000000) (hlw:St.lw σ0 σ):AX Tryz.prog 42 [.str s] σ (oX TS (fu s) (fun rs=> .sl false rs.length (rs.flatMap cRw)) (fun _=>σ) σ0):=by
  have hn:=p87 s hs
  cases hr:e6 s with
  | ok rs =>
    have ho:fu s= .ok rs:=by simp only [fu,hr]
    rw [hr] at hn
    (refine aB c42 b42 ?_;simp only [c42,↓R1,RR,seval,RX,iX,ft])
    repeat' (first|(with_reducible rw [ah])|((first|(with_reducible intro β hβ;(try simp only [RB] at hβ);(repeat (obtain ⟨⟨_,_⟩,hβ⟩:=hβ));(try (have hbis:=ag OB hβ;obtain ⟨_,_⟩:=hbis)))|(refine Pt (hn) ?_)|((refine eL rfl ?_)))<;>(try simp only [↓R1,RR,seval,RX,iX,ft])))
    (refine bF ho ?_ ?_;(focus (simp only [ar,↓R1,RR,seval,RX,iX,ft];exact ae _));exact ba)
  | error p =>
    obtain ⟨e,a⟩:=p
    have ho:fu s= .error ((e:Nat),(a:Nat)):=by simp only [fu,hr]
    have he:=yJ hr
    rw [hr] at hn
    (refine aB c42 b42 ?_;simp only [c42,↓R1,RR,seval,RX,iX,ft])
    repeat' (first|(with_reducible rw [ah])|((first|(with_reducible intro β hβ;(try simp only [RB] at hβ);(repeat (obtain ⟨⟨_,_⟩,hβ⟩:=hβ));(try (have hbis:=ag OB hβ;obtain ⟨_,_⟩:=hbis)))|(refine Pt (hn) ?_)|((refine bh (σ0:=σ0) Oz Pn ?_)))<;>(try simp only [↓R1,RR,seval,RX,iX,ft])))
    exact ax ho (St.an _)
def js (q:Bool) (t:List UInt8) (l:List (List UInt8)):Int:=match (bif q then none else dG t l 0) with
 | some i=>(i:Nat)
 | none=> -1
set_option maxHeartbeats 2000000 in
theorem p83 (r:Rw) (w:Wd) (f:Bool) (l:List (List UInt8)) (hw0:r.ws[0]? =some w) (hl:l.length≤1000):Pu Tryz.prog 83 [.agg (cRw r), .sl f l.length (l.map AV.str)] (.int .i64 (js w.q w.t l)):=by
  have q1:True:=trivial
  have q2:True:=trivial
  have hw:True:=trivial
  have hd:True:=trivial
  have he3:(r.ws.flatMap cWd).take 3= [.bool w.q, .str w.t, .int .i64 (w.a:Nat)]:=by have:=uO hw0;simp at this;rw [this];rfl
  have hlt0:=(List.getElem?_eq_some_iff.1 hw0).1
  have hln:=p8 r.ws
  simp only [cRw]
  (refine av c83 b83 fun σ=>?_;simp only [c83,↓R1,RR,seval,q1,q2,hw,hd,he3])
  repeat' (first|(with_reducible rw [ah])|(with_reducible refine And.intro ?_ ?_;exact ak)|((with_reducible intro β hβ;(try simp only [RB] at hβ);(repeat (obtain ⟨⟨_,_⟩,hβ⟩:=hβ));(try (have hbis:=ag OB hβ;obtain ⟨_,_⟩:=hbis)))<;>(try simp only [↓R1,RR,seval,q1,q2,hw,hd,he3])))
  all_goals first|omega|skip
  rename_i γ hγ ap1 ap2
  refine bq l.length (fun k=> [(5, .ptr β 0),(12, .sl f l.length (l.map AV.str)),(13, .int .i64 (l.length:Nat)),(14, .int .i64 (k:Nat))]) (fun _=>(σ.ad γ [.int .i64 (r.a:Nat), .sl false r.ws.length (r.ws.flatMap cWd)]).ad β [.bool w.q, .str w.t, .int .i64 (w.a:Nat)]) (fun k=>(bif w.q then none else dG w.t l 0)=(bif w.q then none else dG w.t (l.drop k) k)) OP (by simp only [St.set_set];exact St.le_refl _) rfl (fun k hk hI=>?_)
  by_cases hlt:k<l.length
  · have q1:decide ((k:Int)<(l.length:Int))=true:=by rw [decide_eq_true_eq];omega
    have hd:=sh l hlt
    have hw:IntKind.i64.wrap ((k:Int)+1)=((k+1:Nat):Int):=OD
    rw [lg w.t l hlt] at hI
    cases hq:w.q with
    | true =>
      have q2:=hq
      simp only [q1,q2,↓R1,RR,seval,q1,q2,hw,hd,he3]
      repeat' (first|(with_reducible refine And.intro ?_ ?_;exact ak)|(with_reducible apply And.intro))
      all_goals first|(simp [hq];done)|skip
      all_goals first|(rw [List.length_map];omega)|skip
      · simp [aK,slot,ae]
      · exact St.le_refl _
    | false =>
      rw [hq] at hI
      cases he:l[k] == w.t with
      | true =>
        rw [he] at hI
        simp only [cond_true,cond_false] at hI
        have q2:(w.t == l[k])=true:=by rw [beq_iff_eq] at he ⊢;exact he.symm
        rw [js];simp only [hq,cond_false];rw [hI]
        simp only [q1,hq,↓R1,RR,seval,q1,q2,hw,hd,he3]
        repeat' (with_reducible refine And.intro ?_ ?_;exact ak)
        all_goals first|(rw [List.length_map];omega)|skip
        refine aq (af (by (simp only [ar,↓R1,RR,seval,q1,q2,hw,hd,he3])))
      | false =>
        rw [he] at hI
        have q2:(w.t == l[k])=false:=by rw [Bool.eq_false_iff] at he ⊢;intro h;apply he;simp only [beq_iff_eq] at h ⊢;simp [h]
        simp only [q1,hq,↓R1,RR,seval,q1,q2,hw,hd,he3]
        repeat' (first|(with_reducible refine And.intro ?_ ?_;exact ak)|(with_reducible apply And.intro))
        all_goals first|(rw [List.length_map];omega)|skip
        · simpa using hI
        · simp [aK,slot,ae]
        · exact St.le_refl _
  · have hke:k=l.length:=by omega
    subst hke
    have q1:decide ((l.length:Int)<(l.length:Int))=false:=OF
    rw [List.drop_length] at hI
    rw [js,hI]
    have e:(bif w.q then none else dG w.t [] l.length)=none:=by cases w.q<;>rfl
    rw [e]
    simp only [q1,↓R1,RR,seval,q1,q2,hw,hd,he3]
    skip
    refine aq (af (by (simp only [ar,↓R1,RR,seval,q1,q2,hw,hd,he3])))
theorem _root_.PC {p:Prop} (h:p:=by rw [h];rfl):p:=h
theorem uP {s:List UInt8} {rs:List Rw} (h:e6 s= .ok rs):s.length≤20000∧rs.length≤s.length+1∧∀ r∈rs,r.ws≠ []∧r.ws.length≤20000∧∀ w∈r.ws,w.t.length≤20000:=by
 have hs:s.length≤20000:=by
  refine Classical.byContradiction fun hn=>?_
  rw [e6,if_pos Oz] at h;cases h
 have hb:kY (e6 s)=some (rL rs):=PC
 rw [rO hs] at hb
 obtain ⟨h1,h2⟩:=k7 (n:=20000) (fun x hx=>Nat.le_trans ((kB s).1 x hx) hs) hb
 have hg:=uy h
 refine ⟨hs,?_,fun r hr=>?_⟩
 ·have:=(kB s).2
  simp only [rL,List.length_map] at h1
  omega
 ·have h3:=h2 (jT r.ws) (by simp only [rL,List.mem_map];exact ⟨r,hr,rfl⟩)
  refine ⟨(hg r hr).1,?_,fun w hw=>?_⟩
  ·have:=h3.1;simpa [jT] using this
  ·exact h3.2 (w.q,w.t) (by simp only [jT,List.mem_map];exact ⟨w,hw,rfl⟩)
def su (l:List Int):List AV:=l.map fun n=> .int .i64 n
def cPr (p:Int × Int):List AV:= [.int .i64 p.1, .int .i64 p.2]
theorem FO (l:List Int):(su l).length=l.length:=by simp [su]
theorem FP (l:List (Int × Int)):(l.flatMap cPr).length=l.length*2:=aD (f:=cPr) (fun _=>rfl) l
theorem Jq {l:List Int} {k:Nat} {n:Int} (h:l[k]? =some n):((su l).drop (k*1)).take 1= [.int .i64 n]:=by
 obtain ⟨h1,h2⟩:=List.getElem?_eq_some_iff.1 h
 simp only [su,Nat.mul_one]
 rw [List.drop_eq_getElem_cons (by simpa using h1)]
 simp [h2]
theorem Jr {l:List (Int × Int)} {k:Nat} {p:Int × Int} (h:l[k]? =some p):((l.flatMap cPr).drop (k*2)).take 2=cPr p:=by
  induction l generalizing k with
  | nil=>simp at h
  | cons x l ih =>
    cases k with
    | zero=>simp at h;subst h;simp [cPr]
    | succ k =>
      simp only [List.getElem?_cons_succ] at h
      have:=ih h
      rw [List.flatMap_cons,show (k+1)*2=(cPr x).length+k*2 by simp [cPr];omega,List.drop_append,List.drop_eq_nil_of_le Oz,List.nil_append,Nat.add_sub_cancel_left]
      exact this
def inB (n:Int) (p:Int × Int):Bool:= !(decide (n<p.1)||decide (p.2<n))
def dN:List Int→List (Int × Int)→Bool
 | n::l,p::r=>inB n p&&dN l r
 | _,_=>true
theorem uQ {l:List Int} {r:List (Int × Int)} {k:Nat} {n:Int} {p:Int × Int} (h:l[k]? =some n) (h2:r[k]? =some p):dN (l.drop k) (r.drop k)=(inB n p&&dN (l.drop (k+1)) (r.drop (k+1))):=by
 obtain ⟨h1,h3⟩:=List.getElem?_eq_some_iff.1 h
 obtain ⟨h4,h5⟩:=List.getElem?_eq_some_iff.1 h2
 rw [List.drop_eq_getElem_cons h1,List.drop_eq_getElem_cons h4,h3,h5];rfl
set_option maxHeartbeats 2000000 in
theorem Lo (f g:Bool) (l:List Int) (r:List (Int × Int)) (hlr:l.length=r.length) (hl:l.length≤1000):Pu Tryz.prog 163 [.sl f l.length (su l), .sl g r.length (r.flatMap cPr)] (.bool (dN l r)):=by
 have q1:True:=trivial
 have he:True:=trivial
 have he2:True:=trivial
 have hw:True:=trivial
 (refine av IJ M7 fun σ=>?_;simp only [IJ,↓R1,RR,seval,q1,he,he2,hw,cPr])
 refine bq l.length (fun k=> [(1, .sl g r.length (r.flatMap cPr)),(7, .sl f l.length (su l)),(8, .int .i64 (l.length:Nat)),(9, .int .i64 (k:Nat))]) (fun _=>σ) (fun k=>dN l r=dN (l.drop k) (r.drop k)) OP (St.le_refl _) rfl (fun k hk hI=>?_)
 by_cases hlt:k<l.length
 ·obtain ⟨n,hn⟩:∃ n,l[k]? =some n:=⟨_,List.getElem?_eq_getElem hlt⟩
  obtain ⟨p,hp⟩:∃ p,r[k]? =some p:=⟨_,List.getElem?_eq_getElem Oz⟩
  rw [uQ hn hp] at hI
  have he:=Jq hn
  have he2:=Jr hp
  have hil:=FO l
  have hcl:=FP r
  simp only [cPr] at he2
  have q1:decide ((k:Int)<(l.length:Int))=true:=OQ
  have hw:IntKind.i64.wrap ((k:Int)+1)=((k+1:Nat):Int):=OD
  simp only [q1,↓R1,RR,seval,q1,he,he2,hw,cPr]
  repeat' (first|(with_reducible refine And.intro ?_ ?_;exact ak)|(with_reducible apply And.intro)|((refine aj (fun hc=>?_) (fun hc=>?_))<;>(try simp only [↓R1,RR,seval,q1,he,he2,hw,cPr])))
  ·(refine aq (af ?_))
   (simp only [ar,↓R1,RR,seval,q1,he,he2,hw,cPr])
   rw [hI,inB,hc];rfl
  ·rw [hI]
   simp_all [inB]
  ·simp [aK,slot,ae]
  ·exact St.le_refl _
 ·have hke:k=l.length:=by omega
  subst hke
  have q1:decide ((l.length:Int)<(l.length:Int))=false:=OF
  rw [List.drop_length] at hI
  simp only [q1,↓R1,RR,seval,q1,he,he2,hw,cPr]
  skip
  (refine aq (af ?_))
  (simp only [ar,↓R1,RR,seval,q1,he,he2,hw,cPr])
  rw [hI];rfl
structure ClsI where
 l:Int
 size:Int
 rate:Int
structure TenI where
 budget:Int
 queries:Int
 cap:Int
 out:Int
 audit:Int
structure RulI where
 owner:Int
 auth:Int
 res:Int
 any:Bool
 kind:Int
 low:Int
 high:Int
structure CfgI where
 cls:List ClsI
 tens:List TenI
 ruls:List RulI
 hor:Int
def dr (x:ClsI):List AV:= [.int .u64 x.l, .int .i64 x.size, .int .i64 x.rate]
def cM (x:TenI):List AV:= [.int .i64 x.budget, .int .i64 x.queries, .int .i64 x.cap, .int .i64 x.out, .int .i64 x.audit]
def dL (x:RulI):List AV:= [.int .i64 x.owner, .int .u64 x.auth, .int .u64 x.res, .bool x.any, .int .i64 x.kind, .int .i64 x.low, .int .i64 x.high]
def a7 (c:CfgI):List AV:= .sl false c.cls.length (c.cls.flatMap dr)::(c.tens.flatMap cM++ [.sl false c.ruls.length (c.ruls.flatMap dL), .int .u64 c.hor])
def U64 (n:Int):Prop:=0≤n∧n<18446744073709551616
structure CfgOk (c:CfgI):Prop where
 six:c.tens.length=6
 ncls:c.cls.length≤1000
 nrul:c.ruls.length≤1000
 lcls:∀ x∈c.cls,U64 x.l
 lrul:∀ x∈c.ruls,U64 x.auth∧U64 x.res
def lab (n:Int):BitVec 64:=BitVec.ofInt 64 n
theorem gF {n:Int} (h:U64 n):((lab n).toNat:Int)=n:=by
 unfold lab U64 at *
 rw [BitVec.toNat_ofInt]
 omega
theorem j6 (l:List ClsI):(l.flatMap dr).length=l.length*3:=aD (f:=dr) (fun _=>rfl) l
theorem bp (l:List TenI):(l.flatMap cM).length=l.length*5:=aD (f:=cM) (fun _=>rfl) l
theorem il (l:List RulI):(l.flatMap dL).length=l.length*7:=aD (f:=dL) (fun _=>rfl) l
theorem en {α:Type} {f:α→List AV} {m:Nat} (hf:∀ a,(f a).length=m):∀ {l:List α} {k:Nat} {x:α},l[k]? =some x→((l.flatMap f).drop (k*m)).take m=f x
  | [],_,_,h=>by simp at h
  | y :: l, 0, x, h => by
    simp at h;subst h
    rw [List.flatMap_cons,Nat.zero_mul,List.drop_zero,List.take_append_of_le_length (by rw [hf];exact Nat.le_refl _),List.take_of_length_le (by rw [hf];exact Nat.le_refl _)]
  | y :: l, k + 1, x, h => by
    simp only [List.getElem?_cons_succ] at h
    have:=en hf h
    have hy:=hf y
    rw [List.flatMap_cons,show (k+1)*m=(f y).length+k*m by rw [hy,Nat.add_mul];omega,List.drop_append,List.drop_eq_nil_of_le Oz,List.nil_append,Nat.add_sub_cancel_left]
    exact this
theorem eQ {c:CfgI} (h:CfgOk c):(a7 c).length=33:=by
 simp only [a7,List.length_cons,List.length_append,List.length_nil,bp,h.six]
theorem vG (c:CfgI):(a7 c)[0]? =some (.sl false c.cls.length (c.cls.flatMap dr)):=rfl
theorem _root_.PR {p:Prop} (h:p:=by rw [bp,h.six];decide):p:=h
theorem uR {c:CfgI} (h:CfgOk c):(a7 c)[31]? =some (.sl false c.ruls.length (c.ruls.flatMap dL)):=by
 simp only [a7,List.getElem?_cons_succ]
 rw [List.getElem?_append_right PR,bp,h.six];rfl
theorem CN {c:CfgI} (h:CfgOk c):(a7 c)[32]? =some (.int .u64 c.hor):=by
 simp only [a7,List.getElem?_cons_succ]
 rw [List.getElem?_append_right PR,bp,h.six];rfl
theorem Gv {c:CfgI} (h:CfgOk c):((a7 c).drop 1).take 30=c.tens.flatMap cM:=by
 simp only [a7,List.drop_succ_cons,List.drop_zero]
 rw [List.take_append_of_le_length PR,List.take_of_length_le PR]
theorem iD {c:CfgI} (h:CfgOk c):(a7 c).take 33=a7 c:=List.take_of_length_le (by rw [eQ h];decide)
def p9 (seen:List Int) (x:ClsI):Int:=if dN [x.size,x.rate] [(1,64),(0,64)]=false then 2 else if x.l∈seen then 8 else 0
def clsEs:List Int→List ClsI→List Int
 | _,[]=> []
 | seen,x::l=>p9 seen x::clsEs (seen++ [x.l]) l
def tenE (x:TenI):Int:=if dN [x.budget,x.queries,x.cap,x.out,x.audit] [(1,64),(0,4),(0,64),(0,64),(0,64)]=false then 2 else 0
def rulE (x:RulI):Int:=if (decide (x.owner<1)||decide (6<x.owner)||decide (x.kind<0)||decide (25<x.kind)||(x.any&&x.kind != 0))=true then 2 else if leB (lab x.res) (lab x.auth)=false then 13 else if x.high<x.low then 9 else 0
def firstE:List Int→Nat→Option (Int × Nat)
 | [],_=>none
 | e::l,i=>if e=0 then firstE l (i+1) else some (e,i)
def fz (c:CfgI):Int × Nat :=
  if 8<c.cls.length∨8<c.ruls.length then (6,0) else match firstE (clsEs [] c.cls) 0 with
  | some p=>p
  | none => match firstE (c.tens.map tenE) 0 with
    | some p=>p
    | none => match firstE (c.ruls.map rulE) 0 with
      | some p=>p
      | none=>if c.hor<1∨10000<c.hor then (2,0) else (0,0)
def Round (prs:List Nat) (asg body:CC) (fr:Fr) (L:Nat) (r:Loop) (xs:List AV) (σ1:St) (K:AV→St→Prop):Prop :=
 aC Tryz.prog asg (iL prs xs fr) σ1 (fun e fr1 σ2=>e= .normal∧σ2.lp L=some (.loop r,fr)∧aC Tryz.prog body fr1 (σ2.au L (busy r,fr)) (fun e _ σ3=>σ3.lp L=some (.loop (busy r),fr)∧match e with
    | .normal=>K (.bool true) (σ3.au L (r,fr))
    | .ret=>K (.bool false) (σ3.au L (left r .ret,fr))
    | .exit id=>K (.bool false) (σ3.au L (left r (.exit id),fr))
    | _=>False))
structure Errs (prs:List Nat) (asg body:CC) (fr:Fr) (σ:St) (Q:Exit→Fr→St→Prop) (es:List Int):Prop where
 two:prs.length=2
 go:∀ L r i σ1 (K:AV→St→Prop),es[i]? =some 0→σ1.lp L=some (.loop r,fr)→St.le σ (σ1.dropLp L)→K (.bool true) σ1→Round prs asg body fr L r [.int .i64 (i:Nat), .int .i64 0] σ1 K
 stop:∀ L r i e σ1 (K:AV→St→Prop),es[i]? =some e→e≠0→σ1.lp L=some (.loop r,fr)→St.le σ (σ1.dropLp L)→(∀ s,s.lp L=some (.loop (left r .ret),fr)→(firstE es 0=some (e,i)→Q .ret fr (s.dropLp L))→K (.bool false) s)→Round prs asg body fr L r [.int .i64 (i:Nat), .int .i64 e] σ1 K
 fin:firstE es 0=none→∀ s,St.le σ s→Q .normal fr s
theorem im {es:List Int} {k:Nat} {e:Int} (h:es[k]? =some e):firstE (es.drop k) k=if e=0 then firstE (es.drop (k+1)) (k+1) else some (e,k):=by
 obtain ⟨h1,h2⟩:=List.getElem?_eq_some_iff.1 h
 rw [List.drop_eq_getElem_cons h1,h2];rfl
theorem nc:∀ {l:List ClsI} {seen:List Int} {k:Nat} {x:ClsI},l[k]? =some x→(clsEs seen l)[k]? =some (p9 (seen++(l.take k).map ClsI.l) x)
  | [],_,_,_,h=>by simp at h
  | y::l,seen,0,x,h=>by simp at h;subst h;simp [clsEs]
  | y :: l, seen, k + 1, x, h => by
    simp only [List.getElem?_cons_succ] at h
    simp only [clsEs,List.getElem?_cons_succ]
    rw [nc h]
    simp [List.take_succ_cons]
theorem oP:∀ (l:List ClsI) (seen:List Int),(clsEs seen l).length=l.length
 | [],_=>rfl
 | x::l,seen=>by simp [clsEs,oP l]
theorem cX {σ s:St} {L:Nat} {x:LO × Fr} (hL:σ.lp L=none) (h:St.le (σ.au L x) s):St.le σ (s.dropLp L):=by
 refine ⟨h.1,h.2.1,h.2.2.1,fun l r hl=>?_,h.2.2.2.2⟩
 have hne:l≠L:=fun e=>by subst e;rw [hL] at hl;cases hl
 have h2:=h.2.2.2.1 l r (by simp only [St.au,upd,if_neg hne];exact hl)
 simp only [St.dropLp,if_neg hne]
 exact h2
theorem vH {σ:St} {M:Nat} {x:LO × Fr} (hM:σ.lp M=none):St.le σ (σ.au M x):=by
 refine ⟨fun _ _ h=>h,fun _ _ h=>h,fun _ _ h=>h,fun l r hl=>?_,fun _ _ h=>h⟩
 have hne:l≠M:=fun e=>by subst e;rw [hM] at hl;cases hl
 simp only [St.au,upd,if_neg hne];exact hl
theorem nP {l:List ClsI} {k:Nat} {x:ClsI} (h:l[k]? =some x) (n:Int):n∈(l.take (k+1)).map ClsI.l↔x.l=n∨n∈(l.take k).map ClsI.l:=by
 obtain ⟨h1,h2⟩:=List.getElem?_eq_some_iff.1 h
 rw [←List.take_append_getElem h1,h2]
 simp only [List.map_append,List.map_cons,List.map_nil,List.mem_append,List.mem_singleton]
 constructor
 ·rintro (h|h)
  ·exact .inr h
  ·exact .inl h.symm
 ·rintro (h|h)
  ·exact .inr h.symm
  ·exact .inl h
theorem _root_.PM {p:Prop} (h:p:=by rw [hcl];decide):p:=h
theorem _root_.Pq {p:Prop} (h:p:=by simp [h.two]):p:=h
theorem _root_.PS {p:Prop} (h:p:=by rw [hI];rfl):p:=h
set_option maxHeartbeats 4000000 in
theorem uS {prs:List Nat} {asg body:CC} {fr:Fr} {σ:St} {Q:Exit→Fr→St→Prop} {β:Nat} {c:CfgI} (hc:CfgOk c) (hβ:σ.box β=some (a7 c)) (h:Errs prs asg body fr σ Q (clsEs [] c.cls)) :
    RF Tryz.prog 162 [.ptr β 0] prs asg body fr σ Q:=by
  refine ⟨by kernel_rfl,fun L r hL hr1 hr2 hY=>?_⟩
  have q1:True:=trivial
  have he:True:=trivial
  have hw:True:=trivial
  have hc0:=vG c
  have hcl:=eQ hc
  have hn:=hc.ncls
  have hlen:=oP c.cls []
  have hb2:(σ.au L (r,fr)).box β=some (a7 c):=hβ
  refine aT II M6 ?_
  simp only [II,↓R1,RR,seval,RM,q1,he,hw,dr]
  refine Hw fun M hM=>?_
  have hML:M≠L:=fun e=>by rw [e,St.aY] at hM;cases hM
  have hb3:((σ.au L (r,fr)).au M (.map [] 0,[])).box β=some (a7 c):=hβ
  have h0:0<(a7 c).length:=PM
  simp only [hb3,hc0,h0,↓R1,RR,seval,RM,q1,he,hw,dr]
  refine cn (α:=Nat × List (Int × Bool × Nat) × Nat) (fun a=> [(0, .yld L),(3, .mpv M),(9, .sl false c.cls.length (c.cls.flatMap dr)),(10, .int .i64 (c.cls.length:Nat)),(11, .int .i64 (a.1:Nat))]) (fun a=>(σ.au L (r,fr)).au M (.map a.2.1 a.2.2,[]))
    (fun a=>a.1≤c.cls.length∧firstE (clsEs [] c.cls) 0=firstE ((clsEs [] c.cls).drop a.1) a.1∧∀ n,iI a.2.1 n=decide (n∈(c.cls.take a.1).map ClsI.l)) (fun a=>c.cls.length - a.1) (0,[],0) OP (St.le_refl _) ⟨Nat.zero_le _,rfl,fun n=>by simp [rl]⟩ ?_
  rintro ⟨k,m,cl⟩ ⟨hk,hI,hmm⟩
  simp only at hk hI hmm ⊢
  by_cases hlt:k<c.cls.length
  · obtain ⟨x,hx⟩:∃ x,c.cls[k]? =some x:=⟨_,List.getElem?_eq_getElem hlt⟩
    have hat:=nc (seen:= []) hx
    rw [List.nil_append] at hat
    rw [im hat] at hI
    have he:=en (f:=dr) (m:=3) (fun _=>rfl) hx
    have hln:=j6 c.cls
    have q1:decide ((k:Int)<(c.cls.length:Int))=true:=OQ
    have hw:IntKind.i64.wrap ((k:Int)+1)=((k+1:Nat):Int):=OD
    simp only [dr] at he
    have hpw:=Lo true true [x.size,x.rate] [(1,64),(0,64)] rfl OF
    simp only [su,cPr,List.map,List.flatMap_cons,List.flatMap_nil,List.append_nil,List.cons_append,List.nil_append,List.length_cons,List.length_nil] at hpw
    have hnext:∀ (cl:Nat) (n:Int),iI (iJ m cl x.l true).1 n=decide (n∈(c.cls.take (k+1)).map ClsI.l):=fun _ n=>by
      rw [rm,hmm]
      have:=nP hx n
      by_cases e1:x.l=n
      · rw [if_pos e1];exact (decide_eq_true (this.2 (.inl e1))).symm
      · rw [if_neg e1,decide_eq_decide,this];simp [e1]
    simp only [q1,↓R1,RR,seval,RM,q1,he,hw,dr]
    cases hwi:dN [x.size,x.rate] [(1,64),(0,64)] with
    | false =>
      rw [hwi] at hpw
      have e2:p9 ((c.cls.take k).map ClsI.l) x=2:=by simp only [p9,hwi,if_true]
      rw [e2] at hI hat
      repeat' (first|(with_reducible rw [ah])|(with_reducible refine And.intro ?_ ?_;exact ak)|((first|(with_reducible intro β hβ;(try simp only [RB] at hβ);(repeat (obtain ⟨⟨_,_⟩,hβ⟩:=hβ));(try (have hbis:=ag OB hβ;obtain ⟨_,_⟩:=hbis)))|(refine Pt (hpw) ?_)|((refine uc (St.aY _ _ _) ?_)))<;>(try simp only [↓R1,RR,seval,RM,q1,he,hw,dr])))
      (have hlp:∀ γ cs y,(((σ.au L (.loop r,fr)).au M y).ad γ cs).lp L=some (.loop r,fr):=fun γ cs y=>(St.jP (fun e=>hML e.symm) ..).trans (St.aY _ _ _));(refine hY _ _ _ Pq (hlp _ _ _) (h.stop L r k _ _ _ hat OK (hlp _ _ _) (cX hL (St.aR (vH hM) OB)) (fun s hs hq=>?_)));simp only [↓R1,RR,seval,RM,q1,he,hw,dr];(refine b7 (.inr (.inl ⟨hs,hq PS⟩)) Pj)
    | true =>
      rw [hwi] at hpw
      cases hmg:iI m x.l with
      | true =>
        have e2:p9 ((c.cls.take k).map ClsI.l) x=8:=by
          rw [hmm,decide_eq_true_eq] at hmg
          simp only [p9,hwi,hmg,if_true];rfl
        rw [e2] at hI hat
        repeat' (first|(with_reducible rw [ah])|(with_reducible refine And.intro ?_ ?_;exact ak)|((first|(with_reducible intro β hβ;(try simp only [RB] at hβ);(repeat (obtain ⟨⟨_,_⟩,hβ⟩:=hβ));(try (have hbis:=ag OB hβ;obtain ⟨_,_⟩:=hbis)))|(refine Pt (hpw) ?_)|((refine Bw (St.aY _ _ _) ?_;rw [hmg];simp only [↓R1,RR,seval,RM,q1,he,hw,dr]))|((refine uc (St.aY _ _ _) ?_)))<;>(try simp only [↓R1,RR,seval,RM,q1,he,hw,dr])))
        (have hlp:∀ γ cs y,(((σ.au L (.loop r,fr)).au M y).ad γ cs).lp L=some (.loop r,fr):=fun γ cs y=>(St.jP (fun e=>hML e.symm) ..).trans (St.aY _ _ _));(refine hY _ _ _ Pq (hlp _ _ _) (h.stop L r k _ _ _ hat OK (hlp _ _ _) (cX hL (St.aR (vH hM) OB)) (fun s hs hq=>?_)));simp only [↓R1,RR,seval,RM,q1,he,hw,dr];(refine b7 (.inr (.inl ⟨hs,hq PS⟩)) Pj)
      | false =>
        have e2:p9 ((c.cls.take k).map ClsI.l) x=0:=by
          rw [hmm,decide_eq_false_iff_not] at hmg
          simp only [p9,hwi,hmg,if_false];rfl
        rw [e2] at hI hat
        repeat' (first|(with_reducible rw [ah])|(with_reducible refine And.intro ?_ ?_;exact ak)|((first|(with_reducible intro β hβ;(try simp only [RB] at hβ);(repeat (obtain ⟨⟨_,_⟩,hβ⟩:=hβ));(try (have hbis:=ag OB hβ;obtain ⟨_,_⟩:=hbis)))|(refine Pt (hpw) ?_)|((refine Bw (St.aY _ _ _) ?_;rw [hmg];simp only [↓R1,RR,seval,RM,q1,he,hw,dr]))|((refine uc (St.aY _ _ _) ?_)))<;>(try simp only [↓R1,RR,seval,RM,q1,he,hw,dr])))
        have hlp:∀ γ cs y,(((σ.au L (.loop r,fr)).au M y).ad γ cs).lp L=some (.loop r,fr):=fun γ cs y=>(St.jP (fun e=>hML e.symm) ..).trans (St.aY _ _ _)
        refine hY _ _ _ Pq (hlp _ _ _) (h.go L r k _ _ hat (hlp _ _ _) (cX hL (St.aR (vH hM) OB)) ?_)
        rw [if_pos rfl] at hI
        simp only [↓R1,RR,seval,RM,q1,he,hw,dr]
        exact ⟨(k+1,_,_),⟨hlt,hI,hnext _⟩,by simp [aK,slot,ae],St.aR (St.le_refl _) OB,by simp only;omega⟩
  · have hke:k=c.cls.length:=by omega
    subst hke
    have q1:decide ((c.cls.length:Int)<(c.cls.length:Int))=false:=OF
    rw [List.drop_eq_nil_of_le Oz] at hI
    simp only [q1,↓R1,RR,seval,RM,q1,he,hw,dr]
    skip
    refine b7 (.inl ⟨(St.jP (fun e=>hML e.symm) ..).trans (St.aY _ _ _),h.fin hI _ (cX hL (vH hM))⟩) Pj
theorem CQ {α:Type} {f:α→Int} {l:List α} {k:Nat} {x:α} (h:l[k]? =some x):(l.map f)[k]? =some (f x):=by simp [h]
set_option maxHeartbeats 4000000 in
theorem uT {prs:List Nat} {asg body:CC} {fr:Fr} {σ:St} {Q:Exit→Fr→St→Prop} {β:Nat} {c:CfgI} (hc:CfgOk c) (hβ:σ.box β=some (a7 c)) (h:Errs prs asg body fr σ Q (c.tens.map tenE)) :
    RF Tryz.prog 164 [.ptr β 0] prs asg body fr σ Q:=by
  refine ⟨by kernel_rfl,fun L r hL hr1 hr2 hY=>?_⟩
  have q1:True:=trivial
  have he:True:=trivial
  have hw:True:=trivial
  have hln:True:=trivial
  have hc1:=Gv hc
  have hcl:=eQ hc
  have h6:=hc.six
  have hlen:(c.tens.map tenE).length=6:=by simp [h6]
  have hb2:(σ.au L (r,fr)).box β=some (a7 c):=hβ
  refine aT IK M8 ?_
  have h0:1+30≤(a7 c).length:=PM
  simp only [IK,hb2,hc1,h0,hcl,↓R1,RR,seval,q1,he,hw,cM,hln]
  refine bq 6 (fun k=> [(0, .yld L),(3, .sl true 5 [.int .i64 1, .int .i64 64, .int .i64 0, .int .i64 4, .int .i64 0, .int .i64 64, .int .i64 0, .int .i64 64, .int .i64 0, .int .i64 64]),(14, .agg (c.tens.flatMap cM)),(15, .int .i64 (k:Nat))]) (fun _=>σ.au L (r,fr))
    (fun k=>firstE (c.tens.map tenE) 0=firstE ((c.tens.map tenE).drop k) k) OP (St.le_refl _) rfl (fun k hk hI=>?_)
  by_cases hlt:k<6
  · obtain ⟨x,hx⟩:∃ x,c.tens[k]? =some x:=⟨_,List.getElem?_eq_getElem Oz⟩
    have hat:=CQ (f:=tenE) hx
    rw [im hat] at hI
    have he:=en (f:=cM) (m:=5) (fun _=>rfl) hx
    have hln:=bp c.tens
    rw [h6] at hln
    have q1:decide ((k:Int)<6)=true:=OQ
    have hw:IntKind.i64.wrap ((k:Int)+1)=((k+1:Nat):Int):=OD
    simp only [cM] at he
    have hpw:=Lo true true [x.budget,x.queries,x.cap,x.out,x.audit] [(1,64),(0,4),(0,64),(0,64),(0,64)] rfl OF
    simp only [su,cPr,List.map,List.flatMap_cons,List.flatMap_nil,List.append_nil,List.cons_append,List.nil_append,List.length_cons,List.length_nil] at hpw
    simp only [q1,↓R1,RR,seval,q1,he,hw,cM,hln]
    cases hwi:dN [x.budget,x.queries,x.cap,x.out,x.audit] [(1,64),(0,4),(0,64),(0,64),(0,64)] with
    | false =>
      rw [hwi] at hpw
      have e2:tenE x=2:=by simp only [tenE,hwi,if_true]
      rw [e2] at hI hat
      repeat' (first|(with_reducible rw [ah])|(with_reducible refine And.intro ?_ ?_;exact ak)|((first|(with_reducible intro β hβ;(try simp only [RB] at hβ);(repeat (obtain ⟨⟨_,_⟩,hβ⟩:=hβ));(try (have hbis:=ag OB hβ;obtain ⟨_,_⟩:=hbis)))|(refine Pt (hpw) ?_))<;>(try simp only [↓R1,RR,seval,q1,he,hw,cM,hln])))
      (refine hY _ _ _ Pq (St.aY _ _ _) (h.stop L r k _ _ _ hat OK (St.aY _ _ _) (cX hL (St.aR (St.le_refl _) OB)) (fun s hs hq=>?_)));simp only [↓R1,RR,seval,q1,he,hw,cM,hln];(refine b7 (.inr (.inl ⟨hs,hq PS⟩)) Pj)
    | true =>
      rw [hwi] at hpw
      have e2:tenE x=0:=by simp only [tenE,hwi];rfl
      rw [e2] at hI hat
      repeat' (first|(with_reducible rw [ah])|(with_reducible refine And.intro ?_ ?_;exact ak)|((first|(with_reducible intro β hβ;(try simp only [RB] at hβ);(repeat (obtain ⟨⟨_,_⟩,hβ⟩:=hβ));(try (have hbis:=ag OB hβ;obtain ⟨_,_⟩:=hbis)))|(refine Pt (hpw) ?_))<;>(try simp only [↓R1,RR,seval,q1,he,hw,cM,hln])))
      (refine hY _ _ _ Pq (St.aY _ _ _) (h.go L r k _ _ hat (St.aY _ _ _) (cX hL (St.aR (St.le_refl _) OB)) ?_));rw [if_pos rfl] at hI;simp only [↓R1,RR,seval,q1,he,hw,cM,hln];exact ⟨hlt,hI,by simp [aK,slot,ae],St.aR (St.le_refl _) OB⟩
  · have hke:k=6:=by omega
    subst hke
    rw [List.drop_eq_nil_of_le Oz] at hI
    have q1:decide (((6:Nat):Int)<6)=false:=OK
    simp only [q1,↓R1,RR,seval,q1,he,hw,cM,hln]
    skip
    refine b7 (.inl ⟨St.aY _ _ _,h.fin hI _ (cX hL (St.le_refl _))⟩) Pj
set_option maxHeartbeats 4000000 in
theorem CR {prs:List Nat} {asg body:CC} {fr:Fr} {σ:St} {Q:Exit→Fr→St→Prop} {β:Nat} {c:CfgI} (hc:CfgOk c) (hβ:σ.box β=some (a7 c)) (h:Errs prs asg body fr σ Q (c.ruls.map rulE)) :
  RF Tryz.prog 165 [.ptr β 0] prs asg body fr σ Q:=by
 refine ⟨by kernel_rfl,fun L r hL hr1 hr2 hY=>?_⟩
 have q1:True:=trivial
 have he:True:=trivial
 have hw:True:=trivial
 have hln:True:=trivial
 have hc1:=uR hc
 have hcl:=eQ hc
 have hn:=hc.nrul
 have hlen:(c.ruls.map rulE).length=c.ruls.length:=OF
 have hb2:(σ.au L (r,fr)).box β=some (a7 c):=hβ
 refine aT IL M9 ?_
 have h0:31<(a7 c).length:=PM
 simp only [IL,hb2,hc1,h0,↓R1,RR,seval,q1,he,hw,dL,hln]
 refine bq c.ruls.length (fun k=> [(0, .yld L),(7, .sl false c.ruls.length (c.ruls.flatMap dL)),(8, .int .i64 (c.ruls.length:Nat)),(9, .int .i64 (k:Nat))]) (fun _=>σ.au L (r,fr))
  (fun k=>firstE (c.ruls.map rulE) 0=firstE ((c.ruls.map rulE).drop k) k) OP (St.le_refl _) rfl (fun k hk hI=>?_)
 by_cases hlt:k<c.ruls.length
 ·obtain ⟨x,hx⟩:∃ x,c.ruls[k]? =some x:=⟨_,List.getElem?_eq_getElem hlt⟩
  have hat:=CQ (f:=rulE) hx
  rw [im hat] at hI
  have he:=en (f:=dL) (m:=7) (fun _=>rfl) hx
  have hln:=il c.ruls
  have hxm:=hc.lrul x (List.mem_of_getElem? hx)
  have q1:decide ((k:Int)<(c.ruls.length:Int))=true:=OQ
  have hw:IntKind.i64.wrap ((k:Int)+1)=((k+1:Nat):Int):=OD
  simp only [dL] at he
  have hpw:=No (lab x.res) (lab x.auth)
  rw [gF hxm.1,gF hxm.2] at hpw
  simp only [q1,↓R1,RR,seval,q1,he,hw,dL,hln]
  repeat' (first|(with_reducible rw [ah])|(with_reducible refine And.intro ?_ ?_;exact ak)|(with_reducible apply And.intro)|((first|(refine aj (fun hc=>?_) (fun hc=>?_))|(with_reducible intro β hβ;(try simp only [RB] at hβ);(repeat (obtain ⟨⟨_,_⟩,hβ⟩:=hβ));(try (have hbis:=ag OB hβ;obtain ⟨_,_⟩:=hbis)))|(refine Pt (hpw) ?_))<;>(try simp only [↓R1,RR,seval,q1,he,hw,dL,hln])))
  ·simp_all
  ·have e2:rulE x=2:=by simp only [rulE,hc,if_true]
   rw [e2] at hI hat
   (refine hY _ _ _ Pq (St.aY _ _ _) (h.stop L r k _ _ _ hat OK (St.aY _ _ _) (cX hL (St.aR (St.le_refl _) OB)) (fun s hs hq=>?_)));simp only [↓R1,RR,seval,q1,he,hw,dL,hln];(refine b7 (.inr (.inl ⟨hs,hq PS⟩)) Pj)
  ·rename_i hc2
   have e2:rulE x=13:=by
    rw [Bool.not_eq_true'] at hc
    simp only [rulE,hc2,hc,if_true];rfl
   rw [e2] at hI hat
   (refine hY _ _ _ Pq (St.aY _ _ _) (h.stop L r k _ _ _ hat OK (St.aY _ _ _) (cX hL (St.aR (St.le_refl _) OB)) (fun s hs hq=>?_)));simp only [↓R1,RR,seval,q1,he,hw,dL,hln];(refine b7 (.inr (.inl ⟨hs,hq PS⟩)) Pj)
  ·rename_i hc2 hc3
   have e2:rulE x=9:=by
    rw [Bool.not_eq_false'] at hc3
    rw [decide_eq_true_eq] at hc
    simp only [rulE,hc2,hc3,hc,if_true];rfl
   rw [e2] at hI hat
   (refine hY _ _ _ Pq (St.aY _ _ _) (h.stop L r k _ _ _ hat OK (St.aY _ _ _) (cX hL (St.aR (St.le_refl _) OB)) (fun s hs hq=>?_)));simp only [↓R1,RR,seval,q1,he,hw,dL,hln];(refine b7 (.inr (.inl ⟨hs,hq PS⟩)) Pj)
  ·rename_i hc2 hc3
   have e2:rulE x=0:=by
    rw [Bool.not_eq_false'] at hc3
    rw [decide_eq_false_iff_not] at hc
    simp only [rulE,hc2,hc3,hc,if_false];rfl
   rw [e2] at hI hat
   (refine hY _ _ _ Pq (St.aY _ _ _) (h.go L r k _ _ hat (St.aY _ _ _) (cX hL (St.aR (St.le_refl _) OB)) ?_));rw [if_pos rfl] at hI;simp only [↓R1,RR,seval,q1,he,hw,dL,hln];exact ⟨hlt,hI,by simp [aK,slot,ae],St.aR (St.le_refl _) OB⟩
 ·have hke:k=c.ruls.length:=by omega
  subst hke
  have q1:decide ((c.ruls.length:Int)<(c.ruls.length:Int))=false:=OF
  rw [List.drop_eq_nil_of_le Oz] at hI
  simp only [q1,↓R1,RR,seval,q1,he,hw,dL,hln]
  skip
  refine b7 (.inl ⟨St.aY _ _ _,h.fin hI _ (cX hL (St.le_refl _))⟩) Pj
structure OpI where
 kind:Int
 tenant:Int
 label:Int
 text:List UInt8
 number:Int
 most:Int
 idl:Int
 idn:Int
def cOp (o:OpI):List AV:= [.int .i64 o.kind, .int .i64 o.tenant, .int .u64 o.label, .str o.text, .int .i64 o.number, .int .i64 o.most, .int .u64 o.idl, .int .u64 o.idn]
def eb {α β:Type} (o:Except Ft α) (f:α→Except Ft β):Except Ft β:=match o with
 | .ok a=>f a
 | .error e=> .error e
theorem aE {α β:Type} {o:Except Ft α} {a:α} (f:α→Except Ft β) (h:o= .ok a):eb o f=f a:=PC
theorem dz {α β:Type} {o:Except Ft α} {e:Ft} (f:α→Except Ft β) (h:o= .error e):eb o f= .error e:=PC
def ga (w1 w2:Wd):Except Ft OpI:=eb (cz w1) fun t=>eb (fN w2) fun l=> .ok ⟨1,t,l,[],0,0,0,0⟩
def nf (w1 w2:Wd):Except Ft OpI:=eb (cz w1) fun t=>eb (mZ w2) fun x=> .ok ⟨2,t,0,x,0,0,0,0⟩
def sw (w1 w2:Wd):Except Ft OpI:=eb (cz w1) fun t=>eb (cz w2) fun n=> .ok ⟨3,t,0,[],n,0,0,0⟩
def iE (w1 w2 w3:Wd):Except Ft OpI:=eb (ss w1) fun k=>eb (fN w2) fun l=>eb (cz w3) fun v=> .ok ⟨4,0,0,fH (BitVec.ofInt 64 l) k v,0,0,0,0⟩
def qa (w1:Wd):Except Ft OpI:=eb (mZ w1) fun x=> .ok ⟨4,0,0,x,0,0,0,0⟩
def CS:Except Ft OpI:= .ok ⟨5,0,0,[],0,0,0,0⟩
def sx (w1 w2:Wd):Except Ft OpI:=eb (cz w1) fun t=>eb (cz w2) fun m=> .ok ⟨6,t,0,[],0,m,0,0⟩
def dX (w1 w2 w3:Wd):Except Ft OpI:=eb (cz w1) fun t=>eb (cz w2) fun n=>eb (Jp w3) fun i=> .ok ⟨7,t,0,[],n,0,i.1,i.2⟩
def kF (w1 w2 w3:Wd):Except Ft OpI:=eb (cz w1) fun t=>eb (cz w2) fun n=>eb (cz w3) fun m=> .ok ⟨8,t,0,[],n,m,0,0⟩
theorem _root_.OU {p:Prop} (h:p:=by rw [hws];rfl):p:=h
theorem _root_.OJ {p:Prop} (h:p:=by first|assumption|(simp only [↓R1,RR,seval,RX,cOp];done)):p:=h
theorem _root_.OO {p:Prop} (h:p:=by first|(simp [aw,rvS];done)|(simp only [aw,rvS,↓R1,RR,seval,RX,cOp];try simp)):p:=h
set_option maxHeartbeats 2000000 in
theorem x88 {σ σ0:St} {β:Nat} {r:Rw} {w0 w1 w2:Wd} (h:Cu σ0 σ β r 1) (hws:r.ws= [w0,w1,w2]):AX Tryz.prog 88 [.ptr β 0] σ (oX TS (ga w1 w2) (fun o=> .agg (cOp o)) (fun _=>σ.ad β (cur r 3)) σ0):=by
 haveI:BoxIs σ β (cur r 1):=⟨h.hb⟩
 have h0:=h.h0
 have hlw:=h.lw
 have hw1:r.ws[1]? =some w1:=OU
 have hw2:r.ws[2]? =some w2:=OU
 (refine aB c88 b88 ?_;simp only [c88,↓R1,RR,seval,RX,cOp])
 repeat' (first|(with_reducible rw [ah])|((first|(with_reducible intro β hβ;(try simp only [RB] at hβ);(repeat (obtain ⟨⟨_,_⟩,hβ⟩:=hβ));(try (have hbis:=ag OB hβ;obtain ⟨_,_⟩:=hbis)))|((refine aH (yI (σ0:=σ0) (r:=r) (k:=1) ?_ hw1) (aa _) (fun a1 ho1=>?_) (fun e ho1=>?_);(focus ((repeat' (first|assumption|(refine Cu.to (k:=1) ?_)|(refine Cu.new ?_ OJ)));done))))|((refine aH (CM (σ0:=σ0) (r:=r) (k:=2) ?_ hw2) (aa _) (fun a2 ho2=>?_) (fun e ho2=>?_);(focus ((repeat' (first|assumption|(refine Cu.to (k:=1) ?_)|(refine Cu.new ?_ OJ)));done)))))<;>(try simp only [↓R1,RR,seval,RX,cOp])))
 all_goals first|(refine ax ?_ (St.an _);focus (simp only [ga,eb,ho1];done))|(refine ax ?_ (St.an _);focus (simp only [ga,eb,ho1,ho2];done))|(refine bF ((by simp only [ga,eb,ho1,ho2];rfl)) ?_ ?_ OO;(focus (simp only [ar,↓R1,RR,seval,RX,cOp];exact ae _));exact ba)
set_option maxHeartbeats 2000000 in
theorem x89 {σ σ0:St} {β:Nat} {r:Rw} {w0 w1 w2:Wd} (h:Cu σ0 σ β r 1) (hws:r.ws= [w0,w1,w2]):AX Tryz.prog 89 [.ptr β 0] σ (oX TS (nf w1 w2) (fun o=> .agg (cOp o)) (fun _=>σ.ad β (cur r 3)) σ0):=by
 haveI:BoxIs σ β (cur r 1):=⟨h.hb⟩
 have h0:=h.h0
 have hlw:=h.lw
 have hw1:r.ws[1]? =some w1:=OU
 have hw2:r.ws[2]? =some w2:=OU
 (refine aB c89 b89 ?_;simp only [c89,↓R1,RR,seval,RX,cOp])
 repeat' (first|(with_reducible rw [ah])|((first|(with_reducible intro β hβ;(try simp only [RB] at hβ);(repeat (obtain ⟨⟨_,_⟩,hβ⟩:=hβ));(try (have hbis:=ag OB hβ;obtain ⟨_,_⟩:=hbis)))|((refine aH (yI (σ0:=σ0) (r:=r) (k:=1) ?_ hw1) (aa _) (fun a1 ho1=>?_) (fun e ho1=>?_);(focus ((repeat' (first|assumption|(refine Cu.to (k:=1) ?_)|(refine Cu.new ?_ OJ)));done))))|((refine aH (Ln (σ0:=σ0) (r:=r) (k:=2) ?_ hw2) (aa _) (fun a2 ho2=>?_) (fun e ho2=>?_);(focus ((repeat' (first|assumption|(refine Cu.to (k:=1) ?_)|(refine Cu.new ?_ OJ)));done)))))<;>(try simp only [↓R1,RR,seval,RX,cOp])))
 all_goals first|(refine ax ?_ (St.an _);focus (simp only [nf,eb,ho1];done))|(refine ax ?_ (St.an _);focus (simp only [nf,eb,ho1,ho2];done))|(refine bF ((by simp only [nf,eb,ho1,ho2];rfl)) ?_ ?_ OO;(focus (simp only [ar,↓R1,RR,seval,RX,cOp];exact ae _));exact ba)
set_option maxHeartbeats 2000000 in
theorem x90 {σ σ0:St} {β:Nat} {r:Rw} {w0 w1 w2:Wd} (h:Cu σ0 σ β r 1) (hws:r.ws= [w0,w1,w2]):AX Tryz.prog 90 [.ptr β 0] σ (oX TS (sw w1 w2) (fun o=> .agg (cOp o)) (fun _=>σ.ad β (cur r 3)) σ0):=by
 haveI:BoxIs σ β (cur r 1):=⟨h.hb⟩
 have h0:=h.h0
 have hlw:=h.lw
 have hw1:r.ws[1]? =some w1:=OU
 have hw2:r.ws[2]? =some w2:=OU
 (refine aB c90 b90 ?_;simp only [c90,↓R1,RR,seval,RX,cOp])
 repeat' (first|(with_reducible rw [ah])|((first|(with_reducible intro β hβ;(try simp only [RB] at hβ);(repeat (obtain ⟨⟨_,_⟩,hβ⟩:=hβ));(try (have hbis:=ag OB hβ;obtain ⟨_,_⟩:=hbis)))|((refine aH (yI (σ0:=σ0) (r:=r) (k:=1) ?_ hw1) (aa _) (fun a1 ho1=>?_) (fun e ho1=>?_);(focus ((repeat' (first|assumption|(refine Cu.to (k:=1) ?_)|(refine Cu.new ?_ OJ)));done))))|((refine aH (na (σ0:=σ0) (r:=r) (k:=2) ?_ hw2) (aa _) (fun a2 ho2=>?_) (fun e ho2=>?_);(focus ((repeat' (first|assumption|(refine Cu.to (k:=1) ?_)|(refine Cu.new ?_ OJ)));done)))))<;>(try simp only [↓R1,RR,seval,RX,cOp])))
 all_goals first|(refine ax ?_ (St.an _);focus (simp only [sw,eb,ho1];done))|(refine ax ?_ (St.an _);focus (simp only [sw,eb,ho1,ho2];done))|(refine bF ((by simp only [sw,eb,ho1,ho2];rfl)) ?_ ?_ OO;(focus (simp only [ar,↓R1,RR,seval,RX,cOp];exact ae _));exact ba)
set_option maxHeartbeats 2000000 in
theorem x92 {σ σ0:St} {β:Nat} {r:Rw} {w0 w1:Wd} (h:Cu σ0 σ β r 1) (hws:r.ws= [w0,w1]):AX Tryz.prog 92 [.ptr β 0] σ (oX TS (qa w1) (fun o=> .agg (cOp o)) (fun _=>σ.ad β (cur r 2)) σ0):=by
 haveI:BoxIs σ β (cur r 1):=⟨h.hb⟩
 have h0:=h.h0
 have hlw:=h.lw
 have hw1:r.ws[1]? =some w1:=OU
 (refine aB c92 b92 ?_;simp only [c92,↓R1,RR,seval,RX,cOp])
 repeat' (first|(with_reducible rw [ah])|((first|(with_reducible intro β hβ;(try simp only [RB] at hβ);(repeat (obtain ⟨⟨_,_⟩,hβ⟩:=hβ));(try (have hbis:=ag OB hβ;obtain ⟨_,_⟩:=hbis)))|((refine aH (Ln (σ0:=σ0) (r:=r) (k:=1) ?_ hw1) (aa _) (fun a1 ho1=>?_) (fun e ho1=>?_);(focus ((repeat' (first|assumption|(refine Cu.to (k:=1) ?_)|(refine Cu.new ?_ OJ)));done)))))<;>(try simp only [↓R1,RR,seval,RX,cOp])))
 all_goals first|(refine ax ?_ (St.an _);focus (simp only [qa,eb,ho1];done))|(refine bF ((by simp only [qa,eb,ho1];rfl)) ?_ ?_ OO;(focus (simp only [ar,↓R1,RR,seval,RX,cOp];exact ae _));exact ba)
set_option maxHeartbeats 2000000 in
theorem x94 {σ σ0:St} {β:Nat} {r:Rw} {w0 w1 w2:Wd} (h:Cu σ0 σ β r 1) (hws:r.ws= [w0,w1,w2]):AX Tryz.prog 94 [.ptr β 0] σ (oX TS (sx w1 w2) (fun o=> .agg (cOp o)) (fun _=>σ.ad β (cur r 3)) σ0):=by
 haveI:BoxIs σ β (cur r 1):=⟨h.hb⟩
 have h0:=h.h0
 have hlw:=h.lw
 have hw1:r.ws[1]? =some w1:=OU
 have hw2:r.ws[2]? =some w2:=OU
 (refine aB c94 b94 ?_;simp only [c94,↓R1,RR,seval,RX,cOp])
 repeat' (first|(with_reducible rw [ah])|((first|(with_reducible intro β hβ;(try simp only [RB] at hβ);(repeat (obtain ⟨⟨_,_⟩,hβ⟩:=hβ));(try (have hbis:=ag OB hβ;obtain ⟨_,_⟩:=hbis)))|((refine aH (yI (σ0:=σ0) (r:=r) (k:=1) ?_ hw1) (aa _) (fun a1 ho1=>?_) (fun e ho1=>?_);(focus ((repeat' (first|assumption|(refine Cu.to (k:=1) ?_)|(refine Cu.new ?_ OJ)));done))))|((refine aH (na (σ0:=σ0) (r:=r) (k:=2) ?_ hw2) (aa _) (fun a2 ho2=>?_) (fun e ho2=>?_);(focus ((repeat' (first|assumption|(refine Cu.to (k:=1) ?_)|(refine Cu.new ?_ OJ)));done)))))<;>(try simp only [↓R1,RR,seval,RX,cOp])))
 all_goals first|(refine ax ?_ (St.an _);focus (simp only [sx,eb,ho1];done))|(refine ax ?_ (St.an _);focus (simp only [sx,eb,ho1,ho2];done))|(refine bF ((by simp only [sx,eb,ho1,ho2];rfl)) ?_ ?_ OO;(focus (simp only [ar,↓R1,RR,seval,RX,cOp];exact ae _));exact ba)
set_option maxHeartbeats 2000000 in
theorem x96 {σ σ0:St} {β:Nat} {r:Rw} {w0 w1 w2 w3:Wd} (h:Cu σ0 σ β r 1) (hws:r.ws= [w0,w1,w2,w3]):AX Tryz.prog 96 [.ptr β 0] σ (oX TS (kF w1 w2 w3) (fun o=> .agg (cOp o)) (fun _=>σ.ad β (cur r 4)) σ0):=by
 haveI:BoxIs σ β (cur r 1):=⟨h.hb⟩
 have h0:=h.h0
 have hlw:=h.lw
 have hw1:r.ws[1]? =some w1:=OU
 have hw2:r.ws[2]? =some w2:=OU
 have hw3:r.ws[3]? =some w3:=OU
 (refine aB c96 b96 ?_;simp only [c96,↓R1,RR,seval,RX,cOp])
 repeat' (first|(with_reducible rw [ah])|((first|(with_reducible intro β hβ;(try simp only [RB] at hβ);(repeat (obtain ⟨⟨_,_⟩,hβ⟩:=hβ));(try (have hbis:=ag OB hβ;obtain ⟨_,_⟩:=hbis)))|((refine aH (yI (σ0:=σ0) (r:=r) (k:=1) ?_ hw1) (aa _) (fun a1 ho1=>?_) (fun e ho1=>?_);(focus ((repeat' (first|assumption|(refine Cu.to (k:=1) ?_)|(refine Cu.new ?_ OJ)));done))))|((refine aH (na (σ0:=σ0) (r:=r) (k:=2) ?_ hw2) (aa _) (fun a2 ho2=>?_) (fun e ho2=>?_);(focus ((repeat' (first|assumption|(refine Cu.to (k:=1) ?_)|(refine Cu.new ?_ OJ)));done))))|((refine aH (na (σ0:=σ0) (r:=r) (k:=3) ?_ hw3) (aa _) (fun a3 ho3=>?_) (fun e ho3=>?_);(focus ((repeat' (first|assumption|(refine Cu.to (k:=1) ?_)|(refine Cu.new ?_ OJ)));done)))))<;>(try simp only [↓R1,RR,seval,RX,cOp])))
 all_goals first|(refine ax ?_ (St.an _);focus (simp only [kF,eb,ho1];done))|(refine ax ?_ (St.an _);focus (simp only [kF,eb,ho1,ho2];done))|(refine ax ?_ (St.an _);focus (simp only [kF,eb,ho1,ho2,ho3];done))|(refine bF ((by simp only [kF,eb,ho1,ho2,ho3];rfl)) ?_ ?_ OO;(focus (simp only [ar,↓R1,RR,seval,RX,cOp];exact ae _));exact ba)
set_option maxHeartbeats 2000000 in
theorem x95 {σ σ0:St} {β:Nat} {r:Rw} {w0 w1 w2 w3:Wd} (h:Cu σ0 σ β r 1) (hws:r.ws= [w0,w1,w2,w3]) (hσ:bw gl3 σ):AX Tryz.prog 95 [.ptr β 0] σ (oX TS (dX w1 w2 w3) (fun o=> .agg (cOp o)) (fun _=>σ.ad β (cur r 4)) σ0):=by
 haveI:BoxIs σ β (cur r 1):=⟨h.hb⟩
 have h0:=h.h0
 have hlw:=h.lw
 have hw1:r.ws[1]? =some w1:=OU
 have hw2:r.ws[2]? =some w2:=OU
 have hw3:r.ws[3]? =some w3:=OU
 (refine aB c95 b95 ?_;simp only [c95,↓R1,RR,seval,RX,cOp])
 repeat' (first|(with_reducible rw [ah])|((first|(with_reducible intro β hβ;(try simp only [RB] at hβ);(repeat (obtain ⟨⟨_,_⟩,hβ⟩:=hβ));(try (have hbis:=ag OB hβ;obtain ⟨_,_⟩:=hbis)))|((refine aH (yI (σ0:=σ0) (r:=r) (k:=1) ?_ hw1) (aa _) (fun a1 ho1=>?_) (fun e ho1=>?_);(focus ((repeat' (first|assumption|(refine Cu.to (k:=1) ?_)|(refine Cu.new ?_ OJ)));done))))|((refine aH (na (σ0:=σ0) (r:=r) (k:=2) ?_ hw2) (aa _) (fun a2 ho2=>?_) (fun e ho2=>?_);(focus ((repeat' (first|assumption|(refine Cu.to (k:=1) ?_)|(refine Cu.new ?_ OJ)));done))))|((refine aH (Oa (σ0:=σ0) (r:=r) (k:=3) ?_ hw3 (by intro k cs hk;exact hσ k cs hk)) (aa _) (fun a3 ho3=>?_) (fun e ho3=>?_);(focus ((repeat' (first|assumption|(refine Cu.to (k:=1) ?_)|(refine Cu.new ?_ OJ)));done)))))<;>(try simp only [↓R1,RR,seval,RX,cOp])))
 all_goals first|(refine ax ?_ (St.an _);focus (simp only [dX,eb,ho1];done))|(refine ax ?_ (St.an _);focus (simp only [dX,eb,ho1,ho2];done))|(refine ax ?_ (St.an _);focus (simp only [dX,eb,ho1,ho2,ho3];done))|(refine bF ((by simp only [dX,eb,ho1,ho2,ho3];rfl)) ?_ ?_ OO;(focus (simp only [ar,↓R1,RR,seval,RX,cOp];exact ae _));exact ba)
theorem x93 {σ σ0:St} {β:Nat} {r:Rw}:AX Tryz.prog 93 [.ptr β 0] σ (oX TS CS (fun o=> .agg (cOp o)) (fun _=>σ) σ0):=by
 (refine aB c93 b93 ?_;simp only [c93,↓R1,RR,seval,RX,cOp])
 repeat' (first|(with_reducible rw [ah])|((with_reducible intro β hβ;(try simp only [RB] at hβ);(repeat (obtain ⟨⟨_,_⟩,hβ⟩:=hβ));(try (have hbis:=ag OB hβ;obtain ⟨_,_⟩:=hbis)))<;>(try simp only [↓R1,RR,seval,RX,cOp])))
 refine bF rfl ?_ ?_ OO
 ·simp only [ar,↓R1,RR,seval,RX,cOp]
  exact ae _
 ·exact ba
theorem oQ {w:Wd} {a:Int} (h:fN w= .ok a):∃ x:BitVec 64,a=(x.toNat:Int):=by
 unfold fN e8 at h
 split at h
 ·cases h
 ·split at h
  ·cases h;exact ⟨_,rfl⟩
  ·cases h
theorem _root_.O6 {p:Prop} (h:p:=by first|assumption|(simp only [↓R1,RR,seval,RX,cOp,BitVec.ofInt_natCast,BitVec.ofNat_toNat,BitVec.setWidth_eq];done)):p:=h
set_option maxHeartbeats 2000000 in
theorem x91 {σ σ0:St} {β:Nat} {r:Rw} {w0 w1 w2 w3:Wd} (h:Cu σ0 σ β r 1) (hws:r.ws= [w0,w1,w2,w3]):AX Tryz.prog 91 [.ptr β 0] σ (oX TS (iE w1 w2 w3) (fun o=> .agg (cOp o)) (fun _=>σ.ad β (cur r 4)) σ0):=by
 haveI:BoxIs σ β (cur r 1):=⟨h.hb⟩
 have h0:=h.h0
 have hlw:=h.lw
 have hw1:r.ws[1]? =some w1:=OU
 have hw2:r.ws[2]? =some w2:=OU
 have hw3:r.ws[3]? =some w3:=OU
 (refine aB c91 b91 ?_;simp only [c91,↓R1,RR,seval,RX,cOp,BitVec.ofInt_natCast,BitVec.ofNat_toNat,BitVec.setWidth_eq])
 repeat' (first|(with_reducible rw [ah])|((first|(with_reducible intro β hβ;(try simp only [RB] at hβ);(repeat (obtain ⟨⟨_,_⟩,hβ⟩:=hβ));(try (have hbis:=ag OB hβ;obtain ⟨_,_⟩:=hbis)))|((refine aH (Lm (σ0:=σ0) (r:=r) (k:=1) ?_ hw1) (aa _) (fun a1 ho1=>?_) (fun e ho1=>?_);(focus ((repeat' (first|assumption|(refine Cu.to (k:=1) ?_)|(refine Cu.new ?_ O6)));done))))|((refine aH (CM (σ0:=σ0) (r:=r) (k:=2) ?_ hw2) (aa _) (fun a2 ho2=>?_) (fun e ho2=>?_);(focus ((repeat' (first|assumption|(refine Cu.to (k:=1) ?_)|(refine Cu.new ?_ O6)));done))))|((refine aH (na (σ0:=σ0) (r:=r) (k:=3) ?_ hw3) (aa _) (fun a3 ho3=>?_) (fun e ho3=>?_);(focus ((repeat' (first|assumption|(refine Cu.to (k:=1) ?_)|(refine Cu.new ?_ O6)));done)))))<;>(try simp only [↓R1,RR,seval,RX,cOp,BitVec.ofInt_natCast,BitVec.ofNat_toNat,BitVec.setWidth_eq])))
 all_goals first|(refine ax ?_ (St.an _);focus (simp only [iE,eb,ho1];done))|(refine ax ?_ (St.an _);focus (simp only [iE,eb,ho1,ho2];done))|(refine ax ?_ (St.an _);focus (simp only [iE,eb,ho1,ho2,ho3];done))|skip
 obtain ⟨x,rfl⟩:=oQ ho2
 repeat' ((refine Pt (Nz x a1 a3) ?_)<;>(try simp only [↓R1,RR,seval,RX,cOp,BitVec.ofInt_natCast,BitVec.ofNat_toNat,BitVec.setWidth_eq]))
 refine bF ((by simp only [iE,eb,ho1,ho2,ho3];rfl)) ?_ ?_ (by first|(simp [aw,rvS];done)|(simp only [aw,rvS,↓R1,RR,seval,RX,cOp,BitVec.ofInt_natCast,BitVec.ofNat_toNat,BitVec.setWidth_eq];try simp))
 ·simp only [ar,↓R1,RR,seval,RX,cOp,BitVec.ofInt_natCast,BitVec.ofNat_toNat,BitVec.setWidth_eq]
  exact ae _
 ·exact ba
def uU:List UInt8:= [114,101,103,105,115,116,101,114]
def FQ:List UInt8:= [113,117,101,114,121]
def Js:List UInt8:= [100,114,111,112]
def CT:List UInt8:= [105,110,103,101,115,116]
def FT:List UInt8:= [98,121,116,101,115]
def Jt:List UInt8:= [116,105,99,107]
def Ju:List UInt8:= [112,111,108,108]
def qb:List UInt8:= [100,101,99,108,97,115,115,105,102,121]
def FU:List UInt8:= [97,117,100,105,116]
theorem ng {σ σ0:St} {r:Rw} {n:Nat} (hlw:St.lw σ0 σ) (hn:r.ws.length≠n):AX Tryz.prog 97 [.agg (cRw r), .int .i64 (n:Nat)] σ (oX TS (.error (3,(r.a:Int)):Except Ft Unit) (fun _=> .tup []) (fun _=>σ) σ0):=by
 have q1:((r.ws.length:Int) != (n:Int))=true:=by rw [bne_iff_ne];omega
 (refine aB c97 b97 ?_;simp only [c97,↓R1,RR,seval,RX,cRw,q1])
 repeat' ((first|(with_reducible intro β hβ;(try simp only [RB] at hβ);(repeat (obtain ⟨⟨_,_⟩,hβ⟩:=hβ));(try (have hbis:=ag OB hβ;obtain ⟨_,_⟩:=hbis)))|((refine bh (σ0:=σ0) OK Pn ?_)))<;>(try simp only [↓R1,RR,seval,RX,cRw,q1]))
 exact ax rfl (St.an _)
theorem jV {σ:St} {β γ:Nat} {c x:List AV} (h:σ.box γ=none):St.le (σ.ad β c) ((σ.ad γ x).ad β c):=by
 refine ⟨fun δ d hd=>?_,fun _ _ h=>h,fun _ _ h=>h,fun _ _ h=>h,fun _ _ h=>h⟩
 simp only [St.ad,upd] at hd ⊢
 split
 ·rename_i e;rw [if_pos e] at hd;exact hd
 ·rename_i e
  rw [if_neg e] at hd
  split
  ·rename_i e2;subst e2;rw [h] at hd;cases hd
  ·exact hd
theorem nh {σ:St} {r:Rw} {n:Nat} (hn:r.ws.length=n):AX Tryz.prog 97 [.agg (cRw r), .int .i64 (n:Nat)] σ (fun b v s=>b=false∧∃ κ,σ.box κ=none∧v= .ptr κ 0∧s=σ.ad κ (cur r 1)):=by
 have q1:((r.ws.length:Int) != (n:Int))=false:=by subst hn;simp
 refine EZ c97 b97 ?_
 simp only [c97,↓R1,RR,seval,RX,cRw,q1]
 repeat' ((with_reducible intro β hβ;(try simp only [RB] at hβ);(repeat (obtain ⟨⟨_,_⟩,hβ⟩:=hβ));(try (have hbis:=ag OB hβ;obtain ⟨_,_⟩:=hbis)))<;>(try simp only [↓R1,RR,seval,RX,cRw,q1]))
 rename_i γ hγ _ _
 exact aA (e:= .ret) (r:= .ptr β 0) (σ':=σ.ad β (cur r 1)) (.inl rfl) OT (af (by (simp only [ar,↓R1,RR,seval,RX,cRw,q1]))) (jV hγ) ⟨rfl,β,hβ,rfl,rfl⟩
theorem iY {a b c:St} (h:St.lw a b) (k:St.le b c):St.lw a c:=by
 refine ⟨fun β x hx=>?_,fun τ x hx=>k.2.1 _ _ (h.2.1 _ _ hx),fun l x hx=>k.2.2.1 _ _ (h.2.2.1 _ _ hx),fun l x hx=>k.2.2.2.1 _ _ (h.2.2.2.1 _ _ hx),fun β T hx=>k.2.2.2.2 _ _ (h.2.2.2.2 _ _ hx)⟩
 obtain ⟨x',h1,h2⟩:=h.1 β x hx
 exact ⟨x',k.1 _ _ h1,h2⟩
def names9:List (List UInt8):= [uU,FQ,Js,CT,FT,Jt,Ju,qb,FU]
def ez:List Nat:= [3,3,3,4,2,1,3,4,4]
def lh:List Nat:= [88,89,90,91,92,93,94,95,96]
def opW (k:Nat) (ws:List Wd):Except Ft OpI:=match k,ws with
 | 0,[_,w1,w2]=>ga w1 w2
 | 1,[_,w1,w2]=>nf w1 w2
 | 2,[_,w1,w2]=>sw w1 w2
 | 3,[_,w1,w2,w3]=>iE w1 w2 w3
 | 4,[_,w1]=>qa w1
 | 5,[_]=>CS
 | 6,[_,w1,w2]=>sx w1 w2
 | 7,[_,w1,w2,w3]=>dX w1 w2 w3
 | 8,[_,w1,w2,w3]=>kF w1 w2 w3
 | _,_=>CS
theorem Jv {α:Type} {l:List α} (h:l.length=1):∃ a0,l= [a0]:=by
 match l,h with
 | [a0],_=>exact ⟨a0,rfl⟩
theorem FV {α:Type} {l:List α} (h:l.length=2):∃ a0 a1,l= [a0,a1]:=by
 match l,h with
 | [a0,a1],_=>exact ⟨a0,a1,rfl⟩
theorem uV {α:Type} {l:List α} (h:l.length=3):∃ a0 a1 a2,l= [a0,a1,a2]:=by
 match l,h with
 | [a0,a1,a2],_=>exact ⟨a0,a1,a2,rfl⟩
theorem FW {α:Type} {l:List α} (h:l.length=4):∃ a0 a1 a2 a3,l= [a0,a1,a2,a3]:=by
 match l,h with
 | [a0,a1,a2,a3],_=>exact ⟨a0,a1,a2,a3,rfl⟩
theorem Jw {σ σ0:St} {β k:Nat} {r:Rw} (h:Cu σ0 σ β r 1) (hσ:bw gl3 σ) (hk:k<9) (hn:r.ws.length=ez[k]?.getD 0):AX Tryz.prog (lh[k]?.getD 0) [.ptr β 0] σ (oX TS (opW k r.ws) (fun o=> .agg (cOp o)) (fun _=>σ.ad β (cur r (ez[k]?.getD 0))) σ0):=by
  have hc:k=0∨k=1∨k=2∨k=3∨k=4∨k=5∨k=6∨k=7∨k=8:=Oz
  rcases hc with rfl|rfl|rfl|rfl|rfl|rfl|rfl|rfl|rfl<;>simp only [ez,List.getElem?_cons_zero,List.getElem?_cons_succ,Option.getD_some] at hn
  · obtain ⟨w0,w1,w2,hws⟩:=uV hn
    rw [hws];exact x88 h hws
  · obtain ⟨w0,w1,w2,hws⟩:=uV hn
    rw [hws];exact x89 h hws
  · obtain ⟨w0,w1,w2,hws⟩:=uV hn
    rw [hws];exact x90 h hws
  · obtain ⟨w0,w1,w2,w3,hws⟩:=FW hn
    rw [hws];exact x91 h hws
  · obtain ⟨w0,w1,hws⟩:=FV hn
    rw [hws];exact x92 h hws
  · obtain ⟨w0,hws⟩:=Jv hn
    rw [hws]
    refine (x93 (σ:=σ) (σ0:=σ0) (β:=β) (r:=r)).wkd fun b v s hb=>?_
    cases b with
    | false =>
      obtain ⟨a,h1,h2,h3⟩:=hb
      refine ⟨v,σ.ad β (cur r 1),ae _,?_,a,h1,h2,rfl⟩
      rw [h3]
      refine ⟨fun γ d hd=>?_,fun _ _ h=>h,fun _ _ h=>h,fun _ _ h=>h,fun _ _ h=>h⟩
      simp only [St.ad,upd] at hd
      split at hd
      · rename_i e;subst e;cases hd;exact ⟨_,h.hb,aa _⟩
      · exact ⟨_,hd,aa _⟩
    | true=>exact ⟨v,s,ae _,St.an _,hb⟩
  · obtain ⟨w0,w1,w2,hws⟩:=uV hn
    rw [hws];exact x94 h hws
  · obtain ⟨w0,w1,w2,w3,hws⟩:=FW hn
    rw [hws];exact x95 h hws hσ
  · obtain ⟨w0,w1,w2,w3,hws⟩:=FW hn
    rw [hws];exact x96 h hws
theorem gG {a b:St} {β:Nat} {c:List AV} (h:St.le a b) (hb:a.box β=some c):b.box β=some c:=h.1 _ _ hb
theorem le_none {a b:St} {β:Nat} (h:St.le a b) (hb:b.box β=none):a.box β=none:=by
 cases hq:a.box β with
 | none=>rfl
 | some c=>rw [h.1 _ _ hq] at hb;cases hb
theorem dh {fr:Fr} {σ:St} {i:CI} {K:Fr→St→Prop} {R:AV→St→Prop} (h:cA Tryz.prog [i] fr σ K):fT Tryz.prog (.o i) fr σ K R:=h
def V7 (δ n:Nat) (f:Nat) (r:Rw) (σb:St) (i:Nat) (v:AV) (s:St):Prop:=match i with
 | 0=>v= .ptr δ 2
 | 1=>v= .fn f []
 | 2=>v= .agg (cRw r)
 | 3=>v= .ptr δ 1
 | 4=>v= .int .i64 (n:Nat)
 | 5=>∃ κ,v= .ptr κ 0∧s.box κ=some (cur r 1)∧σb.box κ=none∧r.ws.length=n
 | _=>True
def z8:List AV:= [.int .i64 0, .int .i64 0, .int .u64 0, .str [], .int .i64 0, .int .i64 0, .int .u64 0, .int .u64 0]
set_option maxHeartbeats 4000000 in
theorem FX {σ0 σ1 σb:St} {r:Rw} {γ ρ δ k:Nat} {nm:List UInt8} {fr:Fr} {Q:Exit→Fr→St→Prop} (hσ:bw gl3 σb) (hlw:St.lw σ0 σb) (hle:St.le σ1 σb) (hk:k<9) (hn:r.ws.length≤20000) (ht:∀ w∈r.ws,w.t.length≤1000000)
  (hγ:σb.box γ=some (cRw r)) (hδ:σb.box δ=some [.str nm, .int .i64 ((ez[k]?.getD 0:Nat):Int), .fn (lh[k]?.getD 0) []]) (hρ:σb.box ρ=some z8) (hρ1:σ1.box ρ=none)
  (h1:slot 1 fr= .ptr γ 0) (h2:slot 2 fr= .ptr ρ 0) (h5:slot 5 fr= .ptr δ 0)
  (hF:∀ {σ σ0:St} {β:Nat},Cu σ0 σ β r 1→bw gl3 σ→r.ws.length=ez[k]?.getD 0→AX Tryz.prog (lh[k]?.getD 0) [.ptr β 0] σ (oX TS (opW k r.ws) (fun o=> .agg (cOp o)) (fun _=>σ.ad β (cur r (ez[k]?.getD 0))) σ0))
  (hno:r.ws.length≠ez[k]?.getD 0→Q (.panic []) [(0,iT TS (3,(r.a:Int)))] σ0)
  (her:r.ws.length=ez[k]?.getD 0→∀ e,opW k r.ws= .error e→Q (.panic []) [(0,iT TS e)] σ0)
  (hok:r.ws.length=ez[k]?.getD 0→∀ o,opW k r.ws= .ok o→∀ f s,St.lw σ1 s→slot 2 f= .ptr ρ 0→s.box ρ=some (cOp o)→Q .normal f s) :
  aX Tryz.prog (.invX [.o ⟨some 26, .fldA 2 (.t 5),none⟩, .o ⟨some 27, .ld (none) (.t 26),none⟩, .o ⟨some 28, .ld (some 2) (.t 1),none⟩, .o ⟨some 29, .fldA 1 (.t 5),none⟩, .o ⟨some 30, .ld (none) (.t 29),none⟩, .c (some 31) 97 [(.t 28),(.t 30)], .v (some 32) (.t 27) [(.t 31)], .o ⟨none, .st 8 (.t 2) (.t 32),none⟩] [[],[0],[],[],[3],[2,4],[1,5,5],[6,6,0,1,2,3,4,5,6]]) fr σb Q:=by
 refine kv [26,27,28,29,30,31] 6 (V7 δ (ez[k]?.getD 0) (lh[k]?.getD 0) r σb) OK ?_ ?_ ?_
 ·intro i v s s' h hs
  unfold V7 at h ⊢
  split at h
  all_goals first|exact h|skip
  obtain ⟨κ,q1,q2,q3⟩:=h
  exact ⟨κ,q1,hs.1 _ _ q2,q3⟩
 ·intro j x d hj hx hd f s hs hfr hv
  have h1':slot 1 f= .ptr γ 0:=by rw [hfr 1 OK];exact h1
  have h5':slot 5 f= .ptr δ 0:=by rw [hfr 5 OK];exact h5
  have hc:j=0∨j=1∨j=2∨j=3∨j=4∨j=5:=Oz
  haveI b1:BoxIs s γ [.int .i64 (r.a:Nat), .sl false r.ws.length (r.ws.flatMap cWd)]:=⟨gG hs hγ⟩
  haveI b2:BoxIs s δ [.str nm, .int .i64 ((ez[k]?.getD 0:Nat):Int), .fn (lh[k]?.getD 0) []]:=⟨gG hs hδ⟩
  have h1:=h1'
  have h5:=h5'
  have e0:True:=trivial
  have e1:True:=trivial
  have e2:True:=trivial
  have e3:True:=trivial
  have e4:True:=trivial
  rcases hc with rfl|rfl|rfl|rfl|rfl|rfl
  ·cases hx;cases hd
   refine dh ?_
   simp only [↓R1,RR,seval,h1,h2,h5,e0,e1,e2,e3,e4,RX]
   exact ⟨_,rfl,St.le_refl _,rfl⟩
  ·cases hx;cases hd
   have e0:slot 26 f= .ptr δ 2:=hv 0 26 OF rfl
   refine dh ?_
   simp only [↓R1,RR,seval,h1,h2,h5,e0,e1,e2,e3,e4,RX]
   exact ⟨_,rfl,St.le_refl _,rfl⟩
  ·cases hx;cases hd
   refine dh ?_
   simp only [↓R1,RR,seval,h1,h2,h5,e0,e1,e2,e3,e4,RX]
   exact ⟨_,rfl,St.le_refl _,rfl⟩
  ·cases hx;cases hd
   refine dh ?_
   simp only [↓R1,RR,seval,h1,h2,h5,e0,e1,e2,e3,e4,RX]
   exact ⟨_,rfl,St.le_refl _,rfl⟩
  ·cases hx;cases hd
   have e3:slot 29 f= .ptr δ 1:=hv 3 29 OF rfl
   refine dh ?_
   simp only [↓R1,RR,seval,h1,h2,h5,e0,e1,e2,e3,e4,RX]
   exact ⟨_,rfl,St.le_refl _,rfl⟩
  ·cases hx;cases hd
   have e2:slot 28 f= .agg (cRw r):=hv 2 28 OF rfl
   have e4:slot 30 f= .int .i64 ((ez[k]?.getD 0:Nat):Int):=hv 4 30 OF rfl
   simp only [fT,List.map_cons,List.map_nil,ev,e2,e4]
   by_cases hln:r.ws.length=ez[k]?.getD 0
   ·refine (nh hln).mono fun b v s' hb=>?_
    obtain ⟨rfl,κ,q1,rfl,rfl⟩:=hb
    exact ⟨_,rfl,St.aR (St.le_refl _) q1,κ,rfl,St.bo _ _ _,le_none hs q1,hln⟩
   ·refine (ng (σ0:=σ0) (iY hlw hs) hln).mono fun b v s' hb=>?_
    cases b with
    | false=>obtain ⟨a,q1,_⟩:=hb;cases q1
    | true=>obtain ⟨a,q1,rfl,rfl⟩:=hb;cases q1;exact hno hln
 ·intro f s hs hfr hv
  have h2':slot 2 f= .ptr ρ 0:=by rw [hfr 2 OK];exact h2
  have e1:slot 27 f= .fn (lh[k]?.getD 0) []:=hv 1 27 rfl
  obtain ⟨κ,e5,q2,q3,hln⟩:∃ κ,slot 31 f= .ptr κ 0∧s.box κ=some (cur r 1)∧σb.box κ=none∧r.ws.length=ez[k]?.getD 0:=hv 5 31 rfl
  have hne:ρ≠κ:=fun e=>by rw [e,q3] at hρ;cases hρ
  have hcu:Cu σ0 s κ r 1:=⟨q2,df hlw q3,iY hlw hs,hn,ht⟩
  have hsp:s.box ρ=some z8:=gG hs hρ
  have hσs:bw gl3 s:=fun k cs hk=>hs.2.2.1 _ _ (hσ k cs hk)
  haveI b3:BoxIs s ρ z8:=⟨hsp⟩
  haveI:Apart ρ κ:=⟨hne⟩
  haveI:Apart κ ρ:=⟨Ne.symm hne⟩
  show cm _ [.v (some 32) (.t 27) [(.t 31)], .o ⟨none, .st 8 (.t 2) (.t 32),none⟩] f s Q
  have e0:True:=trivial
  have e2:True:=trivial
  have e3:True:=trivial
  have e4:=e5
  have h1:True:=trivial
  have h5:True:=trivial
  have h2:=h2'
  simp only [↓R1,RR,seval,h1,h2,h5,e0,e1,e2,e3,e4,RX]
  refine aH (hF hcu hσs hln) (aa _) (fun o ho=>?_) (fun e ho=>her hln e ho)
  simp only [z8,↓R1,RR,seval,h1,h2,h5,e0,e1,e2,e3,e4,RX]
  refine ⟨rfl,hok hln o ho _ _ ?_ ?_ (St.bo _ _ _)⟩
  ·exact St.c7 (St.c7 (iY (St.jM hle) hs) (le_none hle q3)) hρ1
  ·simp only [slot];rw [if_neg OK];exact h2
def j7 (r:Rw):Option Nat:=match r.ws with
 | []=>none
 | w0::_=>bif w0.q then none else dG w0.t names9 0
def qc (r:Rw):Except Ft OpI:=match j7 r with
 | none=> .error (11,(r.a:Int))
 | some k=>if r.ws.length=ez[k]?.getD 0 then opW k r.ws else .error (3,(r.a:Int))
theorem Jx {k:Nat} (hk:k<9):(([.str [114,101,103,105,115,116,101,114], .int .i64 3, .fn 88 [], .str [113,117,101,114,121], .int .i64 3, .fn 89 [], .str [100,114,111,112], .int .i64 3, .fn 90 [], .str [105,110,103,101,115,116], .int .i64 4, .fn 91 [], .str [98,121,116,101,115], .int .i64 2, .fn 92 [], .str [116,105,99,107], .int .i64 1, .fn 93 [], .str [112,111,108,108], .int .i64 3, .fn 94 [], .str [100,101,99,108,97,115,115,105,102,121], .int .i64 4, .fn 95 [], .str [97,117,100,105,116], .int .i64 4, .fn 96 []]:List AV).drop (k*3)).take 3= [.str (names9[k]?.getD []), .int .i64 ((ez[k]?.getD 0:Nat):Int), .fn (lh[k]?.getD 0) []]:=by
 have hc:k=0∨k=1∨k=2∨k=3∨k=4∨k=5∨k=6∨k=7∨k=8:=Oz
 rcases hc with rfl|rfl|rfl|rfl|rfl|rfl|rfl|rfl|rfl<;>rfl
theorem sy (q:Bool) (t n:List UInt8):(js q t [n] == 0)=(!q&&(n == t)):=by
 unfold js dG
 cases q<;>simp only [cond_true,cond_false]
 ·cases n == t<;>rfl
 ·rfl
theorem qd (t:List UInt8) (l:List (List UInt8)) {k:Nat} (h:k<l.length) (j:Nat):dG t (l.drop k) j=bif (l[k]?.getD [] == t) then some j else dG t (l.drop (k+1)) (j+1):=by
 rw [lg t l h,List.getElem?_eq_getElem h];rfl
theorem kG (t:List UInt8):∀ (l:List (List UInt8)) (i k:Nat),dG t l i=some k→k<i+l.length
  | [],_,_,h=>by simp [dG] at h
  | n :: l, i, k, h => by
    simp only [dG] at h
    cases hb:n == t with
    | true=>rw [hb] at h;cases h;simp
    | false=>rw [hb] at h;have:=kG t l (i+1) k h;simp;omega
theorem CU {r:Rw} {k:Nat} (h:j7 r=some k):k<9:=by
 unfold j7 at h
 split at h
 ·cases h
 ·rename_i w0 _ _
  cases hq:w0.q with
  | true=>rw [hq] at h;cases h
  | false=>rw [hq] at h;have:=kG _ _ _ _ h;simpa [names9] using this
def jt (r:Rw):Prop:=∀ {σ σ0:St} {β k:Nat},j7 r=some k→Cu σ0 σ β r 1→bw gl3 σ→r.ws.length=ez[k]?.getD 0→AX Tryz.prog (lh[k]?.getD 0) [.ptr β 0] σ (oX TS (opW k r.ws) (fun o=> .agg (cOp o)) (fun _=>σ.ad β (cur r (ez[k]?.getD 0))) σ0)
theorem sA (r:Rw):jt r:=fun hf h hσ hn=>Jw h hσ (CU hf) hn
set_option maxHeartbeats 4000000 in
theorem Gw {σ σ0:St} {r:Rw} (hF:jt r) (hσ:bw gl3 σ) (hlw:St.lw σ0 σ) (hne:r.ws≠ []) (hn:r.ws.length≤20000) (ht:∀ w∈r.ws,w.t.length≤1000000):AX Tryz.prog 43 [.agg (cRw r)] σ (oX TS (qc r) (fun o=> .agg (cOp o)) (fun _=>σ) σ0):=by
  obtain ⟨w0,ws,hws⟩:∃ w0 ws,r.ws=w0::ws:=by
    cases h:r.ws with
    | nil=>exact (hne h).elim
    | cons w0 ws=>exact ⟨w0,ws,rfl⟩
  have hw0:r.ws[0]? =some w0:=OU
  have q1:True:=trivial
  have q2:True:=trivial
  have he:True:=trivial
  have hw:True:=trivial
  (refine aB c43 b43 ?_;simp only [c43,↓R1,RR,seval,RX,cRw,q1,q2,he,hw])
  repeat' (first|(with_reducible rw [ah])|((with_reducible intro β hβ;(try simp only [RB] at hβ);(repeat (obtain ⟨⟨_,_⟩,hβ⟩:=hβ));(try (have hbis:=ag OB hβ;obtain ⟨_,_⟩:=hbis)))<;>(try simp only [↓R1,RR,seval,RX,cRw,q1,q2,he,hw])))
  rename_i γ hγ ρ hρ p1 p2 p3 p4 p5 p6
  refine oz 9 (fun k=> [(1, .ptr γ 0),(2, .ptr ρ 0),(16, .agg [.str [114,101,103,105,115,116,101,114], .int .i64 3, .fn 88 [], .str [113,117,101,114,121], .int .i64 3, .fn 89 [], .str [100,114,111,112], .int .i64 3, .fn 90 [], .str [105,110,103,101,115,116], .int .i64 4, .fn 91 [], .str [98,121,116,101,115], .int .i64 2, .fn 92 [], .str [116,105,99,107], .int .i64 1, .fn 93 [], .str [112,111,108,108], .int .i64 3, .fn 94 [], .str [100,101,99,108,97,115,115,105,102,121], .int .i64 4, .fn 95 [], .str [97,117,100,105,116], .int .i64 4, .fn 96 []]),(17, .int .i64 (k:Nat))]) (fun _=>(σ.ad γ [.int .i64 (r.a:Nat), .sl false r.ws.length (r.ws.flatMap cWd)]).ad ρ [.int .i64 0, .int .i64 0, .int .u64 0, .str [], .int .i64 0, .int .i64 0, .int .u64 0, .int .u64 0])
    (fun k=>j7 r=(bif w0.q then none else dG w0.t (names9.drop k) k)) OP (St.aR (St.le_refl _) (by simp only [↓R1,RR,seval,RX,cRw,q1,q2,he,hw];exact hβ)) (by simp [j7,hws]) (fun k hk hI=>?_)
  have hlen:names9.length=9:=rfl
  by_cases hlt:k<9
  · have q1:decide ((k:Int)<9)=true:=by rw [decide_eq_true_eq];omega
    have he:=Jx hlt
    have hw:IntKind.i64.wrap ((k:Int)+1)=((k+1:Nat):Int):=OD
    rw [qd w0.t names9 Oz] at hI
    have hwh:=p83 r w0 true [names9[k]?.getD []] hw0 OF
    simp only [cRw] at hwh
    have q2:=sy w0.q w0.t (names9[k]?.getD [])
    simp only [q1,↓R1,RR,seval,RX,cRw,q1,q2,he,hw]
    repeat' (first|(with_reducible rw [ah])|(with_reducible refine And.intro ?_ ?_;exact ak)|((first|(with_reducible intro β hβ;(try simp only [RB] at hβ);(repeat (obtain ⟨⟨_,_⟩,hβ⟩:=hβ));(try (have hbis:=ag OB hβ;obtain ⟨_,_⟩:=hbis)))|(refine Pt (hwh) ?_))<;>(try simp only [↓R1,RR,seval,RX,cRw,q1,q2,he,hw])))
    all_goals first|omega|skip
    refine cq (fun hc=>?_) (fun hc=>?_)
    · have hfo:j7 r=some k:=by
        rw [hI]
        simp only [Bool.and_eq_true,Bool.not_eq_true'] at hc
        rw [hc.1,hc.2];rfl
      simp only [↓R1,RR,seval,RX,cRw,q1,q2,he,hw]
      refine FX (σ0:=σ0) (σ1:=σ) (k:=k) (nm:=names9[k]?.getD []) (γ:=γ) (ρ:=ρ) (δ:=β) hσ ?_ ?_ hlt hn ht ?_ ?_ ?_ hρ rfl rfl rfl (fun h hσ hn=>hF hfo h hσ hn) ?_ ?_ ?_
      · exact ba
      · (repeat (first|exact St.le_refl _|(refine St.aR ?_ OB)|(refine St.iB ?_ OB)))
      · simp only [cRw,↓R1,RR,seval,RX,cRw,q1,q2,he,hw]
      · simp only [↓R1,RR,seval,RX,cRw,q1,q2,he,hw]
      · simp only [z8,↓R1,RR,seval,RX,cRw,q1,q2,he,hw]
      · intro hno
        simp only [↓R1,RR,seval,RX,cRw,q1,q2,he,hw]
        exact ax (by simp only [qc,hfo,if_neg hno]) (St.an _)
      · intro hln e he
        simp only [↓R1,RR,seval,RX,cRw,q1,q2,he,hw]
        exact ax (by simp only [qc,hfo,if_pos hln,he]) (St.an _)
      · intro hln o ho f s hs hf hsr
        haveI:BoxIs s ρ (cOp o):=⟨hsr⟩
        simp only [↓R1,RR,seval,RX,cRw,q1,q2,he,hw]
        refine lP (a:=o) OF (by simp only [qc,hfo,if_pos hln,ho]) ?_ ?_ hs
        · simp only [aw,rvS,hf,↓R1,RR,seval,RX,cRw,q1,q2,he,hw];simp [cOp]
        · simp only [ar,hf,↓R1,RR,seval,RX,cRw,q1,q2,he,hw];exact ae _
    · simp only [↓R1,RR,seval,RX,cRw,q1,q2,he,hw]
      repeat' (first|(with_reducible refine And.intro ?_ ?_;exact ak)|(with_reducible apply And.intro))
      · rw [hI]
        cases hq:w0.q with
        | true=>rfl
        | false =>
          rw [hq] at hc
          simp only [Bool.not_false,Bool.true_and] at hc
          rw [hc];rfl
      · simp [aK,slot,ae]
      · refine St.aR (St.le_refl _) ?_
        simp only [↓R1,RR,seval,RX,cRw,q1,q2,he,hw]
        assumption
  · have hke:k=9:=by omega
    subst hke
    have q1:decide (((9:Nat):Int)<9)=false:=OF
    have hfo:j7 r=none:=by
      rw [hI,show names9.drop 9= [] from rfl]
      cases w0.q<;>rfl
    simp only [q1,↓R1,RR,seval,RX,cRw,q1,q2,he,hw]
    repeat' (((refine bh (σ0:=σ0) OK Pn ?_))<;>(try simp only [↓R1,RR,seval,RX,cRw,q1,q2,he,hw]))
    exact ax (by simp only [qc,hfo]) (St.an _)
theorem x43 {σ σ0:St} {r:Rw} (hσ:bw gl3 σ) (hlw:St.lw σ0 σ) (hne:r.ws≠ []) (hn:r.ws.length≤20000) (ht:∀ w∈r.ws,w.t.length≤1000000):AX Tryz.prog 43 [.agg (cRw r)] σ (oX TS (qc r) (fun o=> .agg (cOp o)) (fun _=>σ) σ0) :=
 Gw (sA r) hσ hlw hne hn ht
theorem lW (l:List Rw):(l.flatMap cRw).length=l.length*2:=aD (f:=cRw) (fun _=>rfl) l
theorem CV {l:List Rw} {k:Nat} {w:Rw} (h:l[k]? =some w):((l.flatMap cRw).drop (k*2)).take 2=cRw w:=by
  induction l generalizing k with
  | nil=>simp at h
  | cons x l ih =>
    cases k with
    | zero=>simp at h;subst h;simp [cRw]
    | succ k =>
      simp only [List.getElem?_cons_succ] at h
      have:=ih h
      rw [List.flatMap_cons,show (k+1)*2=(cRw x).length+k*2 by simp [cRw];omega,List.drop_append,List.drop_eq_nil_of_le Oz,List.nil_append,Nat.add_sub_cancel_left]
      exact this
theorem FY (l:List OpI):(l.flatMap cOp).length=l.length*8:=aD (f:=cOp) (fun _=>rfl) l
def qe:List Rw→Nat→Except Ft (List OpI)
 | [],_=> .ok []
 | r::rs,n=>eb (qc r) fun o=>if n=400 then .error (6,(r.a:Int)) else eb (qe rs (n+1)) fun l=> .ok (o::l)
def bX (s:List UInt8):Except Ft (List OpI):=eb (fu s) fun rs=>qe rs 0
def Lp (rs:List Rw):Prop:=rs.length≤20001∧∀ r∈rs,r.ws≠ []∧r.ws.length≤20000∧∀ w∈r.ws,w.t.length≤1000000
theorem ju {s:List UInt8} {rs:List Rw} (h:fu s= .ok rs):Lp rs:=by
 unfold fu at h
 split at h
 ·rename_i rs' hr
  cases h
  obtain ⟨h1,h2,h3⟩:=uP hr
  exact ⟨by omega,fun r hr=>⟨(h3 r hr).1,(h3 r hr).2.1,fun w hw=>by have:=(h3 r hr).2.2 w hw;omega⟩⟩
 ·cases h
theorem yK {x:CX} {fr:Fr} {σ:St} {Q:Exit→Fr→St→Prop} {h:Hold (x,σ,Q)} {α:Type} (t e s n:Nat) (cs:List AV) (F:Nat→α→Fr) (S:Nat→α→St) (I:α→Prop) (μ:α→Nat) (a0:α)
  (hf:fresh (slot t fr)) (hs:slv (slot t fr)=some (n,cs)) (h0:I a0) (hF:∀ τ,σ.tip τ=none→aK (F τ a0) ((t, .tsl τ n cs)::fr)) (hS:∀ τ,σ.tip τ=none→St.le (S τ a0) (σ.ai τ (e,s,n)))
  (hr:∀ τ,σ.tip τ=none→∀ a,I a→aX Tryz.prog x (F τ a) (S τ a) (fM (fun fr' σ'=>∃ b,I b∧aK (F τ b) fr'∧St.le (S τ b) σ'∧μ b<μ a) Q)):oy Tryz.prog x fr σ Q h:=by
 refine mA (α:=α) [(false,t,0,e,s)] ?_
 simp only [cb]
 refine ⟨hf,?_⟩
 rw [hs]
 exact fun τ hτ=>⟨F τ,S τ,I,μ,a0,h0,hF τ hτ,hS τ hτ,hr τ hτ⟩
theorem yL {rs:List Rw} {k:Nat} {r:Rw} (h:rs[k]? =some r) (n:Nat):qe (rs.drop k) n=eb (qc r) fun o=>if n=400 then .error (6,(r.a:Int)) else eb (qe (rs.drop (k+1)) (n+1)) fun l=> .ok (o::l):=by
 obtain ⟨h1,h2⟩:=List.getElem?_eq_some_iff.1 h
 rw [List.drop_eq_getElem_cons h1,h2];rfl
theorem ni {α β γ:Type} (o:Except Ft α) (f:α→Except Ft β) (g:β→Except Ft γ):eb (eb o f) g=eb o fun a=>eb (f a) g:=by cases o<;>rfl
theorem uW {a b:St} {τ:Nat} {x:Nat × Nat × Nat} (h:St.le a b):St.le (a.ai τ x) (b.ai τ x):=by
 refine ⟨h.1,fun υ y hy=>?_,h.2.2⟩
 simp only [St.ai,upd] at hy ⊢
 split
 ·rename_i e;rw [if_pos e] at hy;exact hy
 ·rename_i e;rw [if_neg e] at hy;exact h.2.1 _ _ hy
theorem bG (o:OpI):(cOp o).length=8:=rfl
theorem bJ (o:OpI):(cOp o).take 8=cOp o:=rfl
set_option maxHeartbeats 4000000 in
theorem x41 {σ σ0:St} {ζ l:Nat} {s:List UInt8} (hF:∀ rs,fu s= .ok rs→∀ r∈rs,jt r) (hσ:bw gl3 σ) (hlw:St.lw σ0 σ) (hs:s.length≤1000000) (hz:σ.box ζ=some [.str s]) (hl:σ.box l=some [.nils]) (hne:l≠ζ) :
  AX Tryz.prog 41 [.ptr ζ 0, .ptr l 0] σ (oX TS (bX s) (fun _=> .tup []) (fun os=>σ.ad l [.sl false os.length (os.flatMap cOp)]) σ0):=by
 haveI:BoxIs σ ζ [.str s]:=⟨hz⟩
 haveI:BoxIs σ l [.nils]:=⟨hl⟩
 have q1:True:=trivial
 have he:True:=trivial
 have hw:True:=trivial
 (refine aB c41 b41 ?_;simp only [c41,↓R1,RR,seval,RX,cRw,q1,he,hw,bG,bJ])
 repeat' (((refine aH (x42 (σ0:=σ0) s hs ?_) (aa _) (fun rs ho1=>?_) (fun e ho1=>?_);(focus (exact ba;done))))<;>(try simp only [↓R1,RR,seval,RX,cRw,q1,he,hw,bG,bJ]))
 all_goals first|(refine ax ?_ (St.an _);focus (simp only [bX,eb,ho1];done))|skip
 obtain ⟨hz1,hz2⟩:=ju ho1
 have hp:bX s=qe rs 0:=by simp only [bX,eb,ho1]
 have hml:maxLen=9223372036854775807:=rfl
 refine yK (α:=List OpI) 2 33 8 0 [] (fun τ acc=> [(1, .ptr l 0),(2, .tsl τ acc.length (acc.flatMap cOp)),(7, .sl false rs.length (rs.flatMap cRw)),(8, .int .i64 (rs.length:Nat)),(9, .int .i64 (acc.length:Nat))]) (fun τ acc=>σ.ai τ (33,8,acc.length))
  (fun acc=>acc.length≤rs.length∧acc.length≤400∧qe rs 0=eb (qe (rs.drop acc.length) acc.length) fun m=> .ok (acc++m)) (fun acc=>rs.length - acc.length) [] trivial rfl ⟨by simp,by simp,by simp only [List.length_nil,List.drop_zero,List.nil_append];cases qe rs 0<;>rfl⟩ (fun τ hτ=>by simp [aK,slot,ae]) (fun τ hτ=>St.le_refl _) ?_
 intro τ hτ acc ⟨hk,hk4,hI⟩
 have htt:(σ.ai τ (33,8,acc.length)).tip τ=some (33,8,acc.length):=Pz
 by_cases hlt:acc.length<rs.length
 ·obtain ⟨r,hr⟩:∃ r,rs[acc.length]? =some r:=⟨_,List.getElem?_eq_getElem hlt⟩
  obtain ⟨hr1,hr2,hr3⟩:=hz2 r (List.mem_of_getElem? hr)
  have hFr:jt r:=hF rs ho1 r (List.mem_of_getElem? hr)
  have q1:decide ((acc.length:Int)<(rs.length:Int))=true:=OQ
  have he:=CV hr
  simp only [cRw] at he
  have hw:IntKind.i64.wrap ((acc.length:Int)+1)=((acc.length+1:Nat):Int):=OD
  rw [yL hr,ni] at hI
  have hcl:=lW rs
  have hol:=FY acc
  simp only [q1,↓R1,RR,seval,RX,cRw,q1,he,hw,bG,bJ]
  repeat' (first|(with_reducible rw [ah])|(with_reducible refine And.intro ?_ ?_;exact ak)|((first|(with_reducible intro β hβ;(try simp only [RB] at hβ);(repeat (obtain ⟨⟨_,_⟩,hβ⟩:=hβ));(try (have hbis:=ag OB hβ;obtain ⟨_,_⟩:=hbis)))|((first|(refine bz (.inr rfl) rfl ?_ ?_ ?_ ?_ ?_ ?_;(first|rfl|exact St.aW _ _ _|(simp only [↓R1,RR,seval,RX,cRw,q1,he,hw,bG,bJ]));(first|omega|(exact ao)|(simp only [RZ]));(first|rfl|first|omega|(exact ao)|(simp only [RZ])))|(refine bx rfl ?_ ?_ ?_ ?_ ?_ ?_;(first|rfl|exact St.aW _ _ _|(simp only [↓R1,RR,seval,RX,cRw,q1,he,hw,bG,bJ]));(first|omega|(exact ao)|(simp only [RZ]));(first|rfl|first|omega|(exact ao)|(simp only [RZ])))|(refine appV_own ?_ ?_ ?_ ?_;exact aD OW _)|(refine appD_own ?_ ?_ ?_ ?_ ?_;omega;exact aD OW _)|(refine appV_fresh rfl trivial rfl ?_ ?_ ?_ ?_ ?_;(first|rfl|first|omega|(exact ao)|(simp only [RZ]));(first|rfl|first|omega|(exact ao)|(simp only [RZ])))|(refine appD_fresh rfl trivial rfl ?_ ?_ ?_ ?_ ?_ ?_;omega;(first|rfl|first|omega|(exact ao)|(simp only [RZ]));(first|rfl|first|omega|(exact ao)|(simp only [RZ]))));(unfold maxLen;omega);omega)|((refine aH (Gw (σ0:=σ0) (r:=r) hFr ?_ ?_ hr1 hr2 hr3) (aa _) (fun o ho2=>?_) (fun e ho2=>?_);(focus (intro k cs hk;exact hσ k cs hk));(focus (exact ba;done))))|((refine cq (fun hc=>?_) (fun hc=>?_)))|((refine bh (σ0:=σ0) OK Pn ?_)))<;>(try simp only [↓R1,RR,seval,RX,cRw,q1,he,hw,bG,bJ])))
  all_goals (try (first|omega|(simp;done)))
  ·have hc2:acc.length=400:=by simp only [beq_iff_eq] at hc;omega
   refine ax ?_ (St.an _)
   rw [hp,hI,aE _ ho2,if_pos hc2];rfl
  ·have hc2:acc.length≠400:=by
    intro h
    simp only [beq_eq_false_iff_ne] at hc
    exact hc PC
   refine ⟨acc++ [o],⟨by simp;omega,by simp;omega,?_⟩,?_,?_,by simp;omega⟩
   ·rw [hI,aE _ ho2,if_neg hc2,ni,List.length_append,List.length_singleton]
    simp only [eb,List.append_assoc,List.singleton_append]
   ·simp only [aK,slot,ae,↓R1,RR,seval,RX,cRw,q1,he,hw,bG,bJ]
    simp [ae]
   ·simp only [List.length_append,List.length_singleton]
    exact uW (St.aR (St.aR (St.le_refl _) OB) OB)
  ·refine ax ?_ (St.an _)
   rw [hp,hI,dz _ ho2]
 ·have hke:acc.length=rs.length:=by omega
  have q1:decide ((acc.length:Int)<(rs.length:Int))=false:=Pe
  have ho:bX s= .ok acc:=by
   rw [hp,hI,hke,List.drop_length];simp only [qe,eb,List.append_nil]
  simp only [q1,↓R1,RR,seval,RX,cRw,q1,he,hw,bG,bJ]
  skip
  refine bF ho ?_ ?_
  ·simp only [ar,↓R1,RR,seval,RX,cRw,q1,he,hw,bG,bJ]
   exact ae _
  ·exact ba
theorem jv {α:Type} {fc:Nat} {cap:List AV} {σ:St} {o:Except Ft α} {s1:α→St} {s0:St} {a:α} (hent:∀ xs w,(callFunc fc xs).run Tryz.prog w= .ok (.enter fc xs) w)
  (h:∀ β,σ.box β=none→AX Tryz.prog fc cap (σ.ad β z2) (oX TS o (fun _=> .tup []) (fun a=>(s1 a).ad β z2) (s0.ad β z2)))
  (h1:∀ β a,σ.box β=none→(s1 a).box β=none) (h0:∀ β,σ.box β=none→s0.box β=none) (ho:o= .ok a):AC Tryz.prog 40 [.fn fc cap] σ (fun r s=>r= .agg [.int .i64 0, .int .i64 0]∧s=s1 a) :=
 (a40 hent h h1 h0).mono fun r s hr=>by
  rcases hr with ⟨b,k1,k2,k3⟩|⟨f,k1,k2,k3⟩
  ·rw [ho] at k1;cases k1;exact ⟨k2,k3⟩
  ·rw [ho] at k1;cases k1
theorem jw {α:Type} {fc:Nat} {cap:List AV} {σ:St} {o:Except Ft α} {s1:α→St} {s0:St} {e:Ft} (hent:∀ xs w,(callFunc fc xs).run Tryz.prog w= .ok (.enter fc xs) w)
  (h:∀ β,σ.box β=none→AX Tryz.prog fc cap (σ.ad β z2) (oX TS o (fun _=> .tup []) (fun a=>(s1 a).ad β z2) (s0.ad β z2)))
  (h1:∀ β a,σ.box β=none→(s1 a).box β=none) (h0:∀ β,σ.box β=none→s0.box β=none) (ho:o= .error e):AC Tryz.prog 40 [.fn fc cap] σ (fun r s=>r= .agg [.int .i64 e.1, .int .i64 e.2]∧s=s0) :=
 (a40 hent h h1 h0).mono fun r s hr=>by
  rcases hr with ⟨b,k1,k2,k3⟩|⟨f,k1,k2,k3⟩
  ·rw [ho] at k1;cases k1
  ·rw [ho] at k1;cases k1;exact ⟨k2,k3⟩
theorem CW {f:Nat} {xs:List AV} {σ s0 s0':St} {α:Type} {T:Nat} {o:Except Ft α} {t:α→AV} {s1 s1':α→St} (h:AX Tryz.prog f xs σ (oX T o t s1 s0)) (h1:∀ a,s1 a=s1' a) (h0:s0=s0'):AX Tryz.prog f xs σ (oX T o t s1' s0'):=by
 have:s1=s1':=funext h1
 subst this;subst h0;exact h
theorem eM {σ:St} {β γ:Nat} {c d:List AV} (h:σ.box γ=some d) (hβ:σ.box β=none):(σ.ad β c).box γ=some d:=by
 have:γ≠β:=fun e=>by rw [e,hβ] at h;cases h
 simp [St.ad,upd,this,h]
theorem dY {σ:St} {β γ:Nat} {c d:List AV} (h:σ.box γ=some d) (hβ:σ.box β=none):(σ.ad γ c).box β=none:=by
 have:β≠γ:=fun e=>by rw [←e,hβ] at h;cases h
 simp [St.ad,upd,this,hβ]
theorem nj {σ:St} {β γ:Nat} {c d z:List AV} (h:σ.box γ=some d) (hβ:σ.box β=none):(σ.ad β z).ad γ c=(σ.ad γ c).ad β z :=
 St.set_comm _ (fun e=>by rw [e,h] at hβ;cases hβ) _ _
def jx (s:List UInt8):AV:=match bX s with
 | .ok os=> .tup [.sl false os.length (os.flatMap cOp), .agg [.int .i64 0, .int .i64 0]]
 | .error e=> .tup [.sl false 0 [], .agg [.int .i64 e.1, .int .i64 e.2]]
theorem sC {σ:St} {ζ l:Nat} {s:List UInt8} (hF:∀ rs,fu s= .ok rs→∀ r∈rs,jt r) (hσ:bw gl3 σ) (hs:s.length≤1000000) (hz:σ.box ζ=some [.str s]) (hl:σ.box l=some [.nils]) (hne:l≠ζ):∀ β,σ.box β=none→AX Tryz.prog 41 [.ptr ζ 0, .ptr l 0] (σ.ad β z2) (oX TS (bX s) (fun _=> .tup []) (fun os=>(σ.ad l [.sl false os.length (os.flatMap cOp)]).ad β z2) (σ.ad β z2)):=fun β hβ =>
 CW (x41 (σ:=σ.ad β z2) (σ0:=σ.ad β z2) hF hσ (St.an _) hs (eM hz hβ) (eM hl hβ) hne) (fun os=>nj hl hβ) rfl
theorem _root_.Pp {p:Prop} (h:p:=by simp only [↓R1,RR,seval]):p:=h
theorem vI (s:List UInt8) (hF:∀ rs,fu s= .ok rs→∀ r∈rs,jt r) (hs:s.length≤1000000):PuG Tryz.prog gl3 12 [.str s] (jx s):=by
  have hent:=Go.Proofs.enters_of Tryz.func41 OA rfl
  cases hp:bX s with
  | ok os =>
    rw [jx,hp]
    (refine aO c12 b12 fun σ hσ=>?_;simp only [c12,↓R1,RR,seval])
    repeat' (first|(with_reducible rw [ah])|((with_reducible intro β hβ;(try simp only [RB] at hβ);(repeat (obtain ⟨⟨_,_⟩,hβ⟩:=hβ));(try (have hbis:=ag OB hβ;obtain ⟨_,_⟩:=hbis)))<;>(try simp only [↓R1,RR,seval])))
    rename_i ζ hζ l hl p1 p2 p3 p4 p5 p6
    have hat:=sC (s:=s) (ζ:=ζ) (l:=l) (σ:=((σ.ad ζ [AV.str s]).ad l [AV.nils]).ad β [AV.int IntKind.i64 0,AV.int IntKind.i64 0]) hF hσ hs Pp Pp p1.ne
    refine AC.mono (AC.wk (jv hent hat (fun γ a hγ=>dY (d:= [AV.nils]) Pp hγ) (fun γ hγ=>hγ) hp) (aa _)) ?_
    rintro _ _ ⟨rfl,rfl⟩
    simp only [↓R1,RR,seval]
    repeat' (with_reducible apply And.intro)
    all_goals (refine aq ?_ O7)
    all_goals (simp only [ar,↓R1,RR,seval];exact ae _)
  | error e =>
    rw [jx,hp]
    (refine aO c12 b12 fun σ hσ=>?_;simp only [c12,↓R1,RR,seval])
    repeat' (first|(with_reducible rw [ah])|((with_reducible intro β hβ;(try simp only [RB] at hβ);(repeat (obtain ⟨⟨_,_⟩,hβ⟩:=hβ));(try (have hbis:=ag OB hβ;obtain ⟨_,_⟩:=hbis)))<;>(try simp only [↓R1,RR,seval])))
    rename_i ζ hζ l hl p1 p2 p3 p4 p5 p6
    have hat:=sC (s:=s) (ζ:=ζ) (l:=l) (σ:=((σ.ad ζ [AV.str s]).ad l [AV.nils]).ad β [AV.int IntKind.i64 0,AV.int IntKind.i64 0]) hF hσ hs Pp Pp p1.ne
    refine AC.mono (AC.wk (jw hent hat (fun γ a hγ=>dY (d:= [AV.nils]) Pp hγ) (fun γ hγ=>hγ) hp) (aa _)) ?_
    rintro _ _ ⟨rfl,rfl⟩
    simp only [↓R1,RR,seval]
    repeat' (with_reducible apply And.intro)
    all_goals (refine aq ?_ O7)
    all_goals (simp only [ar,↓R1,RR,seval];all_goals exact fo)
theorem p12 (s:List UInt8) (hs:s.length≤1000000):PuG Tryz.prog gl3 12 [.str s] (jx s):=vI s (fun _ _ r _=>sA r) hs
def oneOf (n:Nat):List Rw→Except Ft OpI
  | []=> .error (7,(n:Nat))
  | r :: rest => eb (qc   r) fun o => match rest with
    | []=> .ok o
    | r2::_=> .error (4,(r2.a:Int))
def gf (s:List UInt8):Except Ft OpI:=eb (fu s) (oneOf s.length)
theorem _root_.PQ {p:Prop} (h:p:=by simp only [gf,eb,ho1,oneOf,ho2]):p:=h
set_option maxHeartbeats 4000000 in
theorem x47 {σ σ0:St} {ζ l:Nat} {s:List UInt8} (hσ:bw gl3 σ) (hlw:St.lw σ0 σ) (hs:s.length≤1000000) (hz:σ.box ζ=some [.str s]) (hl:σ.box l=some z8) (hne:l≠ζ) :
    AX Tryz.prog 47 [.ptr ζ 0, .ptr l 0] σ (oX TS (gf s) (fun _=> .tup []) (fun o=>σ.ad l (cOp o)) σ0):=by
  haveI:BoxIs σ ζ [.str s]:=⟨hz⟩
  haveI:BoxIs σ l [.int .i64 0, .int .i64 0, .int .u64 0, .str [], .int .i64 0, .int .i64 0, .int .u64 0, .int .u64 0]:=⟨hl⟩
  have q1:True:=trivial
  have q2:True:=trivial
  have he:True:=trivial
  have he2:True:=trivial
  (refine aB c47 b47 ?_;simp only [c47,↓R1,RR,seval,RX,cRw,q1,q2,he,he2,bG,bJ])
  refine aH (x42 (σ0:=σ0) s hs hlw) (aa _) (fun rs ho1=>?_) (fun e ho1=>?_)
  case refine_2 =>
    simp only [↓R1,RR,seval,RX,cRw,q1,q2,he,he2,bG,bJ]
    exact ax (by simp only [gf,eb,ho1]) (St.an _)
  obtain ⟨hz1,hz2⟩:=ju ho1
  match rs,ho1,hz1,hz2 with
  | [], ho1, _, _ =>
    have q1:(((0:Nat):Int) == 0)=true:=rfl
    simp only [List.length_nil,↓R1,RR,seval,RX,cRw,q1,q2,he,he2,bG,bJ]
    repeat' (first|(with_reducible rw [ah])|(with_reducible refine And.intro ?_ ?_;exact ak)|(with_reducible apply And.intro)|((first|(refine b8 (fun hc=>?_) (fun hc=>?_)<;>(try simp only [hc,↓R1,RR,seval,RX,cRw,q1,q2,he,he2,bG,bJ]))|refine aj (fun hc=>?_) (fun hc=>?_)|(with_reducible intro β hβ;(try simp only [RB] at hβ);(repeat (obtain ⟨⟨_,_⟩,hβ⟩:=hβ));(try (have hbis:=ag OB hβ;obtain ⟨_,_⟩:=hbis)))|((first|(refine bz (.inr rfl) rfl ?_ ?_ ?_ ?_ ?_ ?_;(first|rfl|exact St.aW _ _ _|(simp only [↓R1,RR,seval,RX,cRw,q1,q2,he,he2,bG,bJ]));(first|omega|(exact ao)|(simp only [RZ]));(first|rfl|first|omega|(exact ao)|(simp only [RZ])))|(refine bx rfl ?_ ?_ ?_ ?_ ?_ ?_;(first|rfl|exact St.aW _ _ _|(simp only [↓R1,RR,seval,RX,cRw,q1,q2,he,he2,bG,bJ]));(first|omega|(exact ao)|(simp only [RZ]));(first|rfl|first|omega|(exact ao)|(simp only [RZ])))|(refine appV_own ?_ ?_ ?_ ?_;exact aD OW _)|(refine appD_own ?_ ?_ ?_ ?_ ?_;omega;exact aD OW _)|(refine appV_fresh rfl trivial rfl ?_ ?_ ?_ ?_ ?_;(first|rfl|first|omega|(exact ao)|(simp only [RZ]));(first|rfl|first|omega|(exact ao)|(simp only [RZ])))|(refine appD_fresh rfl trivial rfl ?_ ?_ ?_ ?_ ?_ ?_;omega;(first|rfl|first|omega|(exact ao)|(simp only [RZ]));(first|rfl|first|omega|(exact ao)|(simp only [RZ]))));(unfold maxLen;omega);omega)|(refine cq (fun hc=>?_) (fun hc=>?_))|(refine bh (σ0:=σ0) OK Pn ?_))<;>(try simp only [↓R1,RR,seval,RX,cRw,q1,q2,he,he2,bG,bJ])))
    exact ax (by simp only [gf,eb,ho1,oneOf]) (St.an _)
  | r :: rest, ho1, hz1, hz2 =>
    obtain ⟨hr1,hr2,hr3⟩:=hz2 r OF
    have he:((cRw r++rest.flatMap cRw).drop (0*2)).take 2= [.int .i64 (r.a:Nat), .sl false r.ws.length (r.ws.flatMap cWd)]:=by simp [cRw]
    have hcl:=lW rest
    have hcr:(cRw r).length=2:=rfl
    cases hrest:rest with
    | nil =>
      have q1:(((1:Nat):Int) == 0)=false:=rfl
      have q2:decide ((1:Int)<((1:Nat):Int))=false:=OK
      simp only [List.length_cons,List.length_nil,List.flatMap_cons,List.flatMap_nil,↓R1,RR,seval,RX,cRw,q1,q2,he,he2,bG,bJ]
      repeat' (first|(with_reducible rw [ah])|(with_reducible refine And.intro ?_ ?_;exact ak)|(with_reducible apply And.intro)|((first|(refine b8 (fun hc=>?_) (fun hc=>?_)<;>(try simp only [hc,↓R1,RR,seval,RX,cRw,q1,q2,he,he2,bG,bJ]))|refine aj (fun hc=>?_) (fun hc=>?_)|(with_reducible intro β hβ;(try simp only [RB] at hβ);(repeat (obtain ⟨⟨_,_⟩,hβ⟩:=hβ));(try (have hbis:=ag OB hβ;obtain ⟨_,_⟩:=hbis)))|((first|(refine bz (.inr rfl) rfl ?_ ?_ ?_ ?_ ?_ ?_;(first|rfl|exact St.aW _ _ _|(simp only [↓R1,RR,seval,RX,cRw,q1,q2,he,he2,bG,bJ]));(first|omega|(exact ao)|(simp only [RZ]));(first|rfl|first|omega|(exact ao)|(simp only [RZ])))|(refine bx rfl ?_ ?_ ?_ ?_ ?_ ?_;(first|rfl|exact St.aW _ _ _|(simp only [↓R1,RR,seval,RX,cRw,q1,q2,he,he2,bG,bJ]));(first|omega|(exact ao)|(simp only [RZ]));(first|rfl|first|omega|(exact ao)|(simp only [RZ])))|(refine appV_own ?_ ?_ ?_ ?_;exact aD OW _)|(refine appD_own ?_ ?_ ?_ ?_ ?_;omega;exact aD OW _)|(refine appV_fresh rfl trivial rfl ?_ ?_ ?_ ?_ ?_;(first|rfl|first|omega|(exact ao)|(simp only [RZ]));(first|rfl|first|omega|(exact ao)|(simp only [RZ])))|(refine appD_fresh rfl trivial rfl ?_ ?_ ?_ ?_ ?_ ?_;omega;(first|rfl|first|omega|(exact ao)|(simp only [RZ]));(first|rfl|first|omega|(exact ao)|(simp only [RZ]))));(unfold maxLen;omega);omega)|(refine aH (x43 (σ0:=σ0) (r:=r) ?_ ?_ hr1 hr2 hr3) (aa _) (fun o ho2=>?_) (fun e ho2=>?_);(focus (intro k cs hk;exact hσ k cs hk));(focus (exact ba;done)))|(refine cq (fun hc=>?_) (fun hc=>?_))|(refine bh (σ0:=σ0) OK Pn ?_))<;>(try simp only [↓R1,RR,seval,RX,cRw,q1,q2,he,he2,bG,bJ])))
      · refine bF ((by simp only [gf,eb,ho1,oneOf,hrest,ho2];rfl)) ?_ ?_
        · simp only [ar,↓R1,RR,seval,RX,cRw,q1,q2,he,he2,bG,bJ]
          exact ae _
        · exact ba
      · exact ax PQ (St.an _)
    | cons r2 rest2 =>
      have q1:(((rest2.length+1+1:Nat):Int) == 0)=false:=OS
      have q2:decide ((1:Int)<((rest2.length+1+1:Nat):Int))=true:=OQ
      subst hrest
      have hcl2:=lW rest2
      have hcr2:(cRw r2).length=2:=rfl
      have he:((cRw r++(cRw r2++rest2.flatMap cRw)).drop (0*2)).take 2= [.int .i64 (r.a:Nat), .sl false r.ws.length (r.ws.flatMap cWd)]:=by simp [cRw]
      have he2:((cRw r++(cRw r2++rest2.flatMap cRw)).drop (1*2)).take 2= [.int .i64 (r2.a:Nat), .sl false r2.ws.length (r2.ws.flatMap cWd)]:=by simp [cRw]
      simp only [List.length_cons,List.flatMap_cons,↓R1,RR,seval,RX,cRw,q1,q2,he,he2,bG,bJ]
      repeat' (first|(with_reducible rw [ah])|(with_reducible refine And.intro ?_ ?_;exact ak)|(with_reducible apply And.intro)|((first|(refine b8 (fun hc=>?_) (fun hc=>?_)<;>(try simp only [hc,↓R1,RR,seval,RX,cRw,q1,q2,he,he2,bG,bJ]))|refine aj (fun hc=>?_) (fun hc=>?_)|(with_reducible intro β hβ;(try simp only [RB] at hβ);(repeat (obtain ⟨⟨_,_⟩,hβ⟩:=hβ));(try (have hbis:=ag OB hβ;obtain ⟨_,_⟩:=hbis)))|((first|(refine bz (.inr rfl) rfl ?_ ?_ ?_ ?_ ?_ ?_;(first|rfl|exact St.aW _ _ _|(simp only [↓R1,RR,seval,RX,cRw,q1,q2,he,he2,bG,bJ]));(first|omega|(exact ao)|(simp only [RZ]));(first|rfl|first|omega|(exact ao)|(simp only [RZ])))|(refine bx rfl ?_ ?_ ?_ ?_ ?_ ?_;(first|rfl|exact St.aW _ _ _|(simp only [↓R1,RR,seval,RX,cRw,q1,q2,he,he2,bG,bJ]));(first|omega|(exact ao)|(simp only [RZ]));(first|rfl|first|omega|(exact ao)|(simp only [RZ])))|(refine appV_own ?_ ?_ ?_ ?_;exact aD OW _)|(refine appD_own ?_ ?_ ?_ ?_ ?_;omega;exact aD OW _)|(refine appV_fresh rfl trivial rfl ?_ ?_ ?_ ?_ ?_;(first|rfl|first|omega|(exact ao)|(simp only [RZ]));(first|rfl|first|omega|(exact ao)|(simp only [RZ])))|(refine appD_fresh rfl trivial rfl ?_ ?_ ?_ ?_ ?_ ?_;omega;(first|rfl|first|omega|(exact ao)|(simp only [RZ]));(first|rfl|first|omega|(exact ao)|(simp only [RZ]))));(unfold maxLen;omega);omega)|(refine aH (x43 (σ0:=σ0) (r:=r) ?_ ?_ hr1 hr2 hr3) (aa _) (fun o ho2=>?_) (fun e ho2=>?_);(focus (intro k cs hk;exact hσ k cs hk));(focus (exact ba;done)))|(refine cq (fun hc=>?_) (fun hc=>?_))|(refine bh (σ0:=σ0) OK Pn ?_))<;>(try simp only [↓R1,RR,seval,RX,cRw,q1,q2,he,he2,bG,bJ])))
      · exact ax PQ (St.an _)
      · exact ax PQ (St.an _)
def vJ (s:List UInt8):AV:=match gf s with
 | .ok o=> .tup [.agg (cOp o), .agg [.int .i64 0, .int .i64 0]]
 | .error e=> .tup [.agg z8, .agg [.int .i64 e.1, .int .i64 e.2]]
theorem vK {σ:St} {ζ l:Nat} {s:List UInt8} (hσ:bw gl3 σ) (hs:s.length≤1000000) (hz:σ.box ζ=some [.str s]) (hl:σ.box l=some z8) (hne:l≠ζ):∀ β,σ.box β=none→AX Tryz.prog 47 [.ptr ζ 0, .ptr l 0] (σ.ad β z2) (oX TS (gf s) (fun _=> .tup []) (fun o=>(σ.ad l (cOp o)).ad β z2) (σ.ad β z2)):=fun β hβ =>
 CW (x47 (σ:=σ.ad β z2) (σ0:=σ.ad β z2) hσ (St.an _) hs (eM hz hβ) (eM hl hβ) hne) (fun os=>nj hl hβ) rfl
theorem _root_.Pr {p:Prop} (h:p:=by simp only [z8,↓R1,RR,seval,bG,bJ]):p:=h
theorem p14 (s:List UInt8) (hs:s.length≤1000000):PuG Tryz.prog gl3 14 [.str s] (vJ s):=by
  have hent:=Go.Proofs.enters_of Tryz.func47 OA rfl
  cases hp:gf s with
  | ok os =>
    rw [vJ,hp]
    (refine aO c14 b14 fun σ hσ=>?_;simp only [c14,↓R1,RR,seval,bG,bJ])
    repeat' (first|(with_reducible rw [ah])|(with_reducible refine And.intro ?_ ?_;exact ak)|(with_reducible apply And.intro)|((first|(refine b8 (fun hc=>?_) (fun hc=>?_)<;>(try simp only [hc,↓R1,RR,seval,bG,bJ]))|refine aj (fun hc=>?_) (fun hc=>?_)|(with_reducible intro β hβ;(try simp only [RB] at hβ);(repeat (obtain ⟨⟨_,_⟩,hβ⟩:=hβ));(try (have hbis:=ag OB hβ;obtain ⟨_,_⟩:=hbis)))|((first|(refine bz (.inr rfl) rfl ?_ ?_ ?_ ?_ ?_ ?_;(first|rfl|exact St.aW _ _ _|(simp only [↓R1,RR,seval,bG,bJ]));(first|omega|(exact ao)|(simp only [RZ]));(first|rfl|first|omega|(exact ao)|(simp only [RZ])))|(refine bx rfl ?_ ?_ ?_ ?_ ?_ ?_;(first|rfl|exact St.aW _ _ _|(simp only [↓R1,RR,seval,bG,bJ]));(first|omega|(exact ao)|(simp only [RZ]));(first|rfl|first|omega|(exact ao)|(simp only [RZ])))|(refine appV_own ?_ ?_ ?_ ?_;exact aD OW _)|(refine appD_own ?_ ?_ ?_ ?_ ?_;omega;exact aD OW _)|(refine appV_fresh rfl trivial rfl ?_ ?_ ?_ ?_ ?_;(first|rfl|first|omega|(exact ao)|(simp only [RZ]));(first|rfl|first|omega|(exact ao)|(simp only [RZ])))|(refine appD_fresh rfl trivial rfl ?_ ?_ ?_ ?_ ?_ ?_;omega;(first|rfl|first|omega|(exact ao)|(simp only [RZ]));(first|rfl|first|omega|(exact ao)|(simp only [RZ]))));(unfold maxLen;omega);omega))<;>(try simp only [↓R1,RR,seval,bG,bJ])))
    rename_i ζ hζ l hl p1 p2 p3 p4 p5 p6
    have hat:=vK (s:=s) (ζ:=ζ) (l:=l) (σ:=((σ.ad ζ [AV.str s]).ad l [.int .i64 0, .int .i64 0, .int .u64 0, .str [], .int .i64 0, .int .i64 0, .int .u64 0, .int .u64 0]).ad β [AV.int IntKind.i64 0,AV.int IntKind.i64 0]) hσ hs (by simp only [↓R1,RR,seval,bG,bJ]) Pr p1.ne
    refine AC.mono (AC.wk (jv hent hat (fun γ a hγ=>dY (d:=z8) Pr hγ) (fun γ hγ=>hγ) hp) (aa _)) ?_
    rintro _ _ ⟨rfl,rfl⟩
    simp only [↓R1,RR,seval,bG,bJ]
    repeat' (first|(with_reducible rw [ah])|(with_reducible refine And.intro ?_ ?_;exact ak)|(with_reducible apply And.intro)|((first|(refine b8 (fun hc=>?_) (fun hc=>?_)<;>(try simp only [hc,↓R1,RR,seval,bG,bJ]))|refine aj (fun hc=>?_) (fun hc=>?_)|(with_reducible intro β hβ;(try simp only [RB] at hβ);(repeat (obtain ⟨⟨_,_⟩,hβ⟩:=hβ));(try (have hbis:=ag OB hβ;obtain ⟨_,_⟩:=hbis)))|((first|(refine bz (.inr rfl) rfl ?_ ?_ ?_ ?_ ?_ ?_;(first|rfl|exact St.aW _ _ _|(simp only [↓R1,RR,seval,bG,bJ]));(first|omega|(exact ao)|(simp only [RZ]));(first|rfl|first|omega|(exact ao)|(simp only [RZ])))|(refine bx rfl ?_ ?_ ?_ ?_ ?_ ?_;(first|rfl|exact St.aW _ _ _|(simp only [↓R1,RR,seval,bG,bJ]));(first|omega|(exact ao)|(simp only [RZ]));(first|rfl|first|omega|(exact ao)|(simp only [RZ])))|(refine appV_own ?_ ?_ ?_ ?_;exact aD OW _)|(refine appD_own ?_ ?_ ?_ ?_ ?_;omega;exact aD OW _)|(refine appV_fresh rfl trivial rfl ?_ ?_ ?_ ?_ ?_;(first|rfl|first|omega|(exact ao)|(simp only [RZ]));(first|rfl|first|omega|(exact ao)|(simp only [RZ])))|(refine appD_fresh rfl trivial rfl ?_ ?_ ?_ ?_ ?_ ?_;omega;(first|rfl|first|omega|(exact ao)|(simp only [RZ]));(first|rfl|first|omega|(exact ao)|(simp only [RZ]))));(unfold maxLen;omega);omega))<;>(try simp only [↓R1,RR,seval,bG,bJ])))
    all_goals (refine aq ?_ (by simp only [aw,rvS,↓R1,RR,seval,bG,bJ];simp [bG]))
    all_goals (simp only [ar,↓R1,RR,seval,bG,bJ];exact ae _)
  | error e =>
    rw [vJ,hp]
    (refine aO c14 b14 fun σ hσ=>?_;simp only [c14,↓R1,RR,seval,bG,bJ])
    repeat' (first|(with_reducible rw [ah])|(with_reducible refine And.intro ?_ ?_;exact ak)|(with_reducible apply And.intro)|((first|(refine b8 (fun hc=>?_) (fun hc=>?_)<;>(try simp only [hc,↓R1,RR,seval,bG,bJ]))|refine aj (fun hc=>?_) (fun hc=>?_)|(with_reducible intro β hβ;(try simp only [RB] at hβ);(repeat (obtain ⟨⟨_,_⟩,hβ⟩:=hβ));(try (have hbis:=ag OB hβ;obtain ⟨_,_⟩:=hbis)))|((first|(refine bz (.inr rfl) rfl ?_ ?_ ?_ ?_ ?_ ?_;(first|rfl|exact St.aW _ _ _|(simp only [↓R1,RR,seval,bG,bJ]));(first|omega|(exact ao)|(simp only [RZ]));(first|rfl|first|omega|(exact ao)|(simp only [RZ])))|(refine bx rfl ?_ ?_ ?_ ?_ ?_ ?_;(first|rfl|exact St.aW _ _ _|(simp only [↓R1,RR,seval,bG,bJ]));(first|omega|(exact ao)|(simp only [RZ]));(first|rfl|first|omega|(exact ao)|(simp only [RZ])))|(refine appV_own ?_ ?_ ?_ ?_;exact aD OW _)|(refine appD_own ?_ ?_ ?_ ?_ ?_;omega;exact aD OW _)|(refine appV_fresh rfl trivial rfl ?_ ?_ ?_ ?_ ?_;(first|rfl|first|omega|(exact ao)|(simp only [RZ]));(first|rfl|first|omega|(exact ao)|(simp only [RZ])))|(refine appD_fresh rfl trivial rfl ?_ ?_ ?_ ?_ ?_ ?_;omega;(first|rfl|first|omega|(exact ao)|(simp only [RZ]));(first|rfl|first|omega|(exact ao)|(simp only [RZ]))));(unfold maxLen;omega);omega))<;>(try simp only [↓R1,RR,seval,bG,bJ])))
    rename_i ζ hζ l hl p1 p2 p3 p4 p5 p6
    have hat:=vK (s:=s) (ζ:=ζ) (l:=l) (σ:=((σ.ad ζ [AV.str s]).ad l [.int .i64 0, .int .i64 0, .int .u64 0, .str [], .int .i64 0, .int .i64 0, .int .u64 0, .int .u64 0]).ad β [AV.int IntKind.i64 0,AV.int IntKind.i64 0]) hσ hs (by simp only [↓R1,RR,seval,bG,bJ]) Pr p1.ne
    refine AC.mono (AC.wk (jw hent hat (fun γ a hγ=>dY (d:=z8) Pr hγ) (fun γ hγ=>hγ) hp) (aa _)) ?_
    rintro _ _ ⟨rfl,rfl⟩
    simp only [↓R1,RR,seval,bG,bJ]
    repeat' (first|(with_reducible rw [ah])|(with_reducible refine And.intro ?_ ?_;exact ak)|(with_reducible apply And.intro)|((first|(refine b8 (fun hc=>?_) (fun hc=>?_)<;>(try simp only [hc,↓R1,RR,seval,bG,bJ]))|refine aj (fun hc=>?_) (fun hc=>?_)|(with_reducible intro β hβ;(try simp only [RB] at hβ);(repeat (obtain ⟨⟨_,_⟩,hβ⟩:=hβ));(try (have hbis:=ag OB hβ;obtain ⟨_,_⟩:=hbis)))|((first|(refine bz (.inr rfl) rfl ?_ ?_ ?_ ?_ ?_ ?_;(first|rfl|exact St.aW _ _ _|(simp only [↓R1,RR,seval,bG,bJ]));(first|omega|(exact ao)|(simp only [RZ]));(first|rfl|first|omega|(exact ao)|(simp only [RZ])))|(refine bx rfl ?_ ?_ ?_ ?_ ?_ ?_;(first|rfl|exact St.aW _ _ _|(simp only [↓R1,RR,seval,bG,bJ]));(first|omega|(exact ao)|(simp only [RZ]));(first|rfl|first|omega|(exact ao)|(simp only [RZ])))|(refine appV_own ?_ ?_ ?_ ?_;exact aD OW _)|(refine appD_own ?_ ?_ ?_ ?_ ?_;omega;exact aD OW _)|(refine appV_fresh rfl trivial rfl ?_ ?_ ?_ ?_ ?_;(first|rfl|first|omega|(exact ao)|(simp only [RZ]));(first|rfl|first|omega|(exact ao)|(simp only [RZ])))|(refine appD_fresh rfl trivial rfl ?_ ?_ ?_ ?_ ?_ ?_;omega;(first|rfl|first|omega|(exact ao)|(simp only [RZ]));(first|rfl|first|omega|(exact ao)|(simp only [RZ]))));(unfold maxLen;omega);omega))<;>(try simp only [↓R1,RR,seval,bG,bJ])))
    all_goals (refine aq ?_ (by first|(simp [aw,rvS];done)|(simp only [aw,rvS,↓R1,RR,seval,bG,bJ];try simp)))
    all_goals (simp only [ar,↓R1,RR,seval,bG,bJ];exact ae _)
theorem CY {P:Program} {f:Nat} {xs:List AV} {α:Type} {T:Nat} {a:α} {t:α→AV} {v:AV} (h:∀ σ,AX P f xs σ (oX T (.ok a) t (fun _=>σ) σ)) (hv:v=t a):Pu P f xs v:=fun σ=>by
 refine AC.KO ((h σ).mono fun b r s hb=>?_)
 cases b with
 | false=>obtain ⟨a',h1,rfl,rfl⟩:=hb;cases h1;exact ⟨rfl,hv.symm,rfl⟩
 | true=>obtain ⟨e,h1,_⟩:=hb;cases h1
theorem St.CZ {σ:St} {L:Nat} {x:LO × Fr} (h:σ.lp L=some x):σ.au L x=σ:=by
 obtain ⟨b,t,g,l,bt⟩:=σ
 simp only [St.au,St.mk.injEq,true_and,and_true]
 funext j;simp only [upd]
 split
 ·rename_i e;subst e;exact h.symm
 ·rfl
theorem Ob {c:CfgI} (hc:CfgOk c) (σ:St):AC Tryz.prog 106 [.agg (a7 c)] σ (fun r s=>∃ β,σ.box β=none∧r= .fn 162 [.ptr β 0]∧s=σ.ad β (a7 c)):=by
 have hcl:=eQ hc
 have hca:=iD hc
 refine aT Iv MS ?_
 simp only [Iv,↓R1,RR,seval,hcl,hca]
 intro β hβ
 refine b7 ?_
 exact ⟨β,hβ,rfl,rfl⟩
theorem Oc {c:CfgI} (hc:CfgOk c) (σ:St):AC Tryz.prog 107 [.agg (a7 c)] σ (fun r s=>∃ β,σ.box β=none∧r= .fn 164 [.ptr β 0]∧s=σ.ad β (a7 c)):=by
 have hcl:=eQ hc
 have hca:=iD hc
 refine aT Iw MT ?_
 simp only [Iw,↓R1,RR,seval,hcl,hca]
 intro β hβ
 refine b7 ?_
 exact ⟨β,hβ,rfl,rfl⟩
theorem Oe {c:CfgI} (hc:CfgOk c) (σ:St):AC Tryz.prog 108 [.agg (a7 c)] σ (fun r s=>∃ β,σ.box β=none∧r= .fn 165 [.ptr β 0]∧s=σ.ad β (a7 c)):=by
 have hcl:=eQ hc
 have hca:=iD hc
 refine aT Ix MU ?_
 simp only [Ix,↓R1,RR,seval,hcl,hca]
 intro β hβ
 refine b7 ?_
 exact ⟨β,hβ,rfl,rfl⟩
def V9 (c:CfgI) (i:Nat) (v:AV) (s:St):Prop:=match i with
 | 0=>v= .agg (a7 c)
 | 1=>∃ β,v= .fn 162 [.ptr β 0]∧s.box β=some (a7 c)
 | 2=>v= .agg (a7 c)
 | 3=>∃ β,v= .fn 164 [.ptr β 0]∧s.box β=some (a7 c)
 | 4=>v= .agg (a7 c)
 | 5=>∃ β,v= .fn 165 [.ptr β 0]∧s.box β=some (a7 c)
 | 6=>∃ β γ δ,v= .sl true 3 [.fn 162 [.ptr β 0], .fn 164 [.ptr γ 0], .fn 165 [.ptr δ 0]]∧s.box β=some (a7 c)∧s.box γ=some (a7 c)∧s.box δ=some (a7 c)
 | 7=>v= .int .i64 3
 | _=>v= .int .i64 0
set_option maxHeartbeats 4000000 in
theorem yM {σ:St} {c:CfgI} {B:Nat} {fr:Fr} {Q:Exit→Fr→St→Prop} (hc:CfgOk c) (hB:σ.box B=some (a7 c)) (h1:slot 1 fr= .ptr B 0)
  (hok:∀ f s β γ δ,St.le σ s→(∀ t,t ∉ [18,19,20,21,22,23,24,25,26]→slot t f=slot t fr)→slot 24 f= .sl true 3 [.fn 162 [.ptr β 0], .fn 164 [.ptr γ 0], .fn 165 [.ptr δ 0]]→slot 25 f= .int .i64 3→slot 26 f= .int .i64 0→s.box β=some (a7 c)→s.box γ=some (a7 c)→s.box δ=some (a7 c)→Q .normal f s) :
  aX Tryz.prog (.invX [.o ⟨some 18, .ld (some 33) (.t 1),none⟩, .o ⟨some 19, .call 106 [(.t 18)],none⟩, .o ⟨some 20, .ld (some 33) (.t 1),none⟩, .o ⟨some 21, .call 107 [(.t 20)],none⟩, .o ⟨some 22, .ld (some 33) (.t 1),none⟩, .o ⟨some 23, .call 108 [(.t 22)],none⟩, .o ⟨some 24, .mkSl 1 3 [.nilf, .nilf, .nilf] [(0,1,(.t 19)),(1,1,(.t 21)),(2,1,(.t 23))],none⟩, .o ⟨some 25, .len (.t 24),none⟩, .o ⟨some 26, .mv (.c (.int .i64 0)),none⟩] [[],[0],[],[2,1],[],[4,3],[1,3,5],[6],[]]) fr σ Q:=by
 have hcl:=eQ hc
 have hca:=iD hc
 refine kv [18,19,20,21,22,23,24,25,26] 9 (V9 c) OK ?_ ?_ ?_
 ·intro i v s s' h hs
  unfold V9 at h ⊢
  split at h
  all_goals first|exact h|skip
  ·obtain ⟨κ,q1,q2⟩:=h;exact ⟨κ,q1,hs.1 _ _ q2⟩
  ·obtain ⟨κ,q1,q2⟩:=h;exact ⟨κ,q1,hs.1 _ _ q2⟩
  ·obtain ⟨κ,q1,q2⟩:=h;exact ⟨κ,q1,hs.1 _ _ q2⟩
  ·obtain ⟨κ,μ,ν,q1,q2,q3,q4⟩:=h;exact ⟨κ,μ,ν,q1,hs.1 _ _ q2,hs.1 _ _ q3,hs.1 _ _ q4⟩
 ·intro j x d hj hx hd f s hs hfr hv
  have h1':slot 1 f= .ptr B 0:=by rw [hfr 1 OK];exact h1
  have hcs:j=0∨j=1∨j=2∨j=3∨j=4∨j=5∨j=6∨j=7∨j=8:=Oz
  have hb:s.box B=some (a7 c):=gG hs hB
  have h1:=h1'
  have e0:True:=trivial
  have e1:True:=trivial
  have e2:True:=trivial
  rcases hcs with rfl|rfl|rfl|rfl|rfl|rfl|rfl|rfl|rfl
  ·cases hx;cases hd
   refine dh ?_
   simp only [↓R1,RR,seval,RX,h1,e0,e1,e2,hb,hcl,hca]
   exact ⟨_,rfl,St.le_refl _,rfl⟩
  ·cases hx;cases hd
   have e0:slot 18 f= .agg (a7 c):=hv 0 18 OF rfl
   refine dh ?_
   simp only [↓R1,RR,seval,RX,h1,e0,e1,e2,hb,hcl,hca]
   refine (Ob hc s).mono ?_
   rintro _ _ ⟨β,hβ,rfl,rfl⟩
   simp only [↓R1,RR,seval,RX,h1,e0,e1,e2,hb,hcl,hca]
   exact ⟨_,rfl,St.aR (St.le_refl _) hβ,β,rfl,St.bo _ _ _⟩
  ·cases hx;cases hd
   refine dh ?_
   simp only [↓R1,RR,seval,RX,h1,e0,e1,e2,hb,hcl,hca]
   exact ⟨_,rfl,St.le_refl _,rfl⟩
  ·cases hx;cases hd
   have e0:slot 20 f= .agg (a7 c):=hv 2 20 OF rfl
   refine dh ?_
   simp only [↓R1,RR,seval,RX,h1,e0,e1,e2,hb,hcl,hca]
   refine (Oc hc s).mono ?_
   rintro _ _ ⟨β,hβ,rfl,rfl⟩
   simp only [↓R1,RR,seval,RX,h1,e0,e1,e2,hb,hcl,hca]
   exact ⟨_,rfl,St.aR (St.le_refl _) hβ,β,rfl,St.bo _ _ _⟩
  ·cases hx;cases hd
   refine dh ?_
   simp only [↓R1,RR,seval,RX,h1,e0,e1,e2,hb,hcl,hca]
   exact ⟨_,rfl,St.le_refl _,rfl⟩
  ·cases hx;cases hd
   have e0:slot 22 f= .agg (a7 c):=hv 4 22 OF rfl
   refine dh ?_
   simp only [↓R1,RR,seval,RX,h1,e0,e1,e2,hb,hcl,hca]
   refine (Oe hc s).mono ?_
   rintro _ _ ⟨β,hβ,rfl,rfl⟩
   simp only [↓R1,RR,seval,RX,h1,e0,e1,e2,hb,hcl,hca]
   exact ⟨_,rfl,St.aR (St.le_refl _) hβ,β,rfl,St.bo _ _ _⟩
  ·cases hx;cases hd
   obtain ⟨β,e0,k0⟩:∃ β,slot 19 f= .fn 162 [.ptr β 0]∧s.box β=some (a7 c):=hv 1 19 OF rfl
   obtain ⟨γ,e1,k1⟩:∃ β,slot 21 f= .fn 164 [.ptr β 0]∧s.box β=some (a7 c):=hv 3 21 OF rfl
   obtain ⟨δ,e2,k2⟩:∃ β,slot 23 f= .fn 165 [.ptr β 0]∧s.box β=some (a7 c):=hv 5 23 OF rfl
   refine dh ?_
   simp only [↓R1,RR,seval,RX,h1,e0,e1,e2,hb,hcl,hca]
   exact ⟨_,rfl,St.le_refl _,β,γ,δ,rfl,k0,k1,k2⟩
  ·cases hx;cases hd
   obtain ⟨β,γ,δ,e0,_⟩:∃ β γ δ,slot 24 f= .sl true 3 [.fn 162 [.ptr β 0], .fn 164 [.ptr γ 0], .fn 165 [.ptr δ 0]]∧_:=hv 6 24 OF rfl
   refine dh ?_
   simp only [↓R1,RR,seval,RX,h1,e0,e1,e2,hb,hcl,hca]
   exact ⟨_,rfl,St.le_refl _,rfl⟩
  ·cases hx;cases hd
   refine dh ?_
   simp only [↓R1,RR,seval,RX,h1,e0,e1,e2,hb,hcl,hca]
   exact ⟨_,rfl,St.le_refl _,rfl⟩
 ·intro f s hs hfr hv
  obtain ⟨β,γ,δ,k1,k2,k3,k4⟩:∃ β γ δ,slot 24 f= .sl true 3 [.fn 162 [.ptr β 0], .fn 164 [.ptr γ 0], .fn 165 [.ptr δ 0]]∧s.box β=some (a7 c)∧s.box γ=some (a7 c)∧s.box δ=some (a7 c):=hv 6 24 rfl
  exact hok f s β γ δ hs hfr k1 (hv 7 25 rfl) (hv 8 26 rfl) k2 k3 k4
theorem yN {σ:St} {L E N:Nat} {a:LO × Fr} {x y:List AV}:(((σ.au L a).ad E x).ad N y).dropLp L=((σ.dropLp L).ad E x).ad N y:=by
 obtain ⟨b1,t,g,l,bt⟩:=σ
 simp only [St.au,St.ad,St.dropLp,St.mk.injEq,true_and,and_true]
 funext j;simp only [upd];split<;>rfl
set_option maxHeartbeats 2000000 in
theorem jy {σ s:St} {E N B:Nat} {v30 v5 v24 v25 v26:AV} {Q:Exit→Fr→St→Prop} {es:List Int} (hle:St.le σ s) (hE:σ.box E=none) (hN:σ.box N=none) (hne:N≠E) (sE:s.box E=some [.int .i64 0]) (sN:s.box N=some [.int .i64 0])
  (ret:∀ e i s',firstE es 0=some (e,i)→s'.box E=some [.int .i64 e]→s'.box N=some [.int .i64 (i:Nat)]→St.le σ s'→Q .ret [(30,v30),(1, .ptr B 0),(2, .ptr E 0),(3, .ptr N 0),(5,v5),(24,v24),(25,v25),(26,v26)] s')
  (fin:firstE es 0=none→∀ s',St.le s s'→Q .normal [(30,v30),(1, .ptr B 0),(2, .ptr E 0),(3, .ptr N 0),(5,v5),(24,v24),(25,v25),(26,v26)] s') :
  Errs [31,32] (.seq (.keep [2,3,31,32] (.ops [⟨some 6, .mv (.t 31),none⟩])) (.keep [2,3,6,32] (.ops [⟨some 7, .mv (.t 32),none⟩])))
   (.block 3 (.seq (.keep [2,3,6,7] (.ops [⟨some 33, .mv (.t 7),none⟩,⟨some 34, .bin .neq (.t 33) (.c (.int .i64 0)),none⟩]))
   (.cond (.t 34)
    (.seq (.keep [2,3,6,7] (.ops [⟨some 35, .mv (.t 7),none⟩,⟨some 36, .mv (.t 6),none⟩,⟨none, .st 1 (.t 2) (.t 35),none⟩,⟨none, .st 1 (.t 3) (.t 36),none⟩]))
    .ret)
    .skip)))
   [(30,v30),(1, .ptr B 0),(2, .ptr E 0),(3, .ptr N 0),(5,v5),(24,v24),(25,v25),(26,v26)] s Q es:=by
 refine ⟨rfl,fun L r i σ1 K hat hl hs hk=>?_,fun L r i e σ1 K hat he hl hs hk=>?_,fin⟩
 ·unfold Round
  simp only [iL,putF,↓R1,RR,seval]
  refine ⟨hl,?_⟩
  rw [St.CZ hl];exact hk
 ·unfold Round
  have q1:(e != 0)=true:=by rw [bne_iff_ne];exact he
  have k1:∀ x,(σ1.au L x).box E=some [.int .i64 0]:=fun x=>hs.1 _ _ sE
  have k2:∀ x,(σ1.au L x).box N=some [.int .i64 0]:=fun x=>hs.1 _ _ sN
  haveI:Apart N E:=⟨hne⟩
  haveI:Apart E N:=⟨hne.symm⟩
  simp only [iL,putF,q1,k1,k2,↓R1,RR,seval]
  refine ⟨hl,?_⟩
  refine hk _ (St.aY _ _ _) (fun h1=>ret e i _ h1 ?_ ?_ ?_)
  all_goals rw [yN]
  ·simp only [↓R1,RR,seval]
  ·simp only [↓R1,RR,seval]
  ·exact St.aR (St.aR (St.le_trans hle hs) hE) hN
theorem fi {σ s:St} {E N i:Nat} {e:Int} {c:CfgI} {fr:Fr} (h2:slot 2 fr= .ptr E 0) (h3:slot 3 fr= .ptr N 0) (hc:fz c=(e,i)) (kE:s.box E=some [.int .i64 e]) (kN:s.box N=some [.int .i64 (i:Nat)]) (hl:St.le σ s) :
  pA [.cl 2 none, .cl 3 none] (oXW TS (.ok (fz c)) (fun p=> .tup [.int .i64 p.1, .int .i64 (p.2:Nat)]) (fun _=>σ) σ) .ret fr s:=by
 refine lP (a:=(e,i)) (.inl rfl) (by rw [hc]) ?_ ?_ (St.jM hl)
 ·simp [aw,rvS,h2,h3,kE,kN,cG,ldS]
 ·simp [eV,rvV,h2,h3,kE,kN,cG,ldV,ae]
theorem _root_.OY {p:Prop} (h:p:=by first|rfl|(simp only [↓R1,RR,seval,RX,hcl,hca,hc0,h31,h32];done)):p:=h
theorem _root_.Pk {p:Prop} (h:p:=by simp only [↓R1,RR,seval,RX,hcl,hca,hc0,h31,h32]):p:=h
set_option maxHeartbeats 4000000 in
theorem FZ {c:CfgI} (ck:CfgOk c) (σ:St):AX Tryz.prog 48 [.agg (a7 c)] σ (oX TS (.ok (fz c)) (fun p=> .tup [.int .i64 p.1, .int .i64 (p.2:Nat)]) (fun _=>σ) σ):=by
 have hcl:=eQ ck
 have hca:=iD ck
 have hc0:=vG c
 have h31:=uR ck
 have h32:=CN ck
 (refine aB c48 b48 ?_;simp only [c48,↓R1,RR,seval,RX,hcl,hca,hc0,h31,h32])
 repeat' (first|(with_reducible rw [ah])|((first|(refine aj (fun hc=>?_) (fun hc=>?_))|(with_reducible intro β hβ;(try simp only [RB] at hβ);(repeat (obtain ⟨⟨_,_⟩,hβ⟩:=hβ));(try (have hbis:=ag OB hβ;obtain ⟨_,_⟩:=hbis))))<;>(try simp only [↓R1,RR,seval,RX,hcl,hca,hc0,h31,h32])))
 ·rename_i B hB E hE a1 a2 a3 a4 a5 a6
  refine fi rfl rfl (e:=6) (i:=0) ?_ OY OY ?_
  ·rw [fz,if_pos]
   rw [Bool.or_eq_true,decide_eq_true_eq,decide_eq_true_eq] at hc;omega
  ·exact St.aR (St.aR (St.aR (St.le_refl _) hB) hE) hβ
 ·rename_i B hB E hE a1 a2 a3 a4 a5 a6
  refine yM ck (B:=B) Pk rfl (fun f s γ1 γ2 γ3 hs hfr f24 f25 f26 g1 g2 g3=>?_)
  have hov:¬(8<c.cls.length∨8<c.ruls.length):=by
   rw [Bool.or_eq_false_iff,decide_eq_false_iff_not,decide_eq_false_iff_not] at hc;omega
  have hσs:St.le σ s:=St.le_trans (St.aR (St.aR (St.aR (St.le_refl _) hB) hE) hβ) hs
  have f1:slot 1 f= .ptr B 0:=hfr 1 OK
  have f2:slot 2 f= .ptr E 0:=hfr 2 OK
  have f3:slot 3 f= .ptr β 0:=hfr 3 OK
  have sB:s.box B=some (a7 c):=gG hs Pk
  have sE:s.box E=some [.int .i64 0]:=gG hs Pk
  have sN:s.box β=some [.int .i64 0]:=gG hs Pk
  simp only [↓R1,RR,seval,RX,hcl,hca,hc0,h31,h32]
  refine bq 3 (fun k=> [(1, .ptr B 0),(2, .ptr E 0),(3, .ptr β 0),(24, .sl true 3 [.fn 162 [.ptr γ1 0], .fn 164 [.ptr γ2 0], .fn 165 [.ptr γ3 0]]),(25, .int .i64 3),(26, .int .i64 (k:Nat))]) (fun _=>s)
   (fun k=>(1≤k→firstE (clsEs [] c.cls) 0=none)∧(2≤k→firstE (c.tens.map tenE) 0=none)∧(3≤k→firstE (c.ruls.map rulE) 0=none)) (by simp [aK,ae,f1,f2,f3,f24,f25,f26]) (St.le_refl _) ⟨fun h=>by omega,fun h=>by omega,fun h=>by omega⟩ (fun k hk hI=>?_)
  rcases (show k=0∨k=1∨k=2∨k=3 by omega) with rfl|rfl|rfl|rfl
  ·simp only [↓R1,RR,seval,RX,hcl,hca,hc0,h31,h32]
   refine eZ [] ?_
   simp only [cb]
   refine ⟨_,_,rfl,uS ck g1 (jy (σ:=σ) hσs hE hβ a3.ne sE sN (fun e i s' h1 h2 h3 h4=>?_) (fun h1 s' h2=>?_))⟩
   ·simp only [↓R1,RR,seval,RX,hcl,hca,hc0,h31,h32]
    exact fi rfl rfl (by rw [fz,if_neg hov,h1]) h2 h3 h4
   ·simp only [↓R1,RR,seval,RX,hcl,hca,hc0,h31,h32]
    exact ⟨h1,by simp [aK,slot,ae,show IntKind.i64.wrap 1=1 from rfl],h2⟩
  ·have hI1:=hI.1 Oz
   simp only [↓R1,RR,seval,RX,hcl,hca,hc0,h31,h32]
   refine eZ [] ?_
   simp only [cb]
   refine ⟨_,_,rfl,uT ck g2 (jy (σ:=σ) hσs hE hβ a3.ne sE sN (fun e i s' h1 h2 h3 h4=>?_) (fun h1 s' h2=>?_))⟩
   ·simp only [↓R1,RR,seval,RX,hcl,hca,hc0,h31,h32]
    exact fi rfl rfl (by rw [fz,if_neg hov,hI1];simp only [h1]) h2 h3 h4
   ·simp only [↓R1,RR,seval,RX,hcl,hca,hc0,h31,h32]
    exact ⟨⟨hI1,h1⟩,by simp [aK,slot,ae,show IntKind.i64.wrap 2=2 from rfl],h2⟩
  ·have hI1:=hI.1 Oz
   have hI2:=hI.2.1 Oz
   simp only [↓R1,RR,seval,RX,hcl,hca,hc0,h31,h32]
   refine eZ [] ?_
   simp only [cb]
   refine ⟨_,_,rfl,CR ck g3 (jy (σ:=σ) hσs hE hβ a3.ne sE sN (fun e i s' h1 h2 h3 h4=>?_) (fun h1 s' h2=>?_))⟩
   ·simp only [↓R1,RR,seval,RX,hcl,hca,hc0,h31,h32]
    exact fi rfl rfl (by rw [fz,if_neg hov,hI1];simp only [hI2,h1]) h2 h3 h4
   ·simp only [↓R1,RR,seval,RX,hcl,hca,hc0,h31,h32]
    exact ⟨⟨hI1,hI2,h1⟩,by simp [aK,slot,ae,show IntKind.i64.wrap 3=3 from rfl],h2⟩
  ·have hI1:=hI.1 Oz
   have hI2:=hI.2.1 Oz
   have hI3:=hI.2.2 Oz
   haveI:BoxIs s B (a7 c):=⟨sB⟩
   haveI:BoxIs s E [.int .i64 0]:=⟨sE⟩
   haveI:BoxIs s β [.int .i64 0]:=⟨sN⟩
   have l32:32<(a7 c).length:=PM
   simp only [h32,l32,↓R1,RR,seval,RX,hcl,hca,hc0,h31,h32]
   repeat' ((refine aj (fun hc=>?_) (fun hc=>?_))<;>(try simp only [↓R1,RR,seval,RX,hcl,hca,hc0,h31,h32]))
   ·refine fi rfl rfl (e:=2) (i:=0) ?_ OY OY ?_
    ·rw [fz,if_neg hov,hI1];simp only [hI2,hI3]
     rw [if_pos]
     rwa [Bool.or_eq_true,decide_eq_true_eq,decide_eq_true_eq] at hc
    ·exact St.aR (St.aR hσs hE) hβ
   ·refine fi rfl rfl (e:=0) (i:=0) ?_ OY OY ?_
    ·rw [fz,if_neg hov,hI1];simp only [hI2,hI3]
     rw [if_neg]
     rw [Bool.or_eq_false_iff,decide_eq_false_iff_not,decide_eq_false_iff_not] at hc
     omega
    ·exact St.aR (St.aR hσs hE) hβ
def Jy (c:CfgI):AV:= .tup [.int .i64 (fz c).1, .int .i64 ((fz c).2:Nat)]
theorem p48 {c:CfgI} (hc:CfgOk c):Pu Tryz.prog 48 [.agg (a7 c)] (Jy c):=CY (FZ hc) rfl
structure PlanI where
 cls:List ClsI
 tens:List TenI
 ruls:List RulI
 hor:Int
 n:Nat
 t:Nat
def pB (τ υ:Nat) (p:PlanI):List AV:= .tsl τ p.cls.length (p.cls.flatMap dr)::(p.tens.flatMap cM++ [.tsl υ p.ruls.length (p.ruls.flatMap dL), .int .u64 p.hor, .int .i64 (p.n:Nat), .int .i64 (p.t:Nat)])
theorem Lq (τ υ:Nat) (p:PlanI):(pB τ υ p)[0]? =some (.tsl τ p.cls.length (p.cls.flatMap dr)):=rfl
theorem fO {p:PlanI} (τ υ:Nat) (h:p.tens.length=6):(pB τ υ p).length=35:=by
 simp only [pB,List.length_cons,List.length_append,List.length_nil,bp,h]
theorem Jz {p:PlanI} (τ υ:Nat) (h:p.tens.length=6) (k:Nat):(pB τ υ p)[31+k]? = [AV.tsl υ p.ruls.length (p.ruls.flatMap dL), .int .u64 p.hor, .int .i64 (p.n:Nat), .int .i64 (p.t:Nat)][k]? :=by
 rw [pB,show 31+k=(30+k)+1 by omega,List.getElem?_cons_succ,List.getElem?_append_right (by rw [bp,h];omega),bp,h]
 congr 1
 omega
theorem Gx {p:PlanI} (τ υ:Nat) (h:p.tens.length=6):(pB τ υ p)[31]? =some (.tsl υ p.ruls.length (p.ruls.flatMap dL)):=Jz τ υ h 0
theorem C0 {p:PlanI} (τ υ:Nat) (h:p.tens.length=6):(pB τ υ p)[33]? =some (.int .i64 (p.n:Nat)):=Jz τ υ h 2
theorem vL {p:PlanI} (τ υ:Nat) (h:p.tens.length=6):(pB τ υ p)[34]? =some (.int .i64 (p.t:Nat)):=Jz τ υ h 3
def sD (p:PlanI) (k:Nat):Bool:=match k with
 | 0=>((p.n:Nat):Int) == 0
 | 1=>decide ((0:Int)<(p.n:Nat))&&(((p.t:Nat):Int) == 0)
 | 2=>(decide ((0:Int)<(p.n:Nat))&&decide (((p.t:Nat):Int)<6))&&(((p.ruls.length:Nat):Int) == 0)
 | 3=>((p.t:Nat):Int) == 6
 | _=>false
set_option maxHeartbeats 2000000 in
theorem Lr {σ:St} {β τ υ k:Nat} {p:PlanI} (hb:σ.box β=some (pB τ υ p)) (h6:p.tens.length=6) (hk:k<4):AC Tryz.prog 127 [.ptr β 0, .int .i64 (k:Nat)] σ (fun r s=>r= .bool (sD p k)∧s=σ):=by
 haveI:BoxIs σ β (pB τ υ p):=⟨hb⟩
 have h0:=Lq τ υ p
 have h31:=Gx τ υ h6
 have h33:=C0 τ υ h6
 have h34:=vL τ υ h6
 have hln:=fO τ υ h6
 have hc:k=0∨k=1∨k=2∨k=3:=Oz
 rcases hc with rfl|rfl|rfl|rfl
 all_goals
  (refine aT IA MX ?_;simp only [IA,↓R1,RR,seval,h0,h31,h33,h34])
  repeat' (with_reducible refine And.intro ?_ ?_;exact ak)
  all_goals (try (first|omega|(rw [hln];decide)))
  (refine aq (af ?_))
  (simp only [ar,↓R1,RR,seval,h0,h31,h33,h34])
  rfl
theorem vM {p:PlanI} (τ υ:Nat) (h:p.tens.length=6):(pB τ υ p).take 31= .tsl τ p.cls.length (p.cls.flatMap dr)::p.tens.flatMap cM∧(pB τ υ p).drop 31= [.tsl υ p.ruls.length (p.ruls.flatMap dL), .int .u64 p.hor, .int .i64 (p.n:Nat), .int .i64 (p.t:Nat)]:=by
 have hl:(p.tens.flatMap cM).length=30:=by rw [bp,h]
 constructor
 ·rw [pB,List.take_succ_cons,List.take_left' hl]
 ·rw [pB,List.drop_succ_cons,List.drop_left' hl]
theorem C1 {p:PlanI} (τ υ:Nat):pB τ υ p=(.tsl τ p.cls.length (p.cls.flatMap dr)::p.tens.flatMap cM)++ [.tsl υ p.ruls.length (p.ruls.flatMap dL), .int .u64 p.hor, .int .i64 (p.n:Nat), .int .i64 (p.t:Nat)]:=rfl
theorem uX {p:PlanI} (τ υ:Nat) (h:p.tens.length=6) (k:Nat) (x:AV):(pB τ υ p).take (31+k)++ [x]++(pB τ υ p).drop (31+k+1)=(.tsl τ p.cls.length (p.cls.flatMap dr)::p.tens.flatMap cM)++([AV.tsl υ p.ruls.length (p.ruls.flatMap dL), .int .u64 p.hor, .int .i64 (p.n:Nat), .int .i64 (p.t:Nat)].take k++ [x]++ [AV.tsl υ p.ruls.length (p.ruls.flatMap dL), .int .u64 p.hor, .int .i64 (p.n:Nat), .int .i64 (p.t:Nat)].drop (k+1)):=by
 have hl:(AV.tsl τ p.cls.length (p.cls.flatMap dr)::p.tens.flatMap cM).length=31:=by rw [List.length_cons,bp,h]
 rw [C1]
 generalize AV.tsl τ p.cls.length (p.cls.flatMap dr)::p.tens.flatMap cM=a at hl
 rw [List.take_append,List.drop_append,hl,List.take_of_length_le Oz,List.drop_of_length_le Oz]
 simp only [List.nil_append,show 31+k - 31=k by omega,show 31+k+1 - 31=k+1 by omega,List.append_assoc]
theorem C2 {p:PlanI} (τ υ:Nat) (h:p.tens.length=6) (x:Int):(pB τ υ p).take 32++ [.int .u64 x]++(pB τ υ p).drop 33=pB τ υ { p with hor:=x }:=uX τ υ h 1 _
set_option maxHeartbeats 2000000 in
theorem Og {σ σ0:St} {β γ τ υ:Nat} {p:PlanI} {r:Rw} {w0 w1:Wd} (hp:σ.box β=some (pB τ υ p)) (hp0:σ0.box β=none) (h6:p.tens.length=6) (h:Cu σ0 σ γ r 1) (hne:β≠γ) (hws:r.ws= [w0,w1]) :
  AX Tryz.prog 123 [.ptr β 0, .ptr γ 0] σ (oX TS (db w1) (fun _=> .tup []) (fun v=>(σ.ad γ (cur r 2)).ad β (pB τ υ { p with hor:=v })) σ0):=by
 haveI:BoxIs σ β (pB τ υ p):=⟨hp⟩
 haveI:BoxIs σ γ (cur r 1):=⟨h.hb⟩
 haveI:Apart β γ:=⟨hne⟩
 haveI:Apart γ β:=⟨hne.symm⟩
 have hln:=fO τ υ h6
 have h32s:∀ x,(pB τ υ p).take 32++ [.int .u64 x]++(pB τ υ p).drop 33=pB τ υ { p with hor:=x }:=C2 τ υ h6
 have h0:=h.h0
 have hlw:=h.lw
 have hw1:r.ws[1]? =some w1:=OU
 (refine aB Iy MV ?_;simp only [Iy,↓R1,RR,seval,RX,hln,h32s])
 repeat' (((refine aH (CL (σ0:=σ0) (r:=r) (k:=1) ?_ hw1) (aa _) (fun a1 ho1=>?_) (fun e ho1=>?_);(focus ((repeat' (first|assumption|(refine Cu.to (k:=1) ?_)|(refine Cu.new ?_ (by first|assumption|(simp only [↓R1,RR,seval,RX,hln,h32s];done)))));done))))<;>(try simp only [↓R1,RR,seval,RX,hln,h32s]))
 ·refine bF ho1 ?_ ?_
  ·simp only [ar,↓R1,RR,seval,RX,hln,h32s]
   exact ae _
  ·exact St.an _
 ·exact ax ho1 (St.an _)
def fv (w1 w2 w3:Wd) (a:Int) (p:PlanI):Except Ft PlanI:=eb (fN w1) fun l=>eb (db w2) fun s=>eb (db w3) fun t=>if p.cls.length=8 then .error (6,a) else .ok { p with cls:=p.cls++ [⟨l,s,t⟩] }
theorem fw {w:Wd} {v:Int} (h:db w= .ok v):IntKind.i64.wrap v=v:=by
  unfold db e8 at h
  split at h
  · cases h
  · split at h
    · cases h
      have hh:0≤(nO w.q w.t 0 1099511627776).1∧(nO w.q w.t 0 1099511627776).1≤1099511627776:=by
        unfold nO
        cases h1:(w.q|| !dW w.t) with
        | true=>simp
        | false =>
          simp only [cond_false]
          cases h2:((decide (18446744073709551616≤ca w.t)||decide (((ca w.t % 18446744073709551616:Nat):Int)<0))||decide ((1099511627776:Int)<((ca w.t % 18446744073709551616:Nat):Int))) with
          | true=>simp
          | false =>
            simp only [cond_false]
            simp only [Bool.or_eq_false_iff,decide_eq_false_iff_not] at h2
            omega
      rw [wrap64 Oz Oz]
    · cases h
theorem F0 {p:PlanI} (κ υ:Nat) (x:ClsI):AV.tsl κ (p.cls.length+1) (p.cls.flatMap dr++ [.int .u64 x.l, .int .i64 x.size, .int .i64 x.rate])::(pB κ υ p).drop 1=pB κ υ { p with cls:=p.cls++ [x] }:=by
 simp [pB,dr]
theorem _root_.PN {p:Prop} (h:p:=by first|assumption|(simp only [↓R1,RR,seval,RX,hln,h0p,hcur];done)):p:=h
theorem _root_.OC {p:Prop} (h:p:=by (repeat' (first|assumption|exact St.an _|(refine St.dw ?_)|(refine St.eh ?_ (by first|assumption|exact dK (by assumption) (by assumption)|(simp only [St.bn,St.bU];assumption)))|(refine St.eC ?_ ?_)|(refine St.c7 ?_ (by first|assumption|exact df (by assumption) (by assumption)|(simp only [St.br,St.bu];assumption)))|exact wkL.nil|exact aa _|(refine wkL.cons ?_ ?_)|exact ae _|exact dc|exact dD _ _ _|exact cQ _ _))):p:=h
theorem _root_.Pf {p:Prop} (h:p:=by first|assumption|exact df (by assumption) (by assumption)|(simp only [St.br];assumption)):p:=h
set_option maxHeartbeats 4000000 in
theorem Oh {σ σ0:St} {ζ γ κ υ:Nat} {p:PlanI} {r:Rw} {w0 w1 w2 w3:Wd} (hp:σ.box ζ=some (pB κ υ p)) (hp0:σ0.box ζ=none) (ht:σ.tip κ=some (94,3,p.cls.length)) (h6:p.tens.length=6) (hc8:p.cls.length≤8) (h:Cu σ0 σ γ r 1) (hne:ζ≠γ) (hws:r.ws= [w0,w1,w2,w3]) :
  AX Tryz.prog 124 [.ptr ζ 0, .ptr γ 0] σ (oX TS (fv w1 w2 w3 (r.a:Nat) p) (fun _=> .tup []) (fun q=>((σ.ad γ (cur r 4)).ai κ (94,3,q.cls.length)).ad ζ (pB κ υ q)) σ0):=by
 haveI:BoxIs σ γ (cur r 1):=⟨h.hb⟩
 haveI:BoxIs σ ζ (pB κ υ p):=⟨hp⟩
 haveI:Apart ζ γ:=⟨hne⟩
 haveI:Apart γ ζ:=⟨hne.symm⟩
 have hln:=fO κ υ h6
 have h0p:=Lq κ υ p
 have hcur:∀ k,(cur r k)[0]? =some (.int .i64 (r.a:Nat)):=fun _=>rfl
 have h0:=h.h0
 have hlw:=h.lw
 have hw1:r.ws[1]? =some w1:=OU
 have hw2:r.ws[2]? =some w2:=OU
 have hw3:r.ws[3]? =some w3:=OU
 (refine aB BI KW ?_;simp only [BI,↓R1,RR,seval,RX])
 repeat' (first|(with_reducible rw [ah])|(with_reducible apply And.intro)|((first|(with_reducible intro β hβ;(try simp only [RB] at hβ);(repeat (obtain ⟨⟨_,_⟩,hβ⟩:=hβ));(try (have hbis:=ag OB hβ;obtain ⟨_,_⟩:=hbis)))|((refine aH (CM (σ0:=σ0) (r:=r) (k:=1) ?_ hw1) (aa _) (fun a1 ho1=>?_) (fun e ho1=>?_);(focus ((repeat' (first|assumption|(refine Cu.to (k:=1) ?_)|(refine Cu.new ?_ PN)));done))))|((refine aH (CL (σ0:=σ0) (r:=r) (k:=2) ?_ hw2) (aa _) (fun a2 ho2=>?_) (fun e ho2=>?_);(focus ((repeat' (first|assumption|(refine Cu.to (k:=1) ?_)|(refine Cu.new ?_ (by first|assumption|(simp only [RR,seval];done)))));done))))|((refine aH (CL (σ0:=σ0) (r:=r) (k:=3) ?_ hw3) (aa _) (fun a3 ho3=>?_) (fun e ho3=>?_);(focus ((repeat' (first|assumption|(refine Cu.to (k:=1) ?_)|(refine Cu.new ?_ PN)));done))))|((refine cq (fun hc=>?_) (fun hc=>?_)))|((refine bh (σ0:=σ0) OK OC ?_)))<;>(try simp only [↓R1,RR,seval,RX,hln,h0p,hcur])))
 ·simp [cur]
 ·have h8:p.cls.length=8:=by simp only [beq_iff_eq] at hc;omega
  exact ax (by rw [fv,aE _ ho1,aE _ ho2,aE _ ho3,if_pos h8]) (St.an _)
 ·have h8:p.cls.length≠8:=by
   intro h
   simp only [beq_eq_false_iff_ne] at hc
   exact hc PC
  have hcl:=j6 p.cls
  refine bz (.inr rfl) rfl ?_ ?_ ?_ ?_ ?_ ?_
  ·simp only [ht,RR,seval]
  ·omega
  ·rfl
  ·unfold maxLen;omega
  ·omega
  have hq:fv w1 w2 w3 (r.a:Nat) p= .ok { p with cls:=p.cls++ [⟨a1,a2,a3⟩] }:=by simp only [fv,aE _ ho1,aE _ ho2,aE _ ho3,if_neg h8]
  have hm:=F0 (p:=p) κ υ ⟨a1,a2,a3⟩
  simp only [fw ho2,fw ho3,↓R1,RR,seval,RX,hln]
  simp only at hm
  rw [hm]
  refine bF hq ?_ ?_
  ·simp only [ar,RR,seval]
   exact ae _
  ·simp only [List.length_append,List.length_singleton]
   (repeat' (first|assumption|exact St.an _|(refine St.dw ?_)|(refine St.eh ?_ OI)|(refine St.eC ?_ ?_)|(refine St.c7 ?_ Pf)|exact wkL.nil|exact aa _|(refine wkL.cons ?_ ?_)|exact ae _|exact dc|exact dD _ _ _|exact cQ _ _))
 ·exact ax (by simp only [fv,aE _ ho1,aE _ ho2,dz _ ho3]) (St.an _)
 ·exact ax (by simp only [fv,aE _ ho1,dz _ ho2]) (St.an _)
 ·exact ax (by simp only [fv,dz _ ho1]) (St.an _)
end Go.Proofs.YtgephffbfiemeaaGreatDoor
