/- Part 29 of the proof of ScriptBoths: an abstract semantics that is proved sound for the model, contracts of functions in it, and plain facts (X1 X2 X3 X4 X13 X14 X15 X5 X6 X7a X7 X8 X9 X11 X12 X16 X17 X18 X19). No condition. -/
import Derived.Test.YtgephffbfiemeaaGreatDoorKScriptBoths28
import Derived.Defers
import Derived.Recover
import Derived.LoopTactic
import Derived.BigCall
set_option linter.all false
namespace Go.Proofs.YtgephffbfiemeaaGreatDoor
open Go.Abs Go.Lib
set_option linter.all false
set_option maxRecDepth 100000
abbrev TS:Nat:=137
def oQ (e a:Int):Except Ft Unit:=if e=0 then .ok () else .error (e,a)
theorem w44 (e a:Int) (w:World) :
  Calls Tryz.prog 44 #[.int .i64 e, .int .i64 a] w fun r w'=>w'=w∧((e=0∧r= .returned (.tuple #[]))∨(e≠0∧r= .panicked [{ v:= .iface TS (.agg #[.int .i64 e, .int .i64 a]),recovered:=false }])):=by
 go_enter Tryz.func44,Tryz.ntmps44
 go_wp2
 ·exact ⟨rfl,rfl, .inr ⟨by simpa using ‹(e != 0)=true›,rfl⟩⟩
 ·simp [bodyPost,results,Tryz.results44]
  simpa using ‹(e != 0)=false›
theorem x44 (e a:Int) (σ σ0:St) (hl:St.lw σ0 σ):AX Tryz.prog 44 [.int .i64 e, .int .i64 a] σ (oX TS (oQ e a) (fun _=> .tup []) (fun _=>σ) σ0):=by
 intro g w vs hI hv
 refine .inl ⟨Go.Proofs.enters_of Tryz.func44 MY rfl _ _,?_⟩
 obtain ⟨v1,vs,rfl,r1,hv⟩:=hv.cons_inv
 obtain ⟨v2,vs,rfl,r2,hv⟩:=hv.cons_inv
 rw [hv.cC,r1.bz,r2.bz]
 refine (w44 e a w).mono ?_
 rintro r w' ⟨rfl,⟨h,rfl⟩|⟨h,rfl⟩⟩
 ·exact ⟨_, .tup [],σ,g, .inl ⟨rfl,(),by simp [oQ,h],rfl,rfl⟩,hI, .refl g _, .eB .nil⟩
 ·exact ⟨_,k8 TS (e,a),σ0,g, .inr ⟨rfl,(e,a),by simp [oQ,h],rfl,rfl⟩,hI.lw hl, .refl g _, .ifc _ _ _ (.fP ⟨.cons (.int _ _) (.cons (.int _ _) .nil),by simp [Value.oneCell']⟩)⟩
theorem qh {g:Gh} {σ:St} {w:World} {fr:Fr} {a:Act} {N id:Nat} {ops:Array Oper} {l:List CI} {K:Fr→St→Prop} {Q:Exit→Act→World→Prop} (hl:cM Tryz.prog N ops ops.toList l=true) (hS:Sim g σ w fr a N) (h:cK Tryz.prog l fr σ K)
  (hQ:∀ fr' σ' g' w' a',K fr' σ'→Sim g' σ' w' fr' a' N→Ext g w g' w'→a'.defers=a.defers→Q .normal a' w'):(Code.region id ops false).wp Tryz.prog Q a w :=
 (wpIn_wide (n:=0)).1 (wpIn_region_list (gC ops (rn:=none) ops.toList l g σ w fr a K hl hS h hQ))
theorem sC {g:Gh} {σ:St} {w:World} {fr:Fr} {a:Act} {N t:Nat} {b:Bool} (hS:Sim g σ w fr a N) (h:slot t fr= .bool b):a.eval (.tmp t)= .bool b:=by
 have:=hS.rel t
 rw [h] at this
 exact this.dj
def z2:List AV:= [.int .i64 0, .int .i64 0]
theorem Ix {g:Gh} {σ:St} {w:World} {β b:Nat} (hI:Inv g σ w) (hβ:σ.box β=some z2) (hg:g.box β=some b) (e a:Int) :
    CallsD Tryz.prog 86 #[.pointer (some ⟨b,0,none⟩)] (.panicking [{ v:= .iface TS (.agg #[.int .i64 e, .int .i64 a]),recovered:=false }]) w fun r u' w' =>
      r= .returned (.tuple #[])∧u'= .panicking [{ v:= .iface TS (.agg #[.int .i64 e, .int .i64 a]),recovered:=true }]∧∃ g',Inv g' (σ.aa β [.int .i64 e, .int .i64 a]) w'∧Ext g w g' w':=by
  refine callsD_of_wpS Tryz.func86 rfl fun c₀ cs hu=>?_
  apply wpS_seq
  apply wpS_region
  simp [wpOpsS,go_sem,recoverD,hu,Tryz.ntmps86,Exit.thenS]
  refine wpS_of_wp ?_
  have hS:Sim g σ w [(0, .ptr β 0),(1, .ifc TS (.agg [.int .i64 e, .int .i64 a]))] { tmps:= #[Value.pointer (some { block:=b,off:=0 })]++((Array.replicate 16 undef).setIfInBounds 3 (Value.iface TS (Value.agg #[Value.int IntKind.i64 e,Value.int IntKind.i64 a]))).setIfInBounds 0 (Value.iface TS (Value.agg #[Value.int IntKind.i64 e,Value.int IntKind.i64 a])),defers:= [] } 17:=by
    refine ⟨hI,fun t=>?_,by simp, .nil⟩
    rw [Array.getD_eq_getD_getElem?]
    cases t with
    | zero=>simp only [slot,if_true];rw [Array.getElem?_append_left M1];exact .ptr _ _ _ hg
    | succ t =>
      rw [Array.getElem?_append_right M1]
      cases t with
      | zero =>
        simp only [slot]
        rw [Array.getElem?_setIfInBounds]
        simp
        exact .ifc _ _ _ (.fP ⟨.cons (.int _ _) (.cons (.int _ _) .nil),by simp [Value.oneCell']⟩)
      | succ t=>simp only [slot];rw [if_neg MX,if_neg MX];exact .junk _
  refine wp_seq (qh (l:= [⟨some 5, .mv (.t 1),none⟩,⟨some 6, .isnil 3 true (.t 5),none⟩]) (K:=fun f s=>slot 0 f= .ptr β 0∧slot 1 f= .ifc TS (.agg [.int .i64 e, .int .i64 a])∧slot 6 f= .bool true∧s=σ) MY hS ?_ ?_)
  · simp only [↓R1,RR,seval]
    intro b hb
    subst hb
    rfl
  rintro f1 s1 g1 w1 a1 ⟨h0,h1,h6,hs⟩ hS1 hE1 hd1
  rw [hs] at hS1
  simp only [Exit.then]
  refine wp_cond_true (sC hS1 h6) ?_
  refine wp_seq (qh (l:= [⟨some 8, .mv (.t 1),none⟩,⟨some 9, .asT [137] [] false (.agg [.int .i64 0, .int .i64 0]) (.t 8),none⟩,⟨some 7, .mv (.t 9),none⟩,⟨some 10, .ext (.t 7) 0,none⟩,⟨some 11, .ext (.t 7) 1,none⟩,⟨some 2, .alloc [.int .i64 0, .int .i64 0],none⟩,⟨none, .st 2 (.t 2) (.t 10),none⟩,⟨some 3, .mv (.t 11),none⟩])
    (K:=fun f s=>∃ γ,σ.box γ=none∧slot 0 f= .ptr β 0∧slot 2 f= .ptr γ 0∧slot 3 f= .bool true∧s=σ.aa γ [.int .i64 e, .int .i64 a]) MY hS1 ?_ ?_)
  · simp only [h0,h1,↓R1,RR,seval]
    rw [ai]
    intro γ hγ
    simp only [h0,↓R1,RR,seval]
    exact ⟨γ,hγ,by simp⟩
  rintro f2 s2 g2 w2 a2 ⟨γ,hγ,h0,h2,h3,hs2⟩ hS2 hE2 hd2
  rw [hs2] at hS2
  have hne:β≠γ:=fun e=>by rw [e,hγ] at hβ;cases hβ
  simp only [Exit.then]
  refine wp_seq (wp_seq (qh (l:= [⟨some 12, .mv (.t 3),none⟩,⟨some 13, .un .not (.t 12),none⟩]) (K:=fun f s=>slot 0 f= .ptr β 0∧slot 2 f= .ptr γ 0∧slot 13 f= .bool false∧s=σ.aa γ [.int .i64 e, .int .i64 a]) MY hS2 ?_ ?_))
  · simp only [h0,h2,h3,↓R1,RR,seval]
  rintro f3 s3 g3 w3 a3 ⟨h0,h2,h13,hs3⟩ hS3 hE3 hd3
  rw [hs3] at hS3
  simp only [Exit.then]
  refine wp_cond_false (sC hS3 h13) (wp_skip ?_)
  simp only [Exit.then]
  refine qh (l:= [⟨some 15, .fldA 0 (.t 2),none⟩,⟨some 16, .ld (some 2) (.t 15),none⟩,⟨none, .st 2 (.t 0) (.t 16),none⟩]) (K:=fun _ s=>s=(σ.aa γ [.int .i64 e, .int .i64 a]).aa β [.int .i64 e, .int .i64 a]) MY hS3 ?_ ?_
  · have hb2:(σ.aa γ [.int .i64 e, .int .i64 a]).box β=some z2:=by simp [St.aa,upd,hne,hβ]
    simp only [h0,h2,↓R1,RR,seval]
    rw [hb2]
    simp only [z2,↓R1,RR,seval]
  rintro f4 s4 g4 w4 a4 hs4 hS4 hE4 hd4
  rw [hs4] at hS4
  refine ⟨by rw [hd4,hd3,hd2,hd1],_,rfl, .tuple #[],by simp [results,Tryz.results86],rfl,rfl,g4,hS4.inv.le ?_,hE1.trans (hE2.trans (hE3.trans hE4))⟩
  rw [St.set_comm _ hne.symm]
  exact St.aO (St.le_refl _) (by simp [St.aa,upd,hne.symm,hγ])
theorem Iy (b:Nat) (w:World) :
  CallsD Tryz.prog 86 #[.pointer (some ⟨b,0,none⟩)] .returning w fun e u' w'=>e= .returned (.tuple #[])∧u'= .returning∧w'=w:=by
 refine callsD_of_wpS Tryz.func86 rfl fun c₀ cs hu=>?_
 apply wpS_seq
 apply wpS_region
 simp [wpOpsS,go_sem,recoverD,hu,Tryz.ntmps86,Exit.thenS]
 apply wpS_seq
 apply wpS_region
 simp [wpOpsS,go_sem,Exit.thenS]
 refine wpS_cond (t:=false) (by simp [Act.eval,Array.replicate]) ?_
 simp only [Bool.false_eq_true,if_false]
 refine wpS_of_wp (wp_skip ?_)
 cases c₀
 simp_all [bodyPostS,results,Tryz.results86]
theorem Cm {g:Gh} {w:World} {a b:Int} {us:List Value} (h:RelC g w [.int .i64 a, .int .i64 b] us):us= [.int .i64 a, .int .i64 b]:=by
 obtain ⟨v1,vs,rfl,r1,h2⟩:=h.1.cons_inv
 obtain ⟨v2,vs,rfl,r2,h3⟩:=h2.cons_inv
 rw [h3.cC,r1.bz,r2.bz]
theorem ka {w:World} {b o:Nat} {vs:Array Value} {T:TypeId} {q:Nat × Nat} {v:Value} (hb:w.heap[b]? =some (.cells vs T q)) (hv:vs[o]? =some v):w.setCell ⟨b,o,none⟩ v=w:=by
 have hlt:=(Array.getElem?_eq_some_iff.1 hb).1
 have hbe:=(Array.getElem?_eq_some_iff.1 hb).2
 have hm:∀ f:Obj→Obj,f (.cells vs T q)= .cells vs T q→w.heap.modify b f=w.heap:=by
  intro f hf
  apply Array.ext_getElem?
  intro i
  rw [Array.getElem?_modify]
  split
  ·rename_i e;subst e;rw [hb,Option.map_some,hf]
  ·rfl
 simp only [World.setCell]
 rw [hm]
 obtain ⟨h1,h2⟩:=Array.getElem?_eq_some_iff.1 hv
 simp only [Option.isSome_none,Bool.false_eq_true,if_false,Obj.cells.injEq,and_true]
 apply Array.ext_getElem?
 intro i
 rw [Array.getElem?_setIfInBounds]
 split
 ·rename_i e;subst e;rw [hv]
 ·rfl
def qi (f:Ft):AV:= .agg [.int .i64 f.1, .int .i64 f.2]
theorem _root_.Oh {p:Prop} (h:p:=by simp [World.cell?,k2]):p:=h
theorem a40 {α:Type} {fc:Nat} {cap:List AV} {σ:St} {o:Except Ft α} {s1:α→St} {s0:St} (hent:∀ xs w,(callFunc fc xs).run Tryz.prog w= .ok (.enter fc xs) w)
  (h:∀ β,σ.box β=none→AX Tryz.prog fc cap (σ.aa β z2) (oX TS o (fun _=> .tup []) (fun a=>(s1 a).aa β z2) (s0.aa β z2)))
  (h1:∀ β a,σ.box β=none→(s1 a).box β=none) (h0:∀ β,σ.box β=none→s0.box β=none) :
  AC Tryz.prog 40 [.fn fc cap] σ (fun r s=>(∃ a,o= .ok a∧r=qi (0,0)∧s=s1 a)∨∃ f,o= .error f∧r=qi f∧s=s0):=by
 intro g w vs hI hv
 refine .inl ⟨Go.Proofs.enters_of Tryz.func40 MY rfl _ _,?_⟩
 obtain ⟨v1,vs2,rfl,r1,hv2⟩:=hv.cons_inv
 have hvn:=hv2.cC
 subst hvn
 obtain ⟨us,rfl,hu⟩:=r1.ma
 have hnb:=dT hI
 have hI1:=hI.br (cs:=z2) (vs:= #[.int .i64 0, .int .i64 0]) (T:=26) ⟨.cons (.int _ _) (.cons (.int _ _) .nil),by simp [Value.oneCell']⟩
 have hE1:=Ext.br hI (.cells #[.int .i64 0, .int .i64 0] 26)
 have hbox:(g.br w).box g.nb=some w.heap.size:=N3
 have hmf:∀ (fn:Fn) (first cap:Array Value) (w:World),(Instr.makeFunc fn first cap).run Tryz.prog w= .ok (.func fn first cap) w:=fun _ _ _ _=>rfl
 have hent1:=hent us.toArray (w.alloc (.cells #[.int .i64 0, .int .i64 0] 26))
 have hc:Calls Tryz.prog fc us.toArray (w.alloc (.cells #[.int .i64 0, .int .i64 0] 26)) (CPX (g.br w) (w.alloc (.cells #[.int .i64 0, .int .i64 0] 26)) (oX TS o (fun _=> .tup []) (fun a=>(s1 a).aa g.nb z2) (s0.aa g.nb z2))):=by
  rcases h g.nb hnb (g.br w) _ us hI1 (hu.mono hE1) with ⟨_,h2⟩|⟨v,w',h2,_⟩
  ·exact h2
  ·rw [hent] at h2;cases h2
 go_enter_defers Tryz.func40,Tryz.ntmps40
 go_wp2
 refine hc.mono ?_
 rintro e w' ⟨v,r,σ',g',(⟨rfl,a,ho,rfl,rfl⟩|⟨rfl,f,ho,rfl,rfl⟩),hI',hE',hr⟩
 ·have hbx:(St.aa (s1 a) g.nb z2).box g.nb=some z2:=St.bN _ _ _
  obtain ⟨b,vs,T,k1,k2,k3⟩:=hI'.box _ _ hbx
  rw [hE'.box _ _ hbox] at k1
  cases k1
  have hvs:vs= #[.int .i64 0, .int .i64 0]:=by rw [←Array.toList_inj];exact Cm k3
  subst hvs
  have hc0:w'.cell? ⟨w.heap.size,0,none⟩=some (.int .i64 0):=Oh
  have hc1:w'.cell? ⟨w.heap.size,1,none⟩=some (.int .i64 0):=Oh
  have hf0:w'.frozen? ⟨w.heap.size,0,none⟩=false:=by simp [World.frozen?,k2]
  have hs0:w'.setCell ⟨w.heap.size,0,none⟩ (.int .i64 0)=w':=ka k2 M1
  have hs1:w'.setCell ⟨w.heap.size,1,none⟩ (.int .i64 0)=w':=ka k2 M1
  have hf1:w'.frozen? ⟨w.heap.size,1,none⟩=false:=by simp [World.frozen?,k2]
  simp only
  rename_i hk1 _ hk2
  refine hk2 _ _ ?_
  unfold wpList
  simp only [Exit.then]
  refine hk1 _ _ ?_
  go_wp2
  show Leaves _ _ _ _ _ _ _
  refine leaves_cons (f:=86) (args:= #[.pointer (some ⟨w.heap.size,0,none⟩)]) M1 (by simp [go_sem]) ?_
  refine (Iy _ _).mono ?_
  rintro e u' w'' ⟨rfl,rfl,rfl⟩
  simp [Leaves,settle,results,Tryz.results40,go_sem,hc0,hc1]
  exact ⟨_,qi (0,0),s1 a,g',rfl,(by first|exact .inl ⟨a,ho,rfl,rfl⟩|exact ⟨rfl,rfl⟩|simp [ho]),hI'.le (St.aO (St.le_refl _) (h1 _ a hnb)),hE1.trans hE', .fP ⟨.cons (.int _ _) (.cons (.int _ _) .nil),by simp [Value.oneCell']⟩⟩
 ·obtain ⟨u,rfl,hu2⟩:=hr.o6
  obtain ⟨us2,rfl,hu3⟩:=hu2.fi
  have hus:=Cm hu3
  subst hus
  have hbx:(St.aa s0 g.nb z2).box g.nb=some z2:=St.bN _ _ _
  show Leaves _ _ _ _ _ _ _
  refine leaves_cons (f:=86) (args:= #[.pointer (some ⟨w.heap.size,0,none⟩)]) M1 (by simp [go_sem]) ?_
  refine (Ix hI' hbx (hE'.box _ _ hbox) f.1 f.2).mono ?_
  rintro e u' w'' ⟨rfl,rfl,g2,hI2,hE2⟩
  rw [St.set_set] at hI2
  have hbx2:(St.aa s0 g.nb [.int .i64 f.1, .int .i64 f.2]).box g.nb=some [.int .i64 f.1, .int .i64 f.2]:=St.bN _ _ _
  obtain ⟨b,vs,T,k1,k2,k3⟩:=hI2.box _ _ hbx2
  rw [hE2.box _ _ (hE'.box _ _ hbox)] at k1
  cases k1
  have hvs:vs= #[.int .i64 f.1, .int .i64 f.2]:=by rw [←Array.toList_inj];exact Cm k3
  subst hvs
  have hc0:w''.cell? ⟨w.heap.size,0,none⟩=some (.int .i64 f.1):=Oh
  have hc1:w''.cell? ⟨w.heap.size,1,none⟩=some (.int .i64 f.2):=Oh
  simp [Leaves,settle,results,Tryz.results40,go_sem,hc0,hc1]
  exact ⟨_,qi f,s0,g2,rfl, .inr ⟨f.1,f.2,ho,rfl,rfl⟩,hI2.le (St.aO (St.le_refl _) (h0 _ hnb)),hE1.trans (hE'.trans hE2), .fP ⟨.cons (.int _ _) (.cons (.int _ _) .nil),by simp [Value.oneCell']⟩⟩
def cur (r:Rw) (k:Nat):List AV:= [.int .i64 (r.a:Nat), .sl false r.ws.length (r.ws.flatMap cWd), .int .i64 (k:Nat)]
theorem vO (l:List Wd):(l.flatMap cWd).length=l.length*3:=by
 induction l with
 | nil=>rfl
 | cons w l ih=>simp only [List.flatMap_cons,List.length_append,List.length_cons,ih];simp only [cWd,List.length_cons,List.length_nil];omega
theorem Cn {l:List Wd} {k:Nat} {w:Wd} (h:l[k]? =some w):((l.flatMap cWd).drop (k*3)).take 3=cWd w:=by
  induction l generalizing k with
  | nil=>simp at h
  | cons x l ih =>
    cases k with
    | zero=>simp at h;subst h;simp [cWd]
    | succ k =>
      simp only [List.getElem?_cons_succ] at h
      have:=ih h
      rw [List.flatMap_cons,show (k+1)*3=(cWd x).length+k*3 by simp [cWd];omega,List.drop_append,List.drop_eq_nil_of_le MX,List.nil_append,Nat.add_sub_cancel_left]
      exact this
set_option maxHeartbeats 2000000 in
theorem a182 {σ:St} {β k:Nat} {rw_:Rw} {w:Wd} (hb:σ.box β=some (cur rw_ k)) (hw:rw_.ws[k]? =some w) (hl:rw_.ws.length≤20000):AC Tryz.prog 182 [.ptr β 0] σ (fun r s=>r= .agg (cWd w)∧s=σ.aa β (cur rw_ (k+1))):=by
 have hlt:=(List.getElem?_eq_some_iff.1 hw).1
 haveI:BoxIs σ β [.int .i64 (rw_.a:Nat), .sl false rw_.ws.length (rw_.ws.flatMap cWd), .int .i64 (k:Nat)]:=⟨hb⟩
 have he1:IntKind.i64.wrap ((k:Int)+1)=((k+1:Nat):Int):=MZ
 have he2:IntKind.i64.wrap (((k+1:Nat):Int) - 1)=(k:Nat):=MZ
 have he3:=Cn hw
 have hln:=vO rw_.ws
 have hc3:(cWd w).length=3:=rfl
 have hc4:(cWd w).take 3=cWd w:=rfl
 (refine Bf H0 L1 ?_;simp only [H0,↓R1,RR,seval,he1,he2,he3,cur,hc3,hc4])
 repeat' (first|(with_reducible rw [ai])|(with_reducible refine And.intro ?_ ?_;exact af)|((with_reducible intro β hβ;(try simp only [RB] at hβ);(repeat (obtain ⟨⟨_,_⟩,hβ⟩:=hβ));(try (have hbis:=ah M0 hβ;obtain ⟨_,_⟩:=hbis)))<;>(try simp only [↓R1,RR,seval,he1,he2,he3,cur,hc3,hc4])))
 all_goals (try omega)
 all_goals (try (simp only [hc4];omega))
 all_goals (try (simp [hc3];done))
 (refine KP ?_ ?_ (by first|(simp [ax,rvS];done)|(simp only [ax,rvS,↓R1,RR,seval,he1,he2,he3,cur,hc3,hc4];try simp)))
 ·simp only [aq,↓R1,RR,seval,he1,he2,he3,cur,hc3,hc4]
  simp only [cWd]
  exact ae _
 ·(repeat' (first|exact St.bO _|(refine St.lw_setT ?_)|(refine St.vq ?_ (by first|assumption|(simp only [St.bI,St.jn];assumption)))|(refine St.kz ?_ ?_)|(refine St.ig ?_ (by first|assumption|(simp only [St.cv,St.bJ];assumption)))|exact wkL.nil|exact ad _|(refine wkL.cons ?_ ?_)|exact ae _|exact pk|exact kr _ _ _|exact fl _ _))
def iA {α:Type} (w:Wd) (x:α) (e:Int):Except Ft α:=if w.q=true then .error (3,w.a) else if e=0 then .ok x else .error (e,w.a)
theorem E3 {α:Type} {w:Wd} {x:α} {e:Int} (h:w.q=true):iA w x e= .error (3,(w.a:Int)):=by simp [iA,h]
theorem E4 {α:Type} {w:Wd} {x:α} {e:Int} (h:w.q=false) (he:e≠0):iA w x e= .error (e,(w.a:Int)):=by simp [iA,h,he]
theorem Co {α:Type} {w:Wd} {x:α} {e:Int} (h:w.q=false) (he:e=0):iA w x e= .ok x:=by simp [iA,h,he]
theorem qj {σ0 σ:St} {β:Nat} (h:St.lw σ0 σ) (hn:σ.box β=none):σ0.box β=none:=by
 cases hb:σ0.box β with
 | none=>rfl
 | some c=>obtain ⟨c',h1,_⟩:=h.1 β c hb;rw [hn] at h1;cases h1
theorem Cp {σ0 σ:St} {τ:Nat} (h:St.lw σ0 σ) (hn:σ.tip τ=none):σ0.tip τ=none:=by
 cases hb:σ0.tip τ with
 | none=>rfl
 | some c=>rw [h.2.1 τ c hb] at hn;cases hn
theorem dN {p:Prop} (h:p:=by repeat' (first|assumption|exact St.bO _|(refine St.lw_setT ?_)|(refine St.vq ?_ (by first|assumption|exact Cp M0 M0|(simp only [St.bI,St.jn];assumption)))|(refine St.kz ?_ ?_)|(refine St.ig ?_ (by first|assumption|exact qj M0 M0|(simp only [St.cv,St.bJ];assumption)))|exact wkL.nil|exact ad _|(refine wkL.cons ?_ ?_)|exact ae _|exact pk|exact kr _ _ _|exact fl _ _)):p:=h
theorem eK {σ0 s:St} {e a:Int} {d:Option Nat} {l:List XI} {fr:Fr} {Q:Exit→Fr→St→Prop} {h:Hold (s,l,fr,Q)} (he:e≠0) (hl:St.lw σ0 s) (hq:Q (.panic []) [(0,k8 TS (e,a))] σ0):rI Tryz.prog 44 [.int .i64 e, .int .i64 a] s d l fr Q h :=
 eP (x44 e a s σ0 hl) (ad _) (fun _ ho=>by rw [oQ,if_neg he] at ho;cases ho) (fun f ho=>by rw [oQ,if_neg he] at ho;cases ho;exact hq)
theorem nh {s:St} {e a:Int} {d:Option Nat} {l:List XI} {fr:Fr} {Q:Exit→Fr→St→Prop} {h:Hold (s,l,fr,Q)} (he:e=0) (hq:cN Tryz.prog l (putF d (.tup []) fr) s Q):rI Tryz.prog 44 [.int .i64 e, .int .i64 a] s d l fr Q h :=
 eP (x44 e a s s (St.bO _)) (ad _) (fun _ ho=>hq) (fun f ho=>by rw [oQ,if_pos he] at ho;cases ho)
theorem _root_.Ob {p:Prop} (h:p:=by simp only [↓R1,RR,seval,hq,cWd,RX]):p:=h
set_option maxHeartbeats 2000000 in
theorem MN {f:Nat} {cap:List AV} {σ σ0:St} {β k:Nat} {rw_:Rw} {w:Wd} {x:Int} {e:Int} (hb:σ.box β=some (cur rw_ k)) (hw:rw_.ws[k]? =some w) (hl:rw_.ws.length≤20000) (h0:σ0.box β=none) (hlw:St.lw σ0 σ)
    (hr:∀ s:St,s.glob=σ.glob→AC Tryz.prog f (.agg (cWd w)::cap) s (fun r s'=>r= .tup [.int .i64 x, .int .i64 e]∧s'=s)) :
    AX Tryz.prog 205 [.ptr β 0, .fn f cap] σ (oX TS (iA w x e) (fun v=> .int .i64 v) (fun _=>σ.aa β (cur rw_ (k+1))) σ0):=by
  have hlt:=(List.getElem?_eq_some_iff.1 hw).1
  haveI:BoxIs σ β (cur rw_ k):=⟨hb⟩
  have hr':∀ s:St,s.glob=σ.glob→AC Tryz.prog f (.agg [.bool w.q, .str w.t, .int .i64 (w.a:Nat)]::cap) s (fun r s'=>r= .tup [.int .i64 x, .int .i64 e]∧s'=s):=hr
  cases hq:w.q with
  | true =>
    have ho:=E3 (x:=x) (e:=e) hq
    (refine cV ui H2 ?_;simp only [ui,↓R1,RR,seval,hq,cWd,RX])
    repeat' (first|(with_reducible rw [ai])|((first|(with_reducible intro β hβ;(try simp only [RB] at hβ);(repeat (obtain ⟨⟨_,_⟩,hβ⟩:=hβ));(try (have hbis:=ah M0 hβ;obtain ⟨_,_⟩:=hbis)))|((refine AC.mono (AC.wk (a182 (k:=k) (rw_:=rw_) (w:=w) Ob hw hl) (ad _)) ?_;(rintro _ _ ⟨rfl,rfl⟩)))|((refine eK (σ0:=σ0) Na (by exact dN) ?_)))<;>(try simp only [↓R1,RR,seval,hq,cWd,RX])))
    exact cQ ho (St.bO _)
  | false =>
    rw [hq] at hr'
    by_cases he:e=0
    · have ho:=Co (x:=x) hq he
      (refine cV ui H2 ?_;simp only [ui,↓R1,RR,seval,hq,cWd,RX])
      repeat' (first|(with_reducible rw [ai])|((first|(with_reducible intro β hβ;(try simp only [RB] at hβ);(repeat (obtain ⟨⟨_,_⟩,hβ⟩:=hβ));(try (have hbis:=ah M0 hβ;obtain ⟨_,_⟩:=hbis)))|((refine AC.mono (AC.wk (a182 (k:=k) (rw_:=rw_) (w:=w) Ob hw hl) (ad _)) ?_;(rintro _ _ ⟨rfl,rfl⟩)))|((refine AC.mono (AC.wk (hr' _ rfl) (ad _)) ?_;(rintro _ _ ⟨rfl,rfl⟩)))|((refine nh he ?_)))<;>(try simp only [↓R1,RR,seval,hq,cWd,RX])))
      (refine ij M0 ?_ ?_)
      · simp only [aq,↓R1,RR,seval,hq,cWd,RX]
        exact ae _
      · exact dN
    · have ho:=E4 (x:=x) hq he
      (refine cV ui H2 ?_;simp only [ui,↓R1,RR,seval,hq,cWd,RX])
      repeat' (first|(with_reducible rw [ai])|((first|(with_reducible intro β hβ;(try simp only [RB] at hβ);(repeat (obtain ⟨⟨_,_⟩,hβ⟩:=hβ));(try (have hbis:=ah M0 hβ;obtain ⟨_,_⟩:=hbis)))|((refine AC.mono (AC.wk (a182 (k:=k) (rw_:=rw_) (w:=w) Ob hw hl) (ad _)) ?_;(rintro _ _ ⟨rfl,rfl⟩)))|((refine AC.mono (AC.wk (hr' _ rfl) (ad _)) ?_;(rintro _ _ ⟨rfl,rfl⟩)))|((refine eK (σ0:=σ0) he (by exact dN) ?_)))<;>(try simp only [↓R1,RR,seval,hq,cWd,RX])))
      exact cQ ho (St.bO _)
def sD (q:Bool) (t:List UInt8):Int × Int :=
 bif (q|| !oN (eA t))||(ix t&&decide (dQ (eA t)=0)) then (0,3)
 else bif (decide (18446744073709551616≤dQ (eA t))||decide (9223372036854775808<dQ (eA t)))||(decide (dQ (eA t)=9223372036854775808)&& !ix t) then (0,2)
 else ((bif ix t then -((dQ (eA t):Nat):Int) else ((dQ (eA t):Nat):Int)),0)
theorem Cq (q:Bool) (t:List UInt8):oO q t= .tup [.int .i64 (sD q t).1, .int .i64 (sD q t).2]:=by
 unfold oO sD
 cases ((q|| !oN (eA t))||(ix t&&decide (dQ (eA t)=0)))<;>simp only [cond_true,cond_false]
 cases ((decide (18446744073709551616≤dQ (eA t))||decide (9223372036854775808<dQ (eA t)))||(decide (dQ (eA t)=9223372036854775808)&& !ix t))<;>rfl
def MO (s:List UInt8):Int × Int:=bif Ka s then (((pG (hS s 35)).l.toNat:Nat),(J9 (tS s 35):Nat)) else (0,0)
def df (w:Wd):Except Ft Int:=iA w (sD w.q w.t).1 (sD w.q w.t).2
def Cr (w:Wd):Except Ft Int:=iA w (((pG w.t).l.toNat:Nat):Int) ((pG w.t).err:Nat)
def Kr (w:Wd):Except Ft Int:=iA w (Kd w.t) (Ke w.t)
def MP (w:Wd):Except Ft (Int × Int):=iA w (MO w.t) (Mj w.t)
def FI (w:Wd):Except Ft (List UInt8):=if 1000<w.t.length then .error (4,w.a) else .ok w.t
structure Cu (σ0 σ:St) (β:Nat) (r:Rw) (k:Nat):Prop where
 hb:σ.box β=some (cur r k)
 h0:σ0.box β=none
 lw:St.lw σ0 σ
 n:r.ws.length≤20000
 t:∀ w∈r.ws,w.t.length≤1000000
theorem Cu.to {σ0 σ:St} {β k j:Nat} {r:Rw} (h:Cu σ0 σ β r k):Cu σ0 (σ.aa β (cur r j)) β r j:=⟨St.bN _ _ _,h.h0,St.ig h.lw h.h0,h.n,h.t⟩
theorem Cu.new {σ0 σ:St} {β γ k:Nat} {r:Rw} {c:List AV} (h:Cu σ0 σ β r k) (hn:σ.box γ=none):Cu σ0 (σ.aa γ c) β r k:=by
 have hne:β≠γ:=fun e=>by have:=h.hb;rw [e,hn] at this;cases this
 exact ⟨by simp [St.aa,upd,hne,h.hb],h.h0,St.ig h.lw (qj h.lw hn),h.n,h.t⟩
theorem Cu.len {σ0 σ:St} {β k:Nat} {r:Rw} {w:Wd} (h:Cu σ0 σ β r k) (hw:r.ws[k]? =some w):w.t.length≤1000000:=h.t w (List.mem_of_getElem? hw)
theorem _root_.NH {p:Prop} (h:p:=by (repeat' (first|assumption|(refine Cu.to (k:=1) ?_)|(refine Cu.new ?_ (by first|assumption|(simp only [↓R1,RR,seval,RX];done)))))):p:=h
theorem Ks {σ σ0:St} {β k:Nat} {r:Rw} {w:Wd} (h:Cu σ0 σ β r k) (hw:r.ws[k]? =some w):AX Tryz.prog 153 [.ptr β 0] σ (oX TS (df w) (fun v=> .int .i64 v) (fun _=>σ.aa β (cur r (k+1))) σ0):=by
 haveI:BoxIs σ β (cur r k):=⟨h.hb⟩
 have ht:∀ z,Cu σ0 z β r k→z.glob=σ.glob→AX Tryz.prog 205 [.ptr β 0, .fn 206 []] z (oX TS (df w) (fun v=> .int .i64 v) (fun _=>z.aa β (cur r (k+1))) σ0):=fun z hz hgz=>MN hz.hb hw hz.n hz.h0 hz.lw (fun s _=>(by have:=MJ w.q w.t (w.a:Nat) (h.len hw) s;rw [Cq] at this;exact this))
 (refine cV HS LS ?_;simp only [HS,↓R1,RR,seval,RX])
 repeat' (((refine eP (ht _ NH rfl) (ad _) (fun a ho=>?_) (fun e ho=>?_)))<;>(try simp only [↓R1,RR,seval,RX]))
 all_goals first|exact cQ ho (St.bO _)|(refine ij ho ?_ ?_;(focus (simp only [aq,↓R1,RR,seval,RX];exact ae _));exact dN)
theorem MQ {σ σ0:St} {β k:Nat} {r:Rw} {w:Wd} (h:Cu σ0 σ β r k) (hw:r.ws[k]? =some w):AX Tryz.prog 150 [.ptr β 0] σ (oX TS (df w) (fun v=> .int .i64 v) (fun _=>σ.aa β (cur r (k+1))) σ0):=by
 haveI:BoxIs σ β (cur r k):=⟨h.hb⟩
 (refine cV HR LR ?_;simp only [HR,↓R1,RR,seval,RX])
 repeat' (((refine eP (Ks (σ0:=σ0) (r:=r) (k:=k) NH hw) (ad _) (fun a ho=>?_) (fun e ho=>?_)))<;>(try simp only [↓R1,RR,seval,RX]))
 all_goals first|exact cQ ho (St.bO _)|(refine ij ho ?_ ?_;(focus (simp only [aq,↓R1,RR,seval,RX];exact ae _));exact dN)
def dZ (s:List UInt8):Except Ft (List Rw):=match c8 s with
 | .ok rs=> .ok rs
 | .error (e,a)=> .error ((e:Nat),(a:Nat))
theorem oR {s:List UInt8} {e a:Nat} (h:c8 s= .error (e,a)):e≠0:=by rcases uz h with rfl|rfl<;>decide
theorem x42 {σ σ0:St} (s:List UInt8) (hs:s.length≤1000000) (hlw:St.lw σ0 σ):AX Tryz.prog 42 [.str s] σ (oX TS (dZ s) (fun rs=> .sl false rs.length (rs.flatMap cRw)) (fun _=>σ) σ0):=by
  have hn:=p87 s hs
  cases hr:c8 s with
  | ok rs =>
    have ho:dZ s= .ok rs:=by simp only [dZ,hr]
    rw [hr] at hn
    (refine cV c42 b42 ?_;simp only [c42,↓R1,RR,seval,RX,eY,dy])
    repeat' (first|(with_reducible rw [ai])|((first|(with_reducible intro β hβ;(try simp only [RB] at hβ);(repeat (obtain ⟨⟨_,_⟩,hβ⟩:=hβ));(try (have hbis:=ah M0 hβ;obtain ⟨_,_⟩:=hbis)))|(refine Pt (hn) ?_)|((refine nh rfl ?_)))<;>(try simp only [↓R1,RR,seval,RX,eY,dy])))
    (refine ij ho ?_ ?_;(focus (simp only [aq,↓R1,RR,seval,RX,eY,dy];exact ae _));exact dN)
  | error p =>
    obtain ⟨e,a⟩:=p
    have ho:dZ s= .error ((e:Nat),(a:Nat)):=by simp only [dZ,hr]
    have he:=oR hr
    rw [hr] at hn
    (refine cV c42 b42 ?_;simp only [c42,↓R1,RR,seval,RX,eY,dy])
    repeat' (first|(with_reducible rw [ai])|((first|(with_reducible intro β hβ;(try simp only [RB] at hβ);(repeat (obtain ⟨⟨_,_⟩,hβ⟩:=hβ));(try (have hbis:=ah M0 hβ;obtain ⟨_,_⟩:=hbis)))|(refine Pt (hn) ?_)|((refine eK (σ0:=σ0) MX (by exact dN) ?_)))<;>(try simp only [↓R1,RR,seval,RX,eY,dy])))
    exact cQ ho (St.bO _)
def jv (q:Bool) (t:List UInt8) (l:List (List UInt8)):Int:=match (bif q then none else de t l 0) with
 | some i=>(i:Nat)
 | none=> -1
set_option maxHeartbeats 2000000 in
theorem p83 (r:Rw) (w:Wd) (f:Bool) (l:List (List UInt8)) (hw0:r.ws[0]? =some w) (hl:l.length≤1000):Pu Tryz.prog 83 [.agg (cRw r), .sl f l.length (l.map AV.str)] (.int .i64 (jv w.q w.t l)):=by
  have q1:True:=trivial
  have q2:True:=trivial
  have hw:True:=trivial
  have hd:True:=trivial
  have he3:(r.ws.flatMap cWd).take 3= [.bool w.q, .str w.t, .int .i64 (w.a:Nat)]:=by have:=Cn hw0;simp at this;rw [this];rfl
  have hlt0:=(List.getElem?_eq_some_iff.1 hw0).1
  have hln:=vO r.ws
  simp only [cRw]
  (refine al c83 b83 fun σ=>?_;simp only [c83,↓R1,RR,seval,q1,q2,hw,hd,he3])
  repeat' (first|(with_reducible rw [ai])|(with_reducible refine And.intro ?_ ?_;exact af)|((with_reducible intro β hβ;(try simp only [RB] at hβ);(repeat (obtain ⟨⟨_,_⟩,hβ⟩:=hβ));(try (have hbis:=ah M0 hβ;obtain ⟨_,_⟩:=hbis)))<;>(try simp only [↓R1,RR,seval,q1,q2,hw,hd,he3])))
  all_goals first|omega|skip
  rename_i γ hγ ap1 ap2
  refine aQ l.length (fun k=> [(5, .ptr β 0),(12, .sl f l.length (l.map AV.str)),(13, .int .i64 (l.length:Nat)),(14, .int .i64 (k:Nat))]) (fun _=>(σ.aa γ [.int .i64 (r.a:Nat), .sl false r.ws.length (r.ws.flatMap cWd)]).aa β [.bool w.q, .str w.t, .int .i64 (w.a:Nat)]) (fun k=>(bif w.q then none else de w.t l 0)=(bif w.q then none else de w.t (l.drop k) k)) M8 N1 rfl (fun k hk hI=>?_)
  by_cases hlt:k<l.length
  · have q1:decide ((k:Int)<(l.length:Int))=true:=by rw [decide_eq_true_eq];omega
    have hd:=j5 l hlt
    have hw:IntKind.i64.wrap ((k:Int)+1)=((k+1:Nat):Int):=MZ
    rw [iy w.t l hlt] at hI
    cases hq:w.q with
    | true =>
      have q2:=hq
      simp only [q1,q2,↓R1,RR,seval,q1,q2,hw,hd,he3]
      repeat' (first|(with_reducible refine And.intro ?_ ?_;exact af)|(with_reducible apply And.intro))
      all_goals first|(simp [hq];done)|skip
      all_goals first|(rw [List.length_map];omega)|skip
      · simp [av,slot,ae]
      · exact St.le_refl _
    | false =>
      rw [hq] at hI
      cases he:l[k] == w.t with
      | true =>
        rw [he] at hI
        simp only [cond_true,cond_false] at hI
        have q2:(w.t == l[k])=true:=by rw [beq_iff_eq] at he ⊢;exact he.symm
        rw [jv];simp only [hq,cond_false];rw [hI]
        simp only [q1,hq,↓R1,RR,seval,q1,q2,hw,hd,he3]
        repeat' (with_reducible refine And.intro ?_ ?_;exact af)
        all_goals first|(rw [List.length_map];omega)|skip
        refine ak (ag (by (simp only [aq,↓R1,RR,seval,q1,q2,hw,hd,he3])))
      | false =>
        rw [he] at hI
        have q2:(w.t == l[k])=false:=by rw [Bool.eq_false_iff] at he ⊢;intro h;apply he;simp only [beq_iff_eq] at h ⊢;simp [h]
        simp only [q1,hq,↓R1,RR,seval,q1,q2,hw,hd,he3]
        repeat' (first|(with_reducible refine And.intro ?_ ?_;exact af)|(with_reducible apply And.intro))
        all_goals first|(rw [List.length_map];omega)|skip
        · simpa using hI
        · simp [av,slot,ae]
        · exact St.le_refl _
  · have hke:k=l.length:=by omega
    subst hke
    have q1:decide ((l.length:Int)<(l.length:Int))=false:=M1
    rw [List.drop_length] at hI
    rw [jv,hI]
    have e:(bif w.q then none else de w.t [] l.length)=none:=by cases w.q<;>rfl
    rw [e]
    simp only [q1,↓R1,RR,seval,q1,q2,hw,hd,he3]
    skip
    refine ak (ag (by (simp only [aq,↓R1,RR,seval,q1,q2,hw,hd,he3])))
theorem uP {s:List UInt8} {rs:List Rw} (h:c8 s= .ok rs):s.length≤20000∧rs.length≤s.length+1∧∀ r∈rs,r.ws≠ []∧r.ws.length≤20000∧∀ w∈r.ws,w.t.length≤20000:=by
 have hs:s.length≤20000:=by
  refine Classical.byContradiction fun hn=>?_
  rw [c8,if_pos MX] at h;cases h
 have hb:lk (c8 s)=some (rU rs):=by rw [h];rfl
 rw [rX hs] at hb
 obtain ⟨h1,h2⟩:=lq (n:=20000) (fun x hx=>Nat.le_trans ((kI s).1 x hx) hs) hb
 have hg:=uw h
 refine ⟨hs,?_,fun r hr=>?_⟩
 ·have:=(kI s).2
  simp only [rU,List.length_map] at h1
  omega
 ·have h3:=h2 (jU r.ws) (by simp only [rU,List.mem_map];exact ⟨r,hr,rfl⟩)
  refine ⟨(hg r hr).1,?_,fun w hw=>?_⟩
  ·have:=h3.1;simpa [jU] using this
  ·exact h3.2 (w.q,w.t) (by simp only [jU,List.mem_map];exact ⟨w,hw,rfl⟩)
def sF (l:List Int):List AV:=l.map fun n=> .int .i64 n
def cPr (p:Int × Int):List AV:= [.int .i64 p.1, .int .i64 p.2]
theorem E5 (l:List Int):(sF l).length=l.length:=by simp [sF]
theorem E6 (l:List (Int × Int)):(l.flatMap cPr).length=l.length*2:=aF (f:=cPr) (fun _=>rfl) l
theorem Iz {l:List Int} {k:Nat} {n:Int} (h:l[k]? =some n):((sF l).drop (k*1)).take 1= [.int .i64 n]:=by
 obtain ⟨h1,h2⟩:=List.getElem?_eq_some_iff.1 h
 simp only [sF,Nat.mul_one]
 rw [List.drop_eq_getElem_cons (by simpa using h1)]
 simp [h2]
theorem IA {l:List (Int × Int)} {k:Nat} {p:Int × Int} (h:l[k]? =some p):((l.flatMap cPr).drop (k*2)).take 2=cPr p:=by
  induction l generalizing k with
  | nil=>simp at h
  | cons x l ih =>
    cases k with
    | zero=>simp at h;subst h;simp [cPr]
    | succ k =>
      simp only [List.getElem?_cons_succ] at h
      have:=ih h
      rw [List.flatMap_cons,show (k+1)*2=(cPr x).length+k*2 by simp [cPr];omega,List.drop_append,List.drop_eq_nil_of_le MX,List.nil_append,Nat.add_sub_cancel_left]
      exact this
def inB (n:Int) (p:Int × Int):Bool:= !(decide (n<p.1)||decide (p.2<n))
def dh:List Int→List (Int × Int)→Bool
 | n::l,p::r=>inB n p&&dh l r
 | _,_=>true
theorem uQ {l:List Int} {r:List (Int × Int)} {k:Nat} {n:Int} {p:Int × Int} (h:l[k]? =some n) (h2:r[k]? =some p):dh (l.drop k) (r.drop k)=(inB n p&&dh (l.drop (k+1)) (r.drop (k+1))):=by
 obtain ⟨h1,h3⟩:=List.getElem?_eq_some_iff.1 h
 obtain ⟨h4,h5⟩:=List.getElem?_eq_some_iff.1 h2
 rw [List.drop_eq_getElem_cons h1,List.drop_eq_getElem_cons h4,h3,h5];rfl
set_option maxHeartbeats 2000000 in
theorem Kt (f g:Bool) (l:List Int) (r:List (Int × Int)) (hlr:l.length=r.length) (hl:l.length≤1000):Pu Tryz.prog 163 [.sl f l.length (sF l), .sl g r.length (r.flatMap cPr)] (.bool (dh l r)):=by
 have q1:True:=trivial
 have he:True:=trivial
 have he2:True:=trivial
 have hw:True:=trivial
 (refine al HV LW fun σ=>?_;simp only [HV,↓R1,RR,seval,q1,he,he2,hw,cPr])
 refine aQ l.length (fun k=> [(1, .sl g r.length (r.flatMap cPr)),(7, .sl f l.length (sF l)),(8, .int .i64 (l.length:Nat)),(9, .int .i64 (k:Nat))]) (fun _=>σ) (fun k=>dh l r=dh (l.drop k) (r.drop k)) M8 (St.le_refl _) rfl (fun k hk hI=>?_)
 by_cases hlt:k<l.length
 ·obtain ⟨n,hn⟩:∃ n,l[k]? =some n:=⟨_,List.getElem?_eq_getElem hlt⟩
  obtain ⟨p,hp⟩:∃ p,r[k]? =some p:=⟨_,List.getElem?_eq_getElem MX⟩
  rw [uQ hn hp] at hI
  have he:=Iz hn
  have he2:=IA hp
  have hil:=E5 l
  have hcl:=E6 r
  simp only [cPr] at he2
  have q1:decide ((k:Int)<(l.length:Int))=true:=M3
  have hw:IntKind.i64.wrap ((k:Int)+1)=((k+1:Nat):Int):=MZ
  simp only [q1,↓R1,RR,seval,q1,he,he2,hw,cPr]
  repeat' (first|(with_reducible refine And.intro ?_ ?_;exact af)|(with_reducible apply And.intro)|((refine an (fun hc=>?_) (fun hc=>?_))<;>(try simp only [↓R1,RR,seval,q1,he,he2,hw,cPr])))
  ·(refine ak (ag ?_))
   (simp only [aq,↓R1,RR,seval,q1,he,he2,hw,cPr])
   rw [hI,inB,hc];rfl
  ·rw [hI]
   simp_all [inB]
  ·simp [av,slot,ae]
  ·exact St.le_refl _
 ·have hke:k=l.length:=by omega
  subst hke
  have q1:decide ((l.length:Int)<(l.length:Int))=false:=M1
  rw [List.drop_length] at hI
  simp only [q1,↓R1,RR,seval,q1,he,he2,hw,cPr]
  skip
  (refine ak (ag ?_))
  (simp only [aq,↓R1,RR,seval,q1,he,he2,hw,cPr])
  rw [hI];rfl
structure ClsI where
 l:Int
 size:Int
 rate:Int
structure TenI where
 budget:Int
 queries:Int
 cap:Int
 out:Int
 audit:Int
structure RulI where
 owner:Int
 auth:Int
 res:Int
 any:Bool
 kind:Int
 low:Int
 high:Int
structure CfgI where
 cls:List ClsI
 tens:List TenI
 ruls:List RulI
 hor:Int
def cm (x:ClsI):List AV:= [.int .u64 x.l, .int .i64 x.size, .int .i64 x.rate]
def eZ (x:TenI):List AV:= [.int .i64 x.budget, .int .i64 x.queries, .int .i64 x.cap, .int .i64 x.out, .int .i64 x.audit]
def eL (x:RulI):List AV:= [.int .i64 x.owner, .int .u64 x.auth, .int .u64 x.res, .bool x.any, .int .i64 x.kind, .int .i64 x.low, .int .i64 x.high]
def bh (c:CfgI):List AV:= .sl false c.cls.length (c.cls.flatMap cm)::(c.tens.flatMap eZ++ [.sl false c.ruls.length (c.ruls.flatMap eL), .int .u64 c.hor])
def U64 (n:Int):Prop:=0≤n∧n<18446744073709551616
structure CfgOk (c:CfgI):Prop where
 six:c.tens.length=6
 ncls:c.cls.length≤1000
 nrul:c.ruls.length≤1000
 lcls:∀ x∈c.cls,U64 x.l
 lrul:∀ x∈c.ruls,U64 x.auth∧U64 x.res
def lab (n:Int):BitVec 64:=BitVec.ofInt 64 n
theorem dt {n:Int} (h:U64 n):((lab n).toNat:Int)=n:=by
 unfold lab U64 at *
 rw [BitVec.toNat_ofInt]
 omega
theorem kb (l:List ClsI):(l.flatMap cm).length=l.length*3:=aF (f:=cm) (fun _=>rfl) l
theorem cZ (l:List TenI):(l.flatMap eZ).length=l.length*5:=aF (f:=eZ) (fun _=>rfl) l
theorem kc (l:List RulI):(l.flatMap eL).length=l.length*7:=aF (f:=eL) (fun _=>rfl) l
theorem cJ {α:Type} {f:α→List AV} {m:Nat} (hf:∀ a,(f a).length=m):∀ {l:List α} {k:Nat} {x:α},l[k]? =some x→((l.flatMap f).drop (k*m)).take m=f x
  | [],_,_,h=>by simp at h
  | y :: l, 0, x, h => by
    simp at h;subst h
    rw [List.flatMap_cons,Nat.zero_mul,List.drop_zero,List.take_append_of_le_length (by rw [hf];exact Nat.le_refl _),List.take_of_length_le (by rw [hf];exact Nat.le_refl _)]
  | y :: l, k + 1, x, h => by
    simp only [List.getElem?_cons_succ] at h
    have:=cJ hf h
    have hy:=hf y
    rw [List.flatMap_cons,show (k+1)*m=(f y).length+k*m by rw [hy,Nat.add_mul];omega,List.drop_append,List.drop_eq_nil_of_le MX,List.nil_append,Nat.add_sub_cancel_left]
    exact this
theorem du {c:CfgI} (h:CfgOk c):(bh c).length=33:=by
 simp only [bh,List.length_cons,List.length_append,List.length_nil,cZ,h.six]
theorem lC (c:CfgI):(bh c)[0]? =some (.sl false c.cls.length (c.cls.flatMap cm)):=rfl
theorem _root_.Ol {p:Prop} (h:p:=by rw [cZ,h.six];decide):p:=h
theorem jw {c:CfgI} (h:CfgOk c):(bh c)[31]? =some (.sl false c.ruls.length (c.ruls.flatMap eL)):=by
 simp only [bh,List.getElem?_cons_succ]
 rw [List.getElem?_append_right Ol,cZ,h.six];rfl
theorem kO {c:CfgI} (h:CfgOk c):(bh c)[32]? =some (.int .u64 c.hor):=by
 simp only [bh,List.getElem?_cons_succ]
 rw [List.getElem?_append_right Ol,cZ,h.six];rfl
theorem FJ {c:CfgI} (h:CfgOk c):((bh c).drop 1).take 30=c.tens.flatMap eZ:=by
 simp only [bh,List.drop_succ_cons,List.drop_zero]
 rw [List.take_append_of_le_length Ol,List.take_of_length_le Ol]
theorem eQ {c:CfgI} (h:CfgOk c):(bh c).take 33=bh c:=List.take_of_length_le (by rw [du h];decide)
def iX (seen:List Int) (x:ClsI):Int:=if dh [x.size,x.rate] [(1,64),(0,64)]=false then 2 else if x.l∈seen then 8 else 0
def clsEs:List Int→List ClsI→List Int
 | _,[]=> []
 | seen,x::l=>iX seen x::clsEs (seen++ [x.l]) l
def tenE (x:TenI):Int:=if dh [x.budget,x.queries,x.cap,x.out,x.audit] [(1,64),(0,4),(0,64),(0,64),(0,64)]=false then 2 else 0
def rulE (x:RulI):Int:=if (decide (x.owner<1)||decide (6<x.owner)||decide (x.kind<0)||decide (25<x.kind)||(x.any&&x.kind != 0))=true then 2 else if leB (lab x.res) (lab x.auth)=false then 13 else if x.high<x.low then 9 else 0
def firstE:List Int→Nat→Option (Int × Nat)
 | [],_=>none
 | e::l,i=>if e=0 then firstE l (i+1) else some (e,i)
def dv (c:CfgI):Int × Nat :=
  if 8<c.cls.length∨8<c.ruls.length then (6,0) else match firstE (clsEs [] c.cls) 0 with
  | some p=>p
  | none => match firstE (c.tens.map tenE) 0 with
    | some p=>p
    | none => match firstE (c.ruls.map rulE) 0 with
      | some p=>p
      | none=>if c.hor<1∨10000<c.hor then (2,0) else (0,0)
def Round (prs:List Nat) (asg body:CC) (fr:Fr) (L:Nat) (r:Loop) (xs:List AV) (σ1:St) (K:AV→St→Prop):Prop :=
 aC Tryz.prog asg (iU prs xs fr) σ1 (fun e fr1 σ2=>e= .normal∧σ2.lp L=some (.loop r,fr)∧aC Tryz.prog body fr1 (σ2.ay L (busy r,fr)) (fun e _ σ3=>σ3.lp L=some (.loop (busy r),fr)∧match e with
    | .normal=>K (.bool true) (σ3.ay L (r,fr))
    | .ret=>K (.bool false) (σ3.ay L (left r .ret,fr))
    | .exit id=>K (.bool false) (σ3.ay L (left r (.exit id),fr))
    | _=>False))
structure Errs (prs:List Nat) (asg body:CC) (fr:Fr) (σ:St) (Q:Exit→Fr→St→Prop) (es:List Int):Prop where
 two:prs.length=2
 go:∀ L r i σ1 (K:AV→St→Prop),es[i]? =some 0→σ1.lp L=some (.loop r,fr)→St.le σ (σ1.dropLp L)→K (.bool true) σ1→Round prs asg body fr L r [.int .i64 (i:Nat), .int .i64 0] σ1 K
 stop:∀ L r i e σ1 (K:AV→St→Prop),es[i]? =some e→e≠0→σ1.lp L=some (.loop r,fr)→St.le σ (σ1.dropLp L)→(∀ s,s.lp L=some (.loop (left r .ret),fr)→(firstE es 0=some (e,i)→Q .ret fr (s.dropLp L))→K (.bool false) s)→Round prs asg body fr L r [.int .i64 (i:Nat), .int .i64 e] σ1 K
 fin:firstE es 0=none→∀ s,St.le σ s→Q .normal fr s
theorem ed {es:List Int} {k:Nat} {e:Int} (h:es[k]? =some e):firstE (es.drop k) k=if e=0 then firstE (es.drop (k+1)) (k+1) else some (e,k):=by
 obtain ⟨h1,h2⟩:=List.getElem?_eq_some_iff.1 h
 rw [List.drop_eq_getElem_cons h1,h2];rfl
theorem kd:∀ {l:List ClsI} {seen:List Int} {k:Nat} {x:ClsI},l[k]? =some x→(clsEs seen l)[k]? =some (iX (seen++(l.take k).map ClsI.l) x)
  | [],_,_,_,h=>by simp at h
  | y::l,seen,0,x,h=>by simp at h;subst h;simp [clsEs]
  | y :: l, seen, k + 1, x, h => by
    simp only [List.getElem?_cons_succ] at h
    simp only [clsEs,List.getElem?_cons_succ]
    rw [kd h]
    simp [List.take_succ_cons]
theorem kP:∀ (l:List ClsI) (seen:List Int),(clsEs seen l).length=l.length
 | [],_=>rfl
 | x::l,seen=>by simp [clsEs,kP l]
theorem dn {σ s:St} {L:Nat} {x:LO × Fr} (hL:σ.lp L=none) (h:St.le (σ.ay L x) s):St.le σ (s.dropLp L):=by
 refine ⟨h.1,h.2.1,h.2.2.1,fun l r hl=>?_,h.2.2.2.2⟩
 have hne:l≠L:=fun e=>by subst e;rw [hL] at hl;cases hl
 have h2:=h.2.2.2.1 l r (by simp only [St.ay,upd,if_neg hne];exact hl)
 simp only [St.dropLp,if_neg hne]
 exact h2
theorem vP {σ:St} {M:Nat} {x:LO × Fr} (hM:σ.lp M=none):St.le σ (σ.ay M x):=by
 refine ⟨fun _ _ h=>h,fun _ _ h=>h,fun _ _ h=>h,fun l r hl=>?_,fun _ _ h=>h⟩
 have hne:l≠M:=fun e=>by subst e;rw [hM] at hl;cases hl
 simp only [St.ay,upd,if_neg hne];exact hl
theorem nV {l:List ClsI} {k:Nat} {x:ClsI} (h:l[k]? =some x) (n:Int):n∈(l.take (k+1)).map ClsI.l↔x.l=n∨n∈(l.take k).map ClsI.l:=by
 obtain ⟨h1,h2⟩:=List.getElem?_eq_some_iff.1 h
 rw [←List.take_append_getElem h1,h2]
 simp only [List.map_append,List.map_cons,List.map_nil,List.mem_append,List.mem_singleton]
 constructor
 ·rintro (h|h)
  ·exact .inr h
  ·exact .inl h.symm
 ·rintro (h|h)
  ·exact .inr h.symm
  ·exact .inl h
theorem _root_.NT {p:Prop} (h:p:=by rw [hcl];decide):p:=h
theorem _root_.NN {p:Prop} (h:p:=by simp [h.two]):p:=h
theorem _root_.Om {p:Prop} (h:p:=by rw [hI];rfl):p:=h
set_option maxHeartbeats 4000000 in
theorem uR {prs:List Nat} {asg body:CC} {fr:Fr} {σ:St} {Q:Exit→Fr→St→Prop} {β:Nat} {c:CfgI} (hc:CfgOk c) (hβ:σ.box β=some (bh c)) (h:Errs prs asg body fr σ Q (clsEs [] c.cls)) :
    RF Tryz.prog 162 [.ptr β 0] prs asg body fr σ Q:=by
  refine ⟨by kernel_rfl,fun L r hL hr1 hr2 hY=>?_⟩
  have q1:True:=trivial
  have he:True:=trivial
  have hw:True:=trivial
  have hc0:=lC c
  have hcl:=du hc
  have hn:=hc.ncls
  have hlen:=kP c.cls []
  have hb2:(σ.ay L (r,fr)).box β=some (bh c):=hβ
  refine bf HU LV ?_
  simp only [HU,↓R1,RR,seval,RM,q1,he,hw,cm]
  refine GO fun M hM=>?_
  have hML:M≠L:=fun e=>by rw [e,St.bd] at hM;cases hM
  have hb3:((σ.ay L (r,fr)).ay M (.map [] 0,[])).box β=some (bh c):=hβ
  have h0:0<(bh c).length:=NT
  simp only [hb3,hc0,h0,↓R1,RR,seval,RM,q1,he,hw,cm]
  refine b6 (α:=Nat × List (Int × Bool × Nat) × Nat) (fun a=> [(0, .yld L),(3, .mpv M),(9, .sl false c.cls.length (c.cls.flatMap cm)),(10, .int .i64 (c.cls.length:Nat)),(11, .int .i64 (a.1:Nat))]) (fun a=>(σ.ay L (r,fr)).ay M (.map a.2.1 a.2.2,[]))
    (fun a=>a.1≤c.cls.length∧firstE (clsEs [] c.cls) 0=firstE ((clsEs [] c.cls).drop a.1) a.1∧∀ n,iR a.2.1 n=decide (n∈(c.cls.take a.1).map ClsI.l)) (fun a=>c.cls.length - a.1) (0,[],0) M8 (St.le_refl _) ⟨Nat.zero_le _,rfl,fun n=>by simp [rN]⟩ ?_
  rintro ⟨k,m,cl⟩ ⟨hk,hI,hmm⟩
  simp only at hk hI hmm ⊢
  by_cases hlt:k<c.cls.length
  · obtain ⟨x,hx⟩:∃ x,c.cls[k]? =some x:=⟨_,List.getElem?_eq_getElem hlt⟩
    have hat:=kd (seen:= []) hx
    rw [List.nil_append] at hat
    rw [ed hat] at hI
    have he:=cJ (f:=cm) (m:=3) (fun _=>rfl) hx
    have hln:=kb c.cls
    have q1:decide ((k:Int)<(c.cls.length:Int))=true:=M3
    have hw:IntKind.i64.wrap ((k:Int)+1)=((k+1:Nat):Int):=MZ
    simp only [cm] at he
    have hpw:=Kt true true [x.size,x.rate] [(1,64),(0,64)] rfl M1
    simp only [sF,cPr,List.map,List.flatMap_cons,List.flatMap_nil,List.append_nil,List.cons_append,List.nil_append,List.length_cons,List.length_nil] at hpw
    have hnext:∀ (cl:Nat) (n:Int),iR (iS m cl x.l true).1 n=decide (n∈(c.cls.take (k+1)).map ClsI.l):=fun _ n=>by
      rw [rO,hmm]
      have:=nV hx n
      by_cases e1:x.l=n
      · rw [if_pos e1];exact (decide_eq_true (this.2 (.inl e1))).symm
      · rw [if_neg e1,decide_eq_decide,this];simp [e1]
    simp only [q1,↓R1,RR,seval,RM,q1,he,hw,cm]
    cases hwi:dh [x.size,x.rate] [(1,64),(0,64)] with
    | false =>
      rw [hwi] at hpw
      have e2:iX ((c.cls.take k).map ClsI.l) x=2:=by simp only [iX,hwi,if_true]
      rw [e2] at hI hat
      repeat' (first|(with_reducible rw [ai])|(with_reducible refine And.intro ?_ ?_;exact af)|((first|(with_reducible intro β hβ;(try simp only [RB] at hβ);(repeat (obtain ⟨⟨_,_⟩,hβ⟩:=hβ));(try (have hbis:=ah M0 hβ;obtain ⟨_,_⟩:=hbis)))|(refine Pt (hpw) ?_)|((refine ub (St.bd _ _ _) ?_)))<;>(try simp only [↓R1,RR,seval,RM,q1,he,hw,cm])))
      (have hlp:∀ γ cs y,(((σ.ay L (.loop r,fr)).ay M y).aa γ cs).lp L=some (.loop r,fr):=fun γ cs y=>(St.jQ (fun e=>hML e.symm) ..).trans (St.bd _ _ _));(refine hY _ _ _ NN (hlp _ _ _) (h.stop L r k _ _ _ hat Na (hlp _ _ _) (dn hL (St.aO (vP hM) M0)) (fun s hs hq=>?_)));simp only [↓R1,RR,seval,RM,q1,he,hw,cm];(refine cu (.inr (.inl ⟨hs,hq Om⟩)) NG)
    | true =>
      rw [hwi] at hpw
      cases hmg:iR m x.l with
      | true =>
        have e2:iX ((c.cls.take k).map ClsI.l) x=8:=by
          rw [hmm,decide_eq_true_eq] at hmg
          simp only [iX,hwi,hmg,if_true];rfl
        rw [e2] at hI hat
        repeat' (first|(with_reducible rw [ai])|(with_reducible refine And.intro ?_ ?_;exact af)|((first|(with_reducible intro β hβ;(try simp only [RB] at hβ);(repeat (obtain ⟨⟨_,_⟩,hβ⟩:=hβ));(try (have hbis:=ah M0 hβ;obtain ⟨_,_⟩:=hbis)))|(refine Pt (hpw) ?_)|((refine Bg (St.bd _ _ _) ?_;rw [hmg];simp only [↓R1,RR,seval,RM,q1,he,hw,cm]))|((refine ub (St.bd _ _ _) ?_)))<;>(try simp only [↓R1,RR,seval,RM,q1,he,hw,cm])))
        (have hlp:∀ γ cs y,(((σ.ay L (.loop r,fr)).ay M y).aa γ cs).lp L=some (.loop r,fr):=fun γ cs y=>(St.jQ (fun e=>hML e.symm) ..).trans (St.bd _ _ _));(refine hY _ _ _ NN (hlp _ _ _) (h.stop L r k _ _ _ hat Na (hlp _ _ _) (dn hL (St.aO (vP hM) M0)) (fun s hs hq=>?_)));simp only [↓R1,RR,seval,RM,q1,he,hw,cm];(refine cu (.inr (.inl ⟨hs,hq Om⟩)) NG)
      | false =>
        have e2:iX ((c.cls.take k).map ClsI.l) x=0:=by
          rw [hmm,decide_eq_false_iff_not] at hmg
          simp only [iX,hwi,hmg,if_false];rfl
        rw [e2] at hI hat
        repeat' (first|(with_reducible rw [ai])|(with_reducible refine And.intro ?_ ?_;exact af)|((first|(with_reducible intro β hβ;(try simp only [RB] at hβ);(repeat (obtain ⟨⟨_,_⟩,hβ⟩:=hβ));(try (have hbis:=ah M0 hβ;obtain ⟨_,_⟩:=hbis)))|(refine Pt (hpw) ?_)|((refine Bg (St.bd _ _ _) ?_;rw [hmg];simp only [↓R1,RR,seval,RM,q1,he,hw,cm]))|((refine ub (St.bd _ _ _) ?_)))<;>(try simp only [↓R1,RR,seval,RM,q1,he,hw,cm])))
        have hlp:∀ γ cs y,(((σ.ay L (.loop r,fr)).ay M y).aa γ cs).lp L=some (.loop r,fr):=fun γ cs y=>(St.jQ (fun e=>hML e.symm) ..).trans (St.bd _ _ _)
        refine hY _ _ _ NN (hlp _ _ _) (h.go L r k _ _ hat (hlp _ _ _) (dn hL (St.aO (vP hM) M0)) ?_)
        rw [if_pos rfl] at hI
        simp only [↓R1,RR,seval,RM,q1,he,hw,cm]
        exact ⟨(k+1,_,_),⟨hlt,hI,hnext _⟩,by simp [av,slot,ae],St.aO (St.le_refl _) M0,by simp only;omega⟩
  · have hke:k=c.cls.length:=by omega
    subst hke
    have q1:decide ((c.cls.length:Int)<(c.cls.length:Int))=false:=M1
    rw [List.drop_eq_nil_of_le MX] at hI
    simp only [q1,↓R1,RR,seval,RM,q1,he,hw,cm]
    skip
    refine cu (.inl ⟨(St.jQ (fun e=>hML e.symm) ..).trans (St.bd _ _ _),h.fin hI _ (dn hL (vP hM))⟩) NG
theorem qk {α:Type} {f:α→Int} {l:List α} {k:Nat} {x:α} (h:l[k]? =some x):(l.map f)[k]? =some (f x):=by simp [h]
set_option maxHeartbeats 4000000 in
theorem uS {prs:List Nat} {asg body:CC} {fr:Fr} {σ:St} {Q:Exit→Fr→St→Prop} {β:Nat} {c:CfgI} (hc:CfgOk c) (hβ:σ.box β=some (bh c)) (h:Errs prs asg body fr σ Q (c.tens.map tenE)) :
    RF Tryz.prog 164 [.ptr β 0] prs asg body fr σ Q:=by
  refine ⟨by kernel_rfl,fun L r hL hr1 hr2 hY=>?_⟩
  have q1:True:=trivial
  have he:True:=trivial
  have hw:True:=trivial
  have hln:True:=trivial
  have hc1:=FJ hc
  have hcl:=du hc
  have h6:=hc.six
  have hlen:(c.tens.map tenE).length=6:=by simp [h6]
  have hb2:(σ.ay L (r,fr)).box β=some (bh c):=hβ
  refine bf HW LX ?_
  have h0:1+30≤(bh c).length:=NT
  simp only [HW,hb2,hc1,h0,hcl,↓R1,RR,seval,q1,he,hw,eZ,hln]
  refine aQ 6 (fun k=> [(0, .yld L),(3, .sl true 5 [.int .i64 1, .int .i64 64, .int .i64 0, .int .i64 4, .int .i64 0, .int .i64 64, .int .i64 0, .int .i64 64, .int .i64 0, .int .i64 64]),(14, .agg (c.tens.flatMap eZ)),(15, .int .i64 (k:Nat))]) (fun _=>σ.ay L (r,fr))
    (fun k=>firstE (c.tens.map tenE) 0=firstE ((c.tens.map tenE).drop k) k) M8 (St.le_refl _) rfl (fun k hk hI=>?_)
  by_cases hlt:k<6
  · obtain ⟨x,hx⟩:∃ x,c.tens[k]? =some x:=⟨_,List.getElem?_eq_getElem MX⟩
    have hat:=qk (f:=tenE) hx
    rw [ed hat] at hI
    have he:=cJ (f:=eZ) (m:=5) (fun _=>rfl) hx
    have hln:=cZ c.tens
    rw [h6] at hln
    have q1:decide ((k:Int)<6)=true:=M3
    have hw:IntKind.i64.wrap ((k:Int)+1)=((k+1:Nat):Int):=MZ
    simp only [eZ] at he
    have hpw:=Kt true true [x.budget,x.queries,x.cap,x.out,x.audit] [(1,64),(0,4),(0,64),(0,64),(0,64)] rfl M1
    simp only [sF,cPr,List.map,List.flatMap_cons,List.flatMap_nil,List.append_nil,List.cons_append,List.nil_append,List.length_cons,List.length_nil] at hpw
    simp only [q1,↓R1,RR,seval,q1,he,hw,eZ,hln]
    cases hwi:dh [x.budget,x.queries,x.cap,x.out,x.audit] [(1,64),(0,4),(0,64),(0,64),(0,64)] with
    | false =>
      rw [hwi] at hpw
      have e2:tenE x=2:=by simp only [tenE,hwi,if_true]
      rw [e2] at hI hat
      repeat' (first|(with_reducible rw [ai])|(with_reducible refine And.intro ?_ ?_;exact af)|((first|(with_reducible intro β hβ;(try simp only [RB] at hβ);(repeat (obtain ⟨⟨_,_⟩,hβ⟩:=hβ));(try (have hbis:=ah M0 hβ;obtain ⟨_,_⟩:=hbis)))|(refine Pt (hpw) ?_))<;>(try simp only [↓R1,RR,seval,q1,he,hw,eZ,hln])))
      (refine hY _ _ _ NN (St.bd _ _ _) (h.stop L r k _ _ _ hat Na (St.bd _ _ _) (dn hL (St.aO (St.le_refl _) M0)) (fun s hs hq=>?_)));simp only [↓R1,RR,seval,q1,he,hw,eZ,hln];(refine cu (.inr (.inl ⟨hs,hq Om⟩)) NG)
    | true =>
      rw [hwi] at hpw
      have e2:tenE x=0:=by simp only [tenE,hwi];rfl
      rw [e2] at hI hat
      repeat' (first|(with_reducible rw [ai])|(with_reducible refine And.intro ?_ ?_;exact af)|((first|(with_reducible intro β hβ;(try simp only [RB] at hβ);(repeat (obtain ⟨⟨_,_⟩,hβ⟩:=hβ));(try (have hbis:=ah M0 hβ;obtain ⟨_,_⟩:=hbis)))|(refine Pt (hpw) ?_))<;>(try simp only [↓R1,RR,seval,q1,he,hw,eZ,hln])))
      (refine hY _ _ _ NN (St.bd _ _ _) (h.go L r k _ _ hat (St.bd _ _ _) (dn hL (St.aO (St.le_refl _) M0)) ?_));rw [if_pos rfl] at hI;simp only [↓R1,RR,seval,q1,he,hw,eZ,hln];exact ⟨hlt,hI,by simp [av,slot,ae],St.aO (St.le_refl _) M0⟩
  · have hke:k=6:=by omega
    subst hke
    rw [List.drop_eq_nil_of_le MX] at hI
    have q1:decide (((6:Nat):Int)<6)=false:=Na
    simp only [q1,↓R1,RR,seval,q1,he,hw,eZ,hln]
    skip
    refine cu (.inl ⟨St.bd _ _ _,h.fin hI _ (dn hL (St.le_refl _))⟩) NG
set_option maxHeartbeats 4000000 in
theorem Cs {prs:List Nat} {asg body:CC} {fr:Fr} {σ:St} {Q:Exit→Fr→St→Prop} {β:Nat} {c:CfgI} (hc:CfgOk c) (hβ:σ.box β=some (bh c)) (h:Errs prs asg body fr σ Q (c.ruls.map rulE)) :
  RF Tryz.prog 165 [.ptr β 0] prs asg body fr σ Q:=by
 refine ⟨by kernel_rfl,fun L r hL hr1 hr2 hY=>?_⟩
 have q1:True:=trivial
 have he:True:=trivial
 have hw:True:=trivial
 have hln:True:=trivial
 have hc1:=jw hc
 have hcl:=du hc
 have hn:=hc.nrul
 have hlen:(c.ruls.map rulE).length=c.ruls.length:=M1
 have hb2:(σ.ay L (r,fr)).box β=some (bh c):=hβ
 refine bf HX LY ?_
 have h0:31<(bh c).length:=NT
 simp only [HX,hb2,hc1,h0,↓R1,RR,seval,q1,he,hw,eL,hln]
 refine aQ c.ruls.length (fun k=> [(0, .yld L),(7, .sl false c.ruls.length (c.ruls.flatMap eL)),(8, .int .i64 (c.ruls.length:Nat)),(9, .int .i64 (k:Nat))]) (fun _=>σ.ay L (r,fr))
  (fun k=>firstE (c.ruls.map rulE) 0=firstE ((c.ruls.map rulE).drop k) k) M8 (St.le_refl _) rfl (fun k hk hI=>?_)
 by_cases hlt:k<c.ruls.length
 ·obtain ⟨x,hx⟩:∃ x,c.ruls[k]? =some x:=⟨_,List.getElem?_eq_getElem hlt⟩
  have hat:=qk (f:=rulE) hx
  rw [ed hat] at hI
  have he:=cJ (f:=eL) (m:=7) (fun _=>rfl) hx
  have hln:=kc c.ruls
  have hxm:=hc.lrul x (List.mem_of_getElem? hx)
  have q1:decide ((k:Int)<(c.ruls.length:Int))=true:=M3
  have hw:IntKind.i64.wrap ((k:Int)+1)=((k+1:Nat):Int):=MZ
  simp only [eL] at he
  have hpw:=Ma (lab x.res) (lab x.auth)
  rw [dt hxm.1,dt hxm.2] at hpw
  simp only [q1,↓R1,RR,seval,q1,he,hw,eL,hln]
  repeat' (first|(with_reducible rw [ai])|(with_reducible refine And.intro ?_ ?_;exact af)|(with_reducible apply And.intro)|((first|(refine an (fun hc=>?_) (fun hc=>?_))|(with_reducible intro β hβ;(try simp only [RB] at hβ);(repeat (obtain ⟨⟨_,_⟩,hβ⟩:=hβ));(try (have hbis:=ah M0 hβ;obtain ⟨_,_⟩:=hbis)))|(refine Pt (hpw) ?_))<;>(try simp only [↓R1,RR,seval,q1,he,hw,eL,hln])))
  ·simp_all
  ·have e2:rulE x=2:=by simp only [rulE,hc,if_true]
   rw [e2] at hI hat
   (refine hY _ _ _ NN (St.bd _ _ _) (h.stop L r k _ _ _ hat Na (St.bd _ _ _) (dn hL (St.aO (St.le_refl _) M0)) (fun s hs hq=>?_)));simp only [↓R1,RR,seval,q1,he,hw,eL,hln];(refine cu (.inr (.inl ⟨hs,hq Om⟩)) NG)
  ·rename_i hc2
   have e2:rulE x=13:=by
    rw [Bool.not_eq_true'] at hc
    simp only [rulE,hc2,hc,if_true];rfl
   rw [e2] at hI hat
   (refine hY _ _ _ NN (St.bd _ _ _) (h.stop L r k _ _ _ hat Na (St.bd _ _ _) (dn hL (St.aO (St.le_refl _) M0)) (fun s hs hq=>?_)));simp only [↓R1,RR,seval,q1,he,hw,eL,hln];(refine cu (.inr (.inl ⟨hs,hq Om⟩)) NG)
  ·rename_i hc2 hc3
   have e2:rulE x=9:=by
    rw [Bool.not_eq_false'] at hc3
    rw [decide_eq_true_eq] at hc
    simp only [rulE,hc2,hc3,hc,if_true];rfl
   rw [e2] at hI hat
   (refine hY _ _ _ NN (St.bd _ _ _) (h.stop L r k _ _ _ hat Na (St.bd _ _ _) (dn hL (St.aO (St.le_refl _) M0)) (fun s hs hq=>?_)));simp only [↓R1,RR,seval,q1,he,hw,eL,hln];(refine cu (.inr (.inl ⟨hs,hq Om⟩)) NG)
  ·rename_i hc2 hc3
   have e2:rulE x=0:=by
    rw [Bool.not_eq_false'] at hc3
    rw [decide_eq_false_iff_not] at hc
    simp only [rulE,hc2,hc3,hc,if_false];rfl
   rw [e2] at hI hat
   (refine hY _ _ _ NN (St.bd _ _ _) (h.go L r k _ _ hat (St.bd _ _ _) (dn hL (St.aO (St.le_refl _) M0)) ?_));rw [if_pos rfl] at hI;simp only [↓R1,RR,seval,q1,he,hw,eL,hln];exact ⟨hlt,hI,by simp [av,slot,ae],St.aO (St.le_refl _) M0⟩
 ·have hke:k=c.ruls.length:=by omega
  subst hke
  have q1:decide ((c.ruls.length:Int)<(c.ruls.length:Int))=false:=M1
  rw [List.drop_eq_nil_of_le MX] at hI
  simp only [q1,↓R1,RR,seval,q1,he,hw,eL,hln]
  skip
  refine cu (.inl ⟨St.bd _ _ _,h.fin hI _ (dn hL (St.le_refl _))⟩) NG
structure OpI where
 kind:Int
 tenant:Int
 label:Int
 text:List UInt8
 number:Int
 most:Int
 idl:Int
 idn:Int
def cOp (o:OpI):List AV:= [.int .i64 o.kind, .int .i64 o.tenant, .int .u64 o.label, .str o.text, .int .i64 o.number, .int .i64 o.most, .int .u64 o.idl, .int .u64 o.idn]
def eb {α β:Type} (o:Except Ft α) (f:α→Except Ft β):Except Ft β:=match o with
 | .ok a=>f a
 | .error e=> .error e
theorem FK {α β:Type} {o:Except Ft α} {a:α} (f:α→Except Ft β) (h:o= .ok a):eb o f=f a:=by rw [h];rfl
theorem Ku {α β:Type} {o:Except Ft α} {e:Ft} (f:α→Except Ft β) (h:o= .error e):eb o f= .error e:=by rw [h];rfl
def yB (w1 w2:Wd):Except Ft OpI:=eb (df w1) fun t=>eb (Cr w2) fun l=> .ok ⟨1,t,l,[],0,0,0,0⟩
def IB (w1 w2:Wd):Except Ft OpI:=eb (df w1) fun t=>eb (FI w2) fun x=> .ok ⟨2,t,0,x,0,0,0,0⟩
def Kv (w1 w2:Wd):Except Ft OpI:=eb (df w1) fun t=>eb (df w2) fun n=> .ok ⟨3,t,0,[],n,0,0,0⟩
def E7 (w1 w2 w3:Wd):Except Ft OpI:=eb (Kr w1) fun k=>eb (Cr w2) fun l=>eb (df w3) fun v=> .ok ⟨4,0,0,EJ (BitVec.ofInt 64 l) k v,0,0,0,0⟩
def IC (w1:Wd):Except Ft OpI:=eb (FI w1) fun x=> .ok ⟨4,0,0,x,0,0,0,0⟩
def FL:Except Ft OpI:= .ok ⟨5,0,0,[],0,0,0,0⟩
def sG (w1 w2:Wd):Except Ft OpI:=eb (df w1) fun t=>eb (df w2) fun m=> .ok ⟨6,t,0,[],0,m,0,0⟩
def sH (w1 w2 w3:Wd):Except Ft OpI:=eb (df w1) fun t=>eb (df w2) fun n=>eb (MP w3) fun i=> .ok ⟨7,t,0,[],n,0,i.1,i.2⟩
def ID (w1 w2 w3:Wd):Except Ft OpI:=eb (df w1) fun t=>eb (df w2) fun n=>eb (df w3) fun m=> .ok ⟨8,t,0,[],n,m,0,0⟩
set_option maxHeartbeats 2000000 in
theorem x94 {σ σ0:St} {β:Nat} {r:Rw} {w0 w1 w2:Wd} (h:Cu σ0 σ β r 1) (hws:r.ws= [w0,w1,w2]):AX Tryz.prog 94 [.ptr β 0] σ (oX TS (sG w1 w2) (fun o=> .agg (cOp o)) (fun _=>σ.aa β (cur r 3)) σ0):=by
 haveI:BoxIs σ β (cur r 1):=⟨h.hb⟩
 have h0:=h.h0
 have hlw:=h.lw
 have hw1:r.ws[1]? =some w1:=by rw [hws];rfl
 have hw2:r.ws[2]? =some w2:=by rw [hws];rfl
 (refine cV c94 b94 ?_;simp only [c94,↓R1,RR,seval,RX,cOp])
 repeat' (first|(with_reducible rw [ai])|((first|(with_reducible intro β hβ;(try simp only [RB] at hβ);(repeat (obtain ⟨⟨_,_⟩,hβ⟩:=hβ));(try (have hbis:=ah M0 hβ;obtain ⟨_,_⟩:=hbis)))|((refine eP (MQ (σ0:=σ0) (r:=r) (k:=1) ?_ hw1) (ad _) (fun a1 ho1=>?_) (fun e ho1=>?_);(focus ((repeat' (first|assumption|(refine Cu.to (k:=1) ?_)|(refine Cu.new ?_ (by first|assumption|(simp only [↓R1,RR,seval,RX,cOp];done)))));done))))|((refine eP (Ks (σ0:=σ0) (r:=r) (k:=2) ?_ hw2) (ad _) (fun a2 ho2=>?_) (fun e ho2=>?_);(focus ((repeat' (first|assumption|(refine Cu.to (k:=1) ?_)|(refine Cu.new ?_ (by first|assumption|(simp only [↓R1,RR,seval,RX,cOp];done)))));done)))))<;>(try simp only [↓R1,RR,seval,RX,cOp])))
 all_goals first|(refine cQ ?_ (St.bO _);focus (simp only [sG,eb,ho1];done))|(refine cQ ?_ (St.bO _);focus (simp only [sG,eb,ho1,ho2];done))|(refine ij ((by simp only [sG,eb,ho1,ho2];rfl)) ?_ ?_ (by first|(simp [ax,rvS];done)|(simp only [ax,rvS,↓R1,RR,seval,RX,cOp];try simp));(focus (simp only [aq,↓R1,RR,seval,RX,cOp];exact ae _));exact dN)
def uT:List UInt8:= [114,101,103,105,115,116,101,114]
def E8:List UInt8:= [113,117,101,114,121]
def IE:List UInt8:= [100,114,111,112]
def Cv:List UInt8:= [105,110,103,101,115,116]
def E9:List UInt8:= [98,121,116,101,115]
def IF:List UInt8:= [116,105,99,107]
def IG:List UInt8:= [112,111,108,108]
def ql:List UInt8:= [100,101,99,108,97,115,115,105,102,121]
def Fb:List UInt8:= [97,117,100,105,116]
theorem uU {σ σ0:St} {r:Rw} {n:Nat} (hlw:St.lw σ0 σ) (hn:r.ws.length≠n):AX Tryz.prog 97 [.agg (cRw r), .int .i64 (n:Nat)] σ (oX TS (.error (3,(r.a:Int)):Except Ft Unit) (fun _=> .tup []) (fun _=>σ) σ0):=by
 have q1:((r.ws.length:Int) != (n:Int))=true:=by rw [bne_iff_ne];omega
 (refine cV c97 b97 ?_;simp only [c97,↓R1,RR,seval,RX,cRw,q1])
 repeat' ((first|(with_reducible intro β hβ;(try simp only [RB] at hβ);(repeat (obtain ⟨⟨_,_⟩,hβ⟩:=hβ));(try (have hbis:=ah M0 hβ;obtain ⟨_,_⟩:=hbis)))|((refine eK (σ0:=σ0) Na (by exact dN) ?_)))<;>(try simp only [↓R1,RR,seval,RX,cRw,q1]))
 exact cQ rfl (St.bO _)
theorem jY {σ:St} {β γ:Nat} {c x:List AV} (h:σ.box γ=none):St.le (σ.aa β c) ((σ.aa γ x).aa β c):=by
 refine ⟨fun δ d hd=>?_,fun _ _ h=>h,fun _ _ h=>h,fun _ _ h=>h,fun _ _ h=>h⟩
 simp only [St.aa,upd] at hd ⊢
 split
 ·rename_i e;rw [if_pos e] at hd;exact hd
 ·rename_i e
  rw [if_neg e] at hd
  split
  ·rename_i e2;subst e2;rw [h] at hd;cases hd
  ·exact hd
theorem uV {σ:St} {r:Rw} {n:Nat} (hn:r.ws.length=n):AX Tryz.prog 97 [.agg (cRw r), .int .i64 (n:Nat)] σ (fun b v s=>b=false∧∃ κ,σ.box κ=none∧v= .ptr κ 0∧s=σ.aa κ (cur r 1)):=by
 have q1:((r.ws.length:Int) != (n:Int))=false:=by subst hn;simp
 refine Ei c97 b97 ?_
 simp only [c97,↓R1,RR,seval,RX,cRw,q1]
 repeat' ((with_reducible intro β hβ;(try simp only [RB] at hβ);(repeat (obtain ⟨⟨_,_⟩,hβ⟩:=hβ));(try (have hbis:=ah M0 hβ;obtain ⟨_,_⟩:=hbis)))<;>(try simp only [↓R1,RR,seval,RX,cRw,q1]))
 rename_i γ hγ _ _
 exact aG (e:= .ret) (r:= .ptr β 0) (σ':=σ.aa β (cur r 1)) (.inl rfl) Nd (ag (by (simp only [aq,↓R1,RR,seval,RX,cRw,q1]))) (jY hγ) ⟨rfl,β,hβ,rfl,rfl⟩
theorem Cw {a b c:St} (h:St.lw a b) (k:St.le b c):St.lw a c:=by
 refine ⟨fun β x hx=>?_,fun τ x hx=>k.2.1 _ _ (h.2.1 _ _ hx),fun l x hx=>k.2.2.1 _ _ (h.2.2.1 _ _ hx),fun l x hx=>k.2.2.2.1 _ _ (h.2.2.2.1 _ _ hx),fun β T hx=>k.2.2.2.2 _ _ (h.2.2.2.2 _ _ hx)⟩
 obtain ⟨x',h1,h2⟩:=h.1 β x hx
 exact ⟨x',k.1 _ _ h1,h2⟩
def names9:List (List UInt8):= [uT,E8,IE,Cv,E9,IF,IG,ql,Fb]
def fz:List Nat:= [3,3,3,4,2,1,3,4,4]
def ni:List Nat:= [88,89,90,91,92,93,94,95,96]
def opW (k:Nat) (ws:List Wd):Except Ft OpI:=match k,ws with
 | 0,[_,w1,w2]=>yB w1 w2
 | 1,[_,w1,w2]=>IB w1 w2
 | 2,[_,w1,w2]=>Kv w1 w2
 | 3,[_,w1,w2,w3]=>E7 w1 w2 w3
 | 4,[_,w1]=>IC w1
 | 5,[_]=>FL
 | 6,[_,w1,w2]=>sG w1 w2
 | 7,[_,w1,w2,w3]=>sH w1 w2 w3
 | 8,[_,w1,w2,w3]=>ID w1 w2 w3
 | _,_=>FL
theorem yC {α:Type} {l:List α} (h:l.length=1):∃ a0,l= [a0]:=by
 match l,h with
 | [a0],_=>exact ⟨a0,rfl⟩
theorem jx {a b:St} {β:Nat} {c:List AV} (h:St.le a b) (hb:a.box β=some c):b.box β=some c:=h.1 _ _ hb
theorem le_none {a b:St} {β:Nat} (h:St.le a b) (hb:b.box β=none):a.box β=none:=by
 cases hq:a.box β with
 | none=>rfl
 | some c=>rw [h.1 _ _ hq] at hb;cases hb
theorem fM {fr:Fr} {σ:St} {i:CI} {K:Fr→St→Prop} {R:AV→St→Prop} (h:cK Tryz.prog [i] fr σ K):ib Tryz.prog (.o i) fr σ K R:=h
def V7 (δ n:Nat) (f:Nat) (r:Rw) (σb:St) (i:Nat) (v:AV) (s:St):Prop:=match i with
 | 0=>v= .ptr δ 2
 | 1=>v= .fn f []
 | 2=>v= .agg (cRw r)
 | 3=>v= .ptr δ 1
 | 4=>v= .int .i64 (n:Nat)
 | 5=>∃ κ,v= .ptr κ 0∧s.box κ=some (cur r 1)∧σb.box κ=none∧r.ws.length=n
 | _=>True
def z8:List AV:= [.int .i64 0, .int .i64 0, .int .u64 0, .str [], .int .i64 0, .int .i64 0, .int .u64 0, .int .u64 0]
set_option maxHeartbeats 4000000 in
theorem Fc {σ0 σ1 σb:St} {r:Rw} {γ ρ δ k:Nat} {nm:List UInt8} {fr:Fr} {Q:Exit→Fr→St→Prop} (hσ:bR gl3 σb) (hlw:St.lw σ0 σb) (hle:St.le σ1 σb) (hk:k<9) (hn:r.ws.length≤20000) (ht:∀ w∈r.ws,w.t.length≤1000000)
  (hγ:σb.box γ=some (cRw r)) (hδ:σb.box δ=some [.str nm, .int .i64 ((fz[k]?.getD 0:Nat):Int), .fn (ni[k]?.getD 0) []]) (hρ:σb.box ρ=some z8) (hρ1:σ1.box ρ=none)
  (h1:slot 1 fr= .ptr γ 0) (h2:slot 2 fr= .ptr ρ 0) (h5:slot 5 fr= .ptr δ 0)
  (hF:∀ {σ σ0:St} {β:Nat},Cu σ0 σ β r 1→bR gl3 σ→r.ws.length=fz[k]?.getD 0→AX Tryz.prog (ni[k]?.getD 0) [.ptr β 0] σ (oX TS (opW k r.ws) (fun o=> .agg (cOp o)) (fun _=>σ.aa β (cur r (fz[k]?.getD 0))) σ0))
  (hno:r.ws.length≠fz[k]?.getD 0→Q (.panic []) [(0,k8 TS (3,(r.a:Int)))] σ0)
  (her:r.ws.length=fz[k]?.getD 0→∀ e,opW k r.ws= .error e→Q (.panic []) [(0,k8 TS e)] σ0)
  (hok:r.ws.length=fz[k]?.getD 0→∀ o,opW k r.ws= .ok o→∀ f s,St.lw σ1 s→slot 2 f= .ptr ρ 0→s.box ρ=some (cOp o)→Q .normal f s) :
  aX Tryz.prog (.invX [.o ⟨some 26, .fldA 2 (.t 5),none⟩, .o ⟨some 27, .ld (none) (.t 26),none⟩, .o ⟨some 28, .ld (some 2) (.t 1),none⟩, .o ⟨some 29, .fldA 1 (.t 5),none⟩, .o ⟨some 30, .ld (none) (.t 29),none⟩, .c (some 31) 97 [(.t 28),(.t 30)], .v (some 32) (.t 27) [(.t 31)], .o ⟨none, .st 8 (.t 2) (.t 32),none⟩] [[],[0],[],[],[3],[2,4],[1,5,5],[6,6,0,1,2,3,4,5,6]]) fr σb Q:=by
 refine oE [26,27,28,29,30,31] 6 (V7 δ (fz[k]?.getD 0) (ni[k]?.getD 0) r σb) Na ?_ ?_ ?_
 ·intro i v s s' h hs
  unfold V7 at h ⊢
  split at h
  all_goals first|exact h|skip
  obtain ⟨κ,q1,q2,q3⟩:=h
  exact ⟨κ,q1,hs.1 _ _ q2,q3⟩
 ·intro j x d hj hx hd f s hs hfr hv
  have h1':slot 1 f= .ptr γ 0:=by rw [hfr 1 Na];exact h1
  have h5':slot 5 f= .ptr δ 0:=by rw [hfr 5 Na];exact h5
  have hc:j=0∨j=1∨j=2∨j=3∨j=4∨j=5:=MX
  haveI b1:BoxIs s γ [.int .i64 (r.a:Nat), .sl false r.ws.length (r.ws.flatMap cWd)]:=⟨jx hs hγ⟩
  haveI b2:BoxIs s δ [.str nm, .int .i64 ((fz[k]?.getD 0:Nat):Int), .fn (ni[k]?.getD 0) []]:=⟨jx hs hδ⟩
  have h1:=h1'
  have h5:=h5'
  have e0:True:=trivial
  have e1:True:=trivial
  have e2:True:=trivial
  have e3:True:=trivial
  have e4:True:=trivial
  rcases hc with rfl|rfl|rfl|rfl|rfl|rfl
  ·cases hx;cases hd
   refine fM ?_
   simp only [↓R1,RR,seval,h1,h2,h5,e0,e1,e2,e3,e4,RX]
   exact ⟨_,rfl,St.le_refl _,rfl⟩
  ·cases hx;cases hd
   have e0:slot 26 f= .ptr δ 2:=hv 0 26 M1 rfl
   refine fM ?_
   simp only [↓R1,RR,seval,h1,h2,h5,e0,e1,e2,e3,e4,RX]
   exact ⟨_,rfl,St.le_refl _,rfl⟩
  ·cases hx;cases hd
   refine fM ?_
   simp only [↓R1,RR,seval,h1,h2,h5,e0,e1,e2,e3,e4,RX]
   exact ⟨_,rfl,St.le_refl _,rfl⟩
  ·cases hx;cases hd
   refine fM ?_
   simp only [↓R1,RR,seval,h1,h2,h5,e0,e1,e2,e3,e4,RX]
   exact ⟨_,rfl,St.le_refl _,rfl⟩
  ·cases hx;cases hd
   have e3:slot 29 f= .ptr δ 1:=hv 3 29 M1 rfl
   refine fM ?_
   simp only [↓R1,RR,seval,h1,h2,h5,e0,e1,e2,e3,e4,RX]
   exact ⟨_,rfl,St.le_refl _,rfl⟩
  ·cases hx;cases hd
   have e2:slot 28 f= .agg (cRw r):=hv 2 28 M1 rfl
   have e4:slot 30 f= .int .i64 ((fz[k]?.getD 0:Nat):Int):=hv 4 30 M1 rfl
   simp only [ib,List.map_cons,List.map_nil,ev,e2,e4]
   by_cases hln:r.ws.length=fz[k]?.getD 0
   ·refine (uV hln).mono fun b v s' hb=>?_
    obtain ⟨rfl,κ,q1,rfl,rfl⟩:=hb
    exact ⟨_,rfl,St.aO (St.le_refl _) q1,κ,rfl,St.bN _ _ _,le_none hs q1,hln⟩
   ·refine (uU (σ0:=σ0) (Cw hlw hs) hln).mono fun b v s' hb=>?_
    cases b with
    | false=>obtain ⟨a,q1,_⟩:=hb;cases q1
    | true=>obtain ⟨a,q1,rfl,rfl⟩:=hb;cases q1;exact hno hln
 ·intro f s hs hfr hv
  have h2':slot 2 f= .ptr ρ 0:=by rw [hfr 2 Na];exact h2
  have e1:slot 27 f= .fn (ni[k]?.getD 0) []:=hv 1 27 rfl
  obtain ⟨κ,e5,q2,q3,hln⟩:∃ κ,slot 31 f= .ptr κ 0∧s.box κ=some (cur r 1)∧σb.box κ=none∧r.ws.length=fz[k]?.getD 0:=hv 5 31 rfl
  have hne:ρ≠κ:=fun e=>by rw [e,q3] at hρ;cases hρ
  have hcu:Cu σ0 s κ r 1:=⟨q2,qj hlw q3,Cw hlw hs,hn,ht⟩
  have hsp:s.box ρ=some z8:=jx hs hρ
  have hσs:bR gl3 s:=fun k cs hk=>hs.2.2.1 _ _ (hσ k cs hk)
  haveI b3:BoxIs s ρ z8:=⟨hsp⟩
  haveI:Apart ρ κ:=⟨hne⟩
  haveI:Apart κ ρ:=⟨Ne.symm hne⟩
  show cN _ [.v (some 32) (.t 27) [(.t 31)], .o ⟨none, .st 8 (.t 2) (.t 32),none⟩] f s Q
  have e0:True:=trivial
  have e2:True:=trivial
  have e3:True:=trivial
  have e4:=e5
  have h1:True:=trivial
  have h5:True:=trivial
  have h2:=h2'
  simp only [↓R1,RR,seval,h1,h2,h5,e0,e1,e2,e3,e4,RX]
  refine eP (hF hcu hσs hln) (ad _) (fun o ho=>?_) (fun e ho=>her hln e ho)
  simp only [z8,↓R1,RR,seval,h1,h2,h5,e0,e1,e2,e3,e4,RX]
  refine ⟨rfl,hok hln o ho _ _ ?_ ?_ (St.bN _ _ _)⟩
  ·exact St.ig (St.ig (Cw (St.rF hle) hs) (le_none hle q3)) hρ1
  ·simp only [slot];rw [if_neg Na];exact h2
def nj (r:Rw):Option Nat:=match r.ws with
 | []=>none
 | w0::_=>bif w0.q then none else de w0.t names9 0
def uW (r:Rw):Except Ft OpI:=match nj r with
 | none=> .error (11,(r.a:Int))
 | some k=>if r.ws.length=fz[k]?.getD 0 then opW k r.ws else .error (3,(r.a:Int))
theorem IH {k:Nat} (hk:k<9):(([.str [114,101,103,105,115,116,101,114], .int .i64 3, .fn 88 [], .str [113,117,101,114,121], .int .i64 3, .fn 89 [], .str [100,114,111,112], .int .i64 3, .fn 90 [], .str [105,110,103,101,115,116], .int .i64 4, .fn 91 [], .str [98,121,116,101,115], .int .i64 2, .fn 92 [], .str [116,105,99,107], .int .i64 1, .fn 93 [], .str [112,111,108,108], .int .i64 3, .fn 94 [], .str [100,101,99,108,97,115,115,105,102,121], .int .i64 4, .fn 95 [], .str [97,117,100,105,116], .int .i64 4, .fn 96 []]:List AV).drop (k*3)).take 3= [.str (names9[k]?.getD []), .int .i64 ((fz[k]?.getD 0:Nat):Int), .fn (ni[k]?.getD 0) []]:=by
 have hc:k=0∨k=1∨k=2∨k=3∨k=4∨k=5∨k=6∨k=7∨k=8:=MX
 rcases hc with rfl|rfl|rfl|rfl|rfl|rfl|rfl|rfl|rfl<;>rfl
theorem sI (q:Bool) (t n:List UInt8):(jv q t [n] == 0)=(!q&&(n == t)):=by
 unfold jv de
 cases q<;>simp only [cond_true,cond_false]
 ·cases n == t<;>rfl
 ·rfl
theorem qm (t:List UInt8) (l:List (List UInt8)) {k:Nat} (h:k<l.length) (j:Nat):de t (l.drop k) j=bif (l[k]?.getD [] == t) then some j else de t (l.drop (k+1)) (j+1):=by
 rw [iy t l h,List.getElem?_eq_getElem h];rfl
def kQ (r:Rw):Prop:=∀ {σ σ0:St} {β k:Nat},nj r=some k→Cu σ0 σ β r 1→bR gl3 σ→r.ws.length=fz[k]?.getD 0→AX Tryz.prog (ni[k]?.getD 0) [.ptr β 0] σ (oX TS (opW k r.ws) (fun o=> .agg (cOp o)) (fun _=>σ.aa β (cur r (fz[k]?.getD 0))) σ0)
set_option maxHeartbeats 4000000 in
theorem Kw {σ σ0:St} {r:Rw} (hF:kQ r) (hσ:bR gl3 σ) (hlw:St.lw σ0 σ) (hne:r.ws≠ []) (hn:r.ws.length≤20000) (ht:∀ w∈r.ws,w.t.length≤1000000):AX Tryz.prog 43 [.agg (cRw r)] σ (oX TS (uW r) (fun o=> .agg (cOp o)) (fun _=>σ) σ0):=by
  obtain ⟨w0,ws,hws⟩:∃ w0 ws,r.ws=w0::ws:=by
    cases h:r.ws with
    | nil=>exact (hne h).elim
    | cons w0 ws=>exact ⟨w0,ws,rfl⟩
  have hw0:r.ws[0]? =some w0:=by rw [hws];rfl
  have q1:True:=trivial
  have q2:True:=trivial
  have he:True:=trivial
  have hw:True:=trivial
  (refine cV c43 b43 ?_;simp only [c43,↓R1,RR,seval,RX,cRw,q1,q2,he,hw])
  repeat' (first|(with_reducible rw [ai])|((with_reducible intro β hβ;(try simp only [RB] at hβ);(repeat (obtain ⟨⟨_,_⟩,hβ⟩:=hβ));(try (have hbis:=ah M0 hβ;obtain ⟨_,_⟩:=hbis)))<;>(try simp only [↓R1,RR,seval,RX,cRw,q1,q2,he,hw])))
  rename_i γ hγ ρ hρ p1 p2 p3 p4 p5 p6
  refine xW 9 (fun k=> [(1, .ptr γ 0),(2, .ptr ρ 0),(16, .agg [.str [114,101,103,105,115,116,101,114], .int .i64 3, .fn 88 [], .str [113,117,101,114,121], .int .i64 3, .fn 89 [], .str [100,114,111,112], .int .i64 3, .fn 90 [], .str [105,110,103,101,115,116], .int .i64 4, .fn 91 [], .str [98,121,116,101,115], .int .i64 2, .fn 92 [], .str [116,105,99,107], .int .i64 1, .fn 93 [], .str [112,111,108,108], .int .i64 3, .fn 94 [], .str [100,101,99,108,97,115,115,105,102,121], .int .i64 4, .fn 95 [], .str [97,117,100,105,116], .int .i64 4, .fn 96 []]),(17, .int .i64 (k:Nat))]) (fun _=>(σ.aa γ [.int .i64 (r.a:Nat), .sl false r.ws.length (r.ws.flatMap cWd)]).aa ρ [.int .i64 0, .int .i64 0, .int .u64 0, .str [], .int .i64 0, .int .i64 0, .int .u64 0, .int .u64 0])
    (fun k=>nj r=(bif w0.q then none else de w0.t (names9.drop k) k)) M8 (St.aO (St.le_refl _) (by simp only [↓R1,RR,seval,RX,cRw,q1,q2,he,hw];exact hβ)) (by simp [nj,hws]) (fun k hk hI=>?_)
  have hlen:names9.length=9:=rfl
  by_cases hlt:k<9
  · have q1:decide ((k:Int)<9)=true:=by rw [decide_eq_true_eq];omega
    have he:=IH hlt
    have hw:IntKind.i64.wrap ((k:Int)+1)=((k+1:Nat):Int):=MZ
    rw [qm w0.t names9 MX] at hI
    have hwh:=p83 r w0 true [names9[k]?.getD []] hw0 M1
    simp only [cRw] at hwh
    have q2:=sI w0.q w0.t (names9[k]?.getD [])
    simp only [q1,↓R1,RR,seval,RX,cRw,q1,q2,he,hw]
    repeat' (first|(with_reducible rw [ai])|(with_reducible refine And.intro ?_ ?_;exact af)|((first|(with_reducible intro β hβ;(try simp only [RB] at hβ);(repeat (obtain ⟨⟨_,_⟩,hβ⟩:=hβ));(try (have hbis:=ah M0 hβ;obtain ⟨_,_⟩:=hbis)))|(refine Pt (hwh) ?_))<;>(try simp only [↓R1,RR,seval,RX,cRw,q1,q2,he,hw])))
    all_goals first|omega|skip
    refine k7 (fun hc=>?_) (fun hc=>?_)
    · have hfo:nj r=some k:=by
        rw [hI]
        simp only [Bool.and_eq_true,Bool.not_eq_true'] at hc
        rw [hc.1,hc.2];rfl
      simp only [↓R1,RR,seval,RX,cRw,q1,q2,he,hw]
      refine Fc (σ0:=σ0) (σ1:=σ) (k:=k) (nm:=names9[k]?.getD []) (γ:=γ) (ρ:=ρ) (δ:=β) hσ ?_ ?_ hlt hn ht ?_ ?_ ?_ hρ rfl rfl rfl (fun h hσ hn=>hF hfo h hσ hn) ?_ ?_ ?_
      · exact dN
      · (repeat (first|exact St.le_refl _|(refine St.aO ?_ M0)|(refine St.iK ?_ M0)))
      · simp only [cRw,↓R1,RR,seval,RX,cRw,q1,q2,he,hw]
      · simp only [↓R1,RR,seval,RX,cRw,q1,q2,he,hw]
      · simp only [z8,↓R1,RR,seval,RX,cRw,q1,q2,he,hw]
      · intro hno
        simp only [↓R1,RR,seval,RX,cRw,q1,q2,he,hw]
        exact cQ (by simp only [uW,hfo,if_neg hno]) (St.bO _)
      · intro hln e he
        simp only [↓R1,RR,seval,RX,cRw,q1,q2,he,hw]
        exact cQ (by simp only [uW,hfo,if_pos hln,he]) (St.bO _)
      · intro hln o ho f s hs hf hsr
        haveI:BoxIs s ρ (cOp o):=⟨hsr⟩
        simp only [↓R1,RR,seval,RX,cRw,q1,q2,he,hw]
        refine pK (a:=o) M1 (by simp only [uW,hfo,if_pos hln,ho]) ?_ ?_ hs
        · simp only [ax,rvS,hf,↓R1,RR,seval,RX,cRw,q1,q2,he,hw];simp [cOp]
        · simp only [aq,hf,↓R1,RR,seval,RX,cRw,q1,q2,he,hw];exact ae _
    · simp only [↓R1,RR,seval,RX,cRw,q1,q2,he,hw]
      repeat' (first|(with_reducible refine And.intro ?_ ?_;exact af)|(with_reducible apply And.intro))
      · rw [hI]
        cases hq:w0.q with
        | true=>rfl
        | false =>
          rw [hq] at hc
          simp only [Bool.not_false,Bool.true_and] at hc
          rw [hc];rfl
      · simp [av,slot,ae]
      · refine St.aO (St.le_refl _) ?_
        simp only [↓R1,RR,seval,RX,cRw,q1,q2,he,hw]
        assumption
  · have hke:k=9:=by omega
    subst hke
    have q1:decide (((9:Nat):Int)<9)=false:=M1
    have hfo:nj r=none:=by
      rw [hI,show names9.drop 9= [] from rfl]
      cases w0.q<;>rfl
    simp only [q1,↓R1,RR,seval,RX,cRw,q1,q2,he,hw]
    repeat' (((refine eK (σ0:=σ0) Na (by exact dN) ?_))<;>(try simp only [↓R1,RR,seval,RX,cRw,q1,q2,he,hw]))
    exact cQ (by simp only [uW,hfo]) (St.bO _)
theorem qn (l:List Rw):(l.flatMap cRw).length=l.length*2:=aF (f:=cRw) (fun _=>rfl) l
theorem uX {l:List Rw} {k:Nat} {w:Rw} (h:l[k]? =some w):((l.flatMap cRw).drop (k*2)).take 2=cRw w:=by
  induction l generalizing k with
  | nil=>simp at h
  | cons x l ih =>
    cases k with
    | zero=>simp at h;subst h;simp [cRw]
    | succ k =>
      simp only [List.getElem?_cons_succ] at h
      have:=ih h
      rw [List.flatMap_cons,show (k+1)*2=(cRw x).length+k*2 by simp [cRw];omega,List.drop_append,List.drop_eq_nil_of_le MX,List.nil_append,Nat.add_sub_cancel_left]
      exact this
theorem Fe (l:List OpI):(l.flatMap cOp).length=l.length*8:=aF (f:=cOp) (fun _=>rfl) l
def qo:List Rw→Nat→Except Ft (List OpI)
 | [],_=> .ok []
 | r::rs,n=>eb (uW r) fun o=>if n=400 then .error (6,(r.a:Int)) else eb (qo rs (n+1)) fun l=> .ok (o::l)
def gL (s:List UInt8):Except Ft (List OpI):=eb (dZ s) fun rs=>qo rs 0
def Kx (rs:List Rw):Prop:=rs.length≤20001∧∀ r∈rs,r.ws≠ []∧r.ws.length≤20000∧∀ w∈r.ws,w.t.length≤1000000
theorem jy {s:List UInt8} {rs:List Rw} (h:dZ s= .ok rs):Kx rs:=by
 unfold dZ at h
 split at h
 ·rename_i rs' hr
  cases h
  obtain ⟨h1,h2,h3⟩:=uP hr
  exact ⟨by omega,fun r hr=>⟨(h3 r hr).1,(h3 r hr).2.1,fun w hw=>by have:=(h3 r hr).2.2 w hw;omega⟩⟩
 ·cases h
theorem yD {x:CX} {fr:Fr} {σ:St} {Q:Exit→Fr→St→Prop} {h:Hold (x,σ,Q)} {α:Type} (t e s n:Nat) (cs:List AV) (F:Nat→α→Fr) (S:Nat→α→St) (I:α→Prop) (μ:α→Nat) (a0:α)
  (hf:fresh (slot t fr)) (hs:slv (slot t fr)=some (n,cs)) (h0:I a0) (hF:∀ τ,σ.tip τ=none→av (F τ a0) ((t, .tsl τ n cs)::fr)) (hS:∀ τ,σ.tip τ=none→St.le (S τ a0) (σ.ao τ (e,s,n)))
  (hr:∀ τ,σ.tip τ=none→∀ a,I a→aX Tryz.prog x (F τ a) (S τ a) (gF (fun fr' σ'=>∃ b,I b∧av (F τ b) fr'∧St.le (S τ b) σ'∧μ b<μ a) Q)):rH Tryz.prog x fr σ Q h:=by
 refine tY (α:=α) [(false,t,0,e,s)] ?_
 simp only [cF]
 refine ⟨hf,?_⟩
 rw [hs]
 exact fun τ hτ=>⟨F τ,S τ,I,μ,a0,h0,hF τ hτ,hS τ hτ,hr τ hτ⟩
theorem yE {rs:List Rw} {k:Nat} {r:Rw} (h:rs[k]? =some r) (n:Nat):qo (rs.drop k) n=eb (uW r) fun o=>if n=400 then .error (6,(r.a:Int)) else eb (qo (rs.drop (k+1)) (n+1)) fun l=> .ok (o::l):=by
 obtain ⟨h1,h2⟩:=List.getElem?_eq_some_iff.1 h
 rw [List.drop_eq_getElem_cons h1,h2];rfl
theorem sJ {α β γ:Type} (o:Except Ft α) (f:α→Except Ft β) (g:β→Except Ft γ):eb (eb o f) g=eb o fun a=>eb (f a) g:=by cases o<;>rfl
theorem uY {a b:St} {τ:Nat} {x:Nat × Nat × Nat} (h:St.le a b):St.le (a.ao τ x) (b.ao τ x):=by
 refine ⟨h.1,fun υ y hy=>?_,h.2.2⟩
 simp only [St.ao,upd] at hy ⊢
 split
 ·rename_i e;rw [if_pos e] at hy;exact hy
 ·rename_i e;rw [if_neg e] at hy;exact h.2.1 _ _ hy
theorem qp (o:OpI):(cOp o).length=8:=rfl
theorem qq (o:OpI):(cOp o).take 8=cOp o:=rfl
set_option maxHeartbeats 4000000 in
theorem x41 {σ σ0:St} {ζ l:Nat} {s:List UInt8} (hF:∀ rs,dZ s= .ok rs→∀ r∈rs,kQ r) (hσ:bR gl3 σ) (hlw:St.lw σ0 σ) (hs:s.length≤1000000) (hz:σ.box ζ=some [.str s]) (hl:σ.box l=some [.nils]) (hne:l≠ζ) :
  AX Tryz.prog 41 [.ptr ζ 0, .ptr l 0] σ (oX TS (gL s) (fun _=> .tup []) (fun os=>σ.aa l [.sl false os.length (os.flatMap cOp)]) σ0):=by
 haveI:BoxIs σ ζ [.str s]:=⟨hz⟩
 haveI:BoxIs σ l [.nils]:=⟨hl⟩
 have q1:True:=trivial
 have he:True:=trivial
 have hw:True:=trivial
 (refine cV c41 b41 ?_;simp only [c41,↓R1,RR,seval,RX,cRw,q1,he,hw,qp,qq])
 repeat' (((refine eP (x42 (σ0:=σ0) s hs ?_) (ad _) (fun rs ho1=>?_) (fun e ho1=>?_);(focus (exact dN;done))))<;>(try simp only [↓R1,RR,seval,RX,cRw,q1,he,hw,qp,qq]))
 all_goals first|(refine cQ ?_ (St.bO _);focus (simp only [gL,eb,ho1];done))|skip
 obtain ⟨hz1,hz2⟩:=jy ho1
 have hp:gL s=qo rs 0:=by simp only [gL,eb,ho1]
 have hml:maxLen=9223372036854775807:=rfl
 refine yD (α:=List OpI) 2 33 8 0 [] (fun τ acc=> [(1, .ptr l 0),(2, .tsl τ acc.length (acc.flatMap cOp)),(7, .sl false rs.length (rs.flatMap cRw)),(8, .int .i64 (rs.length:Nat)),(9, .int .i64 (acc.length:Nat))]) (fun τ acc=>σ.ao τ (33,8,acc.length))
  (fun acc=>acc.length≤rs.length∧acc.length≤400∧qo rs 0=eb (qo (rs.drop acc.length) acc.length) fun m=> .ok (acc++m)) (fun acc=>rs.length - acc.length) [] trivial rfl ⟨by simp,by simp,by simp only [List.length_nil,List.drop_zero,List.nil_append];cases qo rs 0<;>rfl⟩ (fun τ hτ=>by simp [av,slot,ae]) (fun τ hτ=>St.le_refl _) ?_
 intro τ hτ acc ⟨hk,hk4,hI⟩
 have htt:(σ.ao τ (33,8,acc.length)).tip τ=some (33,8,acc.length):=NK
 by_cases hlt:acc.length<rs.length
 ·obtain ⟨r,hr⟩:∃ r,rs[acc.length]? =some r:=⟨_,List.getElem?_eq_getElem hlt⟩
  obtain ⟨hr1,hr2,hr3⟩:=hz2 r (List.mem_of_getElem? hr)
  have hFr:kQ r:=hF rs ho1 r (List.mem_of_getElem? hr)
  have q1:decide ((acc.length:Int)<(rs.length:Int))=true:=M3
  have he:=uX hr
  simp only [cRw] at he
  have hw:IntKind.i64.wrap ((acc.length:Int)+1)=((acc.length+1:Nat):Int):=MZ
  rw [yE hr,sJ] at hI
  have hcl:=qn rs
  have hol:=Fe acc
  simp only [q1,↓R1,RR,seval,RX,cRw,q1,he,hw,qp,qq]
  repeat' (first|(with_reducible rw [ai])|(with_reducible refine And.intro ?_ ?_;exact af)|((first|(with_reducible intro β hβ;(try simp only [RB] at hβ);(repeat (obtain ⟨⟨_,_⟩,hβ⟩:=hβ));(try (have hbis:=ah M0 hβ;obtain ⟨_,_⟩:=hbis)))|((first|(refine bp (.inr rfl) rfl ?_ ?_ ?_ ?_ ?_ ?_;(first|rfl|exact St.aH _ _ _|(simp only [↓R1,RR,seval,RX,cRw,q1,he,hw,qp,qq]));(first|omega|(exact aj)|(simp only [RZ]));(first|rfl|first|omega|(exact aj)|(simp only [RZ])))|(refine aV rfl ?_ ?_ ?_ ?_ ?_ ?_;(first|rfl|exact St.aH _ _ _|(simp only [↓R1,RR,seval,RX,cRw,q1,he,hw,qp,qq]));(first|omega|(exact aj)|(simp only [RZ]));(first|rfl|first|omega|(exact aj)|(simp only [RZ])))|(refine appV_own ?_ ?_ ?_ ?_;exact aF Ni _)|(refine appD_own ?_ ?_ ?_ ?_ ?_;omega;exact aF Ni _)|(refine appV_fresh rfl trivial rfl ?_ ?_ ?_ ?_ ?_;(first|rfl|first|omega|(exact aj)|(simp only [RZ]));(first|rfl|first|omega|(exact aj)|(simp only [RZ])))|(refine appD_fresh rfl trivial rfl ?_ ?_ ?_ ?_ ?_ ?_;omega;(first|rfl|first|omega|(exact aj)|(simp only [RZ]));(first|rfl|first|omega|(exact aj)|(simp only [RZ]))));(unfold maxLen;omega);omega)|((refine eP (Kw (σ0:=σ0) (r:=r) hFr ?_ ?_ hr1 hr2 hr3) (ad _) (fun o ho2=>?_) (fun e ho2=>?_);(focus (intro k cs hk;exact hσ k cs hk));(focus (exact dN;done))))|((refine k7 (fun hc=>?_) (fun hc=>?_)))|((refine eK (σ0:=σ0) Na (by exact dN) ?_)))<;>(try simp only [↓R1,RR,seval,RX,cRw,q1,he,hw,qp,qq])))
  all_goals (try (first|omega|(simp;done)))
  ·have hc2:acc.length=400:=by simp only [beq_iff_eq] at hc;omega
   refine cQ ?_ (St.bO _)
   rw [hp,hI,FK _ ho2,if_pos hc2];rfl
  ·have hc2:acc.length≠400:=by
    intro h
    simp only [beq_eq_false_iff_ne] at hc
    exact hc (by rw [h];rfl)
   refine ⟨acc++ [o],⟨by simp;omega,by simp;omega,?_⟩,?_,?_,by simp;omega⟩
   ·rw [hI,FK _ ho2,if_neg hc2,sJ,List.length_append,List.length_singleton]
    simp only [eb,List.append_assoc,List.singleton_append]
   ·simp only [av,slot,ae,↓R1,RR,seval,RX,cRw,q1,he,hw,qp,qq]
    simp [ae]
   ·simp only [List.length_append,List.length_singleton]
    exact uY (St.aO (St.aO (St.le_refl _) M0) M0)
  ·refine cQ ?_ (St.bO _)
   rw [hp,hI,Ku _ ho2]
 ·have hke:acc.length=rs.length:=by omega
  have q1:decide ((acc.length:Int)<(rs.length:Int))=false:=Nk
  have ho:gL s= .ok acc:=by
   rw [hp,hI,hke,List.drop_length];simp only [qo,eb,List.append_nil]
  simp only [q1,↓R1,RR,seval,RX,cRw,q1,he,hw,qp,qq]
  skip
  refine ij ho ?_ ?_
  ·simp only [aq,↓R1,RR,seval,RX,cRw,q1,he,hw,qp,qq]
   exact ae _
  ·exact dN
theorem nk {α:Type} {fc:Nat} {cap:List AV} {σ:St} {o:Except Ft α} {s1:α→St} {s0:St} {a:α} (hent:∀ xs w,(callFunc fc xs).run Tryz.prog w= .ok (.enter fc xs) w)
  (h:∀ β,σ.box β=none→AX Tryz.prog fc cap (σ.aa β z2) (oX TS o (fun _=> .tup []) (fun a=>(s1 a).aa β z2) (s0.aa β z2)))
  (h1:∀ β a,σ.box β=none→(s1 a).box β=none) (h0:∀ β,σ.box β=none→s0.box β=none) (ho:o= .ok a):AC Tryz.prog 40 [.fn fc cap] σ (fun r s=>r= .agg [.int .i64 0, .int .i64 0]∧s=s1 a) :=
 (a40 hent h h1 h0).mono fun r s hr=>by
  rcases hr with ⟨b,k1,k2,k3⟩|⟨f,k1,k2,k3⟩
  ·rw [ho] at k1;cases k1;exact ⟨k2,k3⟩
  ·rw [ho] at k1;cases k1
theorem np {α:Type} {fc:Nat} {cap:List AV} {σ:St} {o:Except Ft α} {s1:α→St} {s0:St} {e:Ft} (hent:∀ xs w,(callFunc fc xs).run Tryz.prog w= .ok (.enter fc xs) w)
  (h:∀ β,σ.box β=none→AX Tryz.prog fc cap (σ.aa β z2) (oX TS o (fun _=> .tup []) (fun a=>(s1 a).aa β z2) (s0.aa β z2)))
  (h1:∀ β a,σ.box β=none→(s1 a).box β=none) (h0:∀ β,σ.box β=none→s0.box β=none) (ho:o= .error e):AC Tryz.prog 40 [.fn fc cap] σ (fun r s=>r= .agg [.int .i64 e.1, .int .i64 e.2]∧s=s0) :=
 (a40 hent h h1 h0).mono fun r s hr=>by
  rcases hr with ⟨b,k1,k2,k3⟩|⟨f,k1,k2,k3⟩
  ·rw [ho] at k1;cases k1
  ·rw [ho] at k1;cases k1;exact ⟨k2,k3⟩
theorem FM {f:Nat} {xs:List AV} {σ s0 s0':St} {α:Type} {T:Nat} {o:Except Ft α} {t:α→AV} {s1 s1':α→St} (h:AX Tryz.prog f xs σ (oX T o t s1 s0)) (h1:∀ a,s1 a=s1' a) (h0:s0=s0'):AX Tryz.prog f xs σ (oX T o t s1' s0'):=by
 have:s1=s1':=funext h1
 subst this;subst h0;exact h
theorem fA {σ:St} {β γ:Nat} {c d:List AV} (h:σ.box γ=some d) (hβ:σ.box β=none):(σ.aa β c).box γ=some d:=by
 have:γ≠β:=fun e=>by rw [e,hβ] at h;cases h
 simp [St.aa,upd,this,h]
theorem dz {σ:St} {β γ:Nat} {c d:List AV} (h:σ.box γ=some d) (hβ:σ.box β=none):(σ.aa γ c).box β=none:=by
 have:β≠γ:=fun e=>by rw [←e,hβ] at h;cases h
 simp [St.aa,upd,this,hβ]
theorem nq {σ:St} {β γ:Nat} {c d z:List AV} (h:σ.box γ=some d) (hβ:σ.box β=none):(σ.aa β z).aa γ c=(σ.aa γ c).aa β z :=
 St.set_comm _ (fun e=>by rw [e,h] at hβ;cases hβ) _ _
def qs (s:List UInt8):AV:=match gL s with
 | .ok os=> .tup [.sl false os.length (os.flatMap cOp), .agg [.int .i64 0, .int .i64 0]]
 | .error e=> .tup [.sl false 0 [], .agg [.int .i64 e.1, .int .i64 e.2]]
theorem sK {σ:St} {ζ l:Nat} {s:List UInt8} (hF:∀ rs,dZ s= .ok rs→∀ r∈rs,kQ r) (hσ:bR gl3 σ) (hs:s.length≤1000000) (hz:σ.box ζ=some [.str s]) (hl:σ.box l=some [.nils]) (hne:l≠ζ):∀ β,σ.box β=none→AX Tryz.prog 41 [.ptr ζ 0, .ptr l 0] (σ.aa β z2) (oX TS (gL s) (fun _=> .tup []) (fun os=>(σ.aa l [.sl false os.length (os.flatMap cOp)]).aa β z2) (σ.aa β z2)):=fun β hβ =>
 FM (x41 (σ:=σ.aa β z2) (σ0:=σ.aa β z2) hF hσ (St.bO _) hs (fA hz hβ) (fA hl hβ) hne) (fun os=>nq hl hβ) rfl
theorem Ff (s:List UInt8) (hF:∀ rs,dZ s= .ok rs→∀ r∈rs,kQ r) (hs:s.length≤1000000):PuG Tryz.prog gl3 12 [.str s] (qs s):=by
  have hent:=Go.Proofs.enters_of Tryz.func41 MY rfl
  cases hp:gL s with
  | ok os =>
    rw [qs,hp]
    (refine aR c12 b12 fun σ hσ=>?_;simp only [c12,↓R1,RR,seval])
    repeat' (first|(with_reducible rw [ai])|((with_reducible intro β hβ;(try simp only [RB] at hβ);(repeat (obtain ⟨⟨_,_⟩,hβ⟩:=hβ));(try (have hbis:=ah M0 hβ;obtain ⟨_,_⟩:=hbis)))<;>(try simp only [↓R1,RR,seval])))
    rename_i ζ hζ l hl p1 p2 p3 p4 p5 p6
    have hat:=sK (s:=s) (ζ:=ζ) (l:=l) (σ:=((σ.aa ζ [AV.str s]).aa l [AV.nils]).aa β [AV.int IntKind.i64 0,AV.int IntKind.i64 0]) hF hσ hs Nj Nj p1.ne
    refine AC.mono (AC.wk (nk hent hat (fun γ a hγ=>dz (d:= [AV.nils]) Nj hγ) (fun γ hγ=>hγ) hp) (ad _)) ?_
    rintro _ _ ⟨rfl,rfl⟩
    simp only [↓R1,RR,seval]
    repeat' (with_reducible apply And.intro)
    all_goals (refine ak ?_ Ns)
    all_goals (simp only [aq,↓R1,RR,seval];exact ae _)
  | error e =>
    rw [qs,hp]
    (refine aR c12 b12 fun σ hσ=>?_;simp only [c12,↓R1,RR,seval])
    repeat' (first|(with_reducible rw [ai])|((with_reducible intro β hβ;(try simp only [RB] at hβ);(repeat (obtain ⟨⟨_,_⟩,hβ⟩:=hβ));(try (have hbis:=ah M0 hβ;obtain ⟨_,_⟩:=hbis)))<;>(try simp only [↓R1,RR,seval])))
    rename_i ζ hζ l hl p1 p2 p3 p4 p5 p6
    have hat:=sK (s:=s) (ζ:=ζ) (l:=l) (σ:=((σ.aa ζ [AV.str s]).aa l [AV.nils]).aa β [AV.int IntKind.i64 0,AV.int IntKind.i64 0]) hF hσ hs Nj Nj p1.ne
    refine AC.mono (AC.wk (np hent hat (fun γ a hγ=>dz (d:= [AV.nils]) Nj hγ) (fun γ hγ=>hγ) hp) (ad _)) ?_
    rintro _ _ ⟨rfl,rfl⟩
    simp only [↓R1,RR,seval]
    repeat' (with_reducible apply And.intro)
    all_goals (refine ak ?_ Ns)
    all_goals (simp only [aq,↓R1,RR,seval];all_goals exact cW)
def dA:List UInt8:= [115,99,114,105,112,116]
def cH (r:Rw):Bool:=match r.ws with
 | [w]=> !w.q&&(dA == w.t)
 | _=>false
def di (s:List UInt8) (a:Nat):Nat:=a+((s.drop a).takeWhile (· != 10)).length
def nW (s:List UInt8):List Rw→Except Ft (List UInt8 × List UInt8)
 | []=> .error (7,(s.length:Nat))
 | r::rs=>if cH r=true then .ok (s.take r.a,s.drop (min (di s r.a+1) s.length)) else nW s rs
def cR (s:List UInt8):Except Ft (List UInt8 × List UInt8):=eb (dZ s) (nW s)
theorem uZ (q:Bool) (t n:List UInt8):decide (jv q t [n]<0)= !(!q&&(n == t)):=by
 unfold jv de
 cases q<;>simp only [cond_true,cond_false]
 ·cases n == t<;>rfl
 ·rfl
theorem vQ {s:List UInt8} {rs:List Rw} {k:Nat} {r:Rw} (h:rs[k]? =some r):nW s (rs.drop k)=if cH r=true then .ok (s.take r.a,s.drop (min (di s r.a+1) s.length)) else nW s (rs.drop (k+1)):=by
 obtain ⟨h1,h2⟩:=List.getElem?_eq_some_iff.1 h
 rw [List.drop_eq_getElem_cons h1,h2];rfl
theorem II {b:UInt8} (h:b.toNat=10):b=10:=by
 apply UInt8.toNat_inj.1;simpa using h
theorem qt {s:List UInt8} {a:Nat} {b:UInt8} (h:s[a]? =some b) (hb:b≠10):di s a=di s (a+1):=by
 obtain ⟨h1,h2⟩:=List.getElem?_eq_some_iff.1 h
 unfold di
 rw [List.drop_eq_getElem_cons h1,h2,List.takeWhile_cons,if_pos (by simpa using hb)]
 simp only [List.length_cons];omega
theorem qu {s:List UInt8} {a:Nat} (h:s[a]? =some 10):di s a=a:=by
 obtain ⟨h1,h2⟩:=List.getElem?_eq_some_iff.1 h
 unfold di
 rw [List.drop_eq_getElem_cons h1,h2,List.takeWhile_cons,if_neg M1]
 rfl
theorem sL {s:List UInt8}:di s s.length=s.length:=by unfold di;simp
theorem sM:∀ (ls:List (List UInt8)) (a:Nat) (rs:List Rw),bU ls a= .ok rs→∀ r∈rs,r.a+1≤a+(ls.map (fun l=>l.length+1)).sum
  | [],a,rs,h=>by simp [bU] at h;subst h;simp
  | x :: ls, a, rs, h => by
    simp only [bU] at h
    cases h1:bF x a with
    | error e=>rw [h1] at h;cases h
    | ok r1 =>
      cases h2:bU ls (a+x.length+1) with
      | error e=>rw [h1,h2] at h;cases h
      | ok r2 =>
        rw [h1,h2] at h
        simp only [dr,Except.ok.injEq] at h
        subst h
        intro r hr
        simp only [List.map_cons,List.sum_cons]
        rcases List.mem_append.1 hr with hr|hr
        · unfold bF at h1
          split at h1
          · cases h1
          · split at h1
            · cases h1
            · cases h1;cases hr
            · cases h1
              simp only [List.mem_singleton] at hr
              subst hr
              simp only
              omega
        · have:=sM ls _ _ h2 r hr
          omega
theorem yF:∀ (n:Nat) (s:List UInt8),s.length≤n→((lines s).map (fun l=>l.length+1)).sum=s.length+1:=by
  intro n
  induction n with
  | zero=>intro s hs;have:s= []:=List.eq_nil_of_length_eq_zero MX;subst this;rfl
  | succ n ih =>
    intro s hs
    rw [jS]
    have hl:s.length=(aP s).length+(bM s).length:=by
      have:=congrArg List.length (List.takeWhile_append_dropWhile (p:=(· != 10)) (l:=s))
      rw [List.length_append] at this
      exact this.symm
    split
    · simp
    · rename_i c t hd
      rw [hd] at hl
      simp only [List.length_cons] at hl
      simp only [List.map_cons,List.sum_cons]
      rw [ih t MX];omega
theorem sO {s:List UInt8} {rs:List Rw} (h:dZ s= .ok rs):∀ r∈rs,r.a≤s.length:=by
 unfold dZ at h
 split at h
 ·rename_i rs' hr
  cases h
  unfold c8 at hr
  split at hr
  ·cases hr
  ·intro r hm
   have:=sM _ _ _ hr r hm
   rw [yF s.length s (Nat.le_refl _)] at this
   omega
 ·cases h
theorem _root_.NC {p:Prop} (h:p:=by rw [if_neg (by omega)]):p:=h
set_option maxHeartbeats 4000000 in
theorem x82 {σ σ0:St} {ζ l m:Nat} {s:List UInt8} (hσ:bR gl3 σ) (hlw:St.lw σ0 σ) (hs:s.length≤1000000) (hz:σ.box ζ=some [.str s]) (hl:σ.box l=some [.str []]) (hm:σ.box m=some [.str []]) (hne:l≠ζ) (hne2:m≠ζ) (hne3:l≠m) :
  AX Tryz.prog 82 [.ptr ζ 0, .ptr l 0, .ptr m 0] σ (oX TS (cR s) (fun _=> .tup []) (fun p=>(σ.aa l [.str p.1]).aa m [.str p.2]) σ0):=by
 haveI:BoxIs σ ζ [.str s]:=⟨hz⟩
 haveI:BoxIs σ l [.str []]:=⟨hl⟩
 haveI:BoxIs σ m [.str []]:=⟨hm⟩
 haveI:Apart l m:=⟨hne3⟩
 haveI:Apart m l:=⟨hne3.symm⟩
 have q1:True:=trivial
 have q2:True:=trivial
 have q3:True:=trivial
 have he:True:=trivial
 have hw:True:=trivial
 (refine cV c82 b82 ?_;simp only [c82,↓R1,RR,seval,RX,cRw,q1,q2,q3,he,hw])
 refine eP (x42 (σ0:=σ0) s hs hlw) (ad _) (fun rs ho1=>?_) (fun e ho1=>?_)
 case refine_2 =>
  simp only [↓R1,RR,seval,RX,cRw,q1,q2,q3,he,hw]
  exact cQ (by simp only [cR,eb,ho1]) (St.bO _)
 obtain ⟨hz1,hz2⟩:=jy ho1
 have hp:cR s=nW s rs:=by simp only [cR,eb,ho1]
 have hml:maxLen=9223372036854775807:=rfl
 simp only [↓R1,RR,seval,RX,cRw,q1,q2,q3,he,hw]
 refine aQ rs.length (fun k=> [(0, .ptr ζ 0),(1, .ptr l 0),(2, .ptr m 0),(7, .sl false rs.length (rs.flatMap cRw)),(8, .int .i64 (rs.length:Nat)),(9, .int .i64 (k:Nat))]) (fun _=>σ) (fun k=>nW s rs=nW s (rs.drop k)) M8 (St.le_refl _) rfl (fun k hk hI=>?_)
 by_cases hlt:k<rs.length
 ·obtain ⟨r,hr⟩:∃ r,rs[k]? =some r:=⟨_,List.getElem?_eq_getElem hlt⟩
  obtain ⟨hr1,hr2,hr3⟩:=hz2 r (List.mem_of_getElem? hr)
  obtain ⟨w0,ws,hws⟩:∃ w0 ws,r.ws=w0::ws:=by
   cases h:r.ws with
   | nil=>exact (hr1 h).elim
   | cons w0 ws=>exact ⟨w0,ws,rfl⟩
  have hw0:r.ws[0]? =some w0:=by rw [hws];rfl
  have hwh:=p83 r w0 true [dA] hw0 M1
  simp only [cRw] at hwh
  have q1:decide ((k:Int)<(rs.length:Int))=true:=M3
  have he:=uX hr
  simp only [cRw] at he
  have hw:IntKind.i64.wrap ((k:Int)+1)=((k+1:Nat):Int):=MZ
  rw [vQ hr] at hI
  have hcl:=qn rs
  have q2:=uZ w0.q w0.t dA
  have hra:=sO ho1 r (List.mem_of_getElem? hr)
  by_cases hl1:r.ws.length=1
  ·have q3:((r.ws.length:Int) != 1)=false:=by rw [hl1];rfl
   have hbt:cH r=(!w0.q&&(dA == w0.t)):=by
    rw [hws] at hl1
    have:ws= []:=List.eq_nil_of_length_eq_zero (by simpa using hl1)
    subst this
    simp only [cH,hws]
   simp only [q1,↓R1,RR,seval,RX,cRw,q1,q2,q3,he,hw]
   repeat' (first|(with_reducible rw [ai])|(with_reducible refine And.intro ?_ ?_;exact af)|(with_reducible apply And.intro)|((first|(refine bl (fun hc=>?_) (fun hc=>?_)<;>(try simp only [hc,↓R1,RR,seval,RX,cRw,q1,q2,q3,he,hw]))|refine an (fun hc=>?_) (fun hc=>?_)|(with_reducible intro β hβ;(try simp only [RB] at hβ);(repeat (obtain ⟨⟨_,_⟩,hβ⟩:=hβ));(try (have hbis:=ah M0 hβ;obtain ⟨_,_⟩:=hbis)))|((first|(refine bp (.inr rfl) rfl ?_ ?_ ?_ ?_ ?_ ?_;(first|rfl|exact St.aH _ _ _|(simp only [↓R1,RR,seval,RX,cRw,q1,q2,q3,he,hw]));(first|omega|(exact aj)|(simp only [RZ]));(first|rfl|first|omega|(exact aj)|(simp only [RZ])))|(refine aV rfl ?_ ?_ ?_ ?_ ?_ ?_;(first|rfl|exact St.aH _ _ _|(simp only [↓R1,RR,seval,RX,cRw,q1,q2,q3,he,hw]));(first|omega|(exact aj)|(simp only [RZ]));(first|rfl|first|omega|(exact aj)|(simp only [RZ])))|(refine appV_own ?_ ?_ ?_ ?_;exact aF Ni _)|(refine appD_own ?_ ?_ ?_ ?_ ?_;omega;exact aF Ni _)|(refine appV_fresh rfl trivial rfl ?_ ?_ ?_ ?_ ?_;(first|rfl|first|omega|(exact aj)|(simp only [RZ]));(first|rfl|first|omega|(exact aj)|(simp only [RZ])))|(refine appD_fresh rfl trivial rfl ?_ ?_ ?_ ?_ ?_ ?_;omega;(first|rfl|first|omega|(exact aj)|(simp only [RZ]));(first|rfl|first|omega|(exact aj)|(simp only [RZ]))));(unfold maxLen;omega);omega)|refine Pt (hwh) ?_|refine Ct (hwh) ?_)<;>(try simp only [↓R1,RR,seval,RX,cRw,q1,q2,q3,he,hw])))
   ·rw [hbt] at hI
    simp only [Bool.not_eq_true'] at hc
    rw [hc] at hI
    simpa using hI
   ·simp [av,slot,ae]
   ·exact St.aO (St.le_refl _) M0
   ·have hbt2:cH r=true:=by rw [hbt];simpa using hc
    have ho:cR s= .ok (s.take r.a,s.drop (min (di s r.a+1) s.length)):=by rw [hp,hI,if_pos hbt2]
    haveI:Apart β ζ:=⟨fun e=>by rw [e,hz] at hβ;cases hβ⟩
    haveI:Apart ζ β:=⟨fun e=>by rw [←e,hz] at hβ;cases hβ⟩
    haveI:Apart β l:=⟨fun e=>by rw [e,hl] at hβ;cases hβ⟩
    haveI:Apart l β:=⟨fun e=>by rw [←e,hl] at hβ;cases hβ⟩
    haveI:Apart β m:=⟨fun e=>by rw [e,hm] at hβ;cases hβ⟩
    haveI:Apart m β:=⟨fun e=>by rw [←e,hm] at hβ;cases hβ⟩
    refine b6 (α:=Nat) (fun e=> [(0, .ptr ζ 0),(1, .ptr l 0),(2, .ptr m 0),(4, .ptr β 0),(5, .int .i64 (e:Nat))]) (fun _=>σ.aa β [.int .i64 (r.a:Nat), .sl false r.ws.length (r.ws.flatMap cWd)]) (fun e=>e≤s.length∧di s r.a=di s e) (fun e=>s.length - e) r.a M8 N1 ⟨hra,rfl⟩ (fun e ⟨he1,he2⟩=>?_)
    by_cases hes:e<s.length
    ·have q1:decide ((e:Int)<(s.length:Int))=true:=by rw [decide_eq_true_eq];omega
     have hw:IntKind.i64.wrap ((e:Int)+1)=((e+1:Nat):Int):=MZ
     obtain ⟨b,hb⟩:∃ b,s[e]? =some b:=⟨_,List.getElem?_eq_getElem hes⟩
     have q2:=hb
     have hif:(if (s.length:Int)<((e+1:Nat):Int) then (s.length:Int) else ((e+1:Nat):Int))=((e+1:Nat):Int):=NC
     have htk:(s.drop (e+1)).take (s.length - (e+1))=s.drop (e+1):=List.take_of_length_le M1
     simp only [q1,↓R1,RR,seval,RX,cRw,q1,q2,q3,he,hw]
     repeat' (first|(with_reducible rw [ai])|(with_reducible refine And.intro ?_ ?_;exact af)|(with_reducible apply And.intro)|((first|(refine bl (fun hc=>?_) (fun hc=>?_)<;>(try simp only [hc,↓R1,RR,seval,RX,cRw,q1,q2,q3,he,hw]))|refine an (fun hc=>?_) (fun hc=>?_)|(with_reducible intro β hβ;(try simp only [RB] at hβ);(repeat (obtain ⟨⟨_,_⟩,hβ⟩:=hβ));(try (have hbis:=ah M0 hβ;obtain ⟨_,_⟩:=hbis)))|((first|(refine bp (.inr rfl) rfl ?_ ?_ ?_ ?_ ?_ ?_;(first|rfl|exact St.aH _ _ _|(simp only [↓R1,RR,seval,RX,cRw,q1,q2,q3,he,hw]));(first|omega|(exact aj)|(simp only [RZ]));(first|rfl|first|omega|(exact aj)|(simp only [RZ])))|(refine aV rfl ?_ ?_ ?_ ?_ ?_ ?_;(first|rfl|exact St.aH _ _ _|(simp only [↓R1,RR,seval,RX,cRw,q1,q2,q3,he,hw]));(first|omega|(exact aj)|(simp only [RZ]));(first|rfl|first|omega|(exact aj)|(simp only [RZ])))|(refine appV_own ?_ ?_ ?_ ?_;exact aF Ni _)|(refine appD_own ?_ ?_ ?_ ?_ ?_;omega;exact aF Ni _)|(refine appV_fresh rfl trivial rfl ?_ ?_ ?_ ?_ ?_;(first|rfl|first|omega|(exact aj)|(simp only [RZ]));(first|rfl|first|omega|(exact aj)|(simp only [RZ])))|(refine appD_fresh rfl trivial rfl ?_ ?_ ?_ ?_ ?_ ?_;omega;(first|rfl|first|omega|(exact aj)|(simp only [RZ]));(first|rfl|first|omega|(exact aj)|(simp only [RZ]))));(unfold maxLen;omega);omega))<;>(try simp only [↓R1,RR,seval,RX,cRw,q1,q2,q3,he,hw])))
     ·have hb10:b≠10:=by intro h;subst h;simp at hc
      exact ⟨e+1,⟨by omega,by rw [he2];exact qt hb hb10⟩,by simp [av,slot,ae],St.le_refl _,by omega⟩
     ·have hb10:b=10:=by
       simp only [bne_eq_false_iff_eq] at hc
       exact II MX
      subst hb10
      have hle:di s r.a=e:=by rw [he2,qu hb]
      rw [hle,show min (e+1) s.length=e+1 by omega] at ho
      simp only [hif,Int.toNat_natCast,htk]
      refine ij ho ?_ ?_
      ·simp only [aq,↓R1,RR,seval,RX,cRw,q1,q2,q3,he,hw]
       exact ae _
      ·exact St.kz (St.kz (St.ig (St.bO _) M0) (ad _)) (ad _)
    ·have hee:e=s.length:=by omega
     subst hee
     have q1:decide ((s.length:Int)<(s.length:Int))=false:=M1
     have hw:IntKind.i64.wrap ((s.length:Int)+1)=((s.length+1:Nat):Int):=MZ
     have hif:(if (s.length:Int)<((s.length+1:Nat):Int) then (s.length:Int) else ((s.length+1:Nat):Int))=(s.length:Int):=by rw [if_pos MX]
     have htk:(s.drop s.length).take (s.length - s.length)=s.drop s.length:=M1
     have hle:di s r.a=s.length:=by rw [he2,sL]
     rw [hle,show min (s.length+1) s.length=s.length by omega] at ho
     simp only [q1,↓R1,RR,seval,RX,cRw,q1,q2,q3,he,hw]
     repeat' (first|(with_reducible rw [ai])|(with_reducible refine And.intro ?_ ?_;exact af)|(with_reducible apply And.intro)|((first|(refine bl (fun hc=>?_) (fun hc=>?_)<;>(try simp only [hc,↓R1,RR,seval,RX,cRw,q1,q2,q3,he,hw]))|refine an (fun hc=>?_) (fun hc=>?_)|(with_reducible intro β hβ;(try simp only [RB] at hβ);(repeat (obtain ⟨⟨_,_⟩,hβ⟩:=hβ));(try (have hbis:=ah M0 hβ;obtain ⟨_,_⟩:=hbis)))|((first|(refine bp (.inr rfl) rfl ?_ ?_ ?_ ?_ ?_ ?_;(first|rfl|exact St.aH _ _ _|(simp only [↓R1,RR,seval,RX,cRw,q1,q2,q3,he,hw]));(first|omega|(exact aj)|(simp only [RZ]));(first|rfl|first|omega|(exact aj)|(simp only [RZ])))|(refine aV rfl ?_ ?_ ?_ ?_ ?_ ?_;(first|rfl|exact St.aH _ _ _|(simp only [↓R1,RR,seval,RX,cRw,q1,q2,q3,he,hw]));(first|omega|(exact aj)|(simp only [RZ]));(first|rfl|first|omega|(exact aj)|(simp only [RZ])))|(refine appV_own ?_ ?_ ?_ ?_;exact aF Ni _)|(refine appD_own ?_ ?_ ?_ ?_ ?_;omega;exact aF Ni _)|(refine appV_fresh rfl trivial rfl ?_ ?_ ?_ ?_ ?_;(first|rfl|first|omega|(exact aj)|(simp only [RZ]));(first|rfl|first|omega|(exact aj)|(simp only [RZ])))|(refine appD_fresh rfl trivial rfl ?_ ?_ ?_ ?_ ?_ ?_;omega;(first|rfl|first|omega|(exact aj)|(simp only [RZ]));(first|rfl|first|omega|(exact aj)|(simp only [RZ]))));(unfold maxLen;omega);omega))<;>(try simp only [↓R1,RR,seval,RX,cRw,q1,q2,q3,he,hw])))
     all_goals (try (rw [hif];omega))
     all_goals (try omega)
     simp only [hif,Int.toNat_natCast,htk]
     refine ij ho ?_ ?_
     ·simp only [aq,↓R1,RR,seval,RX,cRw,q1,q2,q3,he,hw]
      exact ae _
     ·exact St.kz (St.kz (St.ig (St.bO _) M0) (ad _)) (ad _)
  ·have q3:((r.ws.length:Int) != 1)=true:=by rw [bne_iff_ne];omega
   have hbt:cH r=false:=by
    unfold cH
    split
    ·rename_i w hw2;rw [hw2] at hl1;exact (hl1 rfl).elim
    ·rfl
   rw [hbt] at hI
   simp only [q1,↓R1,RR,seval,RX,cRw,q1,q2,q3,he,hw]
   repeat' (first|(with_reducible rw [ai])|(with_reducible refine And.intro ?_ ?_;exact af)|(with_reducible apply And.intro)|((first|(refine bl (fun hc=>?_) (fun hc=>?_)<;>(try simp only [hc,↓R1,RR,seval,RX,cRw,q1,q2,q3,he,hw]))|refine an (fun hc=>?_) (fun hc=>?_)|(with_reducible intro β hβ;(try simp only [RB] at hβ);(repeat (obtain ⟨⟨_,_⟩,hβ⟩:=hβ));(try (have hbis:=ah M0 hβ;obtain ⟨_,_⟩:=hbis)))|((first|(refine bp (.inr rfl) rfl ?_ ?_ ?_ ?_ ?_ ?_;(first|rfl|exact St.aH _ _ _|(simp only [↓R1,RR,seval,RX,cRw,q1,q2,q3,he,hw]));(first|omega|(exact aj)|(simp only [RZ]));(first|rfl|first|omega|(exact aj)|(simp only [RZ])))|(refine aV rfl ?_ ?_ ?_ ?_ ?_ ?_;(first|rfl|exact St.aH _ _ _|(simp only [↓R1,RR,seval,RX,cRw,q1,q2,q3,he,hw]));(first|omega|(exact aj)|(simp only [RZ]));(first|rfl|first|omega|(exact aj)|(simp only [RZ])))|(refine appV_own ?_ ?_ ?_ ?_;exact aF Ni _)|(refine appD_own ?_ ?_ ?_ ?_ ?_;omega;exact aF Ni _)|(refine appV_fresh rfl trivial rfl ?_ ?_ ?_ ?_ ?_;(first|rfl|first|omega|(exact aj)|(simp only [RZ]));(first|rfl|first|omega|(exact aj)|(simp only [RZ])))|(refine appD_fresh rfl trivial rfl ?_ ?_ ?_ ?_ ?_ ?_;omega;(first|rfl|first|omega|(exact aj)|(simp only [RZ]));(first|rfl|first|omega|(exact aj)|(simp only [RZ]))));(unfold maxLen;omega);omega))<;>(try simp only [↓R1,RR,seval,RX,cRw,q1,q2,q3,he,hw])))
   ·simpa using hI
   ·simp [av,slot,ae]
   ·exact St.aO (St.le_refl _) M0
 ·have hke:k=rs.length:=by omega
  subst hke
  have q1:decide ((rs.length:Int)<(rs.length:Int))=false:=M1
  have ho:cR s= .error (7,(s.length:Nat)):=by rw [hp,hI,List.drop_length];rfl
  simp only [q1,↓R1,RR,seval,RX,cRw,q1,q2,q3,he,hw]
  repeat' (first|(with_reducible rw [ai])|(with_reducible refine And.intro ?_ ?_;exact af)|(with_reducible apply And.intro)|((first|(refine bl (fun hc=>?_) (fun hc=>?_)<;>(try simp only [hc,↓R1,RR,seval,RX,cRw,q1,q2,q3,he,hw]))|refine an (fun hc=>?_) (fun hc=>?_)|(with_reducible intro β hβ;(try simp only [RB] at hβ);(repeat (obtain ⟨⟨_,_⟩,hβ⟩:=hβ));(try (have hbis:=ah M0 hβ;obtain ⟨_,_⟩:=hbis)))|((first|(refine bp (.inr rfl) rfl ?_ ?_ ?_ ?_ ?_ ?_;(first|rfl|exact St.aH _ _ _|(simp only [↓R1,RR,seval,RX,cRw,q1,q2,q3,he,hw]));(first|omega|(exact aj)|(simp only [RZ]));(first|rfl|first|omega|(exact aj)|(simp only [RZ])))|(refine aV rfl ?_ ?_ ?_ ?_ ?_ ?_;(first|rfl|exact St.aH _ _ _|(simp only [↓R1,RR,seval,RX,cRw,q1,q2,q3,he,hw]));(first|omega|(exact aj)|(simp only [RZ]));(first|rfl|first|omega|(exact aj)|(simp only [RZ])))|(refine appV_own ?_ ?_ ?_ ?_;exact aF Ni _)|(refine appD_own ?_ ?_ ?_ ?_ ?_;omega;exact aF Ni _)|(refine appV_fresh rfl trivial rfl ?_ ?_ ?_ ?_ ?_;(first|rfl|first|omega|(exact aj)|(simp only [RZ]));(first|rfl|first|omega|(exact aj)|(simp only [RZ])))|(refine appD_fresh rfl trivial rfl ?_ ?_ ?_ ?_ ?_ ?_;omega;(first|rfl|first|omega|(exact aj)|(simp only [RZ]));(first|rfl|first|omega|(exact aj)|(simp only [RZ]))));(unfold maxLen;omega);omega)|(refine eK (σ0:=σ0) Na (by exact dN) ?_))<;>(try simp only [↓R1,RR,seval,RX,cRw,q1,q2,q3,he,hw])))
  exact cQ ho (St.bO _)
def fN (s:List UInt8):AV:=match cR s with
 | .ok p=> .tup [.str p.1, .str p.2, .agg [.int .i64 0, .int .i64 0]]
 | .error e=> .tup [.str [], .str [], .agg [.int .i64 e.1, .int .i64 e.2]]
theorem oS {σ:St} {ζ l m:Nat} {s:List UInt8} (hσ:bR gl3 σ) (hs:s.length≤1000000) (hz:σ.box ζ=some [.str s]) (hl:σ.box l=some [.str []]) (hm:σ.box m=some [.str []]) (hne:l≠ζ) (hne2:m≠ζ) (hne3:l≠m):∀ β,σ.box β=none→AX Tryz.prog 82 [.ptr ζ 0, .ptr l 0, .ptr m 0] (σ.aa β z2) (oX TS (cR s) (fun _=> .tup []) (fun p=>((σ.aa l [.str p.1]).aa m [.str p.2]).aa β z2) (σ.aa β z2)):=fun β hβ =>
 FM (x82 (σ:=σ.aa β z2) (σ0:=σ.aa β z2) hσ (St.bO _) hs (fA hz hβ) (fA hl hβ) (fA hm hβ) hne hne2 hne3) (fun p=>by rw [nq hl hβ,nq (d:= [AV.str []]) (by simp [St.aa,upd,hne3.symm,hm]) (dz hl hβ)]) rfl
theorem p34 (s:List UInt8) (hs:s.length≤1000000):PuG Tryz.prog gl3 34 [.str s] (fN s):=by
  have hent:=Go.Proofs.enters_of Tryz.func82 MY rfl
  cases hp:cR s with
  | ok os =>
    rw [fN,hp]
    (refine aR c34 b34 fun σ hσ=>?_;simp only [c34,↓R1,RR,seval])
    repeat' (first|(with_reducible rw [ai])|(with_reducible refine And.intro ?_ ?_;exact af)|(with_reducible apply And.intro)|((first|(refine bl (fun hc=>?_) (fun hc=>?_)<;>(try simp only [hc,↓R1,RR,seval]))|refine an (fun hc=>?_) (fun hc=>?_)|(with_reducible intro β hβ;(try simp only [RB] at hβ);(repeat (obtain ⟨⟨_,_⟩,hβ⟩:=hβ));(try (have hbis:=ah M0 hβ;obtain ⟨_,_⟩:=hbis)))|((first|(refine bp (.inr rfl) rfl ?_ ?_ ?_ ?_ ?_ ?_;(first|rfl|exact St.aH _ _ _|(simp only [↓R1,RR,seval]));(first|omega|(exact aj)|(simp only [RZ]));(first|rfl|first|omega|(exact aj)|(simp only [RZ])))|(refine aV rfl ?_ ?_ ?_ ?_ ?_ ?_;(first|rfl|exact St.aH _ _ _|(simp only [↓R1,RR,seval]));(first|omega|(exact aj)|(simp only [RZ]));(first|rfl|first|omega|(exact aj)|(simp only [RZ])))|(refine appV_own ?_ ?_ ?_ ?_;exact aF Ni _)|(refine appD_own ?_ ?_ ?_ ?_ ?_;omega;exact aF Ni _)|(refine appV_fresh rfl trivial rfl ?_ ?_ ?_ ?_ ?_;(first|rfl|first|omega|(exact aj)|(simp only [RZ]));(first|rfl|first|omega|(exact aj)|(simp only [RZ])))|(refine appD_fresh rfl trivial rfl ?_ ?_ ?_ ?_ ?_ ?_;omega;(first|rfl|first|omega|(exact aj)|(simp only [RZ]));(first|rfl|first|omega|(exact aj)|(simp only [RZ]))));(unfold maxLen;omega);omega))<;>(try simp only [↓R1,RR,seval])))
    rename_i ζ hζ l hl pa pb m p2 p3 hm p5 p6 p7 p8 p9 p10 p11 p12
    have hat:=oS (s:=s) (ζ:=ζ) (l:=l) (m:=m) (σ:=(((σ.aa ζ [AV.str s]).aa l [AV.str []]).aa m [AV.str []]).aa β [AV.int IntKind.i64 0,AV.int IntKind.i64 0]) hσ hs Nj Nj Nj pa.ne p5.ne p3.ne
    refine AC.mono (AC.wk (nk hent hat (fun γ a hγ=>dz (d:= [AV.str []]) Nj (dz (d:= [AV.str []]) Nj hγ)) (fun γ hγ=>hγ) hp) (ad _)) ?_
    rintro _ _ ⟨rfl,rfl⟩
    simp only [↓R1,RR,seval]
    repeat' (first|(with_reducible rw [ai])|(with_reducible refine And.intro ?_ ?_;exact af)|(with_reducible apply And.intro)|((first|(refine bl (fun hc=>?_) (fun hc=>?_)<;>(try simp only [hc,↓R1,RR,seval]))|refine an (fun hc=>?_) (fun hc=>?_)|(with_reducible intro β hβ;(try simp only [RB] at hβ);(repeat (obtain ⟨⟨_,_⟩,hβ⟩:=hβ));(try (have hbis:=ah M0 hβ;obtain ⟨_,_⟩:=hbis)))|((first|(refine bp (.inr rfl) rfl ?_ ?_ ?_ ?_ ?_ ?_;(first|rfl|exact St.aH _ _ _|(simp only [↓R1,RR,seval]));(first|omega|(exact aj)|(simp only [RZ]));(first|rfl|first|omega|(exact aj)|(simp only [RZ])))|(refine aV rfl ?_ ?_ ?_ ?_ ?_ ?_;(first|rfl|exact St.aH _ _ _|(simp only [↓R1,RR,seval]));(first|omega|(exact aj)|(simp only [RZ]));(first|rfl|first|omega|(exact aj)|(simp only [RZ])))|(refine appV_own ?_ ?_ ?_ ?_;exact aF Ni _)|(refine appD_own ?_ ?_ ?_ ?_ ?_;omega;exact aF Ni _)|(refine appV_fresh rfl trivial rfl ?_ ?_ ?_ ?_ ?_;(first|rfl|first|omega|(exact aj)|(simp only [RZ]));(first|rfl|first|omega|(exact aj)|(simp only [RZ])))|(refine appD_fresh rfl trivial rfl ?_ ?_ ?_ ?_ ?_ ?_;omega;(first|rfl|first|omega|(exact aj)|(simp only [RZ]));(first|rfl|first|omega|(exact aj)|(simp only [RZ]))));(unfold maxLen;omega);omega))<;>(try simp only [↓R1,RR,seval])))
    all_goals (refine ak ?_ Ns)
    all_goals (simp only [aq,↓R1,RR,seval];exact ae _)
  | error e =>
    rw [fN,hp]
    (refine aR c34 b34 fun σ hσ=>?_;simp only [c34,↓R1,RR,seval])
    repeat' (first|(with_reducible rw [ai])|(with_reducible refine And.intro ?_ ?_;exact af)|(with_reducible apply And.intro)|((first|(refine bl (fun hc=>?_) (fun hc=>?_)<;>(try simp only [hc,↓R1,RR,seval]))|refine an (fun hc=>?_) (fun hc=>?_)|(with_reducible intro β hβ;(try simp only [RB] at hβ);(repeat (obtain ⟨⟨_,_⟩,hβ⟩:=hβ));(try (have hbis:=ah M0 hβ;obtain ⟨_,_⟩:=hbis)))|((first|(refine bp (.inr rfl) rfl ?_ ?_ ?_ ?_ ?_ ?_;(first|rfl|exact St.aH _ _ _|(simp only [↓R1,RR,seval]));(first|omega|(exact aj)|(simp only [RZ]));(first|rfl|first|omega|(exact aj)|(simp only [RZ])))|(refine aV rfl ?_ ?_ ?_ ?_ ?_ ?_;(first|rfl|exact St.aH _ _ _|(simp only [↓R1,RR,seval]));(first|omega|(exact aj)|(simp only [RZ]));(first|rfl|first|omega|(exact aj)|(simp only [RZ])))|(refine appV_own ?_ ?_ ?_ ?_;exact aF Ni _)|(refine appD_own ?_ ?_ ?_ ?_ ?_;omega;exact aF Ni _)|(refine appV_fresh rfl trivial rfl ?_ ?_ ?_ ?_ ?_;(first|rfl|first|omega|(exact aj)|(simp only [RZ]));(first|rfl|first|omega|(exact aj)|(simp only [RZ])))|(refine appD_fresh rfl trivial rfl ?_ ?_ ?_ ?_ ?_ ?_;omega;(first|rfl|first|omega|(exact aj)|(simp only [RZ]));(first|rfl|first|omega|(exact aj)|(simp only [RZ]))));(unfold maxLen;omega);omega))<;>(try simp only [↓R1,RR,seval])))
    rename_i ζ hζ l hl pa pb m p2 p3 hm p5 p6 p7 p8 p9 p10 p11 p12
    have hat:=oS (s:=s) (ζ:=ζ) (l:=l) (m:=m) (σ:=(((σ.aa ζ [AV.str s]).aa l [AV.str []]).aa m [AV.str []]).aa β [AV.int IntKind.i64 0,AV.int IntKind.i64 0]) hσ hs Nj Nj Nj pa.ne p5.ne p3.ne
    refine AC.mono (AC.wk (np hent hat (fun γ a hγ=>dz (d:= [AV.str []]) Nj (dz (d:= [AV.str []]) Nj hγ)) (fun γ hγ=>hγ) hp) (ad _)) ?_
    rintro _ _ ⟨rfl,rfl⟩
    simp only [↓R1,RR,seval]
    repeat' (first|(with_reducible rw [ai])|(with_reducible refine And.intro ?_ ?_;exact af)|(with_reducible apply And.intro)|((first|(refine bl (fun hc=>?_) (fun hc=>?_)<;>(try simp only [hc,↓R1,RR,seval]))|refine an (fun hc=>?_) (fun hc=>?_)|(with_reducible intro β hβ;(try simp only [RB] at hβ);(repeat (obtain ⟨⟨_,_⟩,hβ⟩:=hβ));(try (have hbis:=ah M0 hβ;obtain ⟨_,_⟩:=hbis)))|((first|(refine bp (.inr rfl) rfl ?_ ?_ ?_ ?_ ?_ ?_;(first|rfl|exact St.aH _ _ _|(simp only [↓R1,RR,seval]));(first|omega|(exact aj)|(simp only [RZ]));(first|rfl|first|omega|(exact aj)|(simp only [RZ])))|(refine aV rfl ?_ ?_ ?_ ?_ ?_ ?_;(first|rfl|exact St.aH _ _ _|(simp only [↓R1,RR,seval]));(first|omega|(exact aj)|(simp only [RZ]));(first|rfl|first|omega|(exact aj)|(simp only [RZ])))|(refine appV_own ?_ ?_ ?_ ?_;exact aF Ni _)|(refine appD_own ?_ ?_ ?_ ?_ ?_;omega;exact aF Ni _)|(refine appV_fresh rfl trivial rfl ?_ ?_ ?_ ?_ ?_;(first|rfl|first|omega|(exact aj)|(simp only [RZ]));(first|rfl|first|omega|(exact aj)|(simp only [RZ])))|(refine appD_fresh rfl trivial rfl ?_ ?_ ?_ ?_ ?_ ?_;omega;(first|rfl|first|omega|(exact aj)|(simp only [RZ]));(first|rfl|first|omega|(exact aj)|(simp only [RZ]))));(unfold maxLen;omega);omega))<;>(try simp only [↓R1,RR,seval])))
    all_goals (refine ak ?_ Ns)
    all_goals (simp only [aq,↓R1,RR,seval];exact ae _)
theorem Cx {P:Program} {f:Nat} {xs:List AV} {α:Type} {T:Nat} {a:α} {t:α→AV} {v:AV} (h:∀ σ,AX P f xs σ (oX T (.ok a) t (fun _=>σ) σ)) (hv:v=t a):Pu P f xs v:=fun σ=>by
 refine AC.JQ ((h σ).mono fun b r s hb=>?_)
 cases b with
 | false=>obtain ⟨a',h1,rfl,rfl⟩:=hb;cases h1;exact ⟨rfl,hv.symm,rfl⟩
 | true=>obtain ⟨e,h1,_⟩:=hb;cases h1
theorem St.Cy {σ:St} {L:Nat} {x:LO × Fr} (h:σ.lp L=some x):σ.ay L x=σ:=by
 obtain ⟨b,t,g,l,bt⟩:=σ
 simp only [St.ay,St.mk.injEq,true_and,and_true]
 funext j;simp only [upd]
 split
 ·rename_i e;subst e;exact h.symm
 ·rfl
theorem MR {c:CfgI} (hc:CfgOk c) (σ:St):AC Tryz.prog 106 [.agg (bh c)] σ (fun r s=>∃ β,σ.box β=none∧r= .fn 162 [.ptr β 0]∧s=σ.aa β (bh c)):=by
 have hcl:=du hc
 have hca:=eQ hc
 refine bf HJ LJ ?_
 simp only [HJ,↓R1,RR,seval,hcl,hca]
 intro β hβ
 refine cu ?_
 exact ⟨β,hβ,rfl,rfl⟩
theorem MS {c:CfgI} (hc:CfgOk c) (σ:St):AC Tryz.prog 107 [.agg (bh c)] σ (fun r s=>∃ β,σ.box β=none∧r= .fn 164 [.ptr β 0]∧s=σ.aa β (bh c)):=by
 have hcl:=du hc
 have hca:=eQ hc
 refine bf HK LK ?_
 simp only [HK,↓R1,RR,seval,hcl,hca]
 intro β hβ
 refine cu ?_
 exact ⟨β,hβ,rfl,rfl⟩
theorem MT {c:CfgI} (hc:CfgOk c) (σ:St):AC Tryz.prog 108 [.agg (bh c)] σ (fun r s=>∃ β,σ.box β=none∧r= .fn 165 [.ptr β 0]∧s=σ.aa β (bh c)):=by
 have hcl:=du hc
 have hca:=eQ hc
 refine bf HL LL ?_
 simp only [HL,↓R1,RR,seval,hcl,hca]
 intro β hβ
 refine cu ?_
 exact ⟨β,hβ,rfl,rfl⟩
def V9 (c:CfgI) (i:Nat) (v:AV) (s:St):Prop:=match i with
 | 0=>v= .agg (bh c)
 | 1=>∃ β,v= .fn 162 [.ptr β 0]∧s.box β=some (bh c)
 | 2=>v= .agg (bh c)
 | 3=>∃ β,v= .fn 164 [.ptr β 0]∧s.box β=some (bh c)
 | 4=>v= .agg (bh c)
 | 5=>∃ β,v= .fn 165 [.ptr β 0]∧s.box β=some (bh c)
 | 6=>∃ β γ δ,v= .sl true 3 [.fn 162 [.ptr β 0], .fn 164 [.ptr γ 0], .fn 165 [.ptr δ 0]]∧s.box β=some (bh c)∧s.box γ=some (bh c)∧s.box δ=some (bh c)
 | 7=>v= .int .i64 3
 | _=>v= .int .i64 0
set_option maxHeartbeats 4000000 in
theorem yG {σ:St} {c:CfgI} {B:Nat} {fr:Fr} {Q:Exit→Fr→St→Prop} (hc:CfgOk c) (hB:σ.box B=some (bh c)) (h1:slot 1 fr= .ptr B 0)
  (hok:∀ f s β γ δ,St.le σ s→(∀ t,t ∉ [18,19,20,21,22,23,24,25,26]→slot t f=slot t fr)→slot 24 f= .sl true 3 [.fn 162 [.ptr β 0], .fn 164 [.ptr γ 0], .fn 165 [.ptr δ 0]]→slot 25 f= .int .i64 3→slot 26 f= .int .i64 0→s.box β=some (bh c)→s.box γ=some (bh c)→s.box δ=some (bh c)→Q .normal f s) :
  aX Tryz.prog (.invX [.o ⟨some 18, .ld (some 33) (.t 1),none⟩, .o ⟨some 19, .call 106 [(.t 18)],none⟩, .o ⟨some 20, .ld (some 33) (.t 1),none⟩, .o ⟨some 21, .call 107 [(.t 20)],none⟩, .o ⟨some 22, .ld (some 33) (.t 1),none⟩, .o ⟨some 23, .call 108 [(.t 22)],none⟩, .o ⟨some 24, .mkSl 1 3 [.nilf, .nilf, .nilf] [(0,1,(.t 19)),(1,1,(.t 21)),(2,1,(.t 23))],none⟩, .o ⟨some 25, .len (.t 24),none⟩, .o ⟨some 26, .mv (.c (.int .i64 0)),none⟩] [[],[0],[],[2,1],[],[4,3],[1,3,5],[6],[]]) fr σ Q:=by
 have hcl:=du hc
 have hca:=eQ hc
 refine oE [18,19,20,21,22,23,24,25,26] 9 (V9 c) Na ?_ ?_ ?_
 ·intro i v s s' h hs
  unfold V9 at h ⊢
  split at h
  all_goals first|exact h|skip
  ·obtain ⟨κ,q1,q2⟩:=h;exact ⟨κ,q1,hs.1 _ _ q2⟩
  ·obtain ⟨κ,q1,q2⟩:=h;exact ⟨κ,q1,hs.1 _ _ q2⟩
  ·obtain ⟨κ,q1,q2⟩:=h;exact ⟨κ,q1,hs.1 _ _ q2⟩
  ·obtain ⟨κ,μ,ν,q1,q2,q3,q4⟩:=h;exact ⟨κ,μ,ν,q1,hs.1 _ _ q2,hs.1 _ _ q3,hs.1 _ _ q4⟩
 ·intro j x d hj hx hd f s hs hfr hv
  have h1':slot 1 f= .ptr B 0:=by rw [hfr 1 Na];exact h1
  have hcs:j=0∨j=1∨j=2∨j=3∨j=4∨j=5∨j=6∨j=7∨j=8:=MX
  have hb:s.box B=some (bh c):=jx hs hB
  have h1:=h1'
  have e0:True:=trivial
  have e1:True:=trivial
  have e2:True:=trivial
  rcases hcs with rfl|rfl|rfl|rfl|rfl|rfl|rfl|rfl|rfl
  ·cases hx;cases hd
   refine fM ?_
   simp only [↓R1,RR,seval,RX,h1,e0,e1,e2,hb,hcl,hca]
   exact ⟨_,rfl,St.le_refl _,rfl⟩
  ·cases hx;cases hd
   have e0:slot 18 f= .agg (bh c):=hv 0 18 M1 rfl
   refine fM ?_
   simp only [↓R1,RR,seval,RX,h1,e0,e1,e2,hb,hcl,hca]
   refine (MR hc s).mono ?_
   rintro _ _ ⟨β,hβ,rfl,rfl⟩
   simp only [↓R1,RR,seval,RX,h1,e0,e1,e2,hb,hcl,hca]
   exact ⟨_,rfl,St.aO (St.le_refl _) hβ,β,rfl,St.bN _ _ _⟩
  ·cases hx;cases hd
   refine fM ?_
   simp only [↓R1,RR,seval,RX,h1,e0,e1,e2,hb,hcl,hca]
   exact ⟨_,rfl,St.le_refl _,rfl⟩
  ·cases hx;cases hd
   have e0:slot 20 f= .agg (bh c):=hv 2 20 M1 rfl
   refine fM ?_
   simp only [↓R1,RR,seval,RX,h1,e0,e1,e2,hb,hcl,hca]
   refine (MS hc s).mono ?_
   rintro _ _ ⟨β,hβ,rfl,rfl⟩
   simp only [↓R1,RR,seval,RX,h1,e0,e1,e2,hb,hcl,hca]
   exact ⟨_,rfl,St.aO (St.le_refl _) hβ,β,rfl,St.bN _ _ _⟩
  ·cases hx;cases hd
   refine fM ?_
   simp only [↓R1,RR,seval,RX,h1,e0,e1,e2,hb,hcl,hca]
   exact ⟨_,rfl,St.le_refl _,rfl⟩
  ·cases hx;cases hd
   have e0:slot 22 f= .agg (bh c):=hv 4 22 M1 rfl
   refine fM ?_
   simp only [↓R1,RR,seval,RX,h1,e0,e1,e2,hb,hcl,hca]
   refine (MT hc s).mono ?_
   rintro _ _ ⟨β,hβ,rfl,rfl⟩
   simp only [↓R1,RR,seval,RX,h1,e0,e1,e2,hb,hcl,hca]
   exact ⟨_,rfl,St.aO (St.le_refl _) hβ,β,rfl,St.bN _ _ _⟩
  ·cases hx;cases hd
   obtain ⟨β,e0,k0⟩:∃ β,slot 19 f= .fn 162 [.ptr β 0]∧s.box β=some (bh c):=hv 1 19 M1 rfl
   obtain ⟨γ,e1,k1⟩:∃ β,slot 21 f= .fn 164 [.ptr β 0]∧s.box β=some (bh c):=hv 3 21 M1 rfl
   obtain ⟨δ,e2,k2⟩:∃ β,slot 23 f= .fn 165 [.ptr β 0]∧s.box β=some (bh c):=hv 5 23 M1 rfl
   refine fM ?_
   simp only [↓R1,RR,seval,RX,h1,e0,e1,e2,hb,hcl,hca]
   exact ⟨_,rfl,St.le_refl _,β,γ,δ,rfl,k0,k1,k2⟩
  ·cases hx;cases hd
   obtain ⟨β,γ,δ,e0,_⟩:∃ β γ δ,slot 24 f= .sl true 3 [.fn 162 [.ptr β 0], .fn 164 [.ptr γ 0], .fn 165 [.ptr δ 0]]∧_:=hv 6 24 M1 rfl
   refine fM ?_
   simp only [↓R1,RR,seval,RX,h1,e0,e1,e2,hb,hcl,hca]
   exact ⟨_,rfl,St.le_refl _,rfl⟩
  ·cases hx;cases hd
   refine fM ?_
   simp only [↓R1,RR,seval,RX,h1,e0,e1,e2,hb,hcl,hca]
   exact ⟨_,rfl,St.le_refl _,rfl⟩
 ·intro f s hs hfr hv
  obtain ⟨β,γ,δ,k1,k2,k3,k4⟩:∃ β γ δ,slot 24 f= .sl true 3 [.fn 162 [.ptr β 0], .fn 164 [.ptr γ 0], .fn 165 [.ptr δ 0]]∧s.box β=some (bh c)∧s.box γ=some (bh c)∧s.box δ=some (bh c):=hv 6 24 rfl
  exact hok f s β γ δ hs hfr k1 (hv 7 25 rfl) (hv 8 26 rfl) k2 k3 k4
theorem yH {σ:St} {L E N:Nat} {a:LO × Fr} {x y:List AV}:(((σ.ay L a).aa E x).aa N y).dropLp L=((σ.dropLp L).aa E x).aa N y:=by
 obtain ⟨b1,t,g,l,bt⟩:=σ
 simp only [St.ay,St.aa,St.dropLp,St.mk.injEq,true_and,and_true]
 funext j;simp only [upd];split<;>rfl
set_option maxHeartbeats 2000000 in
theorem jz {σ s:St} {E N B:Nat} {v30 v5 v24 v25 v26:AV} {Q:Exit→Fr→St→Prop} {es:List Int} (hle:St.le σ s) (hE:σ.box E=none) (hN:σ.box N=none) (hne:N≠E) (sE:s.box E=some [.int .i64 0]) (sN:s.box N=some [.int .i64 0])
  (ret:∀ e i s',firstE es 0=some (e,i)→s'.box E=some [.int .i64 e]→s'.box N=some [.int .i64 (i:Nat)]→St.le σ s'→Q .ret [(30,v30),(1, .ptr B 0),(2, .ptr E 0),(3, .ptr N 0),(5,v5),(24,v24),(25,v25),(26,v26)] s')
  (fin:firstE es 0=none→∀ s',St.le s s'→Q .normal [(30,v30),(1, .ptr B 0),(2, .ptr E 0),(3, .ptr N 0),(5,v5),(24,v24),(25,v25),(26,v26)] s') :
  Errs [31,32] (.seq (.keep [2,3,31,32] (.ops [⟨some 6, .mv (.t 31),none⟩])) (.keep [2,3,6,32] (.ops [⟨some 7, .mv (.t 32),none⟩])))
   (.block 3 (.seq (.keep [2,3,6,7] (.ops [⟨some 33, .mv (.t 7),none⟩,⟨some 34, .bin .neq (.t 33) (.c (.int .i64 0)),none⟩]))
   (.cond (.t 34)
    (.seq (.keep [2,3,6,7] (.ops [⟨some 35, .mv (.t 7),none⟩,⟨some 36, .mv (.t 6),none⟩,⟨none, .st 1 (.t 2) (.t 35),none⟩,⟨none, .st 1 (.t 3) (.t 36),none⟩]))
    .ret)
    .skip)))
   [(30,v30),(1, .ptr B 0),(2, .ptr E 0),(3, .ptr N 0),(5,v5),(24,v24),(25,v25),(26,v26)] s Q es:=by
 refine ⟨rfl,fun L r i σ1 K hat hl hs hk=>?_,fun L r i e σ1 K hat he hl hs hk=>?_,fin⟩
 ·unfold Round
  simp only [iU,putF,↓R1,RR,seval]
  refine ⟨hl,?_⟩
  rw [St.Cy hl];exact hk
 ·unfold Round
  have q1:(e != 0)=true:=by rw [bne_iff_ne];exact he
  have k1:∀ x,(σ1.ay L x).box E=some [.int .i64 0]:=fun x=>hs.1 _ _ sE
  have k2:∀ x,(σ1.ay L x).box N=some [.int .i64 0]:=fun x=>hs.1 _ _ sN
  haveI:Apart N E:=⟨hne⟩
  haveI:Apart E N:=⟨hne.symm⟩
  simp only [iU,putF,q1,k1,k2,↓R1,RR,seval]
  refine ⟨hl,?_⟩
  refine hk _ (St.bd _ _ _) (fun h1=>ret e i _ h1 ?_ ?_ ?_)
  all_goals rw [yH]
  ·simp only [↓R1,RR,seval]
  ·simp only [↓R1,RR,seval]
  ·exact St.aO (St.aO (St.le_trans hle hs) hE) hN
theorem fo {σ s:St} {E N i:Nat} {e:Int} {c:CfgI} {fr:Fr} (h2:slot 2 fr= .ptr E 0) (h3:slot 3 fr= .ptr N 0) (hc:dv c=(e,i)) (kE:s.box E=some [.int .i64 e]) (kN:s.box N=some [.int .i64 (i:Nat)]) (hl:St.le σ s) :
  pD [.cl 2 none, .cl 3 none] (oXW TS (.ok (dv c)) (fun p=> .tup [.int .i64 p.1, .int .i64 (p.2:Nat)]) (fun _=>σ) σ) .ret fr s:=by
 refine pK (a:=(e,i)) (.inl rfl) (by rw [hc]) ?_ ?_ (St.rF hl)
 ·simp [ax,rvS,h2,h3,kE,kN,cS,ldS]
 ·simp [eU,rvV,h2,h3,kE,kN,cS,ldV,ae]
theorem _root_.Nq {p:Prop} (h:p:=by first|rfl|(simp only [↓R1,RR,seval,RX,hcl,hca,hc0,h31,h32];done)):p:=h
theorem _root_.NF {p:Prop} (h:p:=by simp only [↓R1,RR,seval,RX,hcl,hca,hc0,h31,h32]):p:=h
set_option maxHeartbeats 4000000 in
theorem Fg {c:CfgI} (ck:CfgOk c) (σ:St):AX Tryz.prog 48 [.agg (bh c)] σ (oX TS (.ok (dv c)) (fun p=> .tup [.int .i64 p.1, .int .i64 (p.2:Nat)]) (fun _=>σ) σ):=by
 have hcl:=du ck
 have hca:=eQ ck
 have hc0:=lC c
 have h31:=jw ck
 have h32:=kO ck
 (refine cV c48 b48 ?_;simp only [c48,↓R1,RR,seval,RX,hcl,hca,hc0,h31,h32])
 repeat' (first|(with_reducible rw [ai])|((first|(refine an (fun hc=>?_) (fun hc=>?_))|(with_reducible intro β hβ;(try simp only [RB] at hβ);(repeat (obtain ⟨⟨_,_⟩,hβ⟩:=hβ));(try (have hbis:=ah M0 hβ;obtain ⟨_,_⟩:=hbis))))<;>(try simp only [↓R1,RR,seval,RX,hcl,hca,hc0,h31,h32])))
 ·rename_i B hB E hE a1 a2 a3 a4 a5 a6
  refine fo rfl rfl (e:=6) (i:=0) ?_ Nq Nq ?_
  ·rw [dv,if_pos]
   rw [Bool.or_eq_true,decide_eq_true_eq,decide_eq_true_eq] at hc;omega
  ·exact St.aO (St.aO (St.aO (St.le_refl _) hB) hE) hβ
 ·rename_i B hB E hE a1 a2 a3 a4 a5 a6
  refine yG ck (B:=B) NF rfl (fun f s γ1 γ2 γ3 hs hfr f24 f25 f26 g1 g2 g3=>?_)
  have hov:¬(8<c.cls.length∨8<c.ruls.length):=by
   rw [Bool.or_eq_false_iff,decide_eq_false_iff_not,decide_eq_false_iff_not] at hc;omega
  have hσs:St.le σ s:=St.le_trans (St.aO (St.aO (St.aO (St.le_refl _) hB) hE) hβ) hs
  have f1:slot 1 f= .ptr B 0:=hfr 1 Na
  have f2:slot 2 f= .ptr E 0:=hfr 2 Na
  have f3:slot 3 f= .ptr β 0:=hfr 3 Na
  have sB:s.box B=some (bh c):=jx hs NF
  have sE:s.box E=some [.int .i64 0]:=jx hs NF
  have sN:s.box β=some [.int .i64 0]:=jx hs NF
  simp only [↓R1,RR,seval,RX,hcl,hca,hc0,h31,h32]
  refine aQ 3 (fun k=> [(1, .ptr B 0),(2, .ptr E 0),(3, .ptr β 0),(24, .sl true 3 [.fn 162 [.ptr γ1 0], .fn 164 [.ptr γ2 0], .fn 165 [.ptr γ3 0]]),(25, .int .i64 3),(26, .int .i64 (k:Nat))]) (fun _=>s)
   (fun k=>(1≤k→firstE (clsEs [] c.cls) 0=none)∧(2≤k→firstE (c.tens.map tenE) 0=none)∧(3≤k→firstE (c.ruls.map rulE) 0=none)) (by simp [av,ae,f1,f2,f3,f24,f25,f26]) (St.le_refl _) ⟨fun h=>by omega,fun h=>by omega,fun h=>by omega⟩ (fun k hk hI=>?_)
  rcases (show k=0∨k=1∨k=2∨k=3 by omega) with rfl|rfl|rfl|rfl
  ·simp only [↓R1,RR,seval,RX,hcl,hca,hc0,h31,h32]
   refine eW [] ?_
   simp only [cF]
   refine ⟨_,_,rfl,uR ck g1 (jz (σ:=σ) hσs hE hβ a3.ne sE sN (fun e i s' h1 h2 h3 h4=>?_) (fun h1 s' h2=>?_))⟩
   ·simp only [↓R1,RR,seval,RX,hcl,hca,hc0,h31,h32]
    exact fo rfl rfl (by rw [dv,if_neg hov,h1]) h2 h3 h4
   ·simp only [↓R1,RR,seval,RX,hcl,hca,hc0,h31,h32]
    exact ⟨h1,by simp [av,slot,ae,show IntKind.i64.wrap 1=1 from rfl],h2⟩
  ·have hI1:=hI.1 MX
   simp only [↓R1,RR,seval,RX,hcl,hca,hc0,h31,h32]
   refine eW [] ?_
   simp only [cF]
   refine ⟨_,_,rfl,uS ck g2 (jz (σ:=σ) hσs hE hβ a3.ne sE sN (fun e i s' h1 h2 h3 h4=>?_) (fun h1 s' h2=>?_))⟩
   ·simp only [↓R1,RR,seval,RX,hcl,hca,hc0,h31,h32]
    exact fo rfl rfl (by rw [dv,if_neg hov,hI1];simp only [h1]) h2 h3 h4
   ·simp only [↓R1,RR,seval,RX,hcl,hca,hc0,h31,h32]
    exact ⟨⟨hI1,h1⟩,by simp [av,slot,ae,show IntKind.i64.wrap 2=2 from rfl],h2⟩
  ·have hI1:=hI.1 MX
   have hI2:=hI.2.1 MX
   simp only [↓R1,RR,seval,RX,hcl,hca,hc0,h31,h32]
   refine eW [] ?_
   simp only [cF]
   refine ⟨_,_,rfl,Cs ck g3 (jz (σ:=σ) hσs hE hβ a3.ne sE sN (fun e i s' h1 h2 h3 h4=>?_) (fun h1 s' h2=>?_))⟩
   ·simp only [↓R1,RR,seval,RX,hcl,hca,hc0,h31,h32]
    exact fo rfl rfl (by rw [dv,if_neg hov,hI1];simp only [hI2,h1]) h2 h3 h4
   ·simp only [↓R1,RR,seval,RX,hcl,hca,hc0,h31,h32]
    exact ⟨⟨hI1,hI2,h1⟩,by simp [av,slot,ae,show IntKind.i64.wrap 3=3 from rfl],h2⟩
  ·have hI1:=hI.1 MX
   have hI2:=hI.2.1 MX
   have hI3:=hI.2.2 MX
   haveI:BoxIs s B (bh c):=⟨sB⟩
   haveI:BoxIs s E [.int .i64 0]:=⟨sE⟩
   haveI:BoxIs s β [.int .i64 0]:=⟨sN⟩
   have l32:32<(bh c).length:=NT
   simp only [h32,l32,↓R1,RR,seval,RX,hcl,hca,hc0,h31,h32]
   repeat' ((refine an (fun hc=>?_) (fun hc=>?_))<;>(try simp only [↓R1,RR,seval,RX,hcl,hca,hc0,h31,h32]))
   ·refine fo rfl rfl (e:=2) (i:=0) ?_ Nq Nq ?_
    ·rw [dv,if_neg hov,hI1];simp only [hI2,hI3]
     rw [if_pos]
     rwa [Bool.or_eq_true,decide_eq_true_eq,decide_eq_true_eq] at hc
    ·exact St.aO (St.aO hσs hE) hβ
   ·refine fo rfl rfl (e:=0) (i:=0) ?_ Nq Nq ?_
    ·rw [dv,if_neg hov,hI1];simp only [hI2,hI3]
     rw [if_neg]
     rw [Bool.or_eq_false_iff,decide_eq_false_iff_not,decide_eq_false_iff_not] at hc
     omega
    ·exact St.aO (St.aO hσs hE) hβ
def nX (c:CfgI):AV:= .tup [.int .i64 (dv c).1, .int .i64 ((dv c).2:Nat)]
theorem p48 {c:CfgI} (hc:CfgOk c):Pu Tryz.prog 48 [.agg (bh c)] (nX c):=Cx (Fg hc) rfl
theorem e7 (n a b:Int):Pu Tryz.prog 175 [.int .i64 n, .int .i64 a, .int .i64 b] (.bool (inB n (a,b))):=by
 (refine al HY LZ fun σ=>?_;simp only [HY,↓R1,RR,seval])
 repeat' (first|(with_reducible rw [ai])|(with_reducible refine And.intro ?_ ?_;exact af)|(with_reducible apply And.intro)|((first|(refine bl (fun hc=>?_) (fun hc=>?_)<;>(try simp only [hc,↓R1,RR,seval]))|refine an (fun hc=>?_) (fun hc=>?_)|(with_reducible intro β hβ;(try simp only [RB] at hβ);(repeat (obtain ⟨⟨_,_⟩,hβ⟩:=hβ));(try (have hbis:=ah M0 hβ;obtain ⟨_,_⟩:=hbis))))<;>(try simp only [↓R1,RR,seval])))
 all_goals ((refine ak (ag ?_));(simp only [aq,↓R1,RR,seval]))
 simp only [inB,Bool.not_or,AV.bool.injEq]
 rw [Bool.eq_iff_iff]
 simp
theorem MU (a b:BitVec 64):Pu Tryz.prog 176 [.int .u64 a.toNat, .int .u64 b.toNat] (.bool (leB a b)):=by
 (refine al HZ L0 fun σ=>?_;simp only [HZ,↓R1,RR,seval])
 (refine ak (ag ?_))
 (simp only [aq,↓R1,RR,seval])
 rw [eN,eq0];rfl
set_option maxHeartbeats 2000000 in
theorem Ky {l:List ClsI} {k:Nat} {x:ClsI} (h:l[k]? =some x) (hl:l.length≤1000):Pu Tryz.prog 114 [.sl false l.length (l.flatMap cm), .int .i64 (k:Nat)] (.int .i64 (iX ((l.take k).map ClsI.l) x)):=by
  have q1:True:=trivial
  have hw:True:=trivial
  have he2:True:=trivial
  have he:=cJ (f:=cm) (m:=3) (fun _=>rfl) h
  have hln:=kb l
  have hk:k<l.length:=(List.getElem?_eq_some_iff.1 h).1
  simp only [cm] at he
  have hwi:dh [x.size,x.rate] [(1,64),(0,64)]=(inB x.size (1,64)&&inB x.rate (0,64)):=by simp only [dh,Bool.and_true]
  cases h1:inB x.size (1,64) with
  | false =>
    have h2:True:=trivial
    have ho:iX ((l.take k).map ClsI.l) x=2:=by rw [h1,Bool.false_and] at hwi;rw [iX,if_pos hwi]
    (refine al uh HM fun σ=>?_;simp only [uh,↓R1,RR,seval,q1,he,hw,cm,hln,he2,h1,h2])
    repeat' (first|(with_reducible rw [ai])|(with_reducible refine And.intro ?_ ?_;exact af)|(with_reducible apply And.intro)|((first|(refine bl (fun hc=>?_) (fun hc=>?_)<;>(try simp only [hc,↓R1,RR,seval,q1,he,hw,cm,hln,he2,h1,h2]))|refine an (fun hc=>?_) (fun hc=>?_)|(with_reducible intro β hβ;(try simp only [RB] at hβ);(repeat (obtain ⟨⟨_,_⟩,hβ⟩:=hβ));(try (have hbis:=ah M0 hβ;obtain ⟨_,_⟩:=hbis)))|refine Pt (e7 x.size 1 64) ?_|refine Ct (e7 x.size 1 64) ?_|refine Pt (e7 x.rate 0 64) ?_|refine Ct (e7 x.rate 0 64) ?_)<;>(try simp only [↓R1,RR,seval,q1,he,hw,cm,hln,he2,h1,h2])))
    (refine ak (ag ?_))
    (simp only [aq,↓R1,RR,seval,q1,he,hw,cm,hln,he2,h1,h2])
    rw [ho]
  | true =>
    cases h2:inB x.rate (0,64) with
    | false =>
      have ho:iX ((l.take k).map ClsI.l) x=2:=by rw [h1,h2] at hwi;rw [iX,if_pos (by rw [hwi];rfl)]
      (refine al uh HM fun σ=>?_;simp only [uh,↓R1,RR,seval,q1,he,hw,cm,hln,he2,h1,h2])
      repeat' (first|(with_reducible rw [ai])|(with_reducible refine And.intro ?_ ?_;exact af)|(with_reducible apply And.intro)|((first|(refine bl (fun hc=>?_) (fun hc=>?_)<;>(try simp only [hc,↓R1,RR,seval,q1,he,hw,cm,hln,he2,h1,h2]))|refine an (fun hc=>?_) (fun hc=>?_)|(with_reducible intro β hβ;(try simp only [RB] at hβ);(repeat (obtain ⟨⟨_,_⟩,hβ⟩:=hβ));(try (have hbis:=ah M0 hβ;obtain ⟨_,_⟩:=hbis)))|refine Pt (e7 x.size 1 64) ?_|refine Ct (e7 x.size 1 64) ?_|refine Pt (e7 x.rate 0 64) ?_|refine Ct (e7 x.rate 0 64) ?_)<;>(try simp only [↓R1,RR,seval,q1,he,hw,cm,hln,he2,h1,h2])))
      (refine ak (ag ?_))
      (simp only [aq,↓R1,RR,seval,q1,he,hw,cm,hln,he2,h1,h2])
      rw [ho]
    | true =>
      have ho:iX ((l.take k).map ClsI.l) x=if x.l∈(l.take k).map ClsI.l then 8 else 0:=by rw [h1,h2] at hwi;rw [iX,if_neg (by rw [hwi];decide)]
      (refine al uh HM fun σ=>?_;simp only [uh,↓R1,RR,seval,q1,he,hw,cm,hln,he2,h1,h2])
      repeat' (first|(with_reducible rw [ai])|(with_reducible refine And.intro ?_ ?_;exact af)|(with_reducible apply And.intro)|((first|(refine bl (fun hc=>?_) (fun hc=>?_)<;>(try simp only [hc,↓R1,RR,seval,q1,he,hw,cm,hln,he2,h1,h2]))|refine an (fun hc=>?_) (fun hc=>?_)|(with_reducible intro β hβ;(try simp only [RB] at hβ);(repeat (obtain ⟨⟨_,_⟩,hβ⟩:=hβ));(try (have hbis:=ah M0 hβ;obtain ⟨_,_⟩:=hbis)))|refine Pt (e7 x.size 1 64) ?_|refine Ct (e7 x.size 1 64) ?_|refine Pt (e7 x.rate 0 64) ?_|refine Ct (e7 x.rate 0 64) ?_)<;>(try simp only [↓R1,RR,seval,q1,he,hw,cm,hln,he2,h1,h2])))
      refine aQ k (fun i=> [(0, .sl false l.length (l.flatMap cm)),(1, .int .i64 (k:Nat)),(5, .int .i64 (i:Nat))]) (fun _=>σ) (fun i=>x.l∈(l.take k).map ClsI.l↔x.l∈((l.drop i).take (k - i)).map ClsI.l) M8 (St.le_refl _) M1 (fun i hi hI=>?_)
      by_cases hlt:i<k
      · obtain ⟨y,hy⟩:∃ y,l[i]? =some y:=⟨_,List.getElem?_eq_getElem MX⟩
        have he2:=cJ (f:=cm) (m:=3) (fun _=>rfl) hy
        simp only [cm] at he2
        have q1:decide ((i:Int)<(k:Int))=true:=M3
        have hw:IntKind.i64.wrap ((i:Int)+1)=((i+1:Nat):Int):=MZ
        simp only [q1,↓R1,RR,seval,q1,he,hw,cm,hln,he2,h1,h2]
        repeat' (first|(with_reducible rw [ai])|(with_reducible refine And.intro ?_ ?_;exact af)|(with_reducible apply And.intro)|((first|(refine bl (fun hc=>?_) (fun hc=>?_)<;>(try simp only [hc,↓R1,RR,seval,q1,he,hw,cm,hln,he2,h1,h2]))|refine an (fun hc=>?_) (fun hc=>?_)|(with_reducible intro β hβ;(try simp only [RB] at hβ);(repeat (obtain ⟨⟨_,_⟩,hβ⟩:=hβ));(try (have hbis:=ah M0 hβ;obtain ⟨_,_⟩:=hbis))))<;>(try simp only [↓R1,RR,seval,q1,he,hw,cm,hln,he2,h1,h2])))
        · (refine ak (ag ?_))
          (simp only [aq,↓R1,RR,seval,q1,he,hw,cm,hln,he2,h1,h2])
          rw [ho,if_pos]
          rw [hI,List.drop_eq_getElem_cons MX,show k - i=(k - (i+1))+1 by omega,List.take_succ_cons,List.map_cons]
          refine List.mem_cons.2 (.inl ?_)
          obtain ⟨_,h5⟩:=List.getElem?_eq_some_iff.1 hy
          rw [h5];exact (eq_of_beq hc).symm
        · rw [hI,List.drop_eq_getElem_cons MX,show k - i=(k - (i+1))+1 by omega,List.take_succ_cons,List.map_cons,List.mem_cons]
          obtain ⟨_,h5⟩:=List.getElem?_eq_some_iff.1 hy
          rw [h5]
          have hne:¬ x.l=y.l:=fun e=>by rw [e,beq_self_eq_true] at hc;cases hc
          simp [hne]
        · simp [av,slot,ae]
        · exact St.le_refl _
      · have hke:i=k:=by omega
        subst hke
        have q1:decide ((i:Int)<(i:Int))=false:=M1
        simp only [q1,↓R1,RR,seval,q1,he,hw,cm,hln,he2,h1,h2]
        repeat' (first|(with_reducible rw [ai])|(with_reducible refine And.intro ?_ ?_;exact af)|(with_reducible apply And.intro)|((first|(refine bl (fun hc=>?_) (fun hc=>?_)<;>(try simp only [hc,↓R1,RR,seval,q1,he,hw,cm,hln,he2,h1,h2]))|refine an (fun hc=>?_) (fun hc=>?_)|(with_reducible intro β hβ;(try simp only [RB] at hβ);(repeat (obtain ⟨⟨_,_⟩,hβ⟩:=hβ));(try (have hbis:=ah M0 hβ;obtain ⟨_,_⟩:=hbis))))<;>(try simp only [↓R1,RR,seval,q1,he,hw,cm,hln,he2,h1,h2])))
        (refine ak (ag ?_))
        (simp only [aq,↓R1,RR,seval,q1,he,hw,cm,hln,he2,h1,h2])
        rw [ho,if_neg]
        rw [hI];simp
set_option maxHeartbeats 2000000 in
theorem Kz (x:TenI):Pu Tryz.prog 115 [.agg (eZ x)] (.bool (tenE x == 0)):=by
 have hca:(eZ x).take 5=eZ x:=rfl
 have hwi:(tenE x == 0)=(inB x.budget (1,64)&&inB x.queries (0,4)&&inB x.cap (0,64)&&inB x.out (0,64)&&inB x.audit (0,64)):=by
  simp only [tenE,dh,Bool.and_true]
  cases inB x.budget (1,64)<;>cases inB x.queries (0,4)<;>cases inB x.cap (0,64)<;>cases inB x.out (0,64)<;>cases inB x.audit (0,64)<;>rfl
 simp only [eZ]
 (refine al HN LM fun σ=>?_;simp only [HN,↓R1,RR,seval,hca])
 repeat' (first|(with_reducible rw [ai])|(with_reducible refine And.intro ?_ ?_;exact af)|(with_reducible apply And.intro)|((first|(refine bl (fun hc=>?_) (fun hc=>?_)<;>(try simp only [hc,↓R1,RR,seval,hca]))|refine an (fun hc=>?_) (fun hc=>?_)|(with_reducible intro β hβ;(try simp only [RB] at hβ);(repeat (obtain ⟨⟨_,_⟩,hβ⟩:=hβ));(try (have hbis:=ah M0 hβ;obtain ⟨_,_⟩:=hbis)))|refine Pt (e7 x.budget 1 64) ?_|refine Ct (e7 x.budget 1 64) ?_|refine Pt (e7 x.queries 0 4) ?_|refine Ct (e7 x.queries 0 4) ?_|refine Pt (e7 x.cap 0 64) ?_|refine Ct (e7 x.cap 0 64) ?_|refine Pt (e7 x.out 0 64) ?_|refine Ct (e7 x.out 0 64) ?_|refine Pt (e7 x.audit 0 64) ?_|refine Ct (e7 x.audit 0 64) ?_)<;>(try simp only [↓R1,RR,seval,hca])))
 all_goals (refine ak ?_)
 all_goals rw [hwi]
 all_goals simp only [aq,↓R1,RR,seval,hca]
 all_goals first|exact ae _|(simp_all [ae];done)
set_option maxHeartbeats 2000000 in
theorem KA (x:RulI) (h1:U64 x.auth) (h2:U64 x.res):Pu Tryz.prog 116 [.agg (eL x)] (.int .i64 (rulE x)):=by
 have hca:(eL x).take 7=eL x:=rfl
 have hpw:=MU (lab x.res) (lab x.auth)
 rw [dt h1,dt h2] at hpw
 have hr:rulE x=if (!inB x.owner (1,6)|| !inB x.kind (0,25)||(x.any&&x.kind != 0))=true then 2 else if leB (lab x.res) (lab x.auth)=false then 13 else if x.high<x.low then 9 else 0:=by
  simp only [rulE,inB,Bool.not_not,Bool.or_assoc]
 simp only [eL]
 (refine al HO LN fun σ=>?_;simp only [HO,↓R1,RR,seval,hca])
 repeat' (first|(with_reducible rw [ai])|(with_reducible refine And.intro ?_ ?_;exact af)|(with_reducible apply And.intro)|((first|(refine bl (fun hc=>?_) (fun hc=>?_)<;>(try simp only [hc,↓R1,RR,seval,hca]))|refine an (fun hc=>?_) (fun hc=>?_)|(with_reducible intro β hβ;(try simp only [RB] at hβ);(repeat (obtain ⟨⟨_,_⟩,hβ⟩:=hβ));(try (have hbis:=ah M0 hβ;obtain ⟨_,_⟩:=hbis)))|refine Pt (e7 x.owner 1 6) ?_|refine Ct (e7 x.owner 1 6) ?_|refine Pt (e7 x.kind 0 25) ?_|refine Ct (e7 x.kind 0 25) ?_|refine Pt (hpw) ?_|refine Ct (hpw) ?_)<;>(try simp only [↓R1,RR,seval,hca])))
 all_goals first|(refine ak ?_)|skip
 all_goals first|(intro h;simp_all;done)|(rw [hr];simp only [aq,↓R1,RR,seval,hca];simp_all [ae];done)|(simp_all;done)|skip
 all_goals (rw [hr];simp only [aq,↓R1,RR,seval,hca])
 all_goals simp_all [ae]
 all_goals (rw [if_neg (by rintro ⟨a,b⟩;simp_all)];first|exact ae _|(rw [if_neg MX];exact ae _))
theorem oT {a b:AV} (h:a=b):Go.Abs.wk a b:=h ▸ ae _
theorem yI {e i:Int} {p:Int × Nat} (h:p=(e,i.toNat)) (hi:(i.toNat:Int)=i):AV.tup [.int .i64 e, .int .i64 i]= .tup [.int .i64 p.1, .int .i64 (p.2:Nat)]:=by rw [h,hi]
theorem Cz {c:CfgI} (h:8<c.cls.length∨8<c.ruls.length):dv c=(6,0):=by rw [dv,if_pos h]
theorem CA {c:CfgI} {p:Int × Nat} (h:¬(8<c.cls.length∨8<c.ruls.length)) (h1:firstE (clsEs [] c.cls) 0=some p):dv c=p:=by rw [dv,if_neg h,h1]
theorem CB {c:CfgI} {p:Int × Nat} (h:¬(8<c.cls.length∨8<c.ruls.length)) (h1:firstE (clsEs [] c.cls) 0=none) (h2:firstE (c.tens.map tenE) 0=some p):dv c=p:=by rw [dv,if_neg h,h1];simp only [h2]
theorem CD {c:CfgI} {p:Int × Nat} (h:¬(8<c.cls.length∨8<c.ruls.length)) (h1:firstE (clsEs [] c.cls) 0=none) (h2:firstE (c.tens.map tenE) 0=none) (h3:firstE (c.ruls.map rulE) 0=some p):dv c=p:=by rw [dv,if_neg h,h1];simp only [h2,h3]
theorem CE {c:CfgI} (h:¬(8<c.cls.length∨8<c.ruls.length)) (h1:firstE (clsEs [] c.cls) 0=none) (h2:firstE (c.tens.map tenE) 0=none) (h3:firstE (c.ruls.map rulE) 0=none) (h4:c.hor<1∨10000<c.hor):dv c=(2,0):=by rw [dv,if_neg h,h1];simp only [h2,h3,if_pos h4]
theorem Fh {c:CfgI} (h:¬(8<c.cls.length∨8<c.ruls.length)) (h1:firstE (clsEs [] c.cls) 0=none) (h2:firstE (c.tens.map tenE) 0=none) (h3:firstE (c.ruls.map rulE) 0=none) (h4:¬(c.hor<1∨10000<c.hor)):dv c=(0,0):=by rw [dv,if_neg h,h1];simp only [h2,h3,if_neg h4]
theorem vR {c:CfgI} (h:CfgOk c) {k:Nat} {x:TenI} (hx:c.tens[k]? =some x):((bh c).drop (1+k*5)).take 5=eZ x:=by
 have hk:k<6:=by rw [←h.six];exact (List.getElem?_eq_some_iff.1 hx).1
 have h1:=cJ (f:=eZ) (m:=5) (fun _=>rfl) hx
 have h2:=cZ c.tens
 rw [h.six] at h2
 rw [bh,Nat.add_comm,List.drop_succ_cons,List.drop_append_of_le_length MX,List.take_append_of_le_length (by rw [List.length_drop];omega),h1]
theorem Fi (x:TenI) (h:(tenE x == 0)=false):tenE x=2:=by
 unfold tenE at *
 split
 ·rfl
 ·rename_i h1;rw [if_neg h1] at h;cases h
set_option maxHeartbeats 8000000 in
theorem p55 {c:CfgI} (ck:CfgOk c):Pu Tryz.prog 55 [.agg (bh c)] (nX c):=by
 have hcl:=du ck
 have hca:=eQ ck
 have hc0:=lC c
 have h31:=jw ck
 have h32:=kO ck
 have q1:True:=trivial
 have he:True:=trivial
 have hw:True:=trivial
 have hln:True:=trivial
 have hv:True:=trivial
 have l32:32<(bh c).length:=NT
 have n1:=ck.ncls
 have n2:=ck.nrul
 have h6:=ck.six
 have yC:=kP c.cls []
 (refine al c55 b55 fun σ=>?_;simp only [c55,↓R1,RR,seval,q1,he,hw,hcl,hca,hc0,h31,h32,hln,l32,hv])
 repeat' (first|(with_reducible rw [ai])|(with_reducible refine And.intro ?_ ?_;exact af)|(with_reducible apply And.intro)|((first|(refine bl (fun hc=>?_) (fun hc=>?_)<;>(try simp only [hc,↓R1,RR,seval,q1,he,hw,hcl,hca,hc0,h31,h32,hln,l32,hv]))|refine an (fun hc=>?_) (fun hc=>?_)|(with_reducible intro β hβ;(try simp only [RB] at hβ);(repeat (obtain ⟨⟨_,_⟩,hβ⟩:=hβ));(try (have hbis:=ah M0 hβ;obtain ⟨_,_⟩:=hbis))))<;>(try simp only [↓R1,RR,seval,q1,he,hw,hcl,hca,hc0,h31,h32,hln,l32,hv])))
 ·(refine ak ?_);(simp only [aq,↓R1,RR,seval,q1,he,hw,hcl,hca,hc0,h31,h32,hln,l32,hv];rw [nX];(refine oT ?_);(refine yI ?_ M1);simp only [Int.toNat_natCast,Int.toNat_zero])
  refine Cz ?_
  rw [Bool.or_eq_true,decide_eq_true_eq,decide_eq_true_eq] at hc;omega
 have hov:¬(8<c.cls.length∨8<c.ruls.length):=by
  rw [Bool.or_eq_false_iff,decide_eq_false_iff_not,decide_eq_false_iff_not] at hc;omega
 refine aQ c.cls.length (fun k=> [(1, .ptr β 0),(4, .int .i64 (k:Nat))]) (fun _=>σ.aa β (bh c)) (fun k=>firstE (clsEs [] c.cls) 0=firstE ((clsEs [] c.cls).drop k) k) M8 (St.le_refl _) rfl (fun k hk hI=>?_)
 by_cases hlt:k<c.cls.length
 ·obtain ⟨x,hx⟩:∃ x,c.cls[k]? =some x:=⟨_,List.getElem?_eq_getElem MX⟩
  have hat:=kd (seen:= []) hx
  rw [List.nil_append] at hat
  rw [ed hat] at hI
  have q1:decide ((k:Int)<(c.cls.length:Int))=true:=M3
  have hw:IntKind.i64.wrap ((k:Int)+1)=((k+1:Nat):Int):=MZ
  simp only [q1,↓R1,RR,seval,q1,he,hw,hcl,hca,hc0,h31,h32,hln,l32,hv]
  repeat' (first|(with_reducible rw [ai])|(with_reducible refine And.intro ?_ ?_;exact af)|(with_reducible apply And.intro)|((first|(refine bl (fun hc=>?_) (fun hc=>?_)<;>(try simp only [hc,↓R1,RR,seval,q1,he,hw,hcl,hca,hc0,h31,h32,hln,l32,hv]))|refine an (fun hc=>?_) (fun hc=>?_)|(with_reducible intro β hβ;(try simp only [RB] at hβ);(repeat (obtain ⟨⟨_,_⟩,hβ⟩:=hβ));(try (have hbis:=ah M0 hβ;obtain ⟨_,_⟩:=hbis)))|refine Pt (Ky hx n1) ?_|refine Ct (Ky hx n1) ?_)<;>(try simp only [↓R1,RR,seval,q1,he,hw,hcl,hca,hc0,h31,h32,hln,l32,hv])))
  ·(refine ak ?_);(simp only [aq,↓R1,RR,seval,q1,he,hw,hcl,hca,hc0,h31,h32,hln,l32,hv];rw [nX];(refine oT ?_);(refine yI ?_ M1);simp only [Int.toNat_natCast,Int.toNat_zero])
   rw [if_neg Nu] at hI
   exact CA hov hI
  ·rw [if_pos Nu] at hI;exact hI
  ·simp [av,slot,ae]
  ·exact St.le_refl _
 have hke:k=c.cls.length:=MX
 subst hke
 have hI1:firstE (clsEs [] c.cls) 0=none:=by rw [hI,List.drop_eq_nil_of_le MX];rfl
 have q1:decide ((c.cls.length:Int)<(c.cls.length:Int))=false:=M1
 simp only [q1,↓R1,RR,seval,q1,he,hw,hcl,hca,hc0,h31,h32,hln,l32,hv]
 repeat' (first|(with_reducible rw [ai])|(with_reducible refine And.intro ?_ ?_;exact af)|(with_reducible apply And.intro)|((first|(refine bl (fun hc=>?_) (fun hc=>?_)<;>(try simp only [hc,↓R1,RR,seval,q1,he,hw,hcl,hca,hc0,h31,h32,hln,l32,hv]))|refine an (fun hc=>?_) (fun hc=>?_)|(with_reducible intro β hβ;(try simp only [RB] at hβ);(repeat (obtain ⟨⟨_,_⟩,hβ⟩:=hβ));(try (have hbis:=ah M0 hβ;obtain ⟨_,_⟩:=hbis))))<;>(try simp only [↓R1,RR,seval,q1,he,hw,hcl,hca,hc0,h31,h32,hln,l32,hv])))
 refine aQ 6 (fun k=> [(1, .ptr β 0),(6, .int .i64 (k:Nat))]) (fun _=>σ.aa β (bh c)) (fun k=>firstE (c.tens.map tenE) 0=firstE ((c.tens.map tenE).drop k) k) M8 (St.le_refl _) rfl (fun k hk hI=>?_)
 by_cases hlt:k<6
 ·obtain ⟨x,hx⟩:∃ x,c.tens[k]? =some x:=⟨_,List.getElem?_eq_getElem MX⟩
  have hat:=qk (f:=tenE) hx
  rw [ed hat] at hI
  have q1:decide ((k:Int)<6)=true:=M3
  have hw:IntKind.i64.wrap ((k:Int)+1)=((k+1:Nat):Int):=MZ
  simp only [q1,↓R1,RR,seval,q1,he,hw,hcl,hca,hc0,h31,h32,hln,l32,hv]
  have hv:=vR ck hx
  have l1:1+k*5+5≤33:=MX
  simp only [q1,l1,↓R1,RR,seval,q1,he,hw,hcl,hca,hc0,h31,h32,hln,l32,hv]
  repeat' (first|(with_reducible rw [ai])|(with_reducible refine And.intro ?_ ?_;exact af)|(with_reducible apply And.intro)|((first|(refine bl (fun hc=>?_) (fun hc=>?_)<;>(try simp only [hc,↓R1,RR,seval,q1,he,hw,hcl,hca,hc0,h31,h32,hln,l32,hv]))|refine an (fun hc=>?_) (fun hc=>?_)|(with_reducible intro β hβ;(try simp only [RB] at hβ);(repeat (obtain ⟨⟨_,_⟩,hβ⟩:=hβ));(try (have hbis:=ah M0 hβ;obtain ⟨_,_⟩:=hbis)))|refine Pt (Kz x) ?_|refine Ct (Kz x) ?_)<;>(try simp only [↓R1,RR,seval,q1,he,hw,hcl,hca,hc0,h31,h32,hln,l32,hv])))
  ·(refine ak ?_);(simp only [aq,↓R1,RR,seval,q1,he,hw,hcl,hca,hc0,h31,h32,hln,l32,hv];rw [nX];(refine oT ?_);(refine yI ?_ M1);simp only [Int.toNat_natCast,Int.toNat_zero])
   have e2:=Fi x Nu
   rw [e2] at hI
   exact CB hov hI1 hI
  ·rw [if_pos Nu] at hI;exact hI
  ·simp [av,slot,ae]
  ·exact St.le_refl _
 have hke:k=6:=MX
 subst hke
 have hI2:firstE (c.tens.map tenE) 0=none:=by rw [hI,List.drop_eq_nil_of_le (by simp [h6])];rfl
 have q1:decide (((6:Nat):Int)<6)=false:=Na
 simp only [q1,↓R1,RR,seval,q1,he,hw,hcl,hca,hc0,h31,h32,hln,l32,hv]
 repeat' (first|(with_reducible rw [ai])|(with_reducible refine And.intro ?_ ?_;exact af)|(with_reducible apply And.intro)|((first|(refine bl (fun hc=>?_) (fun hc=>?_)<;>(try simp only [hc,↓R1,RR,seval,q1,he,hw,hcl,hca,hc0,h31,h32,hln,l32,hv]))|refine an (fun hc=>?_) (fun hc=>?_)|(with_reducible intro β hβ;(try simp only [RB] at hβ);(repeat (obtain ⟨⟨_,_⟩,hβ⟩:=hβ));(try (have hbis:=ah M0 hβ;obtain ⟨_,_⟩:=hbis))))<;>(try simp only [↓R1,RR,seval,q1,he,hw,hcl,hca,hc0,h31,h32,hln,l32,hv])))
 refine aQ c.ruls.length (fun k=> [(1, .ptr β 0),(7, .int .i64 (k:Nat))]) (fun _=>σ.aa β (bh c)) (fun k=>firstE (c.ruls.map rulE) 0=firstE ((c.ruls.map rulE).drop k) k) M8 (St.le_refl _) rfl (fun k hk hI=>?_)
 by_cases hlt:k<c.ruls.length
 ·obtain ⟨x,hx⟩:∃ x,c.ruls[k]? =some x:=⟨_,List.getElem?_eq_getElem hlt⟩
  have hat:=qk (f:=rulE) hx
  rw [ed hat] at hI
  have he:=cJ (f:=eL) (m:=7) (fun _=>rfl) hx
  have hln:=kc c.ruls
  have hxm:=ck.lrul x (List.mem_of_getElem? hx)
  have q1:decide ((k:Int)<(c.ruls.length:Int))=true:=M3
  have hw:IntKind.i64.wrap ((k:Int)+1)=((k+1:Nat):Int):=MZ
  have l31:31<33:=Na
  simp only [q1,l31,↓R1,RR,seval,q1,he,hw,hcl,hca,hc0,h31,h32,hln,l32,hv]
  repeat' (first|(with_reducible rw [ai])|(with_reducible refine And.intro ?_ ?_;exact af)|(with_reducible apply And.intro)|((first|(refine bl (fun hc=>?_) (fun hc=>?_)<;>(try simp only [hc,↓R1,RR,seval,q1,he,hw,hcl,hca,hc0,h31,h32,hln,l32,hv]))|refine an (fun hc=>?_) (fun hc=>?_)|(with_reducible intro β hβ;(try simp only [RB] at hβ);(repeat (obtain ⟨⟨_,_⟩,hβ⟩:=hβ));(try (have hbis:=ah M0 hβ;obtain ⟨_,_⟩:=hbis)))|refine Pt (KA x hxm.1 hxm.2) ?_|refine Ct (KA x hxm.1 hxm.2) ?_)<;>(try simp only [↓R1,RR,seval,q1,he,hw,hcl,hca,hc0,h31,h32,hln,l32,hv])))
  ·exact Nat.le_refl 7
  ·(refine ak ?_);(simp only [aq,↓R1,RR,seval,q1,he,hw,hcl,hca,hc0,h31,h32,hln,l32,hv];rw [nX];(refine oT ?_);(refine yI ?_ M1);simp only [Int.toNat_natCast,Int.toNat_zero])
   rw [if_neg Nu] at hI
   exact CD hov hI1 hI2 hI
  ·rw [if_pos Nu] at hI;exact hI
  ·simp [av,slot,ae]
  ·exact St.le_refl _
 have hke:k=c.ruls.length:=MX
 subst hke
 have hI3:firstE (c.ruls.map rulE) 0=none:=by rw [hI,List.drop_eq_nil_of_le M1];rfl
 have q1:decide ((c.ruls.length:Int)<(c.ruls.length:Int))=false:=M1
 have l31:31<33:=Na
 simp only [q1,l31,↓R1,RR,seval,q1,he,hw,hcl,hca,hc0,h31,h32,hln,l32,hv]
 repeat' (first|(with_reducible rw [ai])|(with_reducible refine And.intro ?_ ?_;exact af)|(with_reducible apply And.intro)|((first|(refine bl (fun hc=>?_) (fun hc=>?_)<;>(try simp only [hc,↓R1,RR,seval,q1,he,hw,hcl,hca,hc0,h31,h32,hln,l32,hv]))|refine an (fun hc=>?_) (fun hc=>?_)|(with_reducible intro β hβ;(try simp only [RB] at hβ);(repeat (obtain ⟨⟨_,_⟩,hβ⟩:=hβ));(try (have hbis:=ah M0 hβ;obtain ⟨_,_⟩:=hbis))))<;>(try simp only [↓R1,RR,seval,q1,he,hw,hcl,hca,hc0,h31,h32,hln,l32,hv])))
 ·(refine ak ?_);(simp only [aq,↓R1,RR,seval,q1,he,hw,hcl,hca,hc0,h31,h32,hln,l32,hv];rw [nX];(refine oT ?_);(refine yI ?_ M1);simp only [Int.toNat_natCast,Int.toNat_zero])
  refine CE hov hI1 hI2 hI3 ?_
  rwa [Bool.or_eq_true,decide_eq_true_eq,decide_eq_true_eq] at hc
 ·(refine ak ?_);(simp only [aq,↓R1,RR,seval,q1,he,hw,hcl,hca,hc0,h31,h32,hln,l32,hv];rw [nX];(refine oT ?_);(refine yI ?_ M1);simp only [Int.toNat_natCast,Int.toNat_zero])
  refine Fh hov hI1 hI2 hI3 ?_
  rw [Bool.or_eq_false_iff,decide_eq_false_iff_not,decide_eq_false_iff_not] at hc;omega
def ke (t:List UInt8):Bool:=t.all aI
theorem qv {c:UInt8} {t:List UInt8} (h:ke (c::t)=true) (hc:c≠35):bareS (c::t)=true:=by
 unfold ke at h
 simp [bareS,h,hc]
theorem gp {a b:List UInt8}:ke (a++b)=(ke a&&ke b):=by simp [ke]
theorem nr:∀ k:Fin 10,aI (UInt8.ofNat (48+k.val))=true∧UInt8.ofNat (48+k.val)≠35:=Na
theorem sP (n:Nat):ke (decDigits n)=true∧∃ c t,decDigits n=c::t∧c≠35:=by
  induction n using Nat.strongRecOn with
  | _ n ih =>
    rw [decDigits]
    split
    · rename_i h
      obtain ⟨h1,h2⟩:=nr ⟨n,h⟩
      exact ⟨by simp only [ke,List.all_cons,List.all_nil,Bool.and_true];exact h1,_,_,rfl,h2⟩
    · rename_i h
      obtain ⟨h1,c,t,h2,h3⟩:=ih (n / 10) MX
      obtain ⟨h4,_⟩:=nr ⟨n % 10,by omega⟩
      refine ⟨?_,c,t++_,by rw [h2];rfl,h3⟩
      rw [gp,h1,Bool.true_and]
      simp only [ke,List.all_cons,List.all_nil,Bool.and_true];exact h4
theorem sQ (n:Nat):bareS (decDigits n)=true:=by
 obtain ⟨h1,c,t,h2,h3⟩:=sP n
 rw [h2] at h1 ⊢;exact qv h1 h3
theorem fp (n:Int):bareS (itoa n)=true:=by
 unfold itoa
 split
 ·refine qv ?_ Na
  have:=(sP n.natAbs).1
  simp only [ke,List.all_cons] at this ⊢
  rw [this];rfl
 ·exact sQ _
theorem oU (k:Nat) (hk:k<100):ke (gU k)=true:=by
 have:∀ k:Fin 100,ke (gU k.val)=true:=Na
 exact this ⟨k,hk⟩
theorem lD:∀ l:List Nat,(∀ k∈l,k<100)→ke (dK l)=true
  | [],_=>rfl
  | k :: l, h => by
    have h1:=oU k (h k M1)
    have h2:=lD l (fun j hj=>h j (by simp [hj]))
    simp only [dK]
    rw [show (44::(gU k++dK l))= [44]++(gU k++dK l) from rfl,gp,gp,h1,h2];rfl
theorem jA (a:BitVec 64):bareS (cO a)=true:=by
  refine qv ?_ Na
  rw [show (123::(ej (cL a)++ [125]))= [123]++(ej (cL a)++ [125]) from rfl,gp,gp]
  have hc:∀ k∈cL a,k<100:=fun k hk=>by
    have:k<64:=List.mem_range.1 (List.mem_filter.1 hk).1
    omega
  have:ke (ej (cL a))=true:=by
    cases hq:cL a with
    | nil=>rfl
    | cons k l =>
      rw [hq] at hc
      simp only [ej]
      rw [gp,oU k (hc k M1),lD l (fun j hj=>hc j (by simp [hj]))];rfl
  rw [this];rfl
theorem qw {k:Int} (h:0≤k∧k≤25):bareS (cE k)=true:=by
 obtain ⟨n,rfl⟩:=Int.eq_ofNat_of_zero_le h.1
 have:∀ n:Fin 26,bareS (cE (n.val:Int))=true:=Na
 exact this ⟨n,by omega⟩
def rowT (ws:List (List UInt8)):List UInt8:=Lib.join ws [32]++ [10]
theorem lE:∀ {ws:List (List UInt8)},(∀ t∈ws,bareS t=true)→cA (ws.map mkW)=some ws
  | [],_=>rfl
  | t :: ws, h => by
    have h1:=h t M1
    have h2:=lE (ws:=ws) (fun x hx=>h x NI)
    simp only [List.map_cons,cA,mkW,h1,h2,bV,Bool.not_true]
    rfl
structure RowOk (ws:List (List UInt8)):Prop where
 ne:ws≠ []
 bare:∀ t∈ws,bareS t=true
 len:(rowT ws).length≤700
 num:ws.length≤20
 wl:∀ t∈ws,t.length≤300
theorem nu:∀ (W:List (List (List UInt8))) (out:List UInt8),(∀ ws∈W,RowOk ws)→out.length+700*W.length≤20000→fy out (W.map mkR)= .ok (out++(W.map rowT).flatten)
  | [],out,_,_=>by simp [fy]
  | ws :: W, out, h, hl => by
    have h1:=h ws M1
    have h0:¬ (mkR ws).ws.length=0:=by
      simp only [mkR,List.length_map]
      intro h0;exact h1.ne (List.eq_nil_of_length_eq_zero h0)
    have h2:=h1.len
    rw [List.length_cons] at hl
    have h3:¬ (1000<(Lib.join ws [32]).length∨20000<(out++(Lib.join ws [32]++ [10])).length):=by
      rw [List.length_append]
      unfold rowT at h2
      rw [List.length_append] at h2 ⊢
      simp only [List.length_cons,List.length_nil] at h2 ⊢
      omega
    simp only [List.map_cons,fy]
    rw [if_neg h0,show cA (mkR ws).ws=some ws from lE h1.bare]
    simp only
    rw [if_neg h3,show out++(Lib.join ws [32]++ [10])=out++rowT ws from rfl,nu W (out++rowT ws) (fun x hx=>h x NI) (by rw [List.length_append];omega)]
    simp
theorem nv {W:List (List (List UInt8))} (h:∀ ws∈W,RowOk ws) (hl:W.length≤28):ff (W.map mkR)= .ok (W.map rowT).flatten:=by
 rw [ff,nu W [] h Ng];rfl
theorem yJ {ws:List (List UInt8)} (h:RowOk ws):ff [mkR ws]= .ok (rowT ws):=by
 have:=nv (W:= [ws]) NZ M1
 simpa using this
theorem fO:∀ {l:List Int} {i:Nat},firstE l i=none→∀ e∈l,e=0
  | [],_,_,_,h=>by simp at h
  | x :: l, i, h, e, he => by
    unfold firstE at h
    split at h
    · rename_i h0
      rcases List.mem_cons.1 he with rfl|he
      · exact h0
      · exact fO h e he
    · cases h
theorem iP:∀ {l:List Int} {i:Nat} {p:Int × Nat},firstE l i=some p→p.1≠0
  | [],_,_,h=>by cases h
  | x :: l, i, p, h => by
    unfold firstE at h
    split at h
    · exact iP h
    · rename_i h0;cases h;exact h0
structure Fine (c:CfgI):Prop where
 ncls:c.cls.length≤8
 nrul:c.ruls.length≤8
 cls:firstE (clsEs [] c.cls) 0=none
 ten:∀ x∈c.tens,tenE x=0
 rul:∀ x∈c.ruls,rulE x=0
 hor:1≤c.hor∧c.hor≤10000
theorem nx {c:CfgI} (h:(dv c).1=0):Fine c:=by
 unfold dv at h
 split at h
 ·cases h
 ·rename_i h0
  split at h
  ·rename_i p hp;exact (iP hp h).elim
  ·rename_i h1
   split at h
   ·rename_i p hp;exact (iP hp h).elim
   ·rename_i h2
    split at h
    ·rename_i p hp;exact (iP hp h).elim
    ·rename_i h3
     split at h
     ·cases h
     ·refine ⟨by omega,by omega,h1,fun x hx=>fO h2 _ (List.mem_map.2 ⟨x,hx,rfl⟩),fun x hx=>fO h3 _ (List.mem_map.2 ⟨x,hx,rfl⟩),by omega⟩
theorem ny {l:List ClsI} {k:Nat} {x:ClsI} (h:firstE (clsEs [] l) 0=none) (hx:l[k]? =some x):(1≤x.size∧x.size≤64)∧(0≤x.rate∧x.rate≤64):=by
 have h1:=kd (seen:= []) hx
 have h2:=fO h _ (List.mem_of_getElem? h1)
 unfold iX at h2
 split at h2
 ·cases h2
 ·rename_i h3
  simp only [dh,inB,Bool.and_true,Bool.not_eq_false,Bool.and_eq_true,Bool.not_eq_true',Bool.or_eq_false_iff,decide_eq_false_iff_not] at h3
  omega
theorem nz {x:TenI} (h:tenE x=0):(1≤x.budget∧x.budget≤64)∧(0≤x.queries∧x.queries≤4)∧(0≤x.cap∧x.cap≤64)∧(0≤x.out∧x.out≤64)∧(0≤x.audit∧x.audit≤64):=by
 unfold tenE at h
 split at h
 ·cases h
 ·rename_i h3
  simp only [dh,inB,Bool.and_true,Bool.not_eq_false,Bool.and_eq_true,Bool.not_eq_true',Bool.or_eq_false_iff,decide_eq_false_iff_not] at h3
  omega
theorem nA {x:RulI} (h:rulE x=0):(1≤x.owner∧x.owner≤6)∧(0≤x.kind∧x.kind≤25)∧(x.any=true→x.kind=0)∧leB (lab x.res) (lab x.auth)=true∧x.low≤x.high:=by
 unfold rulE at h
 split at h
 ·cases h
 ·rename_i h3
  split at h
  ·cases h
  ·rename_i h4
   split at h
   ·cases h
   ·rename_i h5
    simp only [Bool.or_eq_true,decide_eq_true_eq,Bool.and_eq_true,bne_iff_ne,ne_eq,not_or,not_and,Decidable.not_not] at h3
    refine ⟨by omega,by omega,h3.2,by simpa using h4,by omega⟩
theorem oV {ws:List (List UInt8)} (h:RowOk ws):mK [mkR ws]:=by
 refine ⟨by simp,fun r hr=>?_⟩
 have e:=List.mem_singleton.1 hr
 subst e
 have h1:=h.num
 refine ⟨by simp [mkR];omega,fun w hw=>?_⟩
 obtain ⟨t,ht,rfl⟩:=List.mem_map.1 hw
 have:=h.wl t ht
 show t.length≤20000
 omega
theorem u0 {W:List (List (List UInt8))} (h:∀ ws∈W,RowOk ws) (hl:W.length≤28):mK (W.map mkR):=by
 refine ⟨by simp;omega,fun r hr=>?_⟩
 obtain ⟨ws,hws,rfl⟩:=List.mem_map.1 hr
 exact (oV (h ws hws)).2 _ M1
theorem kf:∀ (ws:List (List UInt8)),ws≠ []→(rowT ws).length=(ws.map (fun t=>t.length+1)).sum
  | [],h=>(h rfl).elim
  | [x],_=>by simp [rowT,Lib.join_one]
  | x :: y :: l, _ => by
    have h1:=kf (y::l) M1
    simp only [rowT,List.length_append,List.length_cons,List.length_nil,List.map_cons,List.sum_cons,Lib.join,List.intercalate,List.intersperse,List.flatten_cons,List.flatten_nil] at h1 ⊢
    omega
theorem KB (u:Nat) (h:u<18446744073709551616):PuG Tryz.prog gl3 168 [.int .u64 u, .int .i64 10] (.str (decDigits u)):=by
 intro σ hσ
 refine AC.ik (Go.Proofs.enters_of Tryz.func168 MY rfl) ?_
 intro g w vs hI hv
 obtain ⟨v1,vs,rfl,r1,hv⟩:=hv.cons_inv
 obtain ⟨v2,vs,rfl,r2,hv⟩:=hv.cons_inv
 rw [hv.cC,r1.bz,r2.bz]
 refine (Mu u h w (k9 hI EH (hσ _ _ rfl))).mono ?_
 rintro e w' ⟨rfl,k',os,rfl⟩
 refine ⟨_,rfl,⟨rfl,rfl,rfl,by simp [Go.Sort.grow,World.drewN],fun i hi=>?_⟩,fun g' _=> .str _⟩
 simp only [Go.Sort.grow,World.drewN]
 rw [Array.getElem?_append_left hi]
theorem IJ (u:Nat) (h:u<18446744073709551616):PuG Tryz.prog gl3 110 [.int .u64 u, .int .i64 10] (.str (decDigits u)):=by
 have h1:=KB u h
 (refine aR GP KQ fun σ hσ=>?_;simp only [GP,↓R1,RR,seval])
 repeat' ((refine PuG.to (h1) hσ (ad _) ?_)<;>(try simp only [↓R1,RR,seval]))
 (refine ak (ag ?_))
 (simp only [aq,↓R1,RR,seval])
theorem KC (n:Int) (hn:I64 n):PuG Tryz.prog gl3 109 [.int .i64 n, .int .i64 10] (.str (itoa n)):=fun σ hσ=>J3 n σ hn.1 hn.2 (hσ _ _ rfl)
theorem p50 (n:Nat) (hn:n<18446744073709551616):PuG Tryz.prog gl3 50 [.int .u64 (n:Nat)] (.str (decDigits n)):=by
 have h1:=IJ n hn
 have q1:decide ((n:Int)<0)=false:=M1
 (refine aR c50 b50 fun σ hσ=>?_;simp only [c50,↓R1,RR,seval,q1])
 repeat' ((refine PuG.to (h1) hσ (ad _) ?_)<;>(try simp only [↓R1,RR,seval,q1]))
 (refine ak (ag ?_))
 (simp only [aq,↓R1,RR,seval,q1])
theorem p52 (n:Int) (hn:I64 n):PuG Tryz.prog gl3 52 [.int .i64 n] (.str (itoa n)):=by
 have hw:True:=trivial
 by_cases h0:n<0
 ·have h1:=KC n hn
  have q1:decide (n<0)=true:=N7
  (refine aR c52 b52 fun σ hσ=>?_;simp only [c52,↓R1,RR,seval,q1,hw])
  repeat' ((refine PuG.to (h1) hσ (ad _) ?_)<;>(try simp only [↓R1,RR,seval,q1,hw]))
  (refine ak (ag ?_))
  (simp only [aq,↓R1,RR,seval,q1,hw])
 ·obtain ⟨m,rfl⟩:=Int.eq_ofNat_of_zero_le (show 0≤n by omega)
  unfold I64 at hn
  have h1:=IJ m MX
  have q1:decide ((m:Int)<0)=false:=M1
  have hw:IntKind.u64.wrap (m:Int)=(m:Int):=vo MX MX
  rw [jX]
  (refine aR c52 b52 fun σ hσ=>?_;simp only [c52,↓R1,RR,seval,q1,hw])
  repeat' ((refine PuG.to (h1) hσ (ad _) ?_)<;>(try simp only [↓R1,RR,seval,q1,hw]))
  (refine ak (ag ?_))
  (simp only [aq,↓R1,RR,seval,q1,hw])
theorem p54 (n:Int) (hn:I64 n):PuG Tryz.prog gl3 54 [.int .i64 n] (.str (itoa n)):=by
 have hw:True:=trivial
 by_cases h0:n<0
 ·have h1:=KC n hn
  have q1:decide (n<0)=true:=N7
  (refine aR c54 b54 fun σ hσ=>?_;simp only [c54,↓R1,RR,seval,q1,hw])
  repeat' ((refine PuG.to (h1) hσ (ad _) ?_)<;>(try simp only [↓R1,RR,seval,q1,hw]))
  (refine ak (ag ?_))
  (simp only [aq,↓R1,RR,seval,q1,hw])
 ·obtain ⟨m,rfl⟩:=Int.eq_ofNat_of_zero_le (show 0≤n by omega)
  unfold I64 at hn
  have h1:=IJ m MX
  have q1:decide ((m:Int)<0)=false:=M1
  have hw:IntKind.u64.wrap (m:Int)=(m:Int):=vo MX MX
  rw [jX]
  (refine aR c54 b54 fun σ hσ=>?_;simp only [c54,↓R1,RR,seval,q1,hw])
  repeat' ((refine PuG.to (h1) hσ (ad _) ?_)<;>(try simp only [↓R1,RR,seval,q1,hw]))
  (refine ak (ag ?_))
  (simp only [aq,↓R1,RR,seval,q1,hw])
theorem p74 {l:List (List UInt8)} (h:RowOk l):Pu Tryz.prog 74 [.sl true l.length (l.map AV.str)] (.tup [.str (rowT l), .int .i64 0]):=by
 have h0:=Km l (by have:=h.num;omega) (fun t ht=>by have:=h.wl t ht;omega)
 have h1:=Kl [mkR l] (oV h)
 rw [yJ h] at h1
 simp only [List.flatMap_cons,List.flatMap_nil,List.append_nil,List.length_cons,List.length_nil,Nat.zero_add,mI] at h1
 (refine al c74 b74 fun σ=>?_;simp only [c74,↓R1,RR,seval,List.length_map])
 repeat' (first|(with_reducible apply And.intro)|((first|((refine Pu.to (h0) ?_ ?_;(focus exact cW)))|((refine Pu.to (h1) ?_ ?_;(focus exact cW))))<;>(try simp only [↓R1,RR,seval,List.length_map])))
 ·rfl
 ·(refine ak (ag ?_))
  (simp only [aq,↓R1,RR,seval,List.length_map])
theorem a49 {σ:St} {β:Nat} {out:List UInt8} {l:List (List UInt8)} (hb:σ.box β=some [.str out, .int .i64 0]) (h:RowOk l) (hl:out.length≤20000):AC Tryz.prog 49 [.ptr β 0, .sl true l.length (l.map AV.str)] σ (fun r s=>r= .tup []∧s=σ.aa β [.str (out++rowT l), .int .i64 0]):=by
 have h0:=p74 h
 have h300:=h.len
 (refine bf c49 b49 ?_;simp only [c49,↓R1,RR,seval,hb,List.length_map,h300])
 repeat' (first|(with_reducible refine And.intro ?_ ?_;exact af)|((refine Pt (h0) ?_)<;>(try simp only [↓R1,RR,seval,hb,List.length_map,h300])))
 (refine cu ?_)
 exact ⟨rfl,rfl⟩
def fC (c:CfgI):List (List UInt8):= [[104,111,114,105,122,111,110],decDigits c.hor.toNat]
def fR (x:ClsI):List (List UInt8):= [[99,108,97,115,115],cO (lab x.l),itoa x.size,itoa x.rate]
def gV (x:TenI):List (List UInt8):= [[116,101,110,97,110,116],itoa x.budget,itoa x.queries,itoa x.cap,itoa x.out,itoa x.audit]
def gT (x:RulI):List UInt8:=if x.any then [97,110,121] else cE x.kind
def fE (x:RulI):List (List UInt8):= [[114,117,108,101],itoa x.owner,cO (lab x.auth),cO (lab x.res),gT x,itoa x.low,itoa x.high]
def jB (c:CfgI):List (List (List UInt8)):=fC c::(c.cls.map fR++c.tens.map gV++c.ruls.map fE)
theorem l7 {c:CfgI} (h:Fine c):RowOk (fC c):=by
 have h1:=sQ c.hor.toNat
 have h2:=eF c.hor.toNat (by have:=h.hor;omega)
 refine ⟨by simp [fC],?_,?_,by simp [fC],?_⟩
 ·intro t ht
  simp only [fC,List.mem_cons,List.not_mem_nil,or_false] at ht
  rcases ht with rfl|rfl
  ·decide
  ·exact h1
 ·rw [kf _ (by simp [fC])]
  simp only [fC,List.map_cons,List.map_nil,List.sum_cons,List.sum_nil,List.length_cons,List.length_nil];omega
 ·intro t ht
  simp only [fC,List.mem_cons,List.not_mem_nil,or_false] at ht
  rcases ht with rfl|rfl
  ·decide
  ·omega
theorem qx {x:ClsI} (h:(1≤x.size∧x.size≤64)∧(0≤x.rate∧x.rate≤64)):RowOk (fR x):=by
 have h1:=dY (lab x.l)
 have h2:=cI x.size Nl
 have h3:=cI x.rate Nl
 refine ⟨by simp [fR],?_,?_,by simp [fR],?_⟩
 ·intro t ht
  simp only [fR,List.mem_cons,List.not_mem_nil,or_false] at ht
  rcases ht with rfl|rfl|rfl|rfl
  ·decide
  ·exact jA _
  ·exact fp _
  ·exact fp _
 ·rw [kf _ (by simp [fR])]
  simp only [fR,List.map_cons,List.map_nil,List.sum_cons,List.sum_nil,List.length_cons,List.length_nil];omega
 ·intro t ht
  simp only [fR,List.mem_cons,List.not_mem_nil,or_false] at ht
  rcases ht with rfl|rfl|rfl|rfl
  ·decide
  all_goals omega
theorem qy {x:TenI} (h:(1≤x.budget∧x.budget≤64)∧(0≤x.queries∧x.queries≤4)∧(0≤x.cap∧x.cap≤64)∧(0≤x.out∧x.out≤64)∧(0≤x.audit∧x.audit≤64)):RowOk (gV x):=by
 have h1:=cI x.budget Nl
 have h2:=cI x.queries Nl
 have h3:=cI x.cap Nl
 have h4:=cI x.out Nl
 have h5:=cI x.audit Nl
 refine ⟨by simp [gV],?_,?_,by simp [gV],?_⟩
 ·intro t ht
  simp only [gV,List.mem_cons,List.not_mem_nil,or_false] at ht
  rcases ht with rfl|rfl|rfl|rfl|rfl|rfl
  ·decide
  all_goals exact fp _
 ·rw [kf _ (by simp [gV])]
  simp only [gV,List.map_cons,List.map_nil,List.sum_cons,List.sum_nil,List.length_cons,List.length_nil];omega
 ·intro t ht
  simp only [gV,List.mem_cons,List.not_mem_nil,or_false] at ht
  rcases ht with rfl|rfl|rfl|rfl|rfl|rfl
  ·decide
  all_goals omega
theorem yK {x:RulI} (h:0≤x.kind∧x.kind≤25):bareS (gT x)=true∧(gT x).length≤3:=by
 unfold gT
 split
 ·decide
 ·exact ⟨qw h,by have:=lx x.kind;omega⟩
theorem qz {x:RulI} (ho:1≤x.owner∧x.owner≤6) (hk:0≤x.kind∧x.kind≤25) (hl:I64 x.low) (hh:I64 x.high):RowOk (fE x):=by
 have h1:=cI x.owner Nl
 have h2:=dY (lab x.auth)
 have h3:=dY (lab x.res)
 obtain ⟨k1,k2⟩:=yK hk
 have h5:=cI x.low hl
 have h6:=cI x.high hh
 refine ⟨by simp [fE],?_,?_,by simp [fE],?_⟩
 ·intro t ht
  simp only [fE,List.mem_cons,List.not_mem_nil,or_false] at ht
  rcases ht with rfl|rfl|rfl|rfl|rfl|rfl|rfl
  ·decide
  ·exact fp _
  ·exact jA _
  ·exact jA _
  ·exact k1
  ·exact fp _
  ·exact fp _
 ·rw [kf _ (by simp [fE])]
  simp only [fE,List.map_cons,List.map_nil,List.sum_cons,List.sum_nil,List.length_cons,List.length_nil];omega
 ·intro t ht
  simp only [fE,List.mem_cons,List.not_mem_nil,or_false] at ht
  rcases ht with rfl|rfl|rfl|rfl|rfl|rfl|rfl
  ·decide
  all_goals omega
def Cfg64 (c:CfgI):Prop:=∀ x∈c.ruls,I64 x.low∧I64 x.high
theorem nB {c:CfgI} (hk:CfgOk c) (h:Fine c) (h64:Cfg64 c):(∀ ws∈jB c,RowOk ws)∧(jB c).length≤28:=by
 refine ⟨fun ws hw=>?_,?_⟩
 ·rcases List.mem_cons.1 hw with rfl|hw
  ·exact l7 h
  rcases List.mem_append.1 hw with hw|hw
  ·rcases List.mem_append.1 hw with hw|hw
   ·obtain ⟨x,hx,rfl⟩:=List.mem_map.1 hw
    obtain ⟨k,hk⟩:=List.getElem?_of_mem hx
    exact qx (ny h.cls hk)
   ·obtain ⟨x,hx,rfl⟩:=List.mem_map.1 hw
    exact qy (nz (h.ten x hx))
  ·obtain ⟨x,hx,rfl⟩:=List.mem_map.1 hw
   have h1:=nA (h.rul x hx)
   exact qz h1.1 h1.2.1 (h64 x hx).1 (h64 x hx).2
 ·have h1:=h.ncls
  have h2:=h.nrul
  have h3:=hk.six
  simp only [jB,List.length_cons,List.length_append,List.length_map];omega
def yL (c:CfgI):List UInt8:=((jB c).map rowT).flatten
def kg (c:CfgI):AV:=if (dv c).1=0 then .tup [.str (yL c), .int .i64 0] else .tup [.str [], .int .i64 (dv c).1]
end Go.Proofs.YtgephffbfiemeaaGreatDoor
