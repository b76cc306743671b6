/- Part 28 of the proof of ScriptReads: an abstract semantics that is proved sound for the model, contracts of functions in it, and plain facts (X1 X2 X3 X4 Y6 X5 X6 X7a X7 Y7 X8 X9). No condition. -/
import Derived.Test.YtgephffbfiemeaaGreatDoorKScriptReads27
import Derived.Defers
import Derived.Recover
import Derived.LoopTactic
import Derived.BigCall
set_option linter.all false
namespace Go.Proofs.YtgephffbfiemeaaGreatDoor
open Go.Abs Go.Lib
set_option linter.all false
set_option maxRecDepth 100000
abbrev TS:Nat:=137
def oV (e a:Int):Except Ft Unit:=if e=0 then .ok () else .error (e,a)
theorem w44 (e a:Int) (w:World) :
  Calls Tryz.prog 44 #[.int .i64 e, .int .i64 a] w fun r w'=>w'=w∧((e=0∧r= .returned (.tuple #[]))∨(e≠0∧r= .panicked [{ v:= .iface TS (.agg #[.int .i64 e, .int .i64 a]),recovered:=false }])):=by
 go_enter Tryz.func44,Tryz.ntmps44
 go_wp2
 ·exact ⟨rfl,rfl, .inr ⟨by simpa using ‹(e != 0)=true›,rfl⟩⟩
 ·simp [bodyPost,results,Tryz.results44]
  simpa using ‹(e != 0)=false›
theorem x44 (e a:Int) (σ σ0:St) (hl:St.lw σ0 σ):AX Tryz.prog 44 [.int .i64 e, .int .i64 a] σ (oX TS (oV e a) (fun _=> .tup []) (fun _=>σ) σ0):=by
 intro g w vs hI hv
 refine .inl ⟨Go.Proofs.enters_of Tryz.func44 (by kernel_rfl) rfl _ _,?_⟩
 obtain ⟨v1,vs,rfl,r1,hv⟩:=hv.cons_inv
 obtain ⟨v2,vs,rfl,r2,hv⟩:=hv.cons_inv
 rw [hv.cq,r1.bE,r2.bE]
 refine (w44 e a w).mono ?_
 rintro r w' ⟨rfl,⟨h,rfl⟩|⟨h,rfl⟩⟩
 ·exact ⟨_, .tup [],σ,g, .inl ⟨rfl,(),by simp [oV,h],rfl,rfl⟩,hI, .refl g _, .dX .nil⟩
 ·exact ⟨_,lx TS (e,a),σ0,g, .inr ⟨rfl,(e,a),by simp [oV,h],rfl,rfl⟩,hI.lw hl, .refl g _, .ifc _ _ _ (.iG ⟨.cons (.int _ _) (.cons (.int _ _) .nil),by simp [Value.oneCell']⟩)⟩
theorem qf {g:Gh} {σ:St} {w:World} {fr:Fr} {a:Act} {N id:Nat} {ops:Array Oper} {l:List CI} {K:Fr→St→Prop} {Q:Exit→Act→World→Prop} (hl:db Tryz.prog N ops ops.toList l=true) (hS:Sim g σ w fr a N) (h:c8 Tryz.prog l fr σ K)
  (hQ:∀ fr' σ' g' w' a',K fr' σ'→Sim g' σ' w' fr' a' N→Ext g w g' w'→a'.defers=a.defers→Q .normal a' w'):(Code.region id ops false).wp Tryz.prog Q a w :=
 (wpIn_wide (n:=0)).1 (wpIn_region_list (gY ops (rn:=none) ops.toList l g σ w fr a K hl hS h hQ))
theorem sF {g:Gh} {σ:St} {w:World} {fr:Fr} {a:Act} {N t:Nat} {b:Bool} (hS:Sim g σ w fr a N) (h:slot t fr= .bool b):a.eval (.tmp t)= .bool b:=by
 have:=hS.rel t
 rw [h] at this
 exact this.dC
def z2:List AV:= [.int .i64 0, .int .i64 0]
theorem Ih {g:Gh} {σ:St} {w:World} {β b:Nat} (hI:Inv g σ w) (hβ:σ.box β=some z2) (hg:g.box β=some b) (e a:Int) :
    CallsD Tryz.prog 86 #[.pointer (some ⟨b,0,none⟩)] (.panicking [{ v:= .iface TS (.agg #[.int .i64 e, .int .i64 a]),recovered:=false }]) w fun r u' w' =>
      r= .returned (.tuple #[])∧u'= .panicking [{ v:= .iface TS (.agg #[.int .i64 e, .int .i64 a]),recovered:=true }]∧∃ g',Inv g' (σ.ae β [.int .i64 e, .int .i64 a]) w'∧Ext g w g' w':=by
  refine callsD_of_wpS Tryz.func86 rfl fun c₀ cs hu=>?_
  apply wpS_seq
  apply wpS_region
  simp [wpOpsS,go_sem,recoverD,hu,Tryz.ntmps86,Exit.thenS]
  refine wpS_of_wp ?_
  have hS:Sim g σ w [(0, .ptr β 0),(1, .ifc TS (.agg [.int .i64 e, .int .i64 a]))] { tmps:= #[Value.pointer (some { block:=b,off:=0 })]++((Array.replicate 16 undef).setIfInBounds 3 (Value.iface TS (Value.agg #[Value.int IntKind.i64 e,Value.int IntKind.i64 a]))).setIfInBounds 0 (Value.iface TS (Value.agg #[Value.int IntKind.i64 e,Value.int IntKind.i64 a])),defers:= [] } 17:=by
    refine ⟨hI,fun t=>?_,by simp, .nil⟩
    rw [Array.getD_eq_getD_getElem?]
    cases t with
    | zero=>simp only [slot,if_true];rw [Array.getElem?_append_left (by simp)];exact .ptr _ _ _ hg
    | succ t =>
      rw [Array.getElem?_append_right (by simp)]
      cases t with
      | zero =>
        simp only [slot]
        rw [Array.getElem?_setIfInBounds]
        simp
        exact .ifc _ _ _ (.iG ⟨.cons (.int _ _) (.cons (.int _ _) .nil),by simp [Value.oneCell']⟩)
      | succ t=>simp only [slot];rw [if_neg (by omega),if_neg (by omega)];exact .junk _
  refine wp_seq (qf (l:= [⟨some 5, .mv (.t 1),none⟩,⟨some 6, .isnil 3 true (.t 5),none⟩]) (K:=fun f s=>slot 0 f= .ptr β 0∧slot 1 f= .ifc TS (.agg [.int .i64 e, .int .i64 a])∧slot 6 f= .bool true∧s=σ) (by kernel_rfl) hS ?_ ?_)
  · simp only [↓R1,RR,seval]
    intro b hb
    subst hb
    rfl
  rintro f1 s1 g1 w1 a1 ⟨h0,h1,h6,hs⟩ hS1 hE1 hd1
  rw [hs] at hS1
  simp only [Exit.then]
  refine wp_cond_true (sF hS1 h6) ?_
  refine wp_seq (qf (l:= [⟨some 8, .mv (.t 1),none⟩,⟨some 9, .asT [137] [] false (.agg [.int .i64 0, .int .i64 0]) (.t 8),none⟩,⟨some 7, .mv (.t 9),none⟩,⟨some 10, .ext (.t 7) 0,none⟩,⟨some 11, .ext (.t 7) 1,none⟩,⟨some 2, .alloc [.int .i64 0, .int .i64 0],none⟩,⟨none, .st 2 (.t 2) (.t 10),none⟩,⟨some 3, .mv (.t 11),none⟩])
    (K:=fun f s=>∃ γ,σ.box γ=none∧slot 0 f= .ptr β 0∧slot 2 f= .ptr γ 0∧slot 3 f= .bool true∧s=σ.ae γ [.int .i64 e, .int .i64 a]) (by kernel_rfl) hS1 ?_ ?_)
  · simp only [h0,h1,↓R1,RR,seval]
    rw [ai]
    intro γ hγ
    simp only [h0,↓R1,RR,seval]
    exact ⟨γ,hγ,by simp⟩
  rintro f2 s2 g2 w2 a2 ⟨γ,hγ,h0,h2,h3,hs2⟩ hS2 hE2 hd2
  rw [hs2] at hS2
  have hne:β≠γ:=fun e=>by rw [e,hγ] at hβ;cases hβ
  simp only [Exit.then]
  refine wp_seq (wp_seq (qf (l:= [⟨some 12, .mv (.t 3),none⟩,⟨some 13, .un .not (.t 12),none⟩]) (K:=fun f s=>slot 0 f= .ptr β 0∧slot 2 f= .ptr γ 0∧slot 13 f= .bool false∧s=σ.ae γ [.int .i64 e, .int .i64 a]) (by kernel_rfl) hS2 ?_ ?_))
  · simp only [h0,h2,h3,↓R1,RR,seval]
  rintro f3 s3 g3 w3 a3 ⟨h0,h2,h13,hs3⟩ hS3 hE3 hd3
  rw [hs3] at hS3
  simp only [Exit.then]
  refine wp_cond_false (sF hS3 h13) (wp_skip ?_)
  simp only [Exit.then]
  refine qf (l:= [⟨some 15, .fldA 0 (.t 2),none⟩,⟨some 16, .ld (some 2) (.t 15),none⟩,⟨none, .st 2 (.t 0) (.t 16),none⟩]) (K:=fun _ s=>s=(σ.ae γ [.int .i64 e, .int .i64 a]).ae β [.int .i64 e, .int .i64 a]) (by kernel_rfl) hS3 ?_ ?_
  · have hb2:(σ.ae γ [.int .i64 e, .int .i64 a]).box β=some z2:=by simp [St.ae,upd,hne,hβ]
    simp only [h0,h2,↓R1,RR,seval]
    rw [hb2]
    simp only [z2,↓R1,RR,seval]
  rintro f4 s4 g4 w4 a4 hs4 hS4 hE4 hd4
  rw [hs4] at hS4
  refine ⟨by rw [hd4,hd3,hd2,hd1],_,rfl, .tuple #[],by simp [results,Tryz.results86],rfl,rfl,g4,hS4.inv.le ?_,hE1.trans (hE2.trans (hE3.trans hE4))⟩
  rw [St.set_comm _ hne.symm]
  exact St.aw (St.le_refl _) (by simp [St.ae,upd,hne.symm,hγ])
theorem Ii (b:Nat) (w:World) :
  CallsD Tryz.prog 86 #[.pointer (some ⟨b,0,none⟩)] .returning w fun e u' w'=>e= .returned (.tuple #[])∧u'= .returning∧w'=w:=by
 refine callsD_of_wpS Tryz.func86 rfl fun c₀ cs hu=>?_
 apply wpS_seq
 apply wpS_region
 simp [wpOpsS,go_sem,recoverD,hu,Tryz.ntmps86,Exit.thenS]
 apply wpS_seq
 apply wpS_region
 simp [wpOpsS,go_sem,Exit.thenS]
 refine wpS_cond (t:=false) (by simp [Act.eval,Array.replicate]) ?_
 simp only [Bool.false_eq_true,if_false]
 refine wpS_of_wp (wp_skip ?_)
 cases c₀
 simp_all [bodyPostS,results,Tryz.results86]
theorem Ci {g:Gh} {w:World} {a b:Int} {us:List Value} (h:RelC g w [.int .i64 a, .int .i64 b] us):us= [.int .i64 a, .int .i64 b]:=by
 obtain ⟨v1,vs,rfl,r1,h2⟩:=h.1.cons_inv
 obtain ⟨v2,vs,rfl,r2,h3⟩:=h2.cons_inv
 rw [h3.cq,r1.bE,r2.bE]
theorem kA {w:World} {b o:Nat} {vs:Array Value} {T:TypeId} {q:Nat × Nat} {v:Value} (hb:w.heap[b]? =some (.cells vs T q)) (hv:vs[o]? =some v):w.setCell ⟨b,o,none⟩ v=w:=by
 have hlt:=(Array.getElem?_eq_some_iff.1 hb).1
 have hbe:=(Array.getElem?_eq_some_iff.1 hb).2
 have hm:∀ f:Obj→Obj,f (.cells vs T q)= .cells vs T q→w.heap.modify b f=w.heap:=by
  intro f hf
  apply Array.ext_getElem?
  intro i
  rw [Array.getElem?_modify]
  split
  ·rename_i e;subst e;rw [hb,Option.map_some,hf]
  ·rfl
 simp only [World.setCell]
 rw [hm]
 obtain ⟨h1,h2⟩:=Array.getElem?_eq_some_iff.1 hv
 simp only [Option.isSome_none,Bool.false_eq_true,if_false,Obj.cells.injEq,and_true]
 apply Array.ext_getElem?
 intro i
 rw [Array.getElem?_setIfInBounds]
 split
 ·rename_i e;subst e;rw [hv]
 ·rfl
def qg (f:Ft):AV:= .agg [.int .i64 f.1, .int .i64 f.2]
theorem a40 {α:Type} {fc:Nat} {cap:List AV} {σ:St} {o:Except Ft α} {s1:α→St} {s0:St} (hent:∀ xs w,(callFunc fc xs).run Tryz.prog w= .ok (.enter fc xs) w)
  (h:∀ β,σ.box β=none→AX Tryz.prog fc cap (σ.ae β z2) (oX TS o (fun _=> .tup []) (fun a=>(s1 a).ae β z2) (s0.ae β z2)))
  (h1:∀ β a,σ.box β=none→(s1 a).box β=none) (h0:∀ β,σ.box β=none→s0.box β=none) :
  AC Tryz.prog 40 [.fn fc cap] σ (fun r s=>(∃ a,o= .ok a∧r=qg (0,0)∧s=s1 a)∨∃ f,o= .error f∧r=qg f∧s=s0):=by
 intro g w vs hI hv
 refine .inl ⟨Go.Proofs.enters_of Tryz.func40 (by kernel_rfl) rfl _ _,?_⟩
 obtain ⟨v1,vs2,rfl,r1,hv2⟩:=hv.cons_inv
 have hvn:=hv2.cq
 subst hvn
 obtain ⟨us,rfl,hu⟩:=r1.mo
 have hnb:=ej hI
 have hI1:=hI.bG (cs:=z2) (vs:= #[.int .i64 0, .int .i64 0]) (T:=26) ⟨.cons (.int _ _) (.cons (.int _ _) .nil),by simp [Value.oneCell']⟩
 have hE1:=Ext.bG hI (.cells #[.int .i64 0, .int .i64 0] 26)
 have hbox:(g.bG w).box g.nb=some w.heap.size:=by simp [Gh.bG]
 have hmf:∀ (fn:Fn) (first cap:Array Value) (w:World),(Instr.makeFunc fn first cap).run Tryz.prog w= .ok (.func fn first cap) w:=fun _ _ _ _=>rfl
 have hent1:=hent us.toArray (w.alloc (.cells #[.int .i64 0, .int .i64 0] 26))
 have hc:Calls Tryz.prog fc us.toArray (w.alloc (.cells #[.int .i64 0, .int .i64 0] 26)) (CPX (g.bG w) (w.alloc (.cells #[.int .i64 0, .int .i64 0] 26)) (oX TS o (fun _=> .tup []) (fun a=>(s1 a).ae g.nb z2) (s0.ae g.nb z2))):=by
  rcases h g.nb hnb (g.bG w) _ us hI1 (hu.mono hE1) with ⟨_,h2⟩|⟨v,w',h2,_⟩
  ·exact h2
  ·rw [hent] at h2;cases h2
 go_enter_defers Tryz.func40,Tryz.ntmps40
 go_wp2
 refine hc.mono ?_
 rintro e w' ⟨v,r,σ',g',(⟨rfl,a,ho,rfl,rfl⟩|⟨rfl,f,ho,rfl,rfl⟩),hI',hE',hr⟩
 ·have hbx:(St.ae (s1 a) g.nb z2).box g.nb=some z2:=St.ef _ _ _
  obtain ⟨b,vs,T,k1,k2,k3⟩:=hI'.box _ _ hbx
  rw [hE'.box _ _ hbox] at k1
  cases k1
  have hvs:vs= #[.int .i64 0, .int .i64 0]:=by rw [←Array.toList_inj];exact Ci k3
  subst hvs
  have hc0:w'.cell? ⟨w.heap.size,0,none⟩=some (.int .i64 0):=by simp [World.cell?,k2]
  have hc1:w'.cell? ⟨w.heap.size,1,none⟩=some (.int .i64 0):=by simp [World.cell?,k2]
  have hf0:w'.frozen? ⟨w.heap.size,0,none⟩=false:=by simp [World.frozen?,k2]
  have hs0:w'.setCell ⟨w.heap.size,0,none⟩ (.int .i64 0)=w':=kA k2 (by simp)
  have hs1:w'.setCell ⟨w.heap.size,1,none⟩ (.int .i64 0)=w':=kA k2 (by simp)
  have hf1:w'.frozen? ⟨w.heap.size,1,none⟩=false:=by simp [World.frozen?,k2]
  simp only
  rename_i hk1 _ hk2
  refine hk2 _ _ ?_
  unfold wpList
  simp only [Exit.then]
  refine hk1 _ _ ?_
  go_wp2
  show Leaves _ _ _ _ _ _ _
  refine leaves_cons (f:=86) (args:= #[.pointer (some ⟨w.heap.size,0,none⟩)]) (by simp) (by simp [go_sem]) ?_
  refine (Ii _ _).mono ?_
  rintro e u' w'' ⟨rfl,rfl,rfl⟩
  simp [Leaves,settle,results,Tryz.results40,go_sem,hc0,hc1]
  exact ⟨_,qg (0,0),s1 a,g',rfl,(by first|exact .inl ⟨a,ho,rfl,rfl⟩|exact ⟨rfl,rfl⟩|simp [ho]),hI'.le (St.aw (St.le_refl _) (h1 _ a hnb)),hE1.trans hE', .iG ⟨.cons (.int _ _) (.cons (.int _ _) .nil),by simp [Value.oneCell']⟩⟩
 ·obtain ⟨u,rfl,hu2⟩:=hr.o8
  obtain ⟨us2,rfl,hu3⟩:=hu2.fu
  have hus:=Ci hu3
  subst hus
  have hbx:(St.ae s0 g.nb z2).box g.nb=some z2:=St.ef _ _ _
  show Leaves _ _ _ _ _ _ _
  refine leaves_cons (f:=86) (args:= #[.pointer (some ⟨w.heap.size,0,none⟩)]) (by simp) (by simp [go_sem]) ?_
  refine (Ih hI' hbx (hE'.box _ _ hbox) f.1 f.2).mono ?_
  rintro e u' w'' ⟨rfl,rfl,g2,hI2,hE2⟩
  rw [St.set_set] at hI2
  have hbx2:(St.ae s0 g.nb [.int .i64 f.1, .int .i64 f.2]).box g.nb=some [.int .i64 f.1, .int .i64 f.2]:=St.ef _ _ _
  obtain ⟨b,vs,T,k1,k2,k3⟩:=hI2.box _ _ hbx2
  rw [hE2.box _ _ (hE'.box _ _ hbox)] at k1
  cases k1
  have hvs:vs= #[.int .i64 f.1, .int .i64 f.2]:=by rw [←Array.toList_inj];exact Ci k3
  subst hvs
  have hc0:w''.cell? ⟨w.heap.size,0,none⟩=some (.int .i64 f.1):=by simp [World.cell?,k2]
  have hc1:w''.cell? ⟨w.heap.size,1,none⟩=some (.int .i64 f.2):=by simp [World.cell?,k2]
  simp [Leaves,settle,results,Tryz.results40,go_sem,hc0,hc1]
  exact ⟨_,qg f,s0,g2,rfl, .inr ⟨f.1,f.2,ho,rfl,rfl⟩,hI2.le (St.aw (St.le_refl _) (h0 _ hnb)),hE1.trans (hE'.trans hE2), .iG ⟨.cons (.int _ _) (.cons (.int _ _) .nil),by simp [Value.oneCell']⟩⟩
def cur (r:Rw) (k:Nat):List AV:= [.int .i64 (r.a:Nat), .sl false r.ws.length (r.ws.flatMap cWd), .int .i64 (k:Nat)]
theorem fy (l:List Wd):(l.flatMap cWd).length=l.length*3:=by
 induction l with
 | nil=>rfl
 | cons w l ih=>simp only [List.flatMap_cons,List.length_append,List.length_cons,ih];simp only [cWd,List.length_cons,List.length_nil];omega
theorem uT {l:List Wd} {k:Nat} {w:Wd} (h:l[k]? =some w):((l.flatMap cWd).drop (k*3)).take 3=cWd w:=by
  induction l generalizing k with
  | nil=>simp at h
  | cons x l ih =>
    cases k with
    | zero=>simp at h;subst h;simp [cWd]
    | succ k =>
      simp only [List.getElem?_cons_succ] at h
      have:=ih h
      rw [List.flatMap_cons,show (k+1)*3=(cWd x).length+k*3 by simp [cWd];omega,List.drop_append,List.drop_eq_nil_of_le (by omega),List.nil_append,Nat.add_sub_cancel_left]
      exact this
set_option maxHeartbeats 2000000 in
theorem a182 {σ:St} {β k:Nat} {rw_:Rw} {w:Wd} (hb:σ.box β=some (cur rw_ k)) (hw:rw_.ws[k]? =some w) (hl:rw_.ws.length≤20000):AC Tryz.prog 182 [.ptr β 0] σ (fun r s=>r= .agg (cWd w)∧s=σ.ae β (cur rw_ (k+1))):=by
 have hlt:=(List.getElem?_eq_some_iff.1 hw).1
 haveI:BoxIs σ β [.int .i64 (rw_.a:Nat), .sl false rw_.ws.length (rw_.ws.flatMap cWd), .int .i64 (k:Nat)]:=⟨hb⟩
 have he1:IntKind.i64.wrap ((k:Int)+1)=((k+1:Nat):Int):=by rw [wrap64 (by omega) (by omega)];omega
 have he2:IntKind.i64.wrap (((k+1:Nat):Int) - 1)=(k:Nat):=by rw [wrap64 (by omega) (by omega)];omega
 have he3:=uT hw
 have hln:=fy rw_.ws
 have hc3:(cWd w).length=3:=rfl
 have hc4:(cWd w).take 3=cWd w:=rfl
 (refine cT HJ Ly ?_;simp only [HJ,↓R1,RR,seval,he1,he2,he3,cur,hc3,hc4])
 repeat' (first|(with_reducible rw [ai])|(with_reducible refine And.intro ?_ ?_;exact ag)|((with_reducible intro β hβ;(try simp only [RB] at hβ);(repeat (obtain ⟨⟨_,_⟩,hβ⟩:=hβ));(try (have hbis:=ah (by assumption) hβ;obtain ⟨_,_⟩:=hbis)))<;>(try simp only [↓R1,RR,seval,he1,he2,he3,cur,hc3,hc4])))
 all_goals (try omega)
 all_goals (try (simp only [hc4];omega))
 all_goals (try (simp [hc3];done))
 (refine jP ?_ ?_ (by first|(simp [aj,rvS];done)|(simp only [aj,rvS,↓R1,RR,seval,he1,he2,he3,cur,hc3,hc4];try simp)))
 ·simp only [ao,↓R1,RR,seval,he1,he2,he3,cur,hc3,hc4]
  simp only [cWd]
  exact af _
 ·(repeat' (first|exact St.aH _|(refine St.lw_setT ?_)|(refine St.dh ?_ (by first|assumption|(simp only [St.bZ,St.bR];assumption)))|(refine St.dZ ?_ ?_)|(refine St.dq ?_ (by first|assumption|(simp only [St.bH,St.b6];assumption)))|exact wkL.nil|exact aa _|(refine wkL.cons ?_ ?_)|exact af _|exact bz|exact ay _ _ _|exact aq _ _))
def eA {α:Type} (w:Wd) (x:α) (e:Int):Except Ft α:=if w.q=true then .error (3,w.a) else if e=0 then .ok x else .error (e,w.a)
theorem gk {α:Type} {w:Wd} {x:α} {e:Int} (h:w.q=true):eA w x e= .error (3,(w.a:Int)):=by simp [eA,h]
theorem kB {α:Type} {w:Wd} {x:α} {e:Int} (h:w.q=false) (he:e≠0):eA w x e= .error (e,(w.a:Int)):=by simp [eA,h,he]
theorem iY {α:Type} {w:Wd} {x:α} {e:Int} (h:w.q=false) (he:e=0):eA w x e= .ok x:=by simp [eA,h,he]
theorem qh {σ0 σ:St} {β:Nat} (h:St.lw σ0 σ) (hn:σ.box β=none):σ0.box β=none:=by
 cases hb:σ0.box β with
 | none=>rfl
 | some c=>obtain ⟨c',h1,_⟩:=h.1 β c hb;rw [hn] at h1;cases h1
theorem Cj {σ0 σ:St} {τ:Nat} (h:St.lw σ0 σ) (hn:σ.tip τ=none):σ0.tip τ=none:=by
 cases hb:σ0.tip τ with
 | none=>rfl
 | some c=>rw [h.2.1 τ c hb] at hn;cases hn
theorem bI {p:Prop} (h:p:=by repeat' (first|assumption|exact St.aH _|(refine St.lw_setT ?_)|(refine St.dh ?_ (by first|assumption|exact Cj (by assumption) (by assumption)|(simp only [St.bZ,St.bR];assumption)))|(refine St.dZ ?_ ?_)|(refine St.dq ?_ (by first|assumption|exact qh (by assumption) (by assumption)|(simp only [St.bH,St.b6];assumption)))|exact wkL.nil|exact aa _|(refine wkL.cons ?_ ?_)|exact af _|exact bz|exact ay _ _ _|exact aq _ _)):p:=h
theorem cm {σ0 s:St} {e a:Int} {d:Option Nat} {l:List XI} {fr:Fr} {Q:Exit→Fr→St→Prop} {h:Hold (s,l,fr,Q)} (he:e≠0) (hl:St.lw σ0 s) (hq:Q (.panic []) [(0,lx TS (e,a))] σ0):rm Tryz.prog 44 [.int .i64 e, .int .i64 a] s d l fr Q h :=
 bM (x44 e a s σ0 hl) (aa _) (fun _ ho=>by rw [oV,if_neg he] at ho;cases ho) (fun f ho=>by rw [oV,if_neg he] at ho;cases ho;exact hq)
theorem fQ {s:St} {e a:Int} {d:Option Nat} {l:List XI} {fr:Fr} {Q:Exit→Fr→St→Prop} {h:Hold (s,l,fr,Q)} (he:e=0) (hq:dc Tryz.prog l (putF d (.tup []) fr) s Q):rm Tryz.prog 44 [.int .i64 e, .int .i64 a] s d l fr Q h :=
 bM (x44 e a s s (St.aH _)) (aa _) (fun _ ho=>hq) (fun f ho=>by rw [oV,if_pos he] at ho;cases ho)
set_option maxHeartbeats 2000000 in
theorem Mz {f:Nat} {cap:List AV} {σ σ0:St} {β k:Nat} {rw_:Rw} {w:Wd} {x:Int} {e:Int} (hb:σ.box β=some (cur rw_ k)) (hw:rw_.ws[k]? =some w) (hl:rw_.ws.length≤20000) (h0:σ0.box β=none) (hlw:St.lw σ0 σ)
    (hr:∀ s:St,s.glob=σ.glob→AC Tryz.prog f (.agg (cWd w)::cap) s (fun r s'=>r= .tup [.int .u64 x, .int .i64 e]∧s'=s)) :
    AX Tryz.prog 202 [.ptr β 0, .fn f cap] σ (oX TS (eA w x e) (fun v=> .int .u64 v) (fun _=>σ.ae β (cur rw_ (k+1))) σ0):=by
  have hlt:=(List.getElem?_eq_some_iff.1 hw).1
  haveI:BoxIs σ β (cur rw_ k):=⟨hb⟩
  have hr':∀ s:St,s.glob=σ.glob→AC Tryz.prog f (.agg [.bool w.q, .str w.t, .int .i64 (w.a:Nat)]::cap) s (fun r s'=>r= .tup [.int .u64 x, .int .i64 e]∧s'=s):=hr
  cases hq:w.q with
  | true =>
    have ho:=gk (x:=x) (e:=e) hq
    (refine bl uh HK ?_;simp only [uh,↓R1,RR,seval,hq,cWd,RX])
    repeat' (first|(with_reducible rw [ai])|((first|(with_reducible intro β hβ;(try simp only [RB] at hβ);(repeat (obtain ⟨⟨_,_⟩,hβ⟩:=hβ));(try (have hbis:=ah (by assumption) hβ;obtain ⟨_,_⟩:=hbis)))|((refine AC.mono (AC.wk (a182 (k:=k) (rw_:=rw_) (w:=w) (by simp only [↓R1,RR,seval,hq,cWd,RX]) hw hl) (aa _)) ?_;(rintro _ _ ⟨rfl,rfl⟩)))|((refine cm (σ0:=σ0) (by decide) (by exact bI) ?_)))<;>(try simp only [↓R1,RR,seval,hq,cWd,RX])))
    exact a7 ho (St.aH _)
  | false =>
    rw [hq] at hr'
    by_cases he:e=0
    · have ho:=iY (x:=x) hq he
      (refine bl uh HK ?_;simp only [uh,↓R1,RR,seval,hq,cWd,RX])
      repeat' (first|(with_reducible rw [ai])|((first|(with_reducible intro β hβ;(try simp only [RB] at hβ);(repeat (obtain ⟨⟨_,_⟩,hβ⟩:=hβ));(try (have hbis:=ah (by assumption) hβ;obtain ⟨_,_⟩:=hbis)))|((refine AC.mono (AC.wk (a182 (k:=k) (rw_:=rw_) (w:=w) (by simp only [↓R1,RR,seval,hq,cWd,RX]) hw hl) (aa _)) ?_;(rintro _ _ ⟨rfl,rfl⟩)))|((refine AC.mono (AC.wk (hr' _ rfl) (aa _)) ?_;(rintro _ _ ⟨rfl,rfl⟩)))|((refine fQ he ?_)))<;>(try simp only [↓R1,RR,seval,hq,cWd,RX])))
      (refine cX (by assumption) ?_ ?_ (by first|(simp [aj,rvS];done)|(simp only [aj,rvS,↓R1,RR,seval,hq,cWd,RX];try simp)))
      · simp only [ao,↓R1,RR,seval,hq,cWd,RX]
        exact af _
      · exact bI
    · have ho:=kB (x:=x) hq he
      (refine bl uh HK ?_;simp only [uh,↓R1,RR,seval,hq,cWd,RX])
      repeat' (first|(with_reducible rw [ai])|((first|(with_reducible intro β hβ;(try simp only [RB] at hβ);(repeat (obtain ⟨⟨_,_⟩,hβ⟩:=hβ));(try (have hbis:=ah (by assumption) hβ;obtain ⟨_,_⟩:=hbis)))|((refine AC.mono (AC.wk (a182 (k:=k) (rw_:=rw_) (w:=w) (by simp only [↓R1,RR,seval,hq,cWd,RX]) hw hl) (aa _)) ?_;(rintro _ _ ⟨rfl,rfl⟩)))|((refine AC.mono (AC.wk (hr' _ rfl) (aa _)) ?_;(rintro _ _ ⟨rfl,rfl⟩)))|((refine cm (σ0:=σ0) he (by exact bI) ?_)))<;>(try simp only [↓R1,RR,seval,hq,cWd,RX])))
      exact a7 ho (St.aH _)
set_option maxHeartbeats 2000000 in
theorem MA {f:Nat} {cap:List AV} {σ σ0:St} {β k:Nat} {rw_:Rw} {w:Wd} {x:Int} {e:Int} (hb:σ.box β=some (cur rw_ k)) (hw:rw_.ws[k]? =some w) (hl:rw_.ws.length≤20000) (h0:σ0.box β=none) (hlw:St.lw σ0 σ)
    (hr:∀ s:St,s.glob=σ.glob→AC Tryz.prog f (.agg (cWd w)::cap) s (fun r s'=>r= .tup [.int .i64 x, .int .i64 e]∧s'=s)) :
    AX Tryz.prog 205 [.ptr β 0, .fn f cap] σ (oX TS (eA w x e) (fun v=> .int .i64 v) (fun _=>σ.ae β (cur rw_ (k+1))) σ0):=by
  have hlt:=(List.getElem?_eq_some_iff.1 hw).1
  haveI:BoxIs σ β (cur rw_ k):=⟨hb⟩
  have hr':∀ s:St,s.glob=σ.glob→AC Tryz.prog f (.agg [.bool w.q, .str w.t, .int .i64 (w.a:Nat)]::cap) s (fun r s'=>r= .tup [.int .i64 x, .int .i64 e]∧s'=s):=hr
  cases hq:w.q with
  | true =>
    have ho:=gk (x:=x) (e:=e) hq
    (refine bl ui HM ?_;simp only [ui,↓R1,RR,seval,hq,cWd,RX])
    repeat' (first|(with_reducible rw [ai])|((first|(with_reducible intro β hβ;(try simp only [RB] at hβ);(repeat (obtain ⟨⟨_,_⟩,hβ⟩:=hβ));(try (have hbis:=ah (by assumption) hβ;obtain ⟨_,_⟩:=hbis)))|((refine AC.mono (AC.wk (a182 (k:=k) (rw_:=rw_) (w:=w) (by simp only [↓R1,RR,seval,hq,cWd,RX]) hw hl) (aa _)) ?_;(rintro _ _ ⟨rfl,rfl⟩)))|((refine cm (σ0:=σ0) (by decide) (by exact bI) ?_)))<;>(try simp only [↓R1,RR,seval,hq,cWd,RX])))
    exact a7 ho (St.aH _)
  | false =>
    rw [hq] at hr'
    by_cases he:e=0
    · have ho:=iY (x:=x) hq he
      (refine bl ui HM ?_;simp only [ui,↓R1,RR,seval,hq,cWd,RX])
      repeat' (first|(with_reducible rw [ai])|((first|(with_reducible intro β hβ;(try simp only [RB] at hβ);(repeat (obtain ⟨⟨_,_⟩,hβ⟩:=hβ));(try (have hbis:=ah (by assumption) hβ;obtain ⟨_,_⟩:=hbis)))|((refine AC.mono (AC.wk (a182 (k:=k) (rw_:=rw_) (w:=w) (by simp only [↓R1,RR,seval,hq,cWd,RX]) hw hl) (aa _)) ?_;(rintro _ _ ⟨rfl,rfl⟩)))|((refine AC.mono (AC.wk (hr' _ rfl) (aa _)) ?_;(rintro _ _ ⟨rfl,rfl⟩)))|((refine fQ he ?_)))<;>(try simp only [↓R1,RR,seval,hq,cWd,RX])))
      (refine cX (by assumption) ?_ ?_ (by first|(simp [aj,rvS];done)|(simp only [aj,rvS,↓R1,RR,seval,hq,cWd,RX];try simp)))
      · simp only [ao,↓R1,RR,seval,hq,cWd,RX]
        exact af _
      · exact bI
    · have ho:=kB (x:=x) hq he
      (refine bl ui HM ?_;simp only [ui,↓R1,RR,seval,hq,cWd,RX])
      repeat' (first|(with_reducible rw [ai])|((first|(with_reducible intro β hβ;(try simp only [RB] at hβ);(repeat (obtain ⟨⟨_,_⟩,hβ⟩:=hβ));(try (have hbis:=ah (by assumption) hβ;obtain ⟨_,_⟩:=hbis)))|((refine AC.mono (AC.wk (a182 (k:=k) (rw_:=rw_) (w:=w) (by simp only [↓R1,RR,seval,hq,cWd,RX]) hw hl) (aa _)) ?_;(rintro _ _ ⟨rfl,rfl⟩)))|((refine AC.mono (AC.wk (hr' _ rfl) (aa _)) ?_;(rintro _ _ ⟨rfl,rfl⟩)))|((refine cm (σ0:=σ0) he (by exact bI) ?_)))<;>(try simp only [↓R1,RR,seval,hq,cWd,RX])))
      exact a7 ho (St.aH _)
set_option maxHeartbeats 2000000 in
theorem MB {f:Nat} {cap:List AV} {σ σ0:St} {β k:Nat} {rw_:Rw} {w:Wd} {x:Int} {e:Int} (hb:σ.box β=some (cur rw_ k)) (hw:rw_.ws[k]? =some w) (hl:rw_.ws.length≤20000) (h0:σ0.box β=none) (hlw:St.lw σ0 σ)
    (hr:∀ s:St,s.glob=σ.glob→AC Tryz.prog f (.agg (cWd w)::cap) s (fun r s'=>r= .tup [.int .i64 x, .int .i64 e]∧s'=s)) :
    AX Tryz.prog 207 [.ptr β 0, .fn f cap] σ (oX TS (eA w x e) (fun v=> .int .i64 v) (fun _=>σ.ae β (cur rw_ (k+1))) σ0):=by
  have hlt:=(List.getElem?_eq_some_iff.1 hw).1
  haveI:BoxIs σ β (cur rw_ k):=⟨hb⟩
  have hr':∀ s:St,s.glob=σ.glob→AC Tryz.prog f (.agg [.bool w.q, .str w.t, .int .i64 (w.a:Nat)]::cap) s (fun r s'=>r= .tup [.int .i64 x, .int .i64 e]∧s'=s):=hr
  cases hq:w.q with
  | true =>
    have ho:=gk (x:=x) (e:=e) hq
    (refine bl uj HN ?_;simp only [uj,↓R1,RR,seval,hq,cWd,RX])
    repeat' (first|(with_reducible rw [ai])|((first|(with_reducible intro β hβ;(try simp only [RB] at hβ);(repeat (obtain ⟨⟨_,_⟩,hβ⟩:=hβ));(try (have hbis:=ah (by assumption) hβ;obtain ⟨_,_⟩:=hbis)))|((refine AC.mono (AC.wk (a182 (k:=k) (rw_:=rw_) (w:=w) (by simp only [↓R1,RR,seval,hq,cWd,RX]) hw hl) (aa _)) ?_;(rintro _ _ ⟨rfl,rfl⟩)))|((refine cm (σ0:=σ0) (by decide) (by exact bI) ?_)))<;>(try simp only [↓R1,RR,seval,hq,cWd,RX])))
    exact a7 ho (St.aH _)
  | false =>
    rw [hq] at hr'
    by_cases he:e=0
    · have ho:=iY (x:=x) hq he
      (refine bl uj HN ?_;simp only [uj,↓R1,RR,seval,hq,cWd,RX])
      repeat' (first|(with_reducible rw [ai])|((first|(with_reducible intro β hβ;(try simp only [RB] at hβ);(repeat (obtain ⟨⟨_,_⟩,hβ⟩:=hβ));(try (have hbis:=ah (by assumption) hβ;obtain ⟨_,_⟩:=hbis)))|((refine AC.mono (AC.wk (a182 (k:=k) (rw_:=rw_) (w:=w) (by simp only [↓R1,RR,seval,hq,cWd,RX]) hw hl) (aa _)) ?_;(rintro _ _ ⟨rfl,rfl⟩)))|((refine AC.mono (AC.wk (hr' _ rfl) (aa _)) ?_;(rintro _ _ ⟨rfl,rfl⟩)))|((refine fQ he ?_)))<;>(try simp only [↓R1,RR,seval,hq,cWd,RX])))
      (refine cX (by assumption) ?_ ?_ (by first|(simp [aj,rvS];done)|(simp only [aj,rvS,↓R1,RR,seval,hq,cWd,RX];try simp)))
      · simp only [ao,↓R1,RR,seval,hq,cWd,RX]
        exact af _
      · exact bI
    · have ho:=kB (x:=x) hq he
      (refine bl uj HN ?_;simp only [uj,↓R1,RR,seval,hq,cWd,RX])
      repeat' (first|(with_reducible rw [ai])|((first|(with_reducible intro β hβ;(try simp only [RB] at hβ);(repeat (obtain ⟨⟨_,_⟩,hβ⟩:=hβ));(try (have hbis:=ah (by assumption) hβ;obtain ⟨_,_⟩:=hbis)))|((refine AC.mono (AC.wk (a182 (k:=k) (rw_:=rw_) (w:=w) (by simp only [↓R1,RR,seval,hq,cWd,RX]) hw hl) (aa _)) ?_;(rintro _ _ ⟨rfl,rfl⟩)))|((refine AC.mono (AC.wk (hr' _ rfl) (aa _)) ?_;(rintro _ _ ⟨rfl,rfl⟩)))|((refine cm (σ0:=σ0) he (by exact bI) ?_)))<;>(try simp only [↓R1,RR,seval,hq,cWd,RX])))
      exact a7 ho (St.aH _)
set_option maxHeartbeats 2000000 in
theorem MC {f:Nat} {cap:List AV} {σ σ0:St} {β k:Nat} {rw_:Rw} {w:Wd} {x:Int × Int} {e:Int} (hb:σ.box β=some (cur rw_ k)) (hw:rw_.ws[k]? =some w) (hl:rw_.ws.length≤20000) (h0:σ0.box β=none) (hlw:St.lw σ0 σ)
    (hr:∀ s:St,s.glob=σ.glob→AC Tryz.prog f (.agg (cWd w)::cap) s (fun r s'=>r= .tup [.agg [.int .u64 x.1, .int .u64 x.2], .int .i64 e]∧s'=s)) :
    AX Tryz.prog 212 [.ptr β 0, .fn f cap] σ (oX TS (eA w x e) (fun v=> .agg [.int .u64 v.1, .int .u64 v.2]) (fun _=>σ.ae β (cur rw_ (k+1))) σ0):=by
  have hlt:=(List.getElem?_eq_some_iff.1 hw).1
  haveI:BoxIs σ β (cur rw_ k):=⟨hb⟩
  have hr':∀ s:St,s.glob=σ.glob→AC Tryz.prog f (.agg [.bool w.q, .str w.t, .int .i64 (w.a:Nat)]::cap) s (fun r s'=>r= .tup [.agg [.int .u64 x.1, .int .u64 x.2], .int .i64 e]∧s'=s):=hr
  cases hq:w.q with
  | true =>
    have ho:=gk (x:=x) (e:=e) hq
    (refine bl uk HP ?_;simp only [uk,↓R1,RR,seval,hq,cWd,RX])
    repeat' (first|(with_reducible rw [ai])|((first|(with_reducible intro β hβ;(try simp only [RB] at hβ);(repeat (obtain ⟨⟨_,_⟩,hβ⟩:=hβ));(try (have hbis:=ah (by assumption) hβ;obtain ⟨_,_⟩:=hbis)))|((refine AC.mono (AC.wk (a182 (k:=k) (rw_:=rw_) (w:=w) (by simp only [↓R1,RR,seval,hq,cWd,RX]) hw hl) (aa _)) ?_;(rintro _ _ ⟨rfl,rfl⟩)))|((refine cm (σ0:=σ0) (by decide) (by exact bI) ?_)))<;>(try simp only [↓R1,RR,seval,hq,cWd,RX])))
    exact a7 ho (St.aH _)
  | false =>
    rw [hq] at hr'
    by_cases he:e=0
    · have ho:=iY (x:=x) hq he
      (refine bl uk HP ?_;simp only [uk,↓R1,RR,seval,hq,cWd,RX])
      repeat' (first|(with_reducible rw [ai])|((first|(with_reducible intro β hβ;(try simp only [RB] at hβ);(repeat (obtain ⟨⟨_,_⟩,hβ⟩:=hβ));(try (have hbis:=ah (by assumption) hβ;obtain ⟨_,_⟩:=hbis)))|((refine AC.mono (AC.wk (a182 (k:=k) (rw_:=rw_) (w:=w) (by simp only [↓R1,RR,seval,hq,cWd,RX]) hw hl) (aa _)) ?_;(rintro _ _ ⟨rfl,rfl⟩)))|((refine AC.mono (AC.wk (hr' _ rfl) (aa _)) ?_;(rintro _ _ ⟨rfl,rfl⟩)))|((refine fQ he ?_)))<;>(try simp only [↓R1,RR,seval,hq,cWd,RX])))
      (refine cX (by assumption) ?_ ?_ (by first|(simp [aj,rvS];done)|(simp only [aj,rvS,↓R1,RR,seval,hq,cWd,RX];try simp)))
      · simp only [ao,↓R1,RR,seval,hq,cWd,RX]
        exact af _
      · exact bI
    · have ho:=kB (x:=x) hq he
      (refine bl uk HP ?_;simp only [uk,↓R1,RR,seval,hq,cWd,RX])
      repeat' (first|(with_reducible rw [ai])|((first|(with_reducible intro β hβ;(try simp only [RB] at hβ);(repeat (obtain ⟨⟨_,_⟩,hβ⟩:=hβ));(try (have hbis:=ah (by assumption) hβ;obtain ⟨_,_⟩:=hbis)))|((refine AC.mono (AC.wk (a182 (k:=k) (rw_:=rw_) (w:=w) (by simp only [↓R1,RR,seval,hq,cWd,RX]) hw hl) (aa _)) ?_;(rintro _ _ ⟨rfl,rfl⟩)))|((refine AC.mono (AC.wk (hr' _ rfl) (aa _)) ?_;(rintro _ _ ⟨rfl,rfl⟩)))|((refine cm (σ0:=σ0) he (by exact bI) ?_)))<;>(try simp only [↓R1,RR,seval,hq,cWd,RX])))
      exact a7 ho (St.aH _)
def gN (q:Bool) (t:List UInt8):Int × Int :=
 bif (q|| !kx (dI t))||(fx t&&decide (cY (dI t)=0)) then (0,3)
 else bif (decide (18446744073709551616≤cY (dI t))||decide (9223372036854775808<cY (dI t)))||(decide (cY (dI t)=9223372036854775808)&& !fx t) then (0,2)
 else ((bif fx t then -((cY (dI t):Nat):Int) else ((cY (dI t):Nat):Int)),0)
theorem sG (q:Bool) (t:List UInt8):ky q t= .tup [.int .i64 (gN q t).1, .int .i64 (gN q t).2]:=by
 unfold ky gN
 cases ((q|| !kx (dI t))||(fx t&&decide (cY (dI t)=0)))<;>simp only [cond_true,cond_false]
 cases ((decide (18446744073709551616≤cY (dI t))||decide (9223372036854775808<cY (dI t)))||(decide (cY (dI t)=9223372036854775808)&& !fx t))<;>rfl
def sH (s:List UInt8):Int × Int:=bif la s then (((cb (hS s 35)).l.toNat:Nat),(ij (tS s 35):Nat)) else (0,0)
theorem vK (s:List UInt8):r9 s= [.int .u64 (sH s).1, .int .u64 (sH s).2]:=by
 unfold r9 sH;cases la s<;>rfl
def bh (w:Wd):Except Ft Int:=eA w (gN w.q w.t).1 (gN w.q w.t).2
def ee (w:Wd):Except Ft Int:=eA w (((cb w.t).l.toNat:Nat):Int) ((cb w.t).err:Nat)
def gn (w:Wd):Except Ft Int:=eA w (ko w.t) (sd w.t)
def n4 (w:Wd):Except Ft (Int × Int):=eA w (sH w.t) (pW w.t)
def eN (w:Wd):Except Ft (List UInt8):=if 1000<w.t.length then .error (4,w.a) else .ok w.t
theorem MD (w:Wd) (hl:w.t.length≤1000000):Pu Tryz.prog 203 [.agg (cWd w)] (.tup [.int .u64 ((cb w.t).l.toNat:Nat), .int .i64 ((cb w.t).err:Nat)]):=by
 have hn:=JN w.t (by omega)
 simp only [rK] at hn
 simp only [cWd]
 (refine an HL Lz fun σ=>?_;simp only [HL,↓R1,RR,seval])
 repeat' (first|(with_reducible rw [ai])|((first|(with_reducible intro β hβ;(try simp only [RB] at hβ);(repeat (obtain ⟨⟨_,_⟩,hβ⟩:=hβ));(try (have hbis:=ah (by assumption) hβ;obtain ⟨_,_⟩:=hbis)))|(refine Pt (hn) ?_))<;>(try simp only [↓R1,RR,seval])))
 (refine ak (ad ?_) (by first|(simp [aj,rvS];done)|(simp only [aj,rvS,↓R1,RR,seval];try simp)))
 (simp only [ao,↓R1,RR,seval])
theorem ME (w:Wd) (hl:w.t.length≤1000000):Pu Tryz.prog 208 [.agg (cWd w)] (.tup [.int .i64 (ko w.t), .int .i64 (sd w.t)]):=by
 have hn:=Mb w.t
 rw [se] at hn
 simp only [cWd]
 (refine an HO LA fun σ=>?_;simp only [HO,↓R1,RR,seval])
 repeat' ((first|(with_reducible intro β hβ;(try simp only [RB] at hβ);(repeat (obtain ⟨⟨_,_⟩,hβ⟩:=hβ));(try (have hbis:=ah (by assumption) hβ;obtain ⟨_,_⟩:=hbis)))|(refine Pt (hn) ?_))<;>(try simp only [↓R1,RR,seval]))
 (refine ak (ad ?_) (by first|(simp [aj,rvS];done)|(simp only [aj,rvS,↓R1,RR,seval];try simp)))
 (simp only [ao,↓R1,RR,seval])
theorem MF (w:Wd) (hl:w.t.length≤1000000):PuG Tryz.prog gl3 213 [.agg (cWd w)] (.tup [.agg [.int .u64 (sH w.t).1, .int .u64 (sH w.t).2], .int .i64 (pW w.t)]):=by
 have hn:=L8 w.t hl
 rw [vK] at hn
 simp only [cWd]
 (refine b9 HQ LB fun σ hσ=>?_;simp only [HQ,↓R1,RR,seval])
 repeat' (first|(with_reducible rw [ai])|((first|(with_reducible intro β hβ;(try simp only [RB] at hβ);(repeat (obtain ⟨⟨_,_⟩,hβ⟩:=hβ));(try (have hbis:=ah (by assumption) hβ;obtain ⟨_,_⟩:=hbis)))|(refine PuG.to (hn) hσ (aa _) ?_))<;>(try simp only [↓R1,RR,seval])))
 (refine ak (ad ?_) (by first|(simp [aj,rvS];done)|(simp only [aj,rvS,↓R1,RR,seval];try simp)))
 (simp only [ao,↓R1,RR,seval])
structure Cu (σ0 σ:St) (β:Nat) (r:Rw) (k:Nat):Prop where
 hb:σ.box β=some (cur r k)
 h0:σ0.box β=none
 lw:St.lw σ0 σ
 n:r.ws.length≤20000
 t:∀ w∈r.ws,w.t.length≤1000000
theorem Cu.to {σ0 σ:St} {β k j:Nat} {r:Rw} (h:Cu σ0 σ β r k):Cu σ0 (σ.ae β (cur r j)) β r j:=⟨St.ef _ _ _,h.h0,St.dq h.lw h.h0,h.n,h.t⟩
theorem Cu.new {σ0 σ:St} {β γ k:Nat} {r:Rw} {c:List AV} (h:Cu σ0 σ β r k) (hn:σ.box γ=none):Cu σ0 (σ.ae γ c) β r k:=by
 have hne:β≠γ:=fun e=>by have:=h.hb;rw [e,hn] at this;cases this
 exact ⟨by simp [St.ae,upd,hne,h.hb],h.h0,St.dq h.lw (qh h.lw hn),h.n,h.t⟩
theorem Cu.len {σ0 σ:St} {β k:Nat} {r:Rw} {w:Wd} (h:Cu σ0 σ β r k) (hw:r.ws[k]? =some w):w.t.length≤1000000:=h.t w (List.mem_of_getElem? hw)
theorem J8 {σ σ0:St} {β k:Nat} {r:Rw} {w:Wd} (h:Cu σ0 σ β r k) (hw:r.ws[k]? =some w):AX Tryz.prog 151 [.ptr β 0] σ (oX TS (ee w) (fun v=> .int .u64 v) (fun _=>σ.ae β (cur r (k+1))) σ0):=by
 haveI:BoxIs σ β (cur r k):=⟨h.hb⟩
 have ht:∀ z,Cu σ0 z β r k→z.glob=σ.glob→AX Tryz.prog 202 [.ptr β 0, .fn 203 []] z (oX TS (ee w) (fun v=> .int .u64 v) (fun _=>z.ae β (cur r (k+1))) σ0):=fun z hz hgz=>Mz hz.hb hw hz.n hz.h0 hz.lw (fun s _=>MD w (h.len hw) s)
 (refine bl HA Ln ?_;simp only [HA,↓R1,RR,seval,RX])
 repeat' (((refine bM (ht _ (by (repeat' (first|assumption|(refine Cu.to (k:=1) ?_)|(refine Cu.new ?_ (by first|assumption|(simp only [↓R1,RR,seval,RX];done)))))) rfl) (aa _) (fun a ho=>?_) (fun e ho=>?_)))<;>(try simp only [↓R1,RR,seval,RX]))
 all_goals first|exact a7 ho (St.aH _)|(refine cX ho ?_ ?_ (by first|(simp [aj,rvS];done)|(simp only [aj,rvS,↓R1,RR,seval,RX];try simp));(focus (simp only [ao,↓R1,RR,seval,RX];exact af _));exact bI)
theorem MG {σ σ0:St} {β k:Nat} {r:Rw} {w:Wd} (h:Cu σ0 σ β r k) (hw:r.ws[k]? =some w):AX Tryz.prog 154 [.ptr β 0] σ (oX TS (gn w) (fun v=> .int .i64 v) (fun _=>σ.ae β (cur r (k+1))) σ0):=by
 haveI:BoxIs σ β (cur r k):=⟨h.hb⟩
 have ht:∀ z,Cu σ0 z β r k→z.glob=σ.glob→AX Tryz.prog 207 [.ptr β 0, .fn 208 []] z (oX TS (gn w) (fun v=> .int .i64 v) (fun _=>z.ae β (cur r (k+1))) σ0):=fun z hz hgz=>MB hz.hb hw hz.n hz.h0 hz.lw (fun s _=>ME w (h.len hw) s)
 (refine bl HC Lp ?_;simp only [HC,↓R1,RR,seval,RX])
 repeat' (((refine bM (ht _ (by (repeat' (first|assumption|(refine Cu.to (k:=1) ?_)|(refine Cu.new ?_ (by first|assumption|(simp only [↓R1,RR,seval,RX];done)))))) rfl) (aa _) (fun a ho=>?_) (fun e ho=>?_)))<;>(try simp only [↓R1,RR,seval,RX]))
 all_goals first|exact a7 ho (St.aH _)|(refine cX ho ?_ ?_ (by first|(simp [aj,rvS];done)|(simp only [aj,rvS,↓R1,RR,seval,RX];try simp));(focus (simp only [ao,↓R1,RR,seval,RX];exact af _));exact bI)
theorem MH {σ σ0:St} {β k:Nat} {r:Rw} {w:Wd} (h:Cu σ0 σ β r k) (hw:r.ws[k]? =some w) (hσ:cG gl3 σ):AX Tryz.prog 156 [.ptr β 0] σ (oX TS (n4 w) (fun v=> .agg [.int .u64 v.1, .int .u64 v.2]) (fun _=>σ.ae β (cur r (k+1))) σ0):=by
 haveI:BoxIs σ β (cur r k):=⟨h.hb⟩
 have ht:∀ z,Cu σ0 z β r k→z.glob=σ.glob→AX Tryz.prog 212 [.ptr β 0, .fn 213 []] z (oX TS (n4 w) (fun v=> .agg [.int .u64 v.1, .int .u64 v.2]) (fun _=>z.ae β (cur r (k+1))) σ0):=fun z hz hgz=>MC hz.hb hw hz.n hz.h0 hz.lw (fun s hg=>MF w (h.len hw) s (by intro k cs hk;rw [hg,hgz];exact hσ k cs hk))
 (refine bl HD Lq ?_;simp only [HD,↓R1,RR,seval,RX])
 repeat' (first|(with_reducible rw [ai])|((first|(with_reducible intro β hβ;(try simp only [RB] at hβ);(repeat (obtain ⟨⟨_,_⟩,hβ⟩:=hβ));(try (have hbis:=ah (by assumption) hβ;obtain ⟨_,_⟩:=hbis)))|((refine bM (ht _ (by (repeat' (first|assumption|(refine Cu.to (k:=1) ?_)|(refine Cu.new ?_ (by first|assumption|(simp only [↓R1,RR,seval,RX];done)))))) rfl) (aa _) (fun a ho=>?_) (fun e ho=>?_))))<;>(try simp only [↓R1,RR,seval,RX])))
 all_goals first|exact a7 ho (St.aH _)|(refine cX ho ?_ ?_ (by first|(simp [aj,rvS];done)|(simp only [aj,rvS,↓R1,RR,seval,RX];try simp));(focus (simp only [ao,↓R1,RR,seval,RX];exact af _));exact bI)
theorem uU {σ σ0:St} {β k:Nat} {r:Rw} {w:Wd} (h:Cu σ0 σ β r k) (hw:r.ws[k]? =some w):AX Tryz.prog 153 [.ptr β 0] σ (oX TS (bh w) (fun v=> .int .i64 v) (fun _=>σ.ae β (cur r (k+1))) σ0):=by
 haveI:BoxIs σ β (cur r k):=⟨h.hb⟩
 have ht:∀ z,Cu σ0 z β r k→z.glob=σ.glob→AX Tryz.prog 205 [.ptr β 0, .fn 206 []] z (oX TS (bh w) (fun v=> .int .i64 v) (fun _=>z.ae β (cur r (k+1))) σ0):=fun z hz hgz=>MA hz.hb hw hz.n hz.h0 hz.lw (fun s _=>(by have:=Mt w.q w.t (w.a:Nat) (h.len hw) s;rw [sG] at this;exact this))
 (refine bl HB Lo ?_;simp only [HB,↓R1,RR,seval,RX])
 repeat' (((refine bM (ht _ (by (repeat' (first|assumption|(refine Cu.to (k:=1) ?_)|(refine Cu.new ?_ (by first|assumption|(simp only [↓R1,RR,seval,RX];done)))))) rfl) (aa _) (fun a ho=>?_) (fun e ho=>?_)))<;>(try simp only [↓R1,RR,seval,RX]))
 all_goals first|exact a7 ho (St.aH _)|(refine cX ho ?_ ?_ (by first|(simp [aj,rvS];done)|(simp only [aj,rvS,↓R1,RR,seval,RX];try simp));(focus (simp only [ao,↓R1,RR,seval,RX];exact af _));exact bI)
theorem yJ {σ σ0:St} {β k:Nat} {r:Rw} {w:Wd} (h:Cu σ0 σ β r k) (hw:r.ws[k]? =some w):AX Tryz.prog 150 [.ptr β 0] σ (oX TS (bh w) (fun v=> .int .i64 v) (fun _=>σ.ae β (cur r (k+1))) σ0):=by
 haveI:BoxIs σ β (cur r k):=⟨h.hb⟩
 (refine bl Hz Lm ?_;simp only [Hz,↓R1,RR,seval,RX])
 repeat' (((refine bM (uU (σ0:=σ0) (r:=r) (k:=k) (by (repeat' (first|assumption|(refine Cu.to (k:=1) ?_)|(refine Cu.new ?_ (by first|assumption|(simp only [↓R1,RR,seval,RX];done)))))) hw) (aa _) (fun a ho=>?_) (fun e ho=>?_)))<;>(try simp only [↓R1,RR,seval,RX]))
 all_goals first|exact a7 ho (St.aH _)|(refine cX ho ?_ ?_;(focus (simp only [ao,↓R1,RR,seval,RX];exact af _));exact bI)
theorem J9 {σ σ0:St} {β k:Nat} {r:Rw} {w:Wd} (h:Cu σ0 σ β r k) (hw:r.ws[k]? =some w):AX Tryz.prog 152 [.ptr β 0] σ (oX TS (eN w) (fun v=> .str v) (fun _=>σ.ae β (cur r (k+1))) σ0):=by
 haveI:BoxIs σ β (cur r k):=⟨h.hb⟩
 have h0:=h.h0
 have hlw:=h.lw
 by_cases hc:1000<w.t.length
 ·have ho:eN w= .error (4,(w.a:Int)):=by simp [eN,hc]
  have q1:decide ((1000:Int)<(w.t.length:Int))=true:=by rw [decide_eq_true_eq];omega
  (refine bl Bq JJ ?_;simp only [Bq,↓R1,RR,seval,q1,cWd,RX])
  repeat' (first|(with_reducible rw [ai])|((first|(with_reducible intro β hβ;(try simp only [RB] at hβ);(repeat (obtain ⟨⟨_,_⟩,hβ⟩:=hβ));(try (have hbis:=ah (by assumption) hβ;obtain ⟨_,_⟩:=hbis)))|((refine AC.mono (AC.wk (a182 (k:=k) (rw_:=r) (w:=w) (by simp only [↓R1,RR,seval,q1,cWd,RX]) hw h.n) (aa _)) ?_;(rintro _ _ ⟨rfl,rfl⟩)))|((refine cm (σ0:=σ0) (by decide) (by exact bI) ?_)))<;>(try simp only [↓R1,RR,seval,q1,cWd,RX])))
  exact a7 ho (St.aH _)
 ·have ho:eN w= .ok w.t:=by simp [eN,hc]
  have q1:decide ((1000:Int)<(w.t.length:Int))=false:=by rw [decide_eq_false_iff_not];omega
  (refine bl Bq JJ ?_;simp only [Bq,↓R1,RR,seval,q1,cWd,RX])
  repeat' (first|(with_reducible rw [ai])|((first|(with_reducible intro β hβ;(try simp only [RB] at hβ);(repeat (obtain ⟨⟨_,_⟩,hβ⟩:=hβ));(try (have hbis:=ah (by assumption) hβ;obtain ⟨_,_⟩:=hbis)))|((refine AC.mono (AC.wk (a182 (k:=k) (rw_:=r) (w:=w) (by simp only [↓R1,RR,seval,q1,cWd,RX]) hw h.n) (aa _)) ?_;(rintro _ _ ⟨rfl,rfl⟩))))<;>(try simp only [↓R1,RR,seval,q1,cWd,RX])))
  (refine cX ho ?_ ?_;(focus (simp only [ao,↓R1,RR,seval,q1,cWd,RX];exact af _));exact bI)
def eO (s:List UInt8):Except Ft (List Rw):=match dt s with
 | .ok rs=> .ok rs
 | .error (e,a)=> .error ((e:Nat),(a:Nat))
theorem lh {s:List UInt8} {e a:Nat} (h:dt s= .error (e,a)):e≠0:=by rcases uB h with rfl|rfl<;>decide
theorem x42 {σ σ0:St} (s:List UInt8) (hs:s.length≤1000000) (hlw:St.lw σ0 σ):AX Tryz.prog 42 [.str s] σ (oX TS (eO s) (fun rs=> .sl false rs.length (rs.flatMap cRw)) (fun _=>σ) σ0):=by
  have hn:=p87 s hs
  cases hr:dt s with
  | ok rs =>
    have ho:eO s= .ok rs:=by simp only [eO,hr]
    rw [hr] at hn
    (refine bl c42 b42 ?_;simp only [c42,↓R1,RR,seval,RX,eI,dA])
    repeat' (first|(with_reducible rw [ai])|((first|(with_reducible intro β hβ;(try simp only [RB] at hβ);(repeat (obtain ⟨⟨_,_⟩,hβ⟩:=hβ));(try (have hbis:=ah (by assumption) hβ;obtain ⟨_,_⟩:=hbis)))|(refine Pt (hn) ?_)|((refine fQ rfl ?_)))<;>(try simp only [↓R1,RR,seval,RX,eI,dA])))
    (refine cX ho ?_ ?_;(focus (simp only [ao,↓R1,RR,seval,RX,eI,dA];exact af _));exact bI)
  | error p =>
    obtain ⟨e,a⟩:=p
    have ho:eO s= .error ((e:Nat),(a:Nat)):=by simp only [eO,hr]
    have he:=lh hr
    rw [hr] at hn
    (refine bl c42 b42 ?_;simp only [c42,↓R1,RR,seval,RX,eI,dA])
    repeat' (first|(with_reducible rw [ai])|((first|(with_reducible intro β hβ;(try simp only [RB] at hβ);(repeat (obtain ⟨⟨_,_⟩,hβ⟩:=hβ));(try (have hbis:=ah (by assumption) hβ;obtain ⟨_,_⟩:=hbis)))|(refine Pt (hn) ?_)|((refine cm (σ0:=σ0) (by omega) (by exact bI) ?_)))<;>(try simp only [↓R1,RR,seval,RX,eI,dA])))
    exact a7 ho (St.aH _)
def nC (q:Bool) (t:List UInt8) (l:List (List UInt8)):Int:=match (bif q then none else dr t l 0) with
 | some i=>(i:Nat)
 | none=> -1
set_option maxHeartbeats 2000000 in
theorem p83 (r:Rw) (w:Wd) (f:Bool) (l:List (List UInt8)) (hw0:r.ws[0]? =some w) (hl:l.length≤1000):Pu Tryz.prog 83 [.agg (cRw r), .sl f l.length (l.map AV.str)] (.int .i64 (nC w.q w.t l)):=by
  have q1:True:=trivial
  have q2:True:=trivial
  have hw:True:=trivial
  have hd:True:=trivial
  have he3:(r.ws.flatMap cWd).take 3= [.bool w.q, .str w.t, .int .i64 (w.a:Nat)]:=by have:=uT hw0;simp at this;rw [this];rfl
  have hlt0:=(List.getElem?_eq_some_iff.1 hw0).1
  have hln:=fy r.ws
  simp only [cRw]
  (refine an c83 b83 fun σ=>?_;simp only [c83,↓R1,RR,seval,q1,q2,hw,hd,he3])
  repeat' (first|(with_reducible rw [ai])|(with_reducible refine And.intro ?_ ?_;exact ag)|((with_reducible intro β hβ;(try simp only [RB] at hβ);(repeat (obtain ⟨⟨_,_⟩,hβ⟩:=hβ));(try (have hbis:=ah (by assumption) hβ;obtain ⟨_,_⟩:=hbis)))<;>(try simp only [↓R1,RR,seval,q1,q2,hw,hd,he3])))
  all_goals first|omega|skip
  rename_i γ hγ ap1 ap2
  refine bK l.length (fun k=> [(5, .ptr β 0),(12, .sl f l.length (l.map AV.str)),(13, .int .i64 (l.length:Nat)),(14, .int .i64 (k:Nat))]) (fun _=>(σ.ae γ [.int .i64 (r.a:Nat), .sl false r.ws.length (r.ws.flatMap cWd)]).ae β [.bool w.q, .str w.t, .int .i64 (w.a:Nat)]) (fun k=>(bif w.q then none else dr w.t l 0)=(bif w.q then none else dr w.t (l.drop k) k)) (by simp [az,slot,af]) (by simp only [St.set_set];exact St.le_refl _) rfl (fun k hk hI=>?_)
  by_cases hlt:k<l.length
  · have q1:decide ((k:Int)<(l.length:Int))=true:=by rw [decide_eq_true_eq];omega
    have hd:=nv l hlt
    have hw:IntKind.i64.wrap ((k:Int)+1)=((k+1:Nat):Int):=by rw [wrap64 (by omega) (by omega)];omega
    rw [iW w.t l hlt] at hI
    cases hq:w.q with
    | true =>
      have q2:=hq
      simp only [q1,q2,↓R1,RR,seval,q1,q2,hw,hd,he3]
      repeat' (first|(with_reducible refine And.intro ?_ ?_;exact ag)|(with_reducible apply And.intro))
      all_goals first|(simp [hq];done)|skip
      all_goals first|(rw [List.length_map];omega)|skip
      · simp [az,slot,af]
      · exact St.le_refl _
    | false =>
      rw [hq] at hI
      cases he:l[k] == w.t with
      | true =>
        rw [he] at hI
        simp only [cond_true,cond_false] at hI
        have q2:(w.t == l[k])=true:=by rw [beq_iff_eq] at he ⊢;exact he.symm
        rw [nC];simp only [hq,cond_false];rw [hI]
        simp only [q1,hq,↓R1,RR,seval,q1,q2,hw,hd,he3]
        repeat' (with_reducible refine And.intro ?_ ?_;exact ag)
        all_goals first|(rw [List.length_map];omega)|skip
        refine ak (ad (by (simp only [ao,↓R1,RR,seval,q1,q2,hw,hd,he3])))
      | false =>
        rw [he] at hI
        have q2:(w.t == l[k])=false:=by rw [Bool.eq_false_iff] at he ⊢;intro h;apply he;simp only [beq_iff_eq] at h ⊢;simp [h]
        simp only [q1,hq,↓R1,RR,seval,q1,q2,hw,hd,he3]
        repeat' (first|(with_reducible refine And.intro ?_ ?_;exact ag)|(with_reducible apply And.intro))
        all_goals first|(rw [List.length_map];omega)|skip
        · simpa using hI
        · simp [az,slot,af]
        · exact St.le_refl _
  · have hke:k=l.length:=by omega
    subst hke
    have q1:decide ((l.length:Int)<(l.length:Int))=false:=by simp
    rw [List.drop_length] at hI
    rw [nC,hI]
    have e:(bif w.q then none else dr w.t [] l.length)=none:=by cases w.q<;>rfl
    rw [e]
    simp only [q1,↓R1,RR,seval,q1,q2,hw,hd,he3]
    skip
    refine ak (ad (by (simp only [ao,↓R1,RR,seval,q1,q2,hw,hd,he3])))
theorem uV {s:List UInt8} {rs:List Rw} (h:dt s= .ok rs):s.length≤20000∧rs.length≤s.length+1∧∀ r∈rs,r.ws≠ []∧r.ws.length≤20000∧∀ w∈r.ws,w.t.length≤20000:=by
 have hs:s.length≤20000:=by
  refine Classical.byContradiction fun hn=>?_
  rw [dt,if_pos (by omega)] at h;cases h
 have hb:lD (dt s)=some (rN rs):=by rw [h];rfl
 rw [rQ hs] at hb
 obtain ⟨h1,h2⟩:=lF (n:=20000) (fun x hx=>Nat.le_trans ((k9 s).1 x hx) hs) hb
 have hg:=uy h
 refine ⟨hs,?_,fun r hr=>?_⟩
 ·have:=(k9 s).2
  simp only [rN,List.length_map] at h1
  omega
 ·have h3:=h2 (ki r.ws) (by simp only [rN,List.mem_map];exact ⟨r,hr,rfl⟩)
  refine ⟨(hg r hr).1,?_,fun w hw=>?_⟩
  ·have:=h3.1;simpa [ki] using this
  ·exact h3.2 (w.q,w.t) (by simp only [ki,List.mem_map];exact ⟨w,hw,rfl⟩)
def rdB (ws:List Wd) (f:Ft):List AV:= [.sl false ws.length (ws.flatMap cWd), .int .i64 f.1, .int .i64 f.2]
def rdF (f:Ft) (e a:Int):Ft:=if f.1=0∧e≠0 then (e,a) else f
def rdO {α:Type} (f:Ft) (o:Except Ft α):Ft:=if f.1≠0 then f else match o with
 | .ok _=>f
 | .error e=>e
def rdX (f:Ft) (w:Wd) (x:Int):Int:=if f.1=0∧w.q=false then x else 0
theorem eW {σ:St} {β:Nat} {c:List AV} (h:σ.box β=some c):σ.ae β c=σ:=by
 obtain ⟨b,t,g,l,bt⟩:=σ
 simp only [St.ae,St.mk.injEq,and_true]
 funext j
 simp only [upd]
 split
 ·rename_i e;subst e;exact h.symm
 ·rfl
theorem lj {l:List Wd} {k:Nat} {w:Wd} (h:l[k]? =some w):((l.flatMap cWd).drop (k*3)).take 3= [.bool w.q, .str w.t, .int .i64 (w.a:Nat)]:=uT h
theorem r71 {σ:St} {β:Nat} {ws:List Wd} {f:Ft} (hb:σ.box β=some (rdB ws f)) (e a:Int):AC Tryz.prog 71 [.ptr β 0, .int .i64 e, .int .i64 a] σ (fun r s=>r= .tup []∧s=σ.ae β (rdB ws (rdF f e a))):=by
 haveI:BoxIs σ β [.sl false ws.length (ws.flatMap cWd), .int .i64 f.1, .int .i64 f.2]:=⟨hb⟩
 have q1:True:=trivial
 have q2:True:=trivial
 by_cases h1:f.1=0
 ·have q1:(f.1 == 0)=true:=by rw [h1];rfl
  by_cases h2:e=0
  ·have q2:(e != 0)=false:=by rw [h2];rfl
   have he:rdF f e a=f:=if_neg (by intro h;exact h.2 h2)
   rw [he,eW hb]
   (refine bw c71 b71 ?_;simp only [c71,↓R1,RR,seval,q1,q2,rdB])
   skip
   all_goals all_goals first|omega|exact Nat.le_refl _|assumption|exact St.le_refl _|(exact ag)|(simp only [az,slot,af,↓R1,RR,seval,q1,q2,rdB];(repeat' (with_reducible apply And.intro))<;>first|exact bU (by have:=av;omega)|exact ay _ _ _|exact aq _ _|exact ad (congrArg (AV.tsl _ _) (flat_step (by assumption))))|((repeat (first|exact St.le_refl _|(refine St.aw ?_ (by assumption))|(refine St.aG ?_ (by assumption))));done)|(simp_all;done)|skip
   all_goals (refine ct ?_ (by first|(simp [aj,rvS];done)|(simp only [aj,rvS,↓R1,RR,seval,q1,q2,rdB];try simp)))
   all_goals (exact ⟨rfl,rfl⟩)
  ·have q2:(e != 0)=true:=by rw [bne_iff_ne];exact h2
   have he:rdF f e a=(e,a):=if_pos ⟨h1,h2⟩
   rw [he]
   (refine bw c71 b71 ?_;simp only [c71,↓R1,RR,seval,q1,q2,rdB])
   skip
   all_goals all_goals first|omega|exact Nat.le_refl _|assumption|exact St.le_refl _|(exact ag)|(simp only [az,slot,af,↓R1,RR,seval,q1,q2,rdB];(repeat' (with_reducible apply And.intro))<;>first|exact bU (by have:=av;omega)|exact ay _ _ _|exact aq _ _|exact ad (congrArg (AV.tsl _ _) (flat_step (by assumption))))|((repeat (first|exact St.le_refl _|(refine St.aw ?_ (by assumption))|(refine St.aG ?_ (by assumption))));done)|(simp_all;done)|skip
   all_goals (refine ct ?_ (by first|(simp [aj,rvS];done)|(simp only [aj,rvS,↓R1,RR,seval,q1,q2,rdB];try simp)))
   all_goals (exact ⟨rfl,rfl⟩)
 ·have q1:(f.1 == 0)=false:=by rw [beq_eq_false_iff_ne];exact h1
  have he:rdF f e a=f:=if_neg (by intro h;exact h1 h.1)
  rw [he,eW hb]
  (refine bw c71 b71 ?_;simp only [c71,↓R1,RR,seval,q1,q2,rdB])
  skip
  all_goals all_goals first|omega|exact Nat.le_refl _|assumption|exact St.le_refl _|(exact ag)|(simp only [az,slot,af,↓R1,RR,seval,q1,q2,rdB];(repeat' (with_reducible apply And.intro))<;>first|exact bU (by have:=av;omega)|exact ay _ _ _|exact aq _ _|exact ad (congrArg (AV.tsl _ _) (flat_step (by assumption))))|((repeat (first|exact St.le_refl _|(refine St.aw ?_ (by assumption))|(refine St.aG ?_ (by assumption))));done)|(simp_all;done)|skip
  all_goals (refine ct ?_ (by first|(simp [aj,rvS];done)|(simp only [aj,rvS,↓R1,RR,seval,q1,q2,rdB];try simp)))
  all_goals (exact ⟨rfl,rfl⟩)
theorem yK {σ:St} {β k:Nat} {ws:List Wd} {f:Ft} {w:Wd} (hb:σ.box β=some (rdB ws f)) (hw:ws[k]? =some w) (hl:ws.length≤1000000):AC Tryz.prog 128 [.ptr β 0, .int .i64 (k:Nat)] σ (fun r s=>r= .bool ((if w.q then rdF f 3 w.a else f).1 == 0)∧s=σ.ae β (rdB ws (if w.q then rdF f 3 w.a else f))):=by
  haveI:BoxIs σ β [.sl false ws.length (ws.flatMap cWd), .int .i64 f.1, .int .i64 f.2]:=⟨hb⟩
  have he:=lj hw
  have hk:=(List.getElem?_eq_some_iff.1 hw).1
  have hcl:=fy ws
  cases hq:w.q with
  | true =>
    rw [hq] at he
    have rf:=r71 hb 3 (w.a:Nat)
    simp only [if_true]
    generalize rdF f 3 w.a=f2 at rf
    (refine bw Bp JI ?_;simp only [Bp,↓R1,RR,seval,he,rdB])
    repeat' (first|(with_reducible refine And.intro ?_ ?_;exact ag)|(((refine AC.mono (AC.wk (rf) (aa _)) ?_;(rintro _ _ ⟨rfl,rfl⟩)))<;>(try simp only [↓R1,RR,seval,he,rdB])))
    all_goals all_goals first|omega|exact Nat.le_refl _|assumption|exact St.le_refl _|(exact ag)|(simp only [az,slot,af,↓R1,RR,seval,he,rdB];(repeat' (with_reducible apply And.intro))<;>first|exact bU (by have:=av;omega)|exact ay _ _ _|exact aq _ _|exact ad (congrArg (AV.tsl _ _) (flat_step (by assumption))))|((repeat (first|exact St.le_refl _|(refine St.aw ?_ (by assumption))|(refine St.aG ?_ (by assumption))));done)|(simp_all;done)|skip
    all_goals (refine ct ?_ (by first|(simp [aj,rvS];done)|(simp only [aj,rvS,↓R1,RR,seval,he,rdB];try simp)))
    all_goals (exact ⟨rfl,rfl⟩)
  | false =>
    rw [hq] at he
    simp only [Bool.false_eq_true,if_false]
    rw [eW hb]
    (refine bw Bp JI ?_;simp only [Bp,↓R1,RR,seval,he,rdB])
    repeat' (with_reducible refine And.intro ?_ ?_;exact ag)
    all_goals all_goals first|omega|exact Nat.le_refl _|assumption|exact St.le_refl _|(exact ag)|(simp only [az,slot,af,↓R1,RR,seval,he,rdB];(repeat' (with_reducible apply And.intro))<;>first|exact bU (by have:=av;omega)|exact ay _ _ _|exact aq _ _|exact ad (congrArg (AV.tsl _ _) (flat_step (by assumption))))|((repeat (first|exact St.le_refl _|(refine St.aw ?_ (by assumption))|(refine St.aG ?_ (by assumption))));done)|(simp_all;done)|skip
    all_goals (refine ct ?_ (by first|(simp [aj,rvS];done)|(simp only [aj,rvS,↓R1,RR,seval,he,rdB];try simp)))
    all_goals (exact ⟨rfl,rfl⟩)
theorem Ck {σ:St} {β:Nat} {c d:List AV} (h:σ.box β=some d):(σ.ae β c).glob=σ.glob∧(∀ γ,σ.box γ=none→(σ.ae β c).box γ=none)∧∀ γ,σ.tip γ=none→(σ.ae β c).tip γ=none :=
 ⟨rfl,fun γ hγ=>by
  have:γ≠β:=fun e=>by rw [e,h] at hγ;cases hγ
  simp [St.ae,upd,this,hγ],fun _ h=>h⟩
theorem ml (b:Bool):b=true∨b=false:=by cases b<;>simp
theorem vL (f:Ft) (a:Int):((rdF f 3 a).1 == 0)=false:=by
 rw [beq_eq_false_iff_ne,rdF]
 split
 ·simp
 ·rename_i h;intro h2;exact h ⟨h2,by decide⟩
theorem lk {α:Type} (f:Ft) {e a:Int} (h:e≠0):rdO f (.error (e,a):Except Ft α)=rdF f e a:=by
 unfold rdO rdF
 by_cases h1:f.1=0
 ·rw [if_neg (by simp [h1]),if_pos ⟨h1,h⟩]
 ·rw [if_pos h1,if_neg (by intro h;exact h1 h.1)]
theorem kC {α:Type} {f:Ft} {w:Wd} (hf:f.1=0) (hq:w.q=false) (x:α) (e:Int) (a:Int) (ha:a=(w.a:Nat)):rdO f (eA w x e)=rdF f e a:=by
 subst ha
 by_cases he:e=0
 ·rw [iY hq he,rdO,if_neg (by simp [hf]),rdF,if_neg (by simp [he])]
 ·rw [kB hq he,lk f he]
theorem Ij {σ:St} {β k:Nat} {ws:List Wd} {f:Ft} {w:Wd} (hb:σ.box β=some (rdB ws f)) (hw:ws[k]? =some w) (hl:ws.length≤1000000) (hq:w.q=true):AC Tryz.prog 128 [.ptr β 0, .int .i64 (k:Nat)] σ (fun r s=>r= .bool false∧s=σ.ae β (rdB ws (rdF f 3 w.a))):=by
 have rb:=yK hb hw hl
 rw [hq,if_pos rfl,vL] at rb
 exact rb
theorem Il {σ:St} {β k:Nat} {ws:List Wd} {f:Ft} {w:Wd} (hb:σ.box β=some (rdB ws f)) (hw:ws[k]? =some w) (hl:ws.length≤1000000) (hq:w.q=false) (hf:f.1≠0):AC Tryz.prog 128 [.ptr β 0, .int .i64 (k:Nat)] σ (fun r s=>r= .bool false∧s=σ):=by
 have rb:=yK hb hw hl
 rw [hq,if_neg (by decide),eW hb,show (f.1 == 0)=false by rw [beq_eq_false_iff_ne];exact hf] at rb
 exact rb
theorem Im {σ:St} {β k:Nat} {ws:List Wd} {f:Ft} {w:Wd} (hb:σ.box β=some (rdB ws f)) (hw:ws[k]? =some w) (hl:ws.length≤1000000) (hq:w.q=false) (hf:f.1=0):AC Tryz.prog 128 [.ptr β 0, .int .i64 (k:Nat)] σ (fun r s=>r= .bool true∧s=σ):=by
 have rb:=yK hb hw hl
 rw [hq,if_neg (by decide),eW hb,show (f.1 == 0)=true by rw [hf];rfl] at rb
 exact rb
set_option maxHeartbeats 1000000 in
theorem r69 {σ:St} {β k:Nat} {ws:List Wd} {f:Ft} {w:Wd} (hb:σ.box β=some (rdB ws f)) (hw:ws[k]? =some w) (hl:ws.length≤1000000) (ht:w.t.length≤1000000):AC Tryz.prog 69 [.ptr β 0, .int .i64 (k:Nat)] σ (fun r s=>r= .int .u64 (rdX f w (((cb w.t).l.toNat:Nat)))∧s=σ.ae β (rdB ws (rdO f (ee w)))):=by
 haveI:BoxIs σ β [.sl false ws.length (ws.flatMap cWd), .int .i64 f.1, .int .i64 f.2]:=⟨hb⟩
 have he:=lj hw
 have hk:=(List.getElem?_eq_some_iff.1 hw).1
 have hcl:=fy ws
 have rb:=yK hb hw hl
 rcases ml w.q with hq|hq
 ·skip
  rw [hq,if_pos rfl] at rb
  have h1:((rdF f 3 w.a).1 == 0)=false:=vL f w.a
  rw [h1] at rb
  have e1:rdO f (ee w)=rdF f 3 w.a:=by rw [ee,gk hq];exact lk _ (by decide)
  have e2:rdX f w (((cb w.t).l.toNat:Nat))=0:=if_neg (by rw [hq];simp)
  rw [e1,e2]
  generalize rdF f 3 w.a=f2 at rb
  (refine cT c69 b69 ?_;simp only [c69,↓R1,RR,seval,he,rdB])
  repeat' (((refine AC.mono (AC.wk (rb) (aa _)) ?_;(rintro _ _ ⟨rfl,rfl⟩)))<;>(try simp only [↓R1,RR,seval,he,rdB]))
  all_goals all_goals first|omega|exact Nat.le_refl _|assumption|exact St.le_refl _|(exact ag)|(simp only [az,slot,af,↓R1,RR,seval,he,rdB];(repeat' (with_reducible apply And.intro))<;>first|exact bU (by have:=av;omega)|exact ay _ _ _|exact aq _ _|exact ad (congrArg (AV.tsl _ _) (flat_step (by assumption))))|((repeat (first|exact St.le_refl _|(refine St.aw ?_ (by assumption))|(refine St.aG ?_ (by assumption))));done)|(simp_all;done)|skip
  all_goals (refine jP ?_ ?_ (by first|(simp [aj,rvS];done)|(simp only [aj,rvS,↓R1,RR,seval,he,rdB];try simp)))
  all_goals first|(simp only [ao,↓R1,RR,seval,he,rdB];exact af _)|((repeat' (first|exact St.aH _|(refine St.lw_setT ?_)|(refine St.dh ?_ (by first|assumption|(simp only [St.bZ,St.bR];assumption)))|(refine St.dZ ?_ ?_)|(refine St.dq ?_ (by first|assumption|(simp only [St.bH,St.b6];assumption)))|exact wkL.nil|exact aa _|(refine wkL.cons ?_ ?_)|exact af _|exact bz|exact ay _ _ _|exact aq _ _));done)
 ·rw [hq,if_neg (by decide),eW hb] at rb
  by_cases hf:f.1=0
  ·rw [show (f.1 == 0)=true by rw [hf];rfl] at rb
   have pp:=JO w.t (by omega)
   rw [rK] at pp
   have rf:=r71 hb ((cb w.t).err:Nat) (w.a:Nat)
   have e1:rdO f (ee w)=rdF f ((cb w.t).err:Nat) w.a:=by rw [ee];exact kC hf hq _ _ _ rfl
   have e2:rdX f w (((cb w.t).l.toNat:Nat))=(((cb w.t).l.toNat:Nat)):=if_pos ⟨hf,hq⟩
   rw [e1,e2]
   (refine cT c69 b69 ?_;simp only [c69,↓R1,RR,seval,he,rdB])
   repeat' (first|(with_reducible rw [ai])|(with_reducible refine And.intro ?_ ?_;exact ag)|((first|(with_reducible intro β hβ;(try simp only [RB] at hβ);(repeat (obtain ⟨⟨_,_⟩,hβ⟩:=hβ));(try (have hbis:=ah (by assumption) hβ;obtain ⟨_,_⟩:=hbis)))|((refine AC.mono (AC.wk (rb) (aa _)) ?_;(rintro _ _ ⟨rfl,rfl⟩)))|(refine Pt (pp) ?_)|((refine mK (r71 (ws:=ws) (f:=f) ?_ _ _) (aa _) (Ck (d:=rdB ws f) ?_) ?_;(focus (simp only [↓R1,RR,seval,he,rdB];done));(focus (simp only [↓R1,RR,seval,he,rdB];done)))))<;>(try simp only [↓R1,RR,seval,he,rdB])))
   all_goals all_goals first|omega|exact Nat.le_refl _|assumption|exact St.le_refl _|(exact ag)|(simp only [az,slot,af,↓R1,RR,seval,he,rdB];(repeat' (with_reducible apply And.intro))<;>first|exact bU (by have:=av;omega)|exact ay _ _ _|exact aq _ _|exact ad (congrArg (AV.tsl _ _) (flat_step (by assumption))))|((repeat (first|exact St.le_refl _|(refine St.aw ?_ (by assumption))|(refine St.aG ?_ (by assumption))));done)|(simp_all;done)|skip
   all_goals (refine jP ?_ ?_ (by first|(simp [aj,rvS];done)|(simp only [aj,rvS,↓R1,RR,seval,he,rdB];try simp)))
   all_goals first|(simp only [ao,↓R1,RR,seval,he,rdB];exact af _)|((repeat' (first|exact St.aH _|(refine St.lw_setT ?_)|(refine St.dh ?_ (by first|assumption|(simp only [St.bZ,St.bR];assumption)))|(refine St.dZ ?_ ?_)|(refine St.dq ?_ (by first|assumption|(simp only [St.bH,St.b6];assumption)))|exact wkL.nil|exact aa _|(refine wkL.cons ?_ ?_)|exact af _|exact bz|exact ay _ _ _|exact aq _ _));done)
  ·rw [show (f.1 == 0)=false by rw [beq_eq_false_iff_ne];exact hf] at rb
   have e1:rdO f (ee w)=f:=by unfold rdO;exact if_pos hf
   have e2:rdX f w (((cb w.t).l.toNat:Nat))=0:=if_neg (by simp [hf])
   rw [e1,e2,eW hb]
   (refine cT c69 b69 ?_;simp only [c69,↓R1,RR,seval,he,rdB])
   repeat' (((refine AC.mono (AC.wk (rb) (aa _)) ?_;(rintro _ _ ⟨rfl,rfl⟩)))<;>(try simp only [↓R1,RR,seval,he,rdB]))
   all_goals all_goals first|omega|exact Nat.le_refl _|assumption|exact St.le_refl _|(exact ag)|(simp only [az,slot,af,↓R1,RR,seval,he,rdB];(repeat' (with_reducible apply And.intro))<;>first|exact bU (by have:=av;omega)|exact ay _ _ _|exact aq _ _|exact ad (congrArg (AV.tsl _ _) (flat_step (by assumption))))|((repeat (first|exact St.le_refl _|(refine St.aw ?_ (by assumption))|(refine St.aG ?_ (by assumption))));done)|(simp_all;done)|skip
   all_goals (refine jP ?_ ?_ (by first|(simp [aj,rvS];done)|(simp only [aj,rvS,↓R1,RR,seval,he,rdB];try simp)))
   all_goals first|(simp only [ao,↓R1,RR,seval,he,rdB];exact af _)|((repeat' (first|exact St.aH _|(refine St.lw_setT ?_)|(refine St.dh ?_ (by first|assumption|(simp only [St.bZ,St.bR];assumption)))|(refine St.dZ ?_ ?_)|(refine St.dq ?_ (by first|assumption|(simp only [St.bH,St.b6];assumption)))|exact wkL.nil|exact aa _|(refine wkL.cons ?_ ?_)|exact af _|exact bz|exact ay _ _ _|exact aq _ _));done)
set_option maxHeartbeats 1000000 in
theorem lZ {σ:St} {β k:Nat} {ws:List Wd} {f:Ft} {w:Wd} (hb:σ.box β=some (rdB ws f)) (hw:ws[k]? =some w) (hl:ws.length≤1000000) (ht:w.t.length≤1000000):AC Tryz.prog 102 [.ptr β 0, .int .i64 (k:Nat)] σ (fun r s=>r= .int .i64 (rdX f w ((gN w.q w.t).1))∧s=σ.ae β (rdB ws (rdO f (bh w)))):=by
 haveI:BoxIs σ β [.sl false ws.length (ws.flatMap cWd), .int .i64 f.1, .int .i64 f.2]:=⟨hb⟩
 have he:=lj hw
 have hk:=(List.getElem?_eq_some_iff.1 hw).1
 have hcl:=fy ws
 have rb:=yK hb hw hl
 rcases ml w.q with hq|hq
 ·skip
  rw [hq,if_pos rfl] at rb
  have h1:((rdF f 3 w.a).1 == 0)=false:=vL f w.a
  rw [h1] at rb
  have e1:rdO f (bh w)=rdF f 3 w.a:=by rw [bh,gk hq];exact lk _ (by decide)
  have e2:rdX f w ((gN w.q w.t).1)=0:=if_neg (by rw [hq];simp)
  rw [e1,e2]
  generalize rdF f 3 w.a=f2 at rb
  (refine cT ue Ht ?_;simp only [ue,↓R1,RR,seval,he,rdB])
  repeat' (((refine AC.mono (AC.wk (rb) (aa _)) ?_;(rintro _ _ ⟨rfl,rfl⟩)))<;>(try simp only [↓R1,RR,seval,he,rdB]))
  all_goals all_goals first|omega|exact Nat.le_refl _|assumption|exact St.le_refl _|(exact ag)|(simp only [az,slot,af,↓R1,RR,seval,he,rdB];(repeat' (with_reducible apply And.intro))<;>first|exact bU (by have:=av;omega)|exact ay _ _ _|exact aq _ _|exact ad (congrArg (AV.tsl _ _) (flat_step (by assumption))))|((repeat (first|exact St.le_refl _|(refine St.aw ?_ (by assumption))|(refine St.aG ?_ (by assumption))));done)|(simp_all;done)|skip
  all_goals (refine jP ?_ ?_ (by first|(simp [aj,rvS];done)|(simp only [aj,rvS,↓R1,RR,seval,he,rdB];try simp)))
  all_goals first|(simp only [ao,↓R1,RR,seval,he,rdB];exact af _)|((repeat' (first|exact St.aH _|(refine St.lw_setT ?_)|(refine St.dh ?_ (by first|assumption|(simp only [St.bZ,St.bR];assumption)))|(refine St.dZ ?_ ?_)|(refine St.dq ?_ (by first|assumption|(simp only [St.bH,St.b6];assumption)))|exact wkL.nil|exact aa _|(refine wkL.cons ?_ ?_)|exact af _|exact bz|exact ay _ _ _|exact aq _ _));done)
 ·rw [hq,if_neg (by decide),eW hb] at rb
  by_cases hf:f.1=0
  ·rw [show (f.1 == 0)=true by rw [hf];rfl] at rb
   have pp:=Mu w.q w.t (w.a:Nat) ht
   rw [sG] at pp
   have rf:=r71 hb (gN w.q w.t).2 (w.a:Nat)
   have e1:rdO f (bh w)=rdF f (gN w.q w.t).2 w.a:=by rw [bh];exact kC hf hq _ _ _ rfl
   have e2:rdX f w ((gN w.q w.t).1)=((gN w.q w.t).1):=if_pos ⟨hf,hq⟩
   rw [e1,e2]
   (refine cT ue Ht ?_;simp only [ue,↓R1,RR,seval,he,rdB])
   repeat' (first|(with_reducible refine And.intro ?_ ?_;exact ag)|((first|((refine AC.mono (AC.wk (rb) (aa _)) ?_;(rintro _ _ ⟨rfl,rfl⟩)))|(refine Pt (pp) ?_)|((refine AC.mono (AC.wk (r71 (ws:=ws) (f:=f) ?_ _ _) (aa _)) ?_;(focus (simp only [↓R1,RR,seval,he,rdB];done));(rintro _ _ ⟨rfl,rfl⟩))))<;>(try simp only [↓R1,RR,seval,he,rdB])))
   all_goals all_goals first|omega|exact Nat.le_refl _|assumption|exact St.le_refl _|(exact ag)|(simp only [az,slot,af,↓R1,RR,seval,he,rdB];(repeat' (with_reducible apply And.intro))<;>first|exact bU (by have:=av;omega)|exact ay _ _ _|exact aq _ _|exact ad (congrArg (AV.tsl _ _) (flat_step (by assumption))))|((repeat (first|exact St.le_refl _|(refine St.aw ?_ (by assumption))|(refine St.aG ?_ (by assumption))));done)|(simp_all;done)|skip
   all_goals (refine jP ?_ ?_ (by first|(simp [aj,rvS];done)|(simp only [aj,rvS,↓R1,RR,seval,he,rdB];try simp)))
   all_goals first|(simp only [ao,↓R1,RR,seval,he,rdB];exact af _)|((repeat' (first|exact St.aH _|(refine St.lw_setT ?_)|(refine St.dh ?_ (by first|assumption|(simp only [St.bZ,St.bR];assumption)))|(refine St.dZ ?_ ?_)|(refine St.dq ?_ (by first|assumption|(simp only [St.bH,St.b6];assumption)))|exact wkL.nil|exact aa _|(refine wkL.cons ?_ ?_)|exact af _|exact bz|exact ay _ _ _|exact aq _ _));done)
  ·rw [show (f.1 == 0)=false by rw [beq_eq_false_iff_ne];exact hf] at rb
   have e1:rdO f (bh w)=f:=by unfold rdO;exact if_pos hf
   have e2:rdX f w ((gN w.q w.t).1)=0:=if_neg (by simp [hf])
   rw [e1,e2,eW hb]
   (refine cT ue Ht ?_;simp only [ue,↓R1,RR,seval,he,rdB])
   repeat' (((refine AC.mono (AC.wk (rb) (aa _)) ?_;(rintro _ _ ⟨rfl,rfl⟩)))<;>(try simp only [↓R1,RR,seval,he,rdB]))
   all_goals all_goals first|omega|exact Nat.le_refl _|assumption|exact St.le_refl _|(exact ag)|(simp only [az,slot,af,↓R1,RR,seval,he,rdB];(repeat' (with_reducible apply And.intro))<;>first|exact bU (by have:=av;omega)|exact ay _ _ _|exact aq _ _|exact ad (congrArg (AV.tsl _ _) (flat_step (by assumption))))|((repeat (first|exact St.le_refl _|(refine St.aw ?_ (by assumption))|(refine St.aG ?_ (by assumption))));done)|(simp_all;done)|skip
   all_goals (refine jP ?_ ?_ (by first|(simp [aj,rvS];done)|(simp only [aj,rvS,↓R1,RR,seval,he,rdB];try simp)))
   all_goals first|(simp only [ao,↓R1,RR,seval,he,rdB];exact af _)|((repeat' (first|exact St.aH _|(refine St.lw_setT ?_)|(refine St.dh ?_ (by first|assumption|(simp only [St.bZ,St.bR];assumption)))|(refine St.dZ ?_ ?_)|(refine St.dq ?_ (by first|assumption|(simp only [St.bH,St.b6];assumption)))|exact wkL.nil|exact aa _|(refine wkL.cons ?_ ?_)|exact af _|exact bz|exact ay _ _ _|exact aq _ _));done)
set_option maxHeartbeats 1000000 in
theorem MI {σ:St} {β k:Nat} {ws:List Wd} {f:Ft} {w:Wd} (hb:σ.box β=some (rdB ws f)) (hw:ws[k]? =some w) (hl:ws.length≤1000000) (ht:w.t.length≤1000000):AC Tryz.prog 104 [.ptr β 0, .int .i64 (k:Nat)] σ (fun r s=>r= .int .i64 (rdX f w (ko w.t))∧s=σ.ae β (rdB ws (rdO f (gn w)))):=by
 haveI:BoxIs σ β [.sl false ws.length (ws.flatMap cWd), .int .i64 f.1, .int .i64 f.2]:=⟨hb⟩
 have he:=lj hw
 have hk:=(List.getElem?_eq_some_iff.1 hw).1
 have hcl:=fy ws
 have rb:=yK hb hw hl
 rcases ml w.q with hq|hq
 ·skip
  rw [hq,if_pos rfl] at rb
  have h1:((rdF f 3 w.a).1 == 0)=false:=vL f w.a
  rw [h1] at rb
  have e1:rdO f (gn w)=rdF f 3 w.a:=by rw [gn,gk hq];exact lk _ (by decide)
  have e2:rdX f w (ko w.t)=0:=if_neg (by rw [hq];simp)
  rw [e1,e2]
  generalize rdF f 3 w.a=f2 at rb
  (refine cT uf Hu ?_;simp only [uf,↓R1,RR,seval,he,rdB])
  repeat' (((refine AC.mono (AC.wk (rb) (aa _)) ?_;(rintro _ _ ⟨rfl,rfl⟩)))<;>(try simp only [↓R1,RR,seval,he,rdB]))
  all_goals all_goals first|omega|exact Nat.le_refl _|assumption|exact St.le_refl _|(exact ag)|(simp only [az,slot,af,↓R1,RR,seval,he,rdB];(repeat' (with_reducible apply And.intro))<;>first|exact bU (by have:=av;omega)|exact ay _ _ _|exact aq _ _|exact ad (congrArg (AV.tsl _ _) (flat_step (by assumption))))|((repeat (first|exact St.le_refl _|(refine St.aw ?_ (by assumption))|(refine St.aG ?_ (by assumption))));done)|(simp_all;done)|skip
  all_goals (refine jP ?_ ?_ (by first|(simp [aj,rvS];done)|(simp only [aj,rvS,↓R1,RR,seval,he,rdB];try simp)))
  all_goals first|(simp only [ao,↓R1,RR,seval,he,rdB];exact af _)|((repeat' (first|exact St.aH _|(refine St.lw_setT ?_)|(refine St.dh ?_ (by first|assumption|(simp only [St.bZ,St.bR];assumption)))|(refine St.dZ ?_ ?_)|(refine St.dq ?_ (by first|assumption|(simp only [St.bH,St.b6];assumption)))|exact wkL.nil|exact aa _|(refine wkL.cons ?_ ?_)|exact af _|exact bz|exact ay _ _ _|exact aq _ _));done)
 ·rw [hq,if_neg (by decide),eW hb] at rb
  by_cases hf:f.1=0
  ·rw [show (f.1 == 0)=true by rw [hf];rfl] at rb
   have pp:=L9 w.t
   rw [se] at pp
   have rf:=r71 hb (sd w.t) (w.a:Nat)
   have e1:rdO f (gn w)=rdF f (sd w.t) w.a:=by rw [gn];exact kC hf hq _ _ _ rfl
   have e2:rdX f w (ko w.t)=(ko w.t):=if_pos ⟨hf,hq⟩
   rw [e1,e2]
   (refine cT uf Hu ?_;simp only [uf,↓R1,RR,seval,he,rdB])
   repeat' (first|(with_reducible refine And.intro ?_ ?_;exact ag)|((first|((refine AC.mono (AC.wk (rb) (aa _)) ?_;(rintro _ _ ⟨rfl,rfl⟩)))|(refine Pt (pp) ?_)|((refine AC.mono (AC.wk (r71 (ws:=ws) (f:=f) ?_ _ _) (aa _)) ?_;(focus (simp only [↓R1,RR,seval,he,rdB];done));(rintro _ _ ⟨rfl,rfl⟩))))<;>(try simp only [↓R1,RR,seval,he,rdB])))
   all_goals all_goals first|omega|exact Nat.le_refl _|assumption|exact St.le_refl _|(exact ag)|(simp only [az,slot,af,↓R1,RR,seval,he,rdB];(repeat' (with_reducible apply And.intro))<;>first|exact bU (by have:=av;omega)|exact ay _ _ _|exact aq _ _|exact ad (congrArg (AV.tsl _ _) (flat_step (by assumption))))|((repeat (first|exact St.le_refl _|(refine St.aw ?_ (by assumption))|(refine St.aG ?_ (by assumption))));done)|(simp_all;done)|skip
   all_goals (refine jP ?_ ?_ (by first|(simp [aj,rvS];done)|(simp only [aj,rvS,↓R1,RR,seval,he,rdB];try simp)))
   all_goals first|(simp only [ao,↓R1,RR,seval,he,rdB];exact af _)|((repeat' (first|exact St.aH _|(refine St.lw_setT ?_)|(refine St.dh ?_ (by first|assumption|(simp only [St.bZ,St.bR];assumption)))|(refine St.dZ ?_ ?_)|(refine St.dq ?_ (by first|assumption|(simp only [St.bH,St.b6];assumption)))|exact wkL.nil|exact aa _|(refine wkL.cons ?_ ?_)|exact af _|exact bz|exact ay _ _ _|exact aq _ _));done)
  ·rw [show (f.1 == 0)=false by rw [beq_eq_false_iff_ne];exact hf] at rb
   have e1:rdO f (gn w)=f:=by unfold rdO;exact if_pos hf
   have e2:rdX f w (ko w.t)=0:=if_neg (by simp [hf])
   rw [e1,e2,eW hb]
   (refine cT uf Hu ?_;simp only [uf,↓R1,RR,seval,he,rdB])
   repeat' (((refine AC.mono (AC.wk (rb) (aa _)) ?_;(rintro _ _ ⟨rfl,rfl⟩)))<;>(try simp only [↓R1,RR,seval,he,rdB]))
   all_goals all_goals first|omega|exact Nat.le_refl _|assumption|exact St.le_refl _|(exact ag)|(simp only [az,slot,af,↓R1,RR,seval,he,rdB];(repeat' (with_reducible apply And.intro))<;>first|exact bU (by have:=av;omega)|exact ay _ _ _|exact aq _ _|exact ad (congrArg (AV.tsl _ _) (flat_step (by assumption))))|((repeat (first|exact St.le_refl _|(refine St.aw ?_ (by assumption))|(refine St.aG ?_ (by assumption))));done)|(simp_all;done)|skip
   all_goals (refine jP ?_ ?_ (by first|(simp [aj,rvS];done)|(simp only [aj,rvS,↓R1,RR,seval,he,rdB];try simp)))
   all_goals first|(simp only [ao,↓R1,RR,seval,he,rdB];exact af _)|((repeat' (first|exact St.aH _|(refine St.lw_setT ?_)|(refine St.dh ?_ (by first|assumption|(simp only [St.bZ,St.bR];assumption)))|(refine St.dZ ?_ ?_)|(refine St.dq ?_ (by first|assumption|(simp only [St.bH,St.b6];assumption)))|exact wkL.nil|exact aa _|(refine wkL.cons ?_ ?_)|exact af _|exact bz|exact ay _ _ _|exact aq _ _));done)
set_option maxHeartbeats 1000000 in
theorem MJ {σ:St} {β k:Nat} {ws:List Wd} {f:Ft} {w:Wd} (hb:σ.box β=some (rdB ws f)) (hw:ws[k]? =some w) (hl:ws.length≤1000000) (ht:w.t.length≤1000000):AC Tryz.prog 105 [.ptr β 0, .int .i64 (k:Nat)] σ (fun r s=>r= .agg [.int .u64 (rdX f w (sH w.t).1), .int .u64 (rdX f w (sH w.t).2)]∧s=σ.ae β (rdB ws (rdO f (n4 w)))):=by
 haveI:BoxIs σ β [.sl false ws.length (ws.flatMap cWd), .int .i64 f.1, .int .i64 f.2]:=⟨hb⟩
 have he:=lj hw
 have hk:=(List.getElem?_eq_some_iff.1 hw).1
 have hcl:=fy ws
 rcases ml w.q with hq|hq
 ·have e1:rdO f (n4 w)=rdF f 3 w.a:=by rw [n4,gk hq];exact lk _ (by decide)
  have e2:∀ x,rdX f w x=0:=fun x=>if_neg (by rw [hq];simp)
  rw [e1,e2,e2]
  (refine cT ug Hv ?_;simp only [ug,↓R1,RR,seval,he,rdB])
  repeat' (first|(with_reducible rw [ai])|((first|(with_reducible intro β hβ;(try simp only [RB] at hβ);(repeat (obtain ⟨⟨_,_⟩,hβ⟩:=hβ));(try (have hbis:=ah (by assumption) hβ;obtain ⟨_,_⟩:=hbis)))|((refine AC.mono (AC.wk (Ij (ws:=ws) (f:=f) (w:=w) ?_ hw hl hq) (aa _)) ?_;(focus (simp only [↓R1,RR,seval,he,rdB];done));(rintro _ _ ⟨rfl,rfl⟩))))<;>(try simp only [↓R1,RR,seval,he,rdB])))
  all_goals all_goals first|omega|exact Nat.le_refl _|assumption|exact St.le_refl _|(exact ag)|(simp only [az,slot,af,↓R1,RR,seval,he,rdB];(repeat' (with_reducible apply And.intro))<;>first|exact bU (by have:=av;omega)|exact ay _ _ _|exact aq _ _|exact ad (congrArg (AV.tsl _ _) (flat_step (by assumption))))|((repeat (first|exact St.le_refl _|(refine St.aw ?_ (by assumption))|(refine St.aG ?_ (by assumption))));done)|(simp_all;done)|skip
  all_goals (refine jP ?_ ?_ (by first|(simp [aj,rvS];done)|(simp only [aj,rvS,↓R1,RR,seval,he,rdB];try simp)))
  all_goals first|(simp only [ao,↓R1,RR,seval,he,rdB];exact af _)|((repeat' (first|exact St.aH _|(refine St.lw_setT ?_)|(refine St.dh ?_ (by first|assumption|(simp only [St.bZ,St.bR];assumption)))|(refine St.dZ ?_ ?_)|(refine St.dq ?_ (by first|assumption|(simp only [St.bH,St.b6];assumption)))|exact wkL.nil|exact aa _|(refine wkL.cons ?_ ?_)|exact af _|exact bz|exact ay _ _ _|exact aq _ _));done)
 ·by_cases hf:f.1=0
  ·have pp:=L7 w.t ht
   rw [vK] at pp
   have e1:rdO f (n4 w)=rdF f (pW w.t) w.a:=by rw [n4];exact kC hf hq _ _ _ rfl
   have e2:∀ x,rdX f w x=x:=fun x=>if_pos ⟨hf,hq⟩
   rw [e1,e2,e2]
   (refine cT ug Hv ?_;simp only [ug,↓R1,RR,seval,he,rdB])
   repeat' (first|(with_reducible rw [ai])|(with_reducible refine And.intro ?_ ?_;exact ag)|((first|(with_reducible intro β hβ;(try simp only [RB] at hβ);(repeat (obtain ⟨⟨_,_⟩,hβ⟩:=hβ));(try (have hbis:=ah (by assumption) hβ;obtain ⟨_,_⟩:=hbis)))|((refine AC.mono (AC.wk (Im (ws:=ws) (f:=f) (w:=w) ?_ hw hl hq hf) (aa _)) ?_;(focus (simp only [↓R1,RR,seval,he,rdB];done));(rintro _ _ ⟨rfl,rfl⟩)))|(refine Pt (pp) ?_)|((refine AC.mono (AC.wk (r71 (ws:=ws) (f:=f) ?_ _ _) (aa _)) ?_;(focus (simp only [↓R1,RR,seval,he,rdB];done));(rintro _ _ ⟨rfl,rfl⟩))))<;>(try simp only [↓R1,RR,seval,he,rdB])))
   all_goals all_goals first|omega|exact Nat.le_refl _|assumption|exact St.le_refl _|(exact ag)|(simp only [az,slot,af,↓R1,RR,seval,he,rdB];(repeat' (with_reducible apply And.intro))<;>first|exact bU (by have:=av;omega)|exact ay _ _ _|exact aq _ _|exact ad (congrArg (AV.tsl _ _) (flat_step (by assumption))))|((repeat (first|exact St.le_refl _|(refine St.aw ?_ (by assumption))|(refine St.aG ?_ (by assumption))));done)|(simp_all;done)|skip
   all_goals (refine jP ?_ ?_ (by first|(simp [aj,rvS];done)|(simp only [aj,rvS,↓R1,RR,seval,he,rdB];try simp)))
   all_goals first|(simp only [ao,↓R1,RR,seval,he,rdB];exact af _)|((repeat' (first|exact St.aH _|(refine St.lw_setT ?_)|(refine St.dh ?_ (by first|assumption|(simp only [St.bZ,St.bR];assumption)))|(refine St.dZ ?_ ?_)|(refine St.dq ?_ (by first|assumption|(simp only [St.bH,St.b6];assumption)))|exact wkL.nil|exact aa _|(refine wkL.cons ?_ ?_)|exact af _|exact bz|exact ay _ _ _|exact aq _ _));done)
  ·have e1:rdO f (n4 w)=f:=by unfold rdO;exact if_pos hf
   have e2:∀ x,rdX f w x=0:=fun x=>if_neg (by simp [hf])
   rw [e1,e2,e2,eW hb]
   (refine cT ug Hv ?_;simp only [ug,↓R1,RR,seval,he,rdB])
   repeat' (first|(with_reducible rw [ai])|((first|(with_reducible intro β hβ;(try simp only [RB] at hβ);(repeat (obtain ⟨⟨_,_⟩,hβ⟩:=hβ));(try (have hbis:=ah (by assumption) hβ;obtain ⟨_,_⟩:=hbis)))|((refine AC.mono (AC.wk (Il (ws:=ws) (f:=f) (w:=w) ?_ hw hl hq hf) (aa _)) ?_;(focus (simp only [↓R1,RR,seval,he,rdB];done));(rintro _ _ ⟨rfl,rfl⟩))))<;>(try simp only [↓R1,RR,seval,he,rdB])))
   all_goals all_goals first|omega|exact Nat.le_refl _|assumption|exact St.le_refl _|(exact ag)|(simp only [az,slot,af,↓R1,RR,seval,he,rdB];(repeat' (with_reducible apply And.intro))<;>first|exact bU (by have:=av;omega)|exact ay _ _ _|exact aq _ _|exact ad (congrArg (AV.tsl _ _) (flat_step (by assumption))))|((repeat (first|exact St.le_refl _|(refine St.aw ?_ (by assumption))|(refine St.aG ?_ (by assumption))));done)|(simp_all;done)|skip
   all_goals (refine jP ?_ ?_ (by first|(simp [aj,rvS];done)|(simp only [aj,rvS,↓R1,RR,seval,he,rdB];try simp)))
   all_goals first|(simp only [ao,↓R1,RR,seval,he,rdB];exact af _)|((repeat' (first|exact St.aH _|(refine St.lw_setT ?_)|(refine St.dh ?_ (by first|assumption|(simp only [St.bZ,St.bR];assumption)))|(refine St.dZ ?_ ?_)|(refine St.dq ?_ (by first|assumption|(simp only [St.bH,St.b6];assumption)))|exact wkL.nil|exact aa _|(refine wkL.cons ?_ ?_)|exact af _|exact bz|exact ay _ _ _|exact aq _ _));done)
theorem Ka {σ:St} {β k:Nat} {ws:List Wd} {f:Ft} {w:Wd} (hb:σ.box β=some (rdB ws f)) (hw:ws[k]? =some w) (hl:ws.length≤1000000) (ht:w.t.length≤1000000):AC Tryz.prog 103 [.ptr β 0, .int .i64 (k:Nat)] σ (fun r s=>r= .str w.t∧s=σ.ae β (rdB ws (rdO f (eN w)))):=by
 haveI:BoxIs σ β [.sl false ws.length (ws.flatMap cWd), .int .i64 f.1, .int .i64 f.2]:=⟨hb⟩
 have q1:True:=trivial
 have he:=lj hw
 have hk:=(List.getElem?_eq_some_iff.1 hw).1
 have hcl:=fy ws
 by_cases hlt:1000<w.t.length
 ·have q1:decide ((1000:Int)<(w.t.length:Int))=true:=by rw [decide_eq_true_eq];omega
  have e1:rdO f (eN w)=rdF f 4 w.a:=by rw [eN,if_pos hlt];exact lk _ (by decide)
  rw [e1]
  (refine cT Bo JH ?_;simp only [Bo,↓R1,RR,seval,q1,he,rdB])
  repeat' (first|(with_reducible refine And.intro ?_ ?_;exact ag)|(((refine AC.mono (AC.wk (r71 (ws:=ws) (f:=f) ?_ _ _) (aa _)) ?_;(focus (simp only [↓R1,RR,seval,q1,he,rdB];done));(rintro _ _ ⟨rfl,rfl⟩)))<;>(try simp only [↓R1,RR,seval,q1,he,rdB])))
  all_goals all_goals first|omega|exact Nat.le_refl _|assumption|exact St.le_refl _|(exact ag)|(simp only [az,slot,af,↓R1,RR,seval,q1,he,rdB];(repeat' (with_reducible apply And.intro))<;>first|exact bU (by have:=av;omega)|exact ay _ _ _|exact aq _ _|exact ad (congrArg (AV.tsl _ _) (flat_step (by assumption))))|((repeat (first|exact St.le_refl _|(refine St.aw ?_ (by assumption))|(refine St.aG ?_ (by assumption))));done)|(simp_all;done)|skip
  all_goals (refine jP ?_ ?_ (by first|(simp [aj,rvS];done)|(simp only [aj,rvS,↓R1,RR,seval,q1,he,rdB];try simp)))
  all_goals first|(simp only [ao,↓R1,RR,seval,q1,he,rdB];exact af _)|((repeat' (first|exact St.aH _|(refine St.lw_setT ?_)|(refine St.dh ?_ (by first|assumption|(simp only [St.bZ,St.bR];assumption)))|(refine St.dZ ?_ ?_)|(refine St.dq ?_ (by first|assumption|(simp only [St.bH,St.b6];assumption)))|exact wkL.nil|exact aa _|(refine wkL.cons ?_ ?_)|exact af _|exact bz|exact ay _ _ _|exact aq _ _));done)
 ·have q1:decide ((1000:Int)<(w.t.length:Int))=false:=by rw [decide_eq_false_iff_not];omega
  have e1:rdO f (eN w)=f:=by rw [eN,if_neg hlt];unfold rdO;simp
  rw [e1,eW hb]
  (refine cT Bo JH ?_;simp only [Bo,↓R1,RR,seval,q1,he,rdB])
  repeat' (with_reducible refine And.intro ?_ ?_;exact ag)
  all_goals all_goals first|omega|exact Nat.le_refl _|assumption|exact St.le_refl _|(exact ag)|(simp only [az,slot,af,↓R1,RR,seval,q1,he,rdB];(repeat' (with_reducible apply And.intro))<;>first|exact bU (by have:=av;omega)|exact ay _ _ _|exact aq _ _|exact ad (congrArg (AV.tsl _ _) (flat_step (by assumption))))|((repeat (first|exact St.le_refl _|(refine St.aw ?_ (by assumption))|(refine St.aG ?_ (by assumption))));done)|(simp_all;done)|skip
  all_goals (refine jP ?_ ?_ (by first|(simp [aj,rvS];done)|(simp only [aj,rvS,↓R1,RR,seval,q1,he,rdB];try simp)))
  all_goals first|(simp only [ao,↓R1,RR,seval,q1,he,rdB];exact af _)|((repeat' (first|exact St.aH _|(refine St.lw_setT ?_)|(refine St.dh ?_ (by first|assumption|(simp only [St.bZ,St.bR];assumption)))|(refine St.dZ ?_ ?_)|(refine St.dq ?_ (by first|assumption|(simp only [St.bH,St.b6];assumption)))|exact wkL.nil|exact aa _|(refine wkL.cons ?_ ?_)|exact af _|exact bz|exact ay _ _ _|exact aq _ _));done)
structure OpI where
 kind:Int
 tenant:Int
 label:Int
 text:List UInt8
 number:Int
 most:Int
 idl:Int
 idn:Int
def cOp (o:OpI):List AV:= [.int .i64 o.kind, .int .i64 o.tenant, .int .u64 o.label, .str o.text, .int .i64 o.number, .int .i64 o.most, .int .u64 o.idl, .int .u64 o.idn]
def eb {α β:Type} (o:Except Ft α) (f:α→Except Ft β):Except Ft β:=match o with
 | .ok a=>f a
 | .error e=> .error e
theorem nD {α β:Type} {o:Except Ft α} {a:α} (f:α→Except Ft β) (h:o= .ok a):eb o f=f a:=by rw [h];rfl
theorem oW {α β:Type} {o:Except Ft α} {e:Ft} (f:α→Except Ft β) (h:o= .error e):eb o f= .error e:=by rw [h];rfl
def dT (w1 w2:Wd):Except Ft OpI:=eb (bh w1) fun t=>eb (ee w2) fun l=> .ok ⟨1,t,l,[],0,0,0,0⟩
def im (w1 w2:Wd):Except Ft OpI:=eb (bh w1) fun t=>eb (eN w2) fun x=> .ok ⟨2,t,0,x,0,0,0,0⟩
def kD (w1 w2:Wd):Except Ft OpI:=eb (bh w1) fun t=>eb (bh w2) fun n=> .ok ⟨3,t,0,[],n,0,0,0⟩
def e7 (w1 w2 w3:Wd):Except Ft OpI:=eb (gn w1) fun k=>eb (ee w2) fun l=>eb (bh w3) fun v=> .ok ⟨4,0,0,gf (BitVec.ofInt 64 l) k v,0,0,0,0⟩
def iZ (w1:Wd):Except Ft OpI:=eb (eN w1) fun x=> .ok ⟨4,0,0,x,0,0,0,0⟩
def sI:Except Ft OpI:= .ok ⟨5,0,0,[],0,0,0,0⟩
def kF (w1 w2:Wd):Except Ft OpI:=eb (bh w1) fun t=>eb (bh w2) fun m=> .ok ⟨6,t,0,[],0,m,0,0⟩
def cQ (w1 w2 w3:Wd):Except Ft OpI:=eb (bh w1) fun t=>eb (bh w2) fun n=>eb (n4 w3) fun i=> .ok ⟨7,t,0,[],n,0,i.1,i.2⟩
def gy (w1 w2 w3:Wd):Except Ft OpI:=eb (bh w1) fun t=>eb (bh w2) fun n=>eb (bh w3) fun m=> .ok ⟨8,t,0,[],n,m,0,0⟩
set_option maxHeartbeats 2000000 in
theorem x88 {σ σ0:St} {β:Nat} {r:Rw} {w0 w1 w2:Wd} (h:Cu σ0 σ β r 1) (hws:r.ws= [w0,w1,w2]):AX Tryz.prog 88 [.ptr β 0] σ (oX TS (dT w1 w2) (fun o=> .agg (cOp o)) (fun _=>σ.ae β (cur r 3)) σ0):=by
 haveI:BoxIs σ β (cur r 1):=⟨h.hb⟩
 have h0:=h.h0
 have hlw:=h.lw
 have hw1:r.ws[1]? =some w1:=by rw [hws];rfl
 have hw2:r.ws[2]? =some w2:=by rw [hws];rfl
 (refine bl c88 b88 ?_;simp only [c88,↓R1,RR,seval,RX,cOp])
 repeat' (first|(with_reducible rw [ai])|((first|(with_reducible intro β hβ;(try simp only [RB] at hβ);(repeat (obtain ⟨⟨_,_⟩,hβ⟩:=hβ));(try (have hbis:=ah (by assumption) hβ;obtain ⟨_,_⟩:=hbis)))|((refine bM (yJ (σ0:=σ0) (r:=r) (k:=1) ?_ hw1) (aa _) (fun a1 ho1=>?_) (fun e ho1=>?_);(focus ((repeat' (first|assumption|(refine Cu.to (k:=1) ?_)|(refine Cu.new ?_ (by first|assumption|(simp only [↓R1,RR,seval,RX,cOp];done)))));done))))|((refine bM (J8 (σ0:=σ0) (r:=r) (k:=2) ?_ hw2) (aa _) (fun a2 ho2=>?_) (fun e ho2=>?_);(focus ((repeat' (first|assumption|(refine Cu.to (k:=1) ?_)|(refine Cu.new ?_ (by first|assumption|(simp only [↓R1,RR,seval,RX,cOp];done)))));done)))))<;>(try simp only [↓R1,RR,seval,RX,cOp])))
 all_goals first|(refine a7 ?_ (St.aH _);focus (simp only [dT,eb,ho1];done))|(refine a7 ?_ (St.aH _);focus (simp only [dT,eb,ho1,ho2];done))|(refine cX ((by simp only [dT,eb,ho1,ho2];rfl)) ?_ ?_ (by first|(simp [aj,rvS];done)|(simp only [aj,rvS,↓R1,RR,seval,RX,cOp];try simp));(focus (simp only [ao,↓R1,RR,seval,RX,cOp];exact af _));exact bI)
set_option maxHeartbeats 2000000 in
theorem x89 {σ σ0:St} {β:Nat} {r:Rw} {w0 w1 w2:Wd} (h:Cu σ0 σ β r 1) (hws:r.ws= [w0,w1,w2]):AX Tryz.prog 89 [.ptr β 0] σ (oX TS (im w1 w2) (fun o=> .agg (cOp o)) (fun _=>σ.ae β (cur r 3)) σ0):=by
 haveI:BoxIs σ β (cur r 1):=⟨h.hb⟩
 have h0:=h.h0
 have hlw:=h.lw
 have hw1:r.ws[1]? =some w1:=by rw [hws];rfl
 have hw2:r.ws[2]? =some w2:=by rw [hws];rfl
 (refine bl c89 b89 ?_;simp only [c89,↓R1,RR,seval,RX,cOp])
 repeat' (first|(with_reducible rw [ai])|((first|(with_reducible intro β hβ;(try simp only [RB] at hβ);(repeat (obtain ⟨⟨_,_⟩,hβ⟩:=hβ));(try (have hbis:=ah (by assumption) hβ;obtain ⟨_,_⟩:=hbis)))|((refine bM (yJ (σ0:=σ0) (r:=r) (k:=1) ?_ hw1) (aa _) (fun a1 ho1=>?_) (fun e ho1=>?_);(focus ((repeat' (first|assumption|(refine Cu.to (k:=1) ?_)|(refine Cu.new ?_ (by first|assumption|(simp only [↓R1,RR,seval,RX,cOp];done)))));done))))|((refine bM (J9 (σ0:=σ0) (r:=r) (k:=2) ?_ hw2) (aa _) (fun a2 ho2=>?_) (fun e ho2=>?_);(focus ((repeat' (first|assumption|(refine Cu.to (k:=1) ?_)|(refine Cu.new ?_ (by first|assumption|(simp only [↓R1,RR,seval,RX,cOp];done)))));done)))))<;>(try simp only [↓R1,RR,seval,RX,cOp])))
 all_goals first|(refine a7 ?_ (St.aH _);focus (simp only [im,eb,ho1];done))|(refine a7 ?_ (St.aH _);focus (simp only [im,eb,ho1,ho2];done))|(refine cX ((by simp only [im,eb,ho1,ho2];rfl)) ?_ ?_ (by first|(simp [aj,rvS];done)|(simp only [aj,rvS,↓R1,RR,seval,RX,cOp];try simp));(focus (simp only [ao,↓R1,RR,seval,RX,cOp];exact af _));exact bI)
set_option maxHeartbeats 2000000 in
theorem x90 {σ σ0:St} {β:Nat} {r:Rw} {w0 w1 w2:Wd} (h:Cu σ0 σ β r 1) (hws:r.ws= [w0,w1,w2]):AX Tryz.prog 90 [.ptr β 0] σ (oX TS (kD w1 w2) (fun o=> .agg (cOp o)) (fun _=>σ.ae β (cur r 3)) σ0):=by
 haveI:BoxIs σ β (cur r 1):=⟨h.hb⟩
 have h0:=h.h0
 have hlw:=h.lw
 have hw1:r.ws[1]? =some w1:=by rw [hws];rfl
 have hw2:r.ws[2]? =some w2:=by rw [hws];rfl
 (refine bl c90 b90 ?_;simp only [c90,↓R1,RR,seval,RX,cOp])
 repeat' (first|(with_reducible rw [ai])|((first|(with_reducible intro β hβ;(try simp only [RB] at hβ);(repeat (obtain ⟨⟨_,_⟩,hβ⟩:=hβ));(try (have hbis:=ah (by assumption) hβ;obtain ⟨_,_⟩:=hbis)))|((refine bM (yJ (σ0:=σ0) (r:=r) (k:=1) ?_ hw1) (aa _) (fun a1 ho1=>?_) (fun e ho1=>?_);(focus ((repeat' (first|assumption|(refine Cu.to (k:=1) ?_)|(refine Cu.new ?_ (by first|assumption|(simp only [↓R1,RR,seval,RX,cOp];done)))));done))))|((refine bM (uU (σ0:=σ0) (r:=r) (k:=2) ?_ hw2) (aa _) (fun a2 ho2=>?_) (fun e ho2=>?_);(focus ((repeat' (first|assumption|(refine Cu.to (k:=1) ?_)|(refine Cu.new ?_ (by first|assumption|(simp only [↓R1,RR,seval,RX,cOp];done)))));done)))))<;>(try simp only [↓R1,RR,seval,RX,cOp])))
 all_goals first|(refine a7 ?_ (St.aH _);focus (simp only [kD,eb,ho1];done))|(refine a7 ?_ (St.aH _);focus (simp only [kD,eb,ho1,ho2];done))|(refine cX ((by simp only [kD,eb,ho1,ho2];rfl)) ?_ ?_ (by first|(simp [aj,rvS];done)|(simp only [aj,rvS,↓R1,RR,seval,RX,cOp];try simp));(focus (simp only [ao,↓R1,RR,seval,RX,cOp];exact af _));exact bI)
set_option maxHeartbeats 2000000 in
theorem x92 {σ σ0:St} {β:Nat} {r:Rw} {w0 w1:Wd} (h:Cu σ0 σ β r 1) (hws:r.ws= [w0,w1]):AX Tryz.prog 92 [.ptr β 0] σ (oX TS (iZ w1) (fun o=> .agg (cOp o)) (fun _=>σ.ae β (cur r 2)) σ0):=by
 haveI:BoxIs σ β (cur r 1):=⟨h.hb⟩
 have h0:=h.h0
 have hlw:=h.lw
 have hw1:r.ws[1]? =some w1:=by rw [hws];rfl
 (refine bl c92 b92 ?_;simp only [c92,↓R1,RR,seval,RX,cOp])
 repeat' (first|(with_reducible rw [ai])|((first|(with_reducible intro β hβ;(try simp only [RB] at hβ);(repeat (obtain ⟨⟨_,_⟩,hβ⟩:=hβ));(try (have hbis:=ah (by assumption) hβ;obtain ⟨_,_⟩:=hbis)))|((refine bM (J9 (σ0:=σ0) (r:=r) (k:=1) ?_ hw1) (aa _) (fun a1 ho1=>?_) (fun e ho1=>?_);(focus ((repeat' (first|assumption|(refine Cu.to (k:=1) ?_)|(refine Cu.new ?_ (by first|assumption|(simp only [↓R1,RR,seval,RX,cOp];done)))));done)))))<;>(try simp only [↓R1,RR,seval,RX,cOp])))
 all_goals first|(refine a7 ?_ (St.aH _);focus (simp only [iZ,eb,ho1];done))|(refine cX ((by simp only [iZ,eb,ho1];rfl)) ?_ ?_ (by first|(simp [aj,rvS];done)|(simp only [aj,rvS,↓R1,RR,seval,RX,cOp];try simp));(focus (simp only [ao,↓R1,RR,seval,RX,cOp];exact af _));exact bI)
set_option maxHeartbeats 2000000 in
theorem x94 {σ σ0:St} {β:Nat} {r:Rw} {w0 w1 w2:Wd} (h:Cu σ0 σ β r 1) (hws:r.ws= [w0,w1,w2]):AX Tryz.prog 94 [.ptr β 0] σ (oX TS (kF w1 w2) (fun o=> .agg (cOp o)) (fun _=>σ.ae β (cur r 3)) σ0):=by
 haveI:BoxIs σ β (cur r 1):=⟨h.hb⟩
 have h0:=h.h0
 have hlw:=h.lw
 have hw1:r.ws[1]? =some w1:=by rw [hws];rfl
 have hw2:r.ws[2]? =some w2:=by rw [hws];rfl
 (refine bl c94 b94 ?_;simp only [c94,↓R1,RR,seval,RX,cOp])
 repeat' (first|(with_reducible rw [ai])|((first|(with_reducible intro β hβ;(try simp only [RB] at hβ);(repeat (obtain ⟨⟨_,_⟩,hβ⟩:=hβ));(try (have hbis:=ah (by assumption) hβ;obtain ⟨_,_⟩:=hbis)))|((refine bM (yJ (σ0:=σ0) (r:=r) (k:=1) ?_ hw1) (aa _) (fun a1 ho1=>?_) (fun e ho1=>?_);(focus ((repeat' (first|assumption|(refine Cu.to (k:=1) ?_)|(refine Cu.new ?_ (by first|assumption|(simp only [↓R1,RR,seval,RX,cOp];done)))));done))))|((refine bM (uU (σ0:=σ0) (r:=r) (k:=2) ?_ hw2) (aa _) (fun a2 ho2=>?_) (fun e ho2=>?_);(focus ((repeat' (first|assumption|(refine Cu.to (k:=1) ?_)|(refine Cu.new ?_ (by first|assumption|(simp only [↓R1,RR,seval,RX,cOp];done)))));done)))))<;>(try simp only [↓R1,RR,seval,RX,cOp])))
 all_goals first|(refine a7 ?_ (St.aH _);focus (simp only [kF,eb,ho1];done))|(refine a7 ?_ (St.aH _);focus (simp only [kF,eb,ho1,ho2];done))|(refine cX ((by simp only [kF,eb,ho1,ho2];rfl)) ?_ ?_ (by first|(simp [aj,rvS];done)|(simp only [aj,rvS,↓R1,RR,seval,RX,cOp];try simp));(focus (simp only [ao,↓R1,RR,seval,RX,cOp];exact af _));exact bI)
set_option maxHeartbeats 2000000 in
theorem x96 {σ σ0:St} {β:Nat} {r:Rw} {w0 w1 w2 w3:Wd} (h:Cu σ0 σ β r 1) (hws:r.ws= [w0,w1,w2,w3]):AX Tryz.prog 96 [.ptr β 0] σ (oX TS (gy w1 w2 w3) (fun o=> .agg (cOp o)) (fun _=>σ.ae β (cur r 4)) σ0):=by
 haveI:BoxIs σ β (cur r 1):=⟨h.hb⟩
 have h0:=h.h0
 have hlw:=h.lw
 have hw1:r.ws[1]? =some w1:=by rw [hws];rfl
 have hw2:r.ws[2]? =some w2:=by rw [hws];rfl
 have hw3:r.ws[3]? =some w3:=by rw [hws];rfl
 (refine bl c96 b96 ?_;simp only [c96,↓R1,RR,seval,RX,cOp])
 repeat' (first|(with_reducible rw [ai])|((first|(with_reducible intro β hβ;(try simp only [RB] at hβ);(repeat (obtain ⟨⟨_,_⟩,hβ⟩:=hβ));(try (have hbis:=ah (by assumption) hβ;obtain ⟨_,_⟩:=hbis)))|((refine bM (yJ (σ0:=σ0) (r:=r) (k:=1) ?_ hw1) (aa _) (fun a1 ho1=>?_) (fun e ho1=>?_);(focus ((repeat' (first|assumption|(refine Cu.to (k:=1) ?_)|(refine Cu.new ?_ (by first|assumption|(simp only [↓R1,RR,seval,RX,cOp];done)))));done))))|((refine bM (uU (σ0:=σ0) (r:=r) (k:=2) ?_ hw2) (aa _) (fun a2 ho2=>?_) (fun e ho2=>?_);(focus ((repeat' (first|assumption|(refine Cu.to (k:=1) ?_)|(refine Cu.new ?_ (by first|assumption|(simp only [↓R1,RR,seval,RX,cOp];done)))));done))))|((refine bM (uU (σ0:=σ0) (r:=r) (k:=3) ?_ hw3) (aa _) (fun a3 ho3=>?_) (fun e ho3=>?_);(focus ((repeat' (first|assumption|(refine Cu.to (k:=1) ?_)|(refine Cu.new ?_ (by first|assumption|(simp only [↓R1,RR,seval,RX,cOp];done)))));done)))))<;>(try simp only [↓R1,RR,seval,RX,cOp])))
 all_goals first|(refine a7 ?_ (St.aH _);focus (simp only [gy,eb,ho1];done))|(refine a7 ?_ (St.aH _);focus (simp only [gy,eb,ho1,ho2];done))|(refine a7 ?_ (St.aH _);focus (simp only [gy,eb,ho1,ho2,ho3];done))|(refine cX ((by simp only [gy,eb,ho1,ho2,ho3];rfl)) ?_ ?_ (by first|(simp [aj,rvS];done)|(simp only [aj,rvS,↓R1,RR,seval,RX,cOp];try simp));(focus (simp only [ao,↓R1,RR,seval,RX,cOp];exact af _));exact bI)
set_option maxHeartbeats 2000000 in
theorem x95 {σ σ0:St} {β:Nat} {r:Rw} {w0 w1 w2 w3:Wd} (h:Cu σ0 σ β r 1) (hws:r.ws= [w0,w1,w2,w3]) (hσ:cG gl3 σ):AX Tryz.prog 95 [.ptr β 0] σ (oX TS (cQ w1 w2 w3) (fun o=> .agg (cOp o)) (fun _=>σ.ae β (cur r 4)) σ0):=by
 haveI:BoxIs σ β (cur r 1):=⟨h.hb⟩
 have h0:=h.h0
 have hlw:=h.lw
 have hw1:r.ws[1]? =some w1:=by rw [hws];rfl
 have hw2:r.ws[2]? =some w2:=by rw [hws];rfl
 have hw3:r.ws[3]? =some w3:=by rw [hws];rfl
 (refine bl c95 b95 ?_;simp only [c95,↓R1,RR,seval,RX,cOp])
 repeat' (first|(with_reducible rw [ai])|((first|(with_reducible intro β hβ;(try simp only [RB] at hβ);(repeat (obtain ⟨⟨_,_⟩,hβ⟩:=hβ));(try (have hbis:=ah (by assumption) hβ;obtain ⟨_,_⟩:=hbis)))|((refine bM (yJ (σ0:=σ0) (r:=r) (k:=1) ?_ hw1) (aa _) (fun a1 ho1=>?_) (fun e ho1=>?_);(focus ((repeat' (first|assumption|(refine Cu.to (k:=1) ?_)|(refine Cu.new ?_ (by first|assumption|(simp only [↓R1,RR,seval,RX,cOp];done)))));done))))|((refine bM (uU (σ0:=σ0) (r:=r) (k:=2) ?_ hw2) (aa _) (fun a2 ho2=>?_) (fun e ho2=>?_);(focus ((repeat' (first|assumption|(refine Cu.to (k:=1) ?_)|(refine Cu.new ?_ (by first|assumption|(simp only [↓R1,RR,seval,RX,cOp];done)))));done))))|((refine bM (MH (σ0:=σ0) (r:=r) (k:=3) ?_ hw3 (by intro k cs hk;exact hσ k cs hk)) (aa _) (fun a3 ho3=>?_) (fun e ho3=>?_);(focus ((repeat' (first|assumption|(refine Cu.to (k:=1) ?_)|(refine Cu.new ?_ (by first|assumption|(simp only [↓R1,RR,seval,RX,cOp];done)))));done)))))<;>(try simp only [↓R1,RR,seval,RX,cOp])))
 all_goals first|(refine a7 ?_ (St.aH _);focus (simp only [cQ,eb,ho1];done))|(refine a7 ?_ (St.aH _);focus (simp only [cQ,eb,ho1,ho2];done))|(refine a7 ?_ (St.aH _);focus (simp only [cQ,eb,ho1,ho2,ho3];done))|(refine cX ((by simp only [cQ,eb,ho1,ho2,ho3];rfl)) ?_ ?_ (by first|(simp [aj,rvS];done)|(simp only [aj,rvS,↓R1,RR,seval,RX,cOp];try simp));(focus (simp only [ao,↓R1,RR,seval,RX,cOp];exact af _));exact bI)
theorem x93 {σ σ0:St} {β:Nat} {r:Rw}:AX Tryz.prog 93 [.ptr β 0] σ (oX TS sI (fun o=> .agg (cOp o)) (fun _=>σ) σ0):=by
 (refine bl c93 b93 ?_;simp only [c93,↓R1,RR,seval,RX,cOp])
 repeat' (first|(with_reducible rw [ai])|((with_reducible intro β hβ;(try simp only [RB] at hβ);(repeat (obtain ⟨⟨_,_⟩,hβ⟩:=hβ));(try (have hbis:=ah (by assumption) hβ;obtain ⟨_,_⟩:=hbis)))<;>(try simp only [↓R1,RR,seval,RX,cOp])))
 refine cX rfl ?_ ?_ (by first|(simp [aj,rvS];done)|(simp only [aj,rvS,↓R1,RR,seval,RX,cOp];try simp))
 ·simp only [ao,↓R1,RR,seval,RX,cOp]
  exact af _
 ·exact bI
theorem yL {w:Wd} {a:Int} (h:ee w= .ok a):∃ x:BitVec 64,a=(x.toNat:Int):=by
 unfold ee eA at h
 split at h
 ·cases h
 ·split at h
  ·cases h;exact ⟨_,rfl⟩
  ·cases h
set_option maxHeartbeats 2000000 in
theorem x91 {σ σ0:St} {β:Nat} {r:Rw} {w0 w1 w2 w3:Wd} (h:Cu σ0 σ β r 1) (hws:r.ws= [w0,w1,w2,w3]):AX Tryz.prog 91 [.ptr β 0] σ (oX TS (e7 w1 w2 w3) (fun o=> .agg (cOp o)) (fun _=>σ.ae β (cur r 4)) σ0):=by
 haveI:BoxIs σ β (cur r 1):=⟨h.hb⟩
 have h0:=h.h0
 have hlw:=h.lw
 have hw1:r.ws[1]? =some w1:=by rw [hws];rfl
 have hw2:r.ws[2]? =some w2:=by rw [hws];rfl
 have hw3:r.ws[3]? =some w3:=by rw [hws];rfl
 (refine bl c91 b91 ?_;simp only [c91,↓R1,RR,seval,RX,cOp,BitVec.ofInt_natCast,BitVec.ofNat_toNat,BitVec.setWidth_eq])
 repeat' (first|(with_reducible rw [ai])|((first|(with_reducible intro β hβ;(try simp only [RB] at hβ);(repeat (obtain ⟨⟨_,_⟩,hβ⟩:=hβ));(try (have hbis:=ah (by assumption) hβ;obtain ⟨_,_⟩:=hbis)))|((refine bM (MG (σ0:=σ0) (r:=r) (k:=1) ?_ hw1) (aa _) (fun a1 ho1=>?_) (fun e ho1=>?_);(focus ((repeat' (first|assumption|(refine Cu.to (k:=1) ?_)|(refine Cu.new ?_ (by first|assumption|(simp only [↓R1,RR,seval,RX,cOp,BitVec.ofInt_natCast,BitVec.ofNat_toNat,BitVec.setWidth_eq];done)))));done))))|((refine bM (J8 (σ0:=σ0) (r:=r) (k:=2) ?_ hw2) (aa _) (fun a2 ho2=>?_) (fun e ho2=>?_);(focus ((repeat' (first|assumption|(refine Cu.to (k:=1) ?_)|(refine Cu.new ?_ (by first|assumption|(simp only [↓R1,RR,seval,RX,cOp,BitVec.ofInt_natCast,BitVec.ofNat_toNat,BitVec.setWidth_eq];done)))));done))))|((refine bM (uU (σ0:=σ0) (r:=r) (k:=3) ?_ hw3) (aa _) (fun a3 ho3=>?_) (fun e ho3=>?_);(focus ((repeat' (first|assumption|(refine Cu.to (k:=1) ?_)|(refine Cu.new ?_ (by first|assumption|(simp only [↓R1,RR,seval,RX,cOp,BitVec.ofInt_natCast,BitVec.ofNat_toNat,BitVec.setWidth_eq];done)))));done)))))<;>(try simp only [↓R1,RR,seval,RX,cOp,BitVec.ofInt_natCast,BitVec.ofNat_toNat,BitVec.setWidth_eq])))
 all_goals first|(refine a7 ?_ (St.aH _);focus (simp only [e7,eb,ho1];done))|(refine a7 ?_ (St.aH _);focus (simp only [e7,eb,ho1,ho2];done))|(refine a7 ?_ (St.aH _);focus (simp only [e7,eb,ho1,ho2,ho3];done))|skip
 obtain ⟨x,rfl⟩:=yL ho2
 repeat' ((refine Pt (LX x a1 a3) ?_)<;>(try simp only [↓R1,RR,seval,RX,cOp,BitVec.ofInt_natCast,BitVec.ofNat_toNat,BitVec.setWidth_eq]))
 refine cX ((by simp only [e7,eb,ho1,ho2,ho3];rfl)) ?_ ?_ (by first|(simp [aj,rvS];done)|(simp only [aj,rvS,↓R1,RR,seval,RX,cOp,BitVec.ofInt_natCast,BitVec.ofNat_toNat,BitVec.setWidth_eq];try simp))
 ·simp only [ao,↓R1,RR,seval,RX,cOp,BitVec.ofInt_natCast,BitVec.ofNat_toNat,BitVec.setWidth_eq]
  exact af _
 ·exact bI
def uW:List UInt8:= [114,101,103,105,115,116,101,114]
def EZ:List UInt8:= [113,117,101,114,121]
def Io:List UInt8:= [100,114,111,112]
def Cm:List UInt8:= [105,110,103,101,115,116]
def E0:List UInt8:= [98,121,116,101,115]
def Ip:List UInt8:= [116,105,99,107]
def Iq:List UInt8:= [112,111,108,108]
def qi:List UInt8:= [100,101,99,108,97,115,115,105,102,121]
def E1:List UInt8:= [97,117,100,105,116]
theorem uX {σ σ0:St} {r:Rw} {n:Nat} (hlw:St.lw σ0 σ) (hn:r.ws.length≠n):AX Tryz.prog 97 [.agg (cRw r), .int .i64 (n:Nat)] σ (oX TS (.error (3,(r.a:Int)):Except Ft Unit) (fun _=> .tup []) (fun _=>σ) σ0):=by
 have q1:((r.ws.length:Int) != (n:Int))=true:=by rw [bne_iff_ne];omega
 (refine bl c97 b97 ?_;simp only [c97,↓R1,RR,seval,RX,cRw,q1])
 repeat' ((first|(with_reducible intro β hβ;(try simp only [RB] at hβ);(repeat (obtain ⟨⟨_,_⟩,hβ⟩:=hβ));(try (have hbis:=ah (by assumption) hβ;obtain ⟨_,_⟩:=hbis)))|((refine cm (σ0:=σ0) (by decide) (by exact bI) ?_)))<;>(try simp only [↓R1,RR,seval,RX,cRw,q1]))
 exact a7 rfl (St.aH _)
theorem Cn {σ:St} {β γ:Nat} {c x:List AV} (h:σ.box γ=none):St.le (σ.ae β c) ((σ.ae γ x).ae β c):=by
 refine ⟨fun δ d hd=>?_,fun _ _ h=>h,fun _ _ h=>h,fun _ _ h=>h,fun _ _ h=>h⟩
 simp only [St.ae,upd] at hd ⊢
 split
 ·rename_i e;rw [if_pos e] at hd;exact hd
 ·rename_i e
  rw [if_neg e] at hd
  split
  ·rename_i e2;subst e2;rw [h] at hd;cases hd
  ·exact hd
theorem uY {σ:St} {r:Rw} {n:Nat} (hn:r.ws.length=n):AX Tryz.prog 97 [.agg (cRw r), .int .i64 (n:Nat)] σ (fun b v s=>b=false∧∃ κ,σ.box κ=none∧v= .ptr κ 0∧s=σ.ae κ (cur r 1)):=by
 have q1:((r.ws.length:Int) != (n:Int))=false:=by subst hn;simp
 refine Ed c97 b97 ?_
 simp only [c97,↓R1,RR,seval,RX,cRw,q1]
 repeat' ((with_reducible intro β hβ;(try simp only [RB] at hβ);(repeat (obtain ⟨⟨_,_⟩,hβ⟩:=hβ));(try (have hbis:=ah (by assumption) hβ;obtain ⟨_,_⟩:=hbis)))<;>(try simp only [↓R1,RR,seval,RX,cRw,q1]))
 rename_i γ hγ _ _
 exact aZ (e:= .ret) (r:= .ptr β 0) (σ':=σ.ae β (cur r 1)) (.inl rfl) (by simp [aj,rvS]) (ad (by (simp only [ao,↓R1,RR,seval,RX,cRw,q1]))) (Cn hγ) ⟨rfl,β,hβ,rfl,rfl⟩
theorem Co {a b c:St} (h:St.lw a b) (k:St.le b c):St.lw a c:=by
 refine ⟨fun β x hx=>?_,fun τ x hx=>k.2.1 _ _ (h.2.1 _ _ hx),fun l x hx=>k.2.2.1 _ _ (h.2.2.1 _ _ hx),fun l x hx=>k.2.2.2.1 _ _ (h.2.2.2.1 _ _ hx),fun β T hx=>k.2.2.2.2 _ _ (h.2.2.2.2 _ _ hx)⟩
 obtain ⟨x',h1,h2⟩:=h.1 β x hx
 exact ⟨x',k.1 _ _ h1,h2⟩
def names9:List (List UInt8):= [uW,EZ,Io,Cm,E0,Ip,Iq,qi,E1]
def ft:List Nat:= [3,3,3,4,2,1,3,4,4]
def oY:List Nat:= [88,89,90,91,92,93,94,95,96]
def opW (k:Nat) (ws:List Wd):Except Ft OpI:=match k,ws with
 | 0,[_,w1,w2]=>dT w1 w2
 | 1,[_,w1,w2]=>im w1 w2
 | 2,[_,w1,w2]=>kD w1 w2
 | 3,[_,w1,w2,w3]=>e7 w1 w2 w3
 | 4,[_,w1]=>iZ w1
 | 5,[_]=>sI
 | 6,[_,w1,w2]=>kF w1 w2
 | 7,[_,w1,w2,w3]=>cQ w1 w2 w3
 | 8,[_,w1,w2,w3]=>gy w1 w2 w3
 | _,_=>sI
theorem E2 {α:Type} {l:List α} (h:l.length=1):∃ a0,l= [a0]:=by
 match l,h with
 | [a0],_=>exact ⟨a0,rfl⟩
theorem E3 {α:Type} {l:List α} (h:l.length=2):∃ a0 a1,l= [a0,a1]:=by
 match l,h with
 | [a0,a1],_=>exact ⟨a0,a1,rfl⟩
theorem nE {α:Type} {l:List α} (h:l.length=3):∃ a0 a1 a2,l= [a0,a1,a2]:=by
 match l,h with
 | [a0,a1,a2],_=>exact ⟨a0,a1,a2,rfl⟩
theorem yM {α:Type} {l:List α} (h:l.length=4):∃ a0 a1 a2 a3,l= [a0,a1,a2,a3]:=by
 match l,h with
 | [a0,a1,a2,a3],_=>exact ⟨a0,a1,a2,a3,rfl⟩
theorem Ir {σ σ0:St} {β k:Nat} {r:Rw} (h:Cu σ0 σ β r 1) (hσ:cG gl3 σ) (hk:k<9) (hn:r.ws.length=ft[k]?.getD 0):AX Tryz.prog (oY[k]?.getD 0) [.ptr β 0] σ (oX TS (opW k r.ws) (fun o=> .agg (cOp o)) (fun _=>σ.ae β (cur r (ft[k]?.getD 0))) σ0):=by
  have hc:k=0∨k=1∨k=2∨k=3∨k=4∨k=5∨k=6∨k=7∨k=8:=by omega
  rcases hc with rfl|rfl|rfl|rfl|rfl|rfl|rfl|rfl|rfl<;>simp only [ft,List.getElem?_cons_zero,List.getElem?_cons_succ,Option.getD_some] at hn
  · obtain ⟨w0,w1,w2,hws⟩:=nE hn
    rw [hws];exact x88 h hws
  · obtain ⟨w0,w1,w2,hws⟩:=nE hn
    rw [hws];exact x89 h hws
  · obtain ⟨w0,w1,w2,hws⟩:=nE hn
    rw [hws];exact x90 h hws
  · obtain ⟨w0,w1,w2,w3,hws⟩:=yM hn
    rw [hws];exact x91 h hws
  · obtain ⟨w0,w1,hws⟩:=E3 hn
    rw [hws];exact x92 h hws
  · obtain ⟨w0,hws⟩:=E2 hn
    rw [hws]
    refine (x93 (σ:=σ) (σ0:=σ0) (β:=β) (r:=r)).wkd fun b v s hb=>?_
    cases b with
    | false =>
      obtain ⟨a,h1,h2,h3⟩:=hb
      refine ⟨v,σ.ae β (cur r 1),af _,?_,a,h1,h2,rfl⟩
      rw [h3]
      refine ⟨fun γ d hd=>?_,fun _ _ h=>h,fun _ _ h=>h,fun _ _ h=>h,fun _ _ h=>h⟩
      simp only [St.ae,upd] at hd
      split at hd
      · rename_i e;subst e;cases hd;exact ⟨_,h.hb,aa _⟩
      · exact ⟨_,hd,aa _⟩
    | true=>exact ⟨v,s,af _,St.aH _,hb⟩
  · obtain ⟨w0,w1,w2,hws⟩:=nE hn
    rw [hws];exact x94 h hws
  · obtain ⟨w0,w1,w2,w3,hws⟩:=yM hn
    rw [hws];exact x95 h hws hσ
  · obtain ⟨w0,w1,w2,w3,hws⟩:=yM hn
    rw [hws];exact x96 h hws
theorem jV {a b:St} {β:Nat} {c:List AV} (h:St.le a b) (hb:a.box β=some c):b.box β=some c:=h.1 _ _ hb
theorem le_none {a b:St} {β:Nat} (h:St.le a b) (hb:b.box β=none):a.box β=none:=by
 cases hq:a.box β with
 | none=>rfl
 | some c=>rw [h.1 _ _ hq] at hb;cases hb
theorem gp {fr:Fr} {σ:St} {i:CI} {K:Fr→St→Prop} {R:AV→St→Prop} (h:c8 Tryz.prog [i] fr σ K):iP Tryz.prog (.o i) fr σ K R:=h
def V7 (δ n:Nat) (f:Nat) (r:Rw) (σb:St) (i:Nat) (v:AV) (s:St):Prop:=match i with
 | 0=>v= .ptr δ 2
 | 1=>v= .fn f []
 | 2=>v= .agg (cRw r)
 | 3=>v= .ptr δ 1
 | 4=>v= .int .i64 (n:Nat)
 | 5=>∃ κ,v= .ptr κ 0∧s.box κ=some (cur r 1)∧σb.box κ=none∧r.ws.length=n
 | _=>True
def z8:List AV:= [.int .i64 0, .int .i64 0, .int .u64 0, .str [], .int .i64 0, .int .i64 0, .int .u64 0, .int .u64 0]
set_option maxHeartbeats 4000000 in
theorem E4 {σ0 σ1 σb:St} {r:Rw} {γ ρ δ k:Nat} {nm:List UInt8} {fr:Fr} {Q:Exit→Fr→St→Prop} (hσ:cG gl3 σb) (hlw:St.lw σ0 σb) (hle:St.le σ1 σb) (hk:k<9) (hn:r.ws.length≤20000) (ht:∀ w∈r.ws,w.t.length≤1000000)
  (hγ:σb.box γ=some (cRw r)) (hδ:σb.box δ=some [.str nm, .int .i64 ((ft[k]?.getD 0:Nat):Int), .fn (oY[k]?.getD 0) []]) (hρ:σb.box ρ=some z8) (hρ1:σ1.box ρ=none)
  (h1:slot 1 fr= .ptr γ 0) (h2:slot 2 fr= .ptr ρ 0) (h5:slot 5 fr= .ptr δ 0)
  (hno:r.ws.length≠ft[k]?.getD 0→Q (.panic []) [(0,lx TS (3,(r.a:Int)))] σ0)
  (her:r.ws.length=ft[k]?.getD 0→∀ e,opW k r.ws= .error e→Q (.panic []) [(0,lx TS e)] σ0)
  (hok:r.ws.length=ft[k]?.getD 0→∀ o,opW k r.ws= .ok o→∀ f s,St.lw σ1 s→slot 2 f= .ptr ρ 0→s.box ρ=some (cOp o)→Q .normal f s) :
  aX Tryz.prog (.invX [.o ⟨some 26, .fldA 2 (.t 5),none⟩, .o ⟨some 27, .ld (none) (.t 26),none⟩, .o ⟨some 28, .ld (some 2) (.t 1),none⟩, .o ⟨some 29, .fldA 1 (.t 5),none⟩, .o ⟨some 30, .ld (none) (.t 29),none⟩, .c (some 31) 97 [(.t 28),(.t 30)], .v (some 32) (.t 27) [(.t 31)], .o ⟨none, .st 8 (.t 2) (.t 32),none⟩] [[],[0],[],[],[3],[2,4],[1,5,5],[6,6,0,1,2,3,4,5,6]]) fr σb Q:=by
 refine oI [26,27,28,29,30,31] 6 (V7 δ (ft[k]?.getD 0) (oY[k]?.getD 0) r σb) (by decide) ?_ ?_ ?_
 ·intro i v s s' h hs
  unfold V7 at h ⊢
  split at h
  all_goals first|exact h|skip
  obtain ⟨κ,q1,q2,q3⟩:=h
  exact ⟨κ,q1,hs.1 _ _ q2,q3⟩
 ·intro j x d hj hx hd f s hs hfr hv
  have h1':slot 1 f= .ptr γ 0:=by rw [hfr 1 (by decide)];exact h1
  have h5':slot 5 f= .ptr δ 0:=by rw [hfr 5 (by decide)];exact h5
  have hc:j=0∨j=1∨j=2∨j=3∨j=4∨j=5:=by omega
  haveI b1:BoxIs s γ [.int .i64 (r.a:Nat), .sl false r.ws.length (r.ws.flatMap cWd)]:=⟨jV hs hγ⟩
  haveI b2:BoxIs s δ [.str nm, .int .i64 ((ft[k]?.getD 0:Nat):Int), .fn (oY[k]?.getD 0) []]:=⟨jV hs hδ⟩
  have h1:=h1'
  have h5:=h5'
  have e0:True:=trivial
  have e1:True:=trivial
  have e2:True:=trivial
  have e3:True:=trivial
  have e4:True:=trivial
  rcases hc with rfl|rfl|rfl|rfl|rfl|rfl
  ·cases hx;cases hd
   refine gp ?_
   simp only [↓R1,RR,seval,h1,h2,h5,e0,e1,e2,e3,e4,RX]
   exact ⟨_,rfl,St.le_refl _,rfl⟩
  ·cases hx;cases hd
   have e0:slot 26 f= .ptr δ 2:=hv 0 26 (by simp) rfl
   refine gp ?_
   simp only [↓R1,RR,seval,h1,h2,h5,e0,e1,e2,e3,e4,RX]
   exact ⟨_,rfl,St.le_refl _,rfl⟩
  ·cases hx;cases hd
   refine gp ?_
   simp only [↓R1,RR,seval,h1,h2,h5,e0,e1,e2,e3,e4,RX]
   exact ⟨_,rfl,St.le_refl _,rfl⟩
  ·cases hx;cases hd
   refine gp ?_
   simp only [↓R1,RR,seval,h1,h2,h5,e0,e1,e2,e3,e4,RX]
   exact ⟨_,rfl,St.le_refl _,rfl⟩
  ·cases hx;cases hd
   have e3:slot 29 f= .ptr δ 1:=hv 3 29 (by simp) rfl
   refine gp ?_
   simp only [↓R1,RR,seval,h1,h2,h5,e0,e1,e2,e3,e4,RX]
   exact ⟨_,rfl,St.le_refl _,rfl⟩
  ·cases hx;cases hd
   have e2:slot 28 f= .agg (cRw r):=hv 2 28 (by simp) rfl
   have e4:slot 30 f= .int .i64 ((ft[k]?.getD 0:Nat):Int):=hv 4 30 (by simp) rfl
   simp only [iP,List.map_cons,List.map_nil,ev,e2,e4]
   by_cases hln:r.ws.length=ft[k]?.getD 0
   ·refine (uY hln).mono fun b v s' hb=>?_
    obtain ⟨rfl,κ,q1,rfl,rfl⟩:=hb
    exact ⟨_,rfl,St.aw (St.le_refl _) q1,κ,rfl,St.ef _ _ _,le_none hs q1,hln⟩
   ·refine (uX (σ0:=σ0) (Co hlw hs) hln).mono fun b v s' hb=>?_
    cases b with
    | false=>obtain ⟨a,q1,_⟩:=hb;cases q1
    | true=>obtain ⟨a,q1,rfl,rfl⟩:=hb;cases q1;exact hno hln
 ·intro f s hs hfr hv
  have h2':slot 2 f= .ptr ρ 0:=by rw [hfr 2 (by decide)];exact h2
  have e1:slot 27 f= .fn (oY[k]?.getD 0) []:=hv 1 27 rfl
  obtain ⟨κ,e5,q2,q3,hln⟩:∃ κ,slot 31 f= .ptr κ 0∧s.box κ=some (cur r 1)∧σb.box κ=none∧r.ws.length=ft[k]?.getD 0:=hv 5 31 rfl
  have hne:ρ≠κ:=fun e=>by rw [e,q3] at hρ;cases hρ
  have hcu:Cu σ0 s κ r 1:=⟨q2,qh hlw q3,Co hlw hs,hn,ht⟩
  have hsp:s.box ρ=some z8:=jV hs hρ
  have hσs:cG gl3 s:=fun k cs hk=>hs.2.2.1 _ _ (hσ k cs hk)
  haveI b3:BoxIs s ρ z8:=⟨hsp⟩
  haveI:Apart ρ κ:=⟨hne⟩
  haveI:Apart κ ρ:=⟨Ne.symm hne⟩
  show dc _ [.v (some 32) (.t 27) [(.t 31)], .o ⟨none, .st 8 (.t 2) (.t 32),none⟩] f s Q
  have e0:True:=trivial
  have e2:True:=trivial
  have e3:True:=trivial
  have e4:=e5
  have h1:True:=trivial
  have h5:True:=trivial
  have h2:=h2'
  simp only [↓R1,RR,seval,h1,h2,h5,e0,e1,e2,e3,e4,RX]
  refine bM (Ir hcu hσs hk hln) (aa _) (fun o ho=>?_) (fun e ho=>her hln e ho)
  simp only [z8,↓R1,RR,seval,h1,h2,h5,e0,e1,e2,e3,e4,RX]
  refine ⟨rfl,hok hln o ho _ _ ?_ ?_ (St.ef _ _ _)⟩
  ·exact St.dq (St.dq (Co (St.ri hle) hs) (le_none hle q3)) hρ1
  ·simp only [slot];rw [if_neg (by decide)];exact h2
def jE (r:Rw):Option Nat:=match r.ws with
 | []=>none
 | w0::_=>bif w0.q then none else dr w0.t names9 0
def gO (r:Rw):Except Ft OpI:=match jE r with
 | none=> .error (11,(r.a:Int))
 | some k=>if r.ws.length=ft[k]?.getD 0 then opW k r.ws else .error (3,(r.a:Int))
theorem Is {k:Nat} (hk:k<9):(([.str [114,101,103,105,115,116,101,114], .int .i64 3, .fn 88 [], .str [113,117,101,114,121], .int .i64 3, .fn 89 [], .str [100,114,111,112], .int .i64 3, .fn 90 [], .str [105,110,103,101,115,116], .int .i64 4, .fn 91 [], .str [98,121,116,101,115], .int .i64 2, .fn 92 [], .str [116,105,99,107], .int .i64 1, .fn 93 [], .str [112,111,108,108], .int .i64 3, .fn 94 [], .str [100,101,99,108,97,115,115,105,102,121], .int .i64 4, .fn 95 [], .str [97,117,100,105,116], .int .i64 4, .fn 96 []]:List AV).drop (k*3)).take 3= [.str (names9[k]?.getD []), .int .i64 ((ft[k]?.getD 0:Nat):Int), .fn (oY[k]?.getD 0) []]:=by
 have hc:k=0∨k=1∨k=2∨k=3∨k=4∨k=5∨k=6∨k=7∨k=8:=by omega
 rcases hc with rfl|rfl|rfl|rfl|rfl|rfl|rfl|rfl|rfl<;>rfl
theorem sJ (q:Bool) (t n:List UInt8):(nC q t [n] == 0)=(!q&&(n == t)):=by
 unfold nC dr
 cases q<;>simp only [cond_true,cond_false]
 ·cases n == t<;>rfl
 ·rfl
theorem qj (t:List UInt8) (l:List (List UInt8)) {k:Nat} (h:k<l.length) (j:Nat):dr t (l.drop k) j=bif (l[k]?.getD [] == t) then some j else dr t (l.drop (k+1)) (j+1):=by
 rw [iW t l h,List.getElem?_eq_getElem h];rfl
set_option maxHeartbeats 4000000 in
theorem x43 {σ σ0:St} {r:Rw} (hσ:cG gl3 σ) (hlw:St.lw σ0 σ) (hne:r.ws≠ []) (hn:r.ws.length≤20000) (ht:∀ w∈r.ws,w.t.length≤1000000):AX Tryz.prog 43 [.agg (cRw r)] σ (oX TS (gO r) (fun o=> .agg (cOp o)) (fun _=>σ) σ0):=by
  obtain ⟨w0,ws,hws⟩:∃ w0 ws,r.ws=w0::ws:=by
    cases h:r.ws with
    | nil=>exact (hne h).elim
    | cons w0 ws=>exact ⟨w0,ws,rfl⟩
  have hw0:r.ws[0]? =some w0:=by rw [hws];rfl
  have q1:True:=trivial
  have q2:True:=trivial
  have he:True:=trivial
  have hw:True:=trivial
  (refine bl c43 b43 ?_;simp only [c43,↓R1,RR,seval,RX,cRw,q1,q2,he,hw])
  repeat' (first|(with_reducible rw [ai])|((with_reducible intro β hβ;(try simp only [RB] at hβ);(repeat (obtain ⟨⟨_,_⟩,hβ⟩:=hβ));(try (have hbis:=ah (by assumption) hβ;obtain ⟨_,_⟩:=hbis)))<;>(try simp only [↓R1,RR,seval,RX,cRw,q1,q2,he,hw])))
  rename_i γ hγ ρ hρ p1 p2 p3 p4 p5 p6
  refine xX 9 (fun k=> [(1, .ptr γ 0),(2, .ptr ρ 0),(16, .agg [.str [114,101,103,105,115,116,101,114], .int .i64 3, .fn 88 [], .str [113,117,101,114,121], .int .i64 3, .fn 89 [], .str [100,114,111,112], .int .i64 3, .fn 90 [], .str [105,110,103,101,115,116], .int .i64 4, .fn 91 [], .str [98,121,116,101,115], .int .i64 2, .fn 92 [], .str [116,105,99,107], .int .i64 1, .fn 93 [], .str [112,111,108,108], .int .i64 3, .fn 94 [], .str [100,101,99,108,97,115,115,105,102,121], .int .i64 4, .fn 95 [], .str [97,117,100,105,116], .int .i64 4, .fn 96 []]),(17, .int .i64 (k:Nat))]) (fun _=>(σ.ae γ [.int .i64 (r.a:Nat), .sl false r.ws.length (r.ws.flatMap cWd)]).ae ρ [.int .i64 0, .int .i64 0, .int .u64 0, .str [], .int .i64 0, .int .i64 0, .int .u64 0, .int .u64 0])
    (fun k=>jE r=(bif w0.q then none else dr w0.t (names9.drop k) k)) (by simp [az,slot,af]) (St.aw (St.le_refl _) (by simp only [↓R1,RR,seval,RX,cRw,q1,q2,he,hw];exact hβ)) (by simp [jE,hws]) (fun k hk hI=>?_)
  have hlen:names9.length=9:=rfl
  by_cases hlt:k<9
  · have q1:decide ((k:Int)<9)=true:=by rw [decide_eq_true_eq];omega
    have he:=Is hlt
    have hw:IntKind.i64.wrap ((k:Int)+1)=((k+1:Nat):Int):=by rw [wrap64 (by omega) (by omega)];omega
    rw [qj w0.t names9 (by omega)] at hI
    have hwh:=p83 r w0 true [names9[k]?.getD []] hw0 (by simp)
    simp only [cRw] at hwh
    have q2:=sJ w0.q w0.t (names9[k]?.getD [])
    simp only [q1,↓R1,RR,seval,RX,cRw,q1,q2,he,hw]
    repeat' (first|(with_reducible rw [ai])|(with_reducible refine And.intro ?_ ?_;exact ag)|((first|(with_reducible intro β hβ;(try simp only [RB] at hβ);(repeat (obtain ⟨⟨_,_⟩,hβ⟩:=hβ));(try (have hbis:=ah (by assumption) hβ;obtain ⟨_,_⟩:=hbis)))|(refine Pt (hwh) ?_))<;>(try simp only [↓R1,RR,seval,RX,cRw,q1,q2,he,hw])))
    all_goals first|omega|skip
    refine fh (fun hc=>?_) (fun hc=>?_)
    · have hfo:jE r=some k:=by
        rw [hI]
        simp only [Bool.and_eq_true,Bool.not_eq_true'] at hc
        rw [hc.1,hc.2];rfl
      simp only [↓R1,RR,seval,RX,cRw,q1,q2,he,hw]
      refine E4 (σ0:=σ0) (σ1:=σ) (k:=k) (nm:=names9[k]?.getD []) (γ:=γ) (ρ:=ρ) (δ:=β) hσ ?_ ?_ hlt hn ht ?_ ?_ ?_ hρ rfl rfl rfl ?_ ?_ ?_
      · exact bI
      · (repeat (first|exact St.le_refl _|(refine St.aw ?_ (by assumption))|(refine St.aG ?_ (by assumption))))
      · simp only [cRw,↓R1,RR,seval,RX,cRw,q1,q2,he,hw]
      · simp only [↓R1,RR,seval,RX,cRw,q1,q2,he,hw]
      · simp only [z8,↓R1,RR,seval,RX,cRw,q1,q2,he,hw]
      · intro hno
        simp only [↓R1,RR,seval,RX,cRw,q1,q2,he,hw]
        exact a7 (by simp only [gO,hfo,if_neg hno]) (St.aH _)
      · intro hln e he
        simp only [↓R1,RR,seval,RX,cRw,q1,q2,he,hw]
        exact a7 (by simp only [gO,hfo,if_pos hln,he]) (St.aH _)
      · intro hln o ho f s hs hf hsr
        haveI:BoxIs s ρ (cOp o):=⟨hsr⟩
        simp only [↓R1,RR,seval,RX,cRw,q1,q2,he,hw]
        refine pL (a:=o) (by simp) (by simp only [gO,hfo,if_pos hln,ho]) ?_ ?_ hs
        · simp only [aj,rvS,hf,↓R1,RR,seval,RX,cRw,q1,q2,he,hw];simp [cOp]
        · simp only [ao,hf,↓R1,RR,seval,RX,cRw,q1,q2,he,hw];exact af _
    · simp only [↓R1,RR,seval,RX,cRw,q1,q2,he,hw]
      repeat' (first|(with_reducible refine And.intro ?_ ?_;exact ag)|(with_reducible apply And.intro))
      · rw [hI]
        cases hq:w0.q with
        | true=>rfl
        | false =>
          rw [hq] at hc
          simp only [Bool.not_false,Bool.true_and] at hc
          rw [hc];rfl
      · simp [az,slot,af]
      · refine St.aw (St.le_refl _) ?_
        simp only [↓R1,RR,seval,RX,cRw,q1,q2,he,hw]
        assumption
  · have hke:k=9:=by omega
    subst hke
    have q1:decide (((9:Nat):Int)<9)=false:=by simp
    have hfo:jE r=none:=by
      rw [hI,show names9.drop 9= [] from rfl]
      cases w0.q<;>rfl
    simp only [q1,↓R1,RR,seval,RX,cRw,q1,q2,he,hw]
    repeat' (((refine cm (σ0:=σ0) (by decide) (by exact bI) ?_))<;>(try simp only [↓R1,RR,seval,RX,cRw,q1,q2,he,hw]))
    exact a7 (by simp only [gO,hfo]) (St.aH _)
theorem MK:Pu Tryz.prog 100 [] (.sl false 9 (names9.map AV.str)):=by
 (refine an Hr Lh fun σ=>?_;simp only [Hr,↓R1,RR,seval])
 skip
 (refine ak ?_ (by first|(simp [aj,rvS];done)|(simp only [aj,rvS,↓R1,RR,seval];try simp)))
 simp only [ao,↓R1,RR,seval]
 exact aq _ _
theorem ML:Pu Tryz.prog 101 [] (.sl false 9 [.int .i64 3, .int .i64 3, .int .i64 3, .int .i64 4, .int .i64 2, .int .i64 1, .int .i64 3, .int .i64 4, .int .i64 4]):=by
 (refine an Hs Li fun σ=>?_;simp only [Hs,↓R1,RR,seval])
 skip
 (refine ak ?_ (by first|(simp [aj,rvS];done)|(simp only [aj,rvS,↓R1,RR,seval];try simp)))
 simp only [ao,↓R1,RR,seval]
 exact aq _ _
def dO (o:Except Ft OpI):AV:=match o with
 | .ok o=> .tup [.agg (cOp o), .agg [.int .i64 0, .int .i64 0]]
 | .error e=> .tup [.agg z8, .agg [.int .i64 e.1, .int .i64 e.2]]
theorem cK {α:Type} {w:Wd} {x a:α} {e:Int} (h:eA w x e= .ok a):w.q=false∧x=a:=by
 unfold eA at h
 split at h
 ·cases h
 ·rename_i hq
  split at h
  ·cases h;exact ⟨by simpa using hq,rfl⟩
  ·cases h
theorem cE {α:Type} {w:Wd} {x:α} {e:Int} {f:Ft} (h:eA w x e= .error f):f.1≠0:=by
 unfold eA at h
 split at h
 ·cases h;exact (by decide:(3:Int)≠0)
 ·split at h
  ·cases h
  ·rename_i he;cases h;exact he
theorem nF {w:Wd} {f:Ft} (h:eN w= .error f):f.1≠0:=by
 unfold eN at h
 split at h
 ·cases h;exact (by decide:(4:Int)≠0)
 ·cases h
theorem cu {α:Type} {o:Except Ft α} {a:α} (f:Ft) (h:o= .ok a):rdO f o=f:=by rw [h];unfold rdO;simp
theorem dP {f:Ft} {w:Wd} {x:Int} (hf:f.1=0) (hq:w.q=false):rdX f w x=x:=if_pos ⟨hf,hq⟩
theorem sK {w:Wd} {a:List UInt8} (h:eN w= .ok a):w.t=a:=by
 unfold eN at h
 split at h
 ·cases h
 ·cases h;rfl
theorem MM {α:Type} (o1:Except Ft α) (n1:∀ e,o1= .error e→e.1≠0) (g:α→OpI) :
  ((rdO (0,0) o1).1≠0→(eb o1 fun a=> .ok (g a))= .error (rdO (0,0) o1))∧((rdO (0,0) o1).1=0→∃ a,o1= .ok a∧(eb o1 fun a=> .ok (g a))= .ok (g a)):=by
 cases o1 with
 | error e=>have:=n1 e rfl;simp [rdO,eb,this]
 | ok a=>simp [rdO,eb]
theorem E5 {α β:Type} (o1:Except Ft α) (o2:Except Ft β) (n1:∀ e,o1= .error e→e.1≠0) (n2:∀ e,o2= .error e→e.1≠0) (g:α→β→OpI) :
    ((rdO (rdO (0,0) o1) o2).1≠0→(eb o1 fun a=>eb o2 fun b=> .ok (g a b))= .error (rdO (rdO (0,0) o1) o2))∧((rdO (rdO (0,0) o1) o2).1=0→∃ a b,o1= .ok a∧o2= .ok b∧(eb o1 fun a=>eb o2 fun b=> .ok (g a b))= .ok (g a b)):=by
  cases o1 with
  | error e=>have:=n1 e rfl;simp [rdO,eb,this]
  | ok a =>
    cases o2 with
    | error e=>have:=n2 e rfl;simp [rdO,eb,this]
    | ok b=>simp [rdO,eb]
theorem It {α β γ:Type} (o1:Except Ft α) (o2:Except Ft β) (o3:Except Ft γ) (n1:∀ e,o1= .error e→e.1≠0) (n2:∀ e,o2= .error e→e.1≠0) (n3:∀ e,o3= .error e→e.1≠0) (g:α→β→γ→OpI) :
    ((rdO (rdO (rdO (0,0) o1) o2) o3).1≠0→(eb o1 fun a=>eb o2 fun b=>eb o3 fun c=> .ok (g a b c))= .error (rdO (rdO (rdO (0,0) o1) o2) o3))∧((rdO (rdO (rdO (0,0) o1) o2) o3).1=0→∃ a b c,o1= .ok a∧o2= .ok b∧o3= .ok c∧(eb o1 fun a=>eb o2 fun b=>eb o3 fun c=> .ok (g a b c))= .ok (g a b c)):=by
  cases o1 with
  | error e=>have:=n1 e rfl;simp [rdO,eb,this]
  | ok a =>
    cases o2 with
    | error e=>have:=n2 e rfl;simp [rdO,eb,this]
    | ok b =>
      cases o3 with
      | error e=>have:=n3 e rfl;simp [rdO,eb,this]
      | ok c=>simp [rdO,eb]
theorem Iu (f:Ft) (w:Wd) (b:BitVec 64):∃ lb:BitVec 64,rdX f w (b.toNat:Nat)=(lb.toNat:Nat):=by
 unfold rdX;split
 ·exact ⟨_,rfl⟩
 ·exact ⟨0#64,rfl⟩
theorem oZ (t:List UInt8):∀ (l:List (List UInt8)) (i k:Nat),dr t l i=some k→k<i+l.length
  | [],_,_,h=>by simp [dr] at h
  | n :: l, i, k, h => by
    simp only [dr] at h
    cases hb:n == t with
    | true=>rw [hb] at h;cases h;simp
    | false=>rw [hb] at h;have:=oZ t l (i+1) k h;simp;omega
theorem Cp {r:Rw} {k:Nat} (h:jE r=some k):k<9:=by
 unfold jE at h
 split at h
 ·cases h
 ·rename_i w0 _ _
  cases hq:w0.q with
  | true=>rw [hq] at h;cases h
  | false=>rw [hq] at h;have:=oZ _ _ _ _ h;simpa [names9] using this
set_option maxHeartbeats 4000000 in
theorem p46 (r:Rw) (hne:r.ws≠ []) (hn:r.ws.length≤20000) (ht:∀ w∈r.ws,w.t.length≤1000000):Pu Tryz.prog 46 [.agg (cRw r)] (dO (gO r)):=by
  have q1:True:=trivial
  have q3:True:=trivial
  have pn:=MK
  have pm:=ML
  obtain ⟨w0,ws,hws⟩:∃ w0 ws,r.ws=w0::ws:=by
    cases h:r.ws with
    | nil=>exact (hne h).elim
    | cons w l=>exact ⟨w,l,rfl⟩
  have hcl:=fy r.ws
  have hpos:0<r.ws.length:=by rw [hws];simp
  have he:(r.ws.flatMap cWd).take 3= [.bool w0.q, .str w0.t, .int .i64 (w0.a:Nat)]:=by rw [hws];rfl
  have pw:=p64 w0.q w0.t (w0.a:Nat) names9 (by decide)
  have hfo:jE r=bif w0.q then none else dr w0.t names9 0:=by rw [jE,hws]
  unfold nA at pw
  rw [←hfo] at pw
  simp only [cRw]
  cases hk:jE r with
  | none =>
    have e:gO r= .error (11,(r.a:Int)):=by simp only [gO,hk]
    rw [hk] at pw
    rw [e,dO]
    (refine an c46 b46 fun σ=>?_;simp only [c46,↓R1,RR,seval,q1,q3,he,rdB])
    repeat' (first|(with_reducible rw [ai])|(with_reducible refine And.intro ?_ ?_;exact ag)|(with_reducible apply And.intro)|((first|(with_reducible intro β hβ;(try simp only [RB] at hβ);(repeat (obtain ⟨⟨_,_⟩,hβ⟩:=hβ));(try (have hbis:=ah (by assumption) hβ;obtain ⟨_,_⟩:=hbis)))|(refine Ct (pn) ?_)|(refine Ct (pw) ?_))<;>(try simp only [↓R1,RR,seval,q1,q3,he,rdB])))
    all_goals (try (first|omega|(rw [he];simp;done)))
    all_goals (refine ak (ad ?_) (by first|(simp [aj,rvS];done)|(simp only [aj,rvS,↓R1,RR,seval,q1,q3,he,rdB];try simp)))
    all_goals ((simp only [ao,↓R1,RR,seval,q1,q3,he,rdB]))
    all_goals rfl
  | some k =>
    have hk9:k<9:=Cp hk
    rw [hk] at pw
    simp only at pw
    by_cases hln:r.ws.length=ft[k]?.getD 0
    · have e:gO r=opW k r.ws:=by simp only [gO,hk,if_pos hln]
      rw [e]
      have hcs:k=0∨k=1∨k=2∨k=3∨k=4∨k=5∨k=6∨k=7∨k=8:=by omega
      rcases hcs with rfl|rfl|rfl|rfl|rfl|rfl|rfl|rfl|rfl
      · obtain ⟨a0,w1,w2,hw⟩:=nE hln
        have q1:((r.ws.length:Int) != 3)=false:=by rw [hw];rfl
        have w1h:r.ws[1]? =some w1:=by rw [hw];rfl
        have h1:=ht w1 (by rw [hw];simp)
        have w2h:r.ws[2]? =some w2:=by rw [hw];rfl
        have h2:=ht w2 (by rw [hw];simp)
        have e2:opW 0 r.ws=dT w1 w2:=by rw [hw];rfl
        rw [e2]
        obtain ⟨hE,hO⟩:=E5 (bh w1) (ee w2) (fun _ h=>cE h) (fun _ h=>cE h) (fun t l=>⟨1,t,l,[],0,0,0,0⟩)
        (refine an c46 b46 fun σ=>?_;simp only [c46,↓R1,RR,seval,q1,q3,he,rdB])
        repeat' (first|(with_reducible rw [ai])|(with_reducible refine And.intro ?_ ?_;exact ag)|(with_reducible apply And.intro)|((first|(refine ar (fun hc=>?_) (fun hc=>?_))|(with_reducible intro β hβ;(try simp only [RB] at hβ);(repeat (obtain ⟨⟨_,_⟩,hβ⟩:=hβ));(try (have hbis:=ah (by assumption) hβ;obtain ⟨_,_⟩:=hbis)))|(refine Ct (pn) ?_)|(refine Ct (pw) ?_)|(refine Ct (pm) ?_)|((refine AC.mono (AC.wk (lZ (k:=1) (ws:=r.ws) (f:=(0,0)) (w:=w1) ?_ w1h (by omega) h1) (aa _)) ?_;(focus (simp only [↓R1,RR,seval,q1,q3,he,rdB];done));(rintro _ _ ⟨rfl,rfl⟩)))|((refine AC.mono (AC.wk (r69 (k:=2) (ws:=r.ws) (f:=rdO (0,0) (bh w1)) (w:=w2) ?_ w2h (by omega) h2) (aa _)) ?_;(focus (simp only [↓R1,RR,seval,q1,q3,he,rdB];done));(rintro _ _ ⟨rfl,rfl⟩))))<;>(try simp only [↓R1,RR,seval,q1,q3,he,rdB])))
        all_goals (try (first|omega|(rw [he];simp;done)))
        any_goals (have hne:=hE (by simpa using hc);rw [show dT w1 w2=_ from hne,dO];(refine ak (ad ?_) (by first|(simp [aj,rvS];done)|(simp only [aj,rvS,↓R1,RR,seval,q1,q3,he,rdB];try simp)));(simp only [ao,↓R1,RR,seval,q1,q3,he,rdB]);rfl)
        · obtain ⟨a,b,ha,hb,heq⟩:=hO (by simpa using hc)
          rw [show dT w1 w2=_ from heq,dO]
          obtain ⟨g1,x1⟩:=cK ha
          obtain ⟨g2,x2⟩:=cK hb
          (refine ak (ad ?_) (by first|(simp [aj,rvS];done)|(simp only [aj,rvS,↓R1,RR,seval,q1,q3,he,rdB];try simp)))
          (simp only [ao,↓R1,RR,seval,q1,q3,he,rdB])
          have f1:=cu (0,0) ha
          have f2:=cu (0,0) hb
          simp only [cOp,f1,f2,dP (f:=(0,0)) rfl g1,x1,dP (f:=(0,0)) rfl g2,x2]
      · obtain ⟨a0,w1,w2,hw⟩:=nE hln
        have q1:((r.ws.length:Int) != 3)=false:=by rw [hw];rfl
        have w1h:r.ws[1]? =some w1:=by rw [hw];rfl
        have h1:=ht w1 (by rw [hw];simp)
        have w2h:r.ws[2]? =some w2:=by rw [hw];rfl
        have h2:=ht w2 (by rw [hw];simp)
        have e2:opW 1 r.ws=im w1 w2:=by rw [hw];rfl
        rw [e2]
        obtain ⟨hE,hO⟩:=E5 (bh w1) (eN w2) (fun _ h=>cE h) (fun _ h=>nF h) (fun t x=>⟨2,t,0,x,0,0,0,0⟩)
        (refine an c46 b46 fun σ=>?_;simp only [c46,↓R1,RR,seval,q1,q3,he,rdB])
        repeat' (first|(with_reducible rw [ai])|(with_reducible refine And.intro ?_ ?_;exact ag)|(with_reducible apply And.intro)|((first|(refine ar (fun hc=>?_) (fun hc=>?_))|(with_reducible intro β hβ;(try simp only [RB] at hβ);(repeat (obtain ⟨⟨_,_⟩,hβ⟩:=hβ));(try (have hbis:=ah (by assumption) hβ;obtain ⟨_,_⟩:=hbis)))|(refine Ct (pn) ?_)|(refine Ct (pw) ?_)|(refine Ct (pm) ?_)|((refine AC.mono (AC.wk (lZ (k:=1) (ws:=r.ws) (f:=(0,0)) (w:=w1) ?_ w1h (by omega) h1) (aa _)) ?_;(focus (simp only [↓R1,RR,seval,q1,q3,he,rdB];done));(rintro _ _ ⟨rfl,rfl⟩)))|((refine AC.mono (AC.wk (Ka (k:=2) (ws:=r.ws) (f:=rdO (0,0) (bh w1)) (w:=w2) ?_ w2h (by omega) h2) (aa _)) ?_;(focus (simp only [↓R1,RR,seval,q1,q3,he,rdB];done));(rintro _ _ ⟨rfl,rfl⟩))))<;>(try simp only [↓R1,RR,seval,q1,q3,he,rdB])))
        all_goals (try (first|omega|(rw [he];simp;done)))
        any_goals (have hne:=hE (by simpa using hc);rw [show im w1 w2=_ from hne,dO];(refine ak (ad ?_) (by first|(simp [aj,rvS];done)|(simp only [aj,rvS,↓R1,RR,seval,q1,q3,he,rdB];try simp)));(simp only [ao,↓R1,RR,seval,q1,q3,he,rdB]);rfl)
        · obtain ⟨a,b,ha,hb,heq⟩:=hO (by simpa using hc)
          rw [show im w1 w2=_ from heq,dO]
          obtain ⟨g1,x1⟩:=cK ha
          (refine ak (ad ?_) (by first|(simp [aj,rvS];done)|(simp only [aj,rvS,↓R1,RR,seval,q1,q3,he,rdB];try simp)))
          (simp only [ao,↓R1,RR,seval,q1,q3,he,rdB])
          have f1:=cu (0,0) ha
          have f2:=cu (0,0) hb
          have x2:=sK hb
          simp only [cOp,f1,f2,dP (f:=(0,0)) rfl g1,x1,x2]
      · obtain ⟨a0,w1,w2,hw⟩:=nE hln
        have q1:((r.ws.length:Int) != 3)=false:=by rw [hw];rfl
        have w1h:r.ws[1]? =some w1:=by rw [hw];rfl
        have h1:=ht w1 (by rw [hw];simp)
        have w2h:r.ws[2]? =some w2:=by rw [hw];rfl
        have h2:=ht w2 (by rw [hw];simp)
        have e2:opW 2 r.ws=kD w1 w2:=by rw [hw];rfl
        rw [e2]
        obtain ⟨hE,hO⟩:=E5 (bh w1) (bh w2) (fun _ h=>cE h) (fun _ h=>cE h) (fun t n=>⟨3,t,0,[],n,0,0,0⟩)
        (refine an c46 b46 fun σ=>?_;simp only [c46,↓R1,RR,seval,q1,q3,he,rdB])
        repeat' (first|(with_reducible rw [ai])|(with_reducible refine And.intro ?_ ?_;exact ag)|(with_reducible apply And.intro)|((first|(refine ar (fun hc=>?_) (fun hc=>?_))|(with_reducible intro β hβ;(try simp only [RB] at hβ);(repeat (obtain ⟨⟨_,_⟩,hβ⟩:=hβ));(try (have hbis:=ah (by assumption) hβ;obtain ⟨_,_⟩:=hbis)))|(refine Ct (pn) ?_)|(refine Ct (pw) ?_)|(refine Ct (pm) ?_)|((refine AC.mono (AC.wk (lZ (k:=1) (ws:=r.ws) (f:=(0,0)) (w:=w1) ?_ w1h (by omega) h1) (aa _)) ?_;(focus (simp only [↓R1,RR,seval,q1,q3,he,rdB];done));(rintro _ _ ⟨rfl,rfl⟩)))|((refine AC.mono (AC.wk (lZ (k:=2) (ws:=r.ws) (f:=rdO (0,0) (bh w1)) (w:=w2) ?_ w2h (by omega) h2) (aa _)) ?_;(focus (simp only [↓R1,RR,seval,q1,q3,he,rdB];done));(rintro _ _ ⟨rfl,rfl⟩))))<;>(try simp only [↓R1,RR,seval,q1,q3,he,rdB])))
        all_goals (try (first|omega|(rw [he];simp;done)))
        any_goals (have hne:=hE (by simpa using hc);rw [show kD w1 w2=_ from hne,dO];(refine ak (ad ?_) (by first|(simp [aj,rvS];done)|(simp only [aj,rvS,↓R1,RR,seval,q1,q3,he,rdB];try simp)));(simp only [ao,↓R1,RR,seval,q1,q3,he,rdB]);rfl)
        · obtain ⟨a,b,ha,hb,heq⟩:=hO (by simpa using hc)
          rw [show kD w1 w2=_ from heq,dO]
          obtain ⟨g1,x1⟩:=cK ha
          obtain ⟨g2,x2⟩:=cK hb
          (refine ak (ad ?_) (by first|(simp [aj,rvS];done)|(simp only [aj,rvS,↓R1,RR,seval,q1,q3,he,rdB];try simp)))
          (simp only [ao,↓R1,RR,seval,q1,q3,he,rdB])
          have f1:=cu (0,0) ha
          have f2:=cu (0,0) hb
          simp only [cOp,f1,f2,dP (f:=(0,0)) rfl g1,x1,dP (f:=(0,0)) rfl g2,x2]
      · obtain ⟨a0,w1,w2,w3,hw⟩:=yM hln
        have q1:((r.ws.length:Int) != 4)=false:=by rw [hw];rfl
        have w1h:r.ws[1]? =some w1:=by rw [hw];rfl
        have h1:=ht w1 (by rw [hw];simp)
        have w2h:r.ws[2]? =some w2:=by rw [hw];rfl
        have h2:=ht w2 (by rw [hw];simp)
        have w3h:r.ws[3]? =some w3:=by rw [hw];rfl
        have h3:=ht w3 (by rw [hw];simp)
        have e2:opW 3 r.ws=e7 w1 w2 w3:=by rw [hw];rfl
        rw [e2]
        obtain ⟨lb,q3⟩:∃ lb:BitVec 64,rdX (rdO (0,0) (gn w1)) w2 ((cb w2.t).l.toNat:Nat)=(lb.toNat:Nat):=Iu _ _ _
        obtain ⟨hE,hO⟩:=It (gn w1) (ee w2) (bh w3) (fun _ h=>cE h) (fun _ h=>cE h) (fun _ h=>cE h) (fun k l v=>⟨4,0,0,gf (BitVec.ofInt 64 l) k v,0,0,0,0⟩)
        (refine an c46 b46 fun σ=>?_;simp only [c46,↓R1,RR,seval,q1,q3,he,rdB])
        repeat' (first|(with_reducible rw [ai])|(with_reducible refine And.intro ?_ ?_;exact ag)|(with_reducible apply And.intro)|((first|(refine ar (fun hc=>?_) (fun hc=>?_))|(with_reducible intro β hβ;(try simp only [RB] at hβ);(repeat (obtain ⟨⟨_,_⟩,hβ⟩:=hβ));(try (have hbis:=ah (by assumption) hβ;obtain ⟨_,_⟩:=hbis)))|(refine Ct (pn) ?_)|(refine Ct (pw) ?_)|(refine Ct (pm) ?_)|((refine AC.mono (AC.wk (MI (k:=1) (ws:=r.ws) (f:=(0,0)) (w:=w1) ?_ w1h (by omega) h1) (aa _)) ?_;(focus (simp only [↓R1,RR,seval,q1,q3,he,rdB];done));(rintro _ _ ⟨rfl,rfl⟩)))|((refine AC.mono (AC.wk (r69 (k:=2) (ws:=r.ws) (f:=rdO (0,0) (gn w1)) (w:=w2) ?_ w2h (by omega) h2) (aa _)) ?_;(focus (simp only [↓R1,RR,seval,q1,q3,he,rdB];done));(rintro _ _ ⟨rfl,rfl⟩)))|((refine AC.mono (AC.wk (lZ (k:=3) (ws:=r.ws) (f:=rdO (rdO (0,0) (gn w1)) (ee w2)) (w:=w3) ?_ w3h (by omega) h3) (aa _)) ?_;(focus (simp only [↓R1,RR,seval,q1,q3,he,rdB];done));(rintro _ _ ⟨rfl,rfl⟩)))|(refine Pt (p38 lb (rdX (0,0) w1 (ko w1.t)) (rdX (rdO (rdO (0,0) (gn w1)) (ee w2)) w3 (gN w3.q w3.t).1)) ?_))<;>(try simp only [↓R1,RR,seval,q1,q3,he,rdB])))
        all_goals (try (first|omega|(rw [he];simp;done)))
        any_goals (have hne:=hE (by simpa using hc);rw [show e7 w1 w2 w3=_ from hne,dO];(refine ak (ad ?_) (by first|(simp [aj,rvS];done)|(simp only [aj,rvS,↓R1,RR,seval,q1,q3,he,rdB];try simp)));(simp only [ao,↓R1,RR,seval,q1,q3,he,rdB]);rfl)
        · obtain ⟨a,b,c,ha,hb,hc,heq⟩:=hO (by simpa using hc)
          rw [show e7 w1 w2 w3=_ from heq,dO]
          obtain ⟨g1,x1⟩:=cK ha
          obtain ⟨g2,x2⟩:=cK hb
          obtain ⟨g3,x3⟩:=cK hc
          (refine ak (ad ?_) (by first|(simp [aj,rvS];done)|(simp only [aj,rvS,↓R1,RR,seval,q1,q3,he,rdB];try simp)))
          (simp only [ao,↓R1,RR,seval,q1,q3,he,rdB])
          have f1:=cu (0,0) ha
          have f2:=cu (0,0) hb
          have f3:=cu (0,0) hc
          have hlb:BitVec.ofInt 64 b=lb:=by rw [f1,dP rfl g2,x2] at q3;rw [q3];simp
          simp only [cOp,f1,f2,f3,dP (f:=(0,0)) rfl g1,x1,dP (f:=(0,0)) rfl g2,x2,dP (f:=(0,0)) rfl g3,x3,hlb]
      · obtain ⟨a0,w1,hw⟩:=E3 hln
        have q1:((r.ws.length:Int) != 2)=false:=by rw [hw];rfl
        have w1h:r.ws[1]? =some w1:=by rw [hw];rfl
        have h1:=ht w1 (by rw [hw];simp)
        have e2:opW 4 r.ws=iZ w1:=by rw [hw];rfl
        rw [e2]
        obtain ⟨hE,hO⟩:=MM (eN w1) (fun _ h=>nF h) (fun x=>⟨4,0,0,x,0,0,0,0⟩)
        (refine an c46 b46 fun σ=>?_;simp only [c46,↓R1,RR,seval,q1,q3,he,rdB])
        repeat' (first|(with_reducible rw [ai])|(with_reducible refine And.intro ?_ ?_;exact ag)|(with_reducible apply And.intro)|((first|(refine ar (fun hc=>?_) (fun hc=>?_))|(with_reducible intro β hβ;(try simp only [RB] at hβ);(repeat (obtain ⟨⟨_,_⟩,hβ⟩:=hβ));(try (have hbis:=ah (by assumption) hβ;obtain ⟨_,_⟩:=hbis)))|(refine Ct (pn) ?_)|(refine Ct (pw) ?_)|(refine Ct (pm) ?_)|((refine AC.mono (AC.wk (Ka (k:=1) (ws:=r.ws) (f:=(0,0)) (w:=w1) ?_ w1h (by omega) h1) (aa _)) ?_;(focus (simp only [↓R1,RR,seval,q1,q3,he,rdB];done));(rintro _ _ ⟨rfl,rfl⟩))))<;>(try simp only [↓R1,RR,seval,q1,q3,he,rdB])))
        all_goals (try (first|omega|(rw [he];simp;done)))
        any_goals (have hne:=hE (by simpa using hc);rw [show iZ w1=_ from hne,dO];(refine ak (ad ?_) (by first|(simp [aj,rvS];done)|(simp only [aj,rvS,↓R1,RR,seval,q1,q3,he,rdB];try simp)));(simp only [ao,↓R1,RR,seval,q1,q3,he,rdB]);rfl)
        · obtain ⟨a,ha,heq⟩:=hO (by simpa using hc)
          rw [show iZ w1=_ from heq,dO]
          (refine ak (ad ?_) (by first|(simp [aj,rvS];done)|(simp only [aj,rvS,↓R1,RR,seval,q1,q3,he,rdB];try simp)))
          (simp only [ao,↓R1,RR,seval,q1,q3,he,rdB])
          have f1:=cu (0,0) ha
          have x1:=sK ha
          simp only [cOp,f1,x1]
      · obtain ⟨a0,hw⟩:=E2 hln
        have q1:((r.ws.length:Int) != 1)=false:=by rw [hw];rfl
        have e2:opW 5 r.ws=sI:=by rw [hw];rfl
        rw [e2]
        (refine an c46 b46 fun σ=>?_;simp only [c46,↓R1,RR,seval,q1,q3,he,rdB])
        repeat' (first|(with_reducible rw [ai])|(with_reducible refine And.intro ?_ ?_;exact ag)|((first|(with_reducible intro β hβ;(try simp only [RB] at hβ);(repeat (obtain ⟨⟨_,_⟩,hβ⟩:=hβ));(try (have hbis:=ah (by assumption) hβ;obtain ⟨_,_⟩:=hbis)))|(refine Ct (pn) ?_)|(refine Ct (pw) ?_)|(refine Ct (pm) ?_))<;>(try simp only [↓R1,RR,seval,q1,q3,he,rdB])))
        all_goals (try (first|omega|(rw [he];simp;done)))
        all_goals (refine ak (ad ?_) (by first|(simp [aj,rvS];done)|(simp only [aj,rvS,↓R1,RR,seval,q1,q3,he,rdB];try simp)))
        all_goals ((simp only [ao,↓R1,RR,seval,q1,q3,he,rdB]))
        all_goals rfl
      · obtain ⟨a0,w1,w2,hw⟩:=nE hln
        have q1:((r.ws.length:Int) != 3)=false:=by rw [hw];rfl
        have w1h:r.ws[1]? =some w1:=by rw [hw];rfl
        have h1:=ht w1 (by rw [hw];simp)
        have w2h:r.ws[2]? =some w2:=by rw [hw];rfl
        have h2:=ht w2 (by rw [hw];simp)
        have e2:opW 6 r.ws=kF w1 w2:=by rw [hw];rfl
        rw [e2]
        obtain ⟨hE,hO⟩:=E5 (bh w1) (bh w2) (fun _ h=>cE h) (fun _ h=>cE h) (fun t m=>⟨6,t,0,[],0,m,0,0⟩)
        (refine an c46 b46 fun σ=>?_;simp only [c46,↓R1,RR,seval,q1,q3,he,rdB])
        repeat' (first|(with_reducible rw [ai])|(with_reducible refine And.intro ?_ ?_;exact ag)|(with_reducible apply And.intro)|((first|(refine ar (fun hc=>?_) (fun hc=>?_))|(with_reducible intro β hβ;(try simp only [RB] at hβ);(repeat (obtain ⟨⟨_,_⟩,hβ⟩:=hβ));(try (have hbis:=ah (by assumption) hβ;obtain ⟨_,_⟩:=hbis)))|(refine Ct (pn) ?_)|(refine Ct (pw) ?_)|(refine Ct (pm) ?_)|((refine AC.mono (AC.wk (lZ (k:=1) (ws:=r.ws) (f:=(0,0)) (w:=w1) ?_ w1h (by omega) h1) (aa _)) ?_;(focus (simp only [↓R1,RR,seval,q1,q3,he,rdB];done));(rintro _ _ ⟨rfl,rfl⟩)))|((refine AC.mono (AC.wk (lZ (k:=2) (ws:=r.ws) (f:=rdO (0,0) (bh w1)) (w:=w2) ?_ w2h (by omega) h2) (aa _)) ?_;(focus (simp only [↓R1,RR,seval,q1,q3,he,rdB];done));(rintro _ _ ⟨rfl,rfl⟩))))<;>(try simp only [↓R1,RR,seval,q1,q3,he,rdB])))
        all_goals (try (first|omega|(rw [he];simp;done)))
        any_goals (have hne:=hE (by simpa using hc);rw [show kF w1 w2=_ from hne,dO];(refine ak (ad ?_) (by first|(simp [aj,rvS];done)|(simp only [aj,rvS,↓R1,RR,seval,q1,q3,he,rdB];try simp)));(simp only [ao,↓R1,RR,seval,q1,q3,he,rdB]);rfl)
        · obtain ⟨a,b,ha,hb,heq⟩:=hO (by simpa using hc)
          rw [show kF w1 w2=_ from heq,dO]
          obtain ⟨g1,x1⟩:=cK ha
          obtain ⟨g2,x2⟩:=cK hb
          (refine ak (ad ?_) (by first|(simp [aj,rvS];done)|(simp only [aj,rvS,↓R1,RR,seval,q1,q3,he,rdB];try simp)))
          (simp only [ao,↓R1,RR,seval,q1,q3,he,rdB])
          have f1:=cu (0,0) ha
          have f2:=cu (0,0) hb
          simp only [cOp,f1,f2,dP (f:=(0,0)) rfl g1,x1,dP (f:=(0,0)) rfl g2,x2]
      · obtain ⟨a0,w1,w2,w3,hw⟩:=yM hln
        have q1:((r.ws.length:Int) != 4)=false:=by rw [hw];rfl
        have w1h:r.ws[1]? =some w1:=by rw [hw];rfl
        have h1:=ht w1 (by rw [hw];simp)
        have w2h:r.ws[2]? =some w2:=by rw [hw];rfl
        have h2:=ht w2 (by rw [hw];simp)
        have w3h:r.ws[3]? =some w3:=by rw [hw];rfl
        have h3:=ht w3 (by rw [hw];simp)
        have e2:opW 7 r.ws=cQ w1 w2 w3:=by rw [hw];rfl
        rw [e2]
        obtain ⟨hE,hO⟩:=It (bh w1) (bh w2) (n4 w3) (fun _ h=>cE h) (fun _ h=>cE h) (fun _ h=>cE h) (fun t n i=>⟨7,t,0,[],n,0,i.1,i.2⟩)
        (refine an c46 b46 fun σ=>?_;simp only [c46,↓R1,RR,seval,q1,q3,he,rdB])
        repeat' (first|(with_reducible rw [ai])|(with_reducible refine And.intro ?_ ?_;exact ag)|(with_reducible apply And.intro)|((first|(refine ar (fun hc=>?_) (fun hc=>?_))|(with_reducible intro β hβ;(try simp only [RB] at hβ);(repeat (obtain ⟨⟨_,_⟩,hβ⟩:=hβ));(try (have hbis:=ah (by assumption) hβ;obtain ⟨_,_⟩:=hbis)))|(refine Ct (pn) ?_)|(refine Ct (pw) ?_)|(refine Ct (pm) ?_)|((refine AC.mono (AC.wk (lZ (k:=1) (ws:=r.ws) (f:=(0,0)) (w:=w1) ?_ w1h (by omega) h1) (aa _)) ?_;(focus (simp only [↓R1,RR,seval,q1,q3,he,rdB];done));(rintro _ _ ⟨rfl,rfl⟩)))|((refine AC.mono (AC.wk (lZ (k:=2) (ws:=r.ws) (f:=rdO (0,0) (bh w1)) (w:=w2) ?_ w2h (by omega) h2) (aa _)) ?_;(focus (simp only [↓R1,RR,seval,q1,q3,he,rdB];done));(rintro _ _ ⟨rfl,rfl⟩)))|((refine AC.mono (AC.wk (MJ (k:=3) (ws:=r.ws) (f:=rdO (rdO (0,0) (bh w1)) (bh w2)) (w:=w3) ?_ w3h (by omega) h3) (aa _)) ?_;(focus (simp only [↓R1,RR,seval,q1,q3,he,rdB];done));(rintro _ _ ⟨rfl,rfl⟩))))<;>(try simp only [↓R1,RR,seval,q1,q3,he,rdB])))
        all_goals (try (first|omega|(rw [he];simp;done)))
        any_goals (have hne:=hE (by simpa using hc);rw [show cQ w1 w2 w3=_ from hne,dO];(refine ak (ad ?_) (by first|(simp [aj,rvS];done)|(simp only [aj,rvS,↓R1,RR,seval,q1,q3,he,rdB];try simp)));(simp only [ao,↓R1,RR,seval,q1,q3,he,rdB]);rfl)
        · obtain ⟨a,b,c,ha,hb,hc,heq⟩:=hO (by simpa using hc)
          rw [show cQ w1 w2 w3=_ from heq,dO]
          obtain ⟨g1,x1⟩:=cK ha
          obtain ⟨g2,x2⟩:=cK hb
          obtain ⟨g3,x3⟩:=cK hc
          (refine ak (ad ?_) (by first|(simp [aj,rvS];done)|(simp only [aj,rvS,↓R1,RR,seval,q1,q3,he,rdB];try simp)))
          (simp only [ao,↓R1,RR,seval,q1,q3,he,rdB])
          have f1:=cu (0,0) ha
          have f2:=cu (0,0) hb
          have f3:=cu (0,0) hc
          simp only [cOp,f1,f2,f3,dP (f:=(0,0)) rfl g1,x1,dP (f:=(0,0)) rfl g2,x2,dP (f:=(0,0)) rfl g3,x3]
      · obtain ⟨a0,w1,w2,w3,hw⟩:=yM hln
        have q1:((r.ws.length:Int) != 4)=false:=by rw [hw];rfl
        have w1h:r.ws[1]? =some w1:=by rw [hw];rfl
        have h1:=ht w1 (by rw [hw];simp)
        have w2h:r.ws[2]? =some w2:=by rw [hw];rfl
        have h2:=ht w2 (by rw [hw];simp)
        have w3h:r.ws[3]? =some w3:=by rw [hw];rfl
        have h3:=ht w3 (by rw [hw];simp)
        have e2:opW 8 r.ws=gy w1 w2 w3:=by rw [hw];rfl
        rw [e2]
        obtain ⟨hE,hO⟩:=It (bh w1) (bh w2) (bh w3) (fun _ h=>cE h) (fun _ h=>cE h) (fun _ h=>cE h) (fun t n m=>⟨8,t,0,[],n,m,0,0⟩)
        (refine an c46 b46 fun σ=>?_;simp only [c46,↓R1,RR,seval,q1,q3,he,rdB])
        repeat' (first|(with_reducible rw [ai])|(with_reducible refine And.intro ?_ ?_;exact ag)|(with_reducible apply And.intro)|((first|(refine ar (fun hc=>?_) (fun hc=>?_))|(with_reducible intro β hβ;(try simp only [RB] at hβ);(repeat (obtain ⟨⟨_,_⟩,hβ⟩:=hβ));(try (have hbis:=ah (by assumption) hβ;obtain ⟨_,_⟩:=hbis)))|(refine Ct (pn) ?_)|(refine Ct (pw) ?_)|(refine Ct (pm) ?_)|((refine AC.mono (AC.wk (lZ (k:=1) (ws:=r.ws) (f:=(0,0)) (w:=w1) ?_ w1h (by omega) h1) (aa _)) ?_;(focus (simp only [↓R1,RR,seval,q1,q3,he,rdB];done));(rintro _ _ ⟨rfl,rfl⟩)))|((refine AC.mono (AC.wk (lZ (k:=2) (ws:=r.ws) (f:=rdO (0,0) (bh w1)) (w:=w2) ?_ w2h (by omega) h2) (aa _)) ?_;(focus (simp only [↓R1,RR,seval,q1,q3,he,rdB];done));(rintro _ _ ⟨rfl,rfl⟩)))|((refine AC.mono (AC.wk (lZ (k:=3) (ws:=r.ws) (f:=rdO (rdO (0,0) (bh w1)) (bh w2)) (w:=w3) ?_ w3h (by omega) h3) (aa _)) ?_;(focus (simp only [↓R1,RR,seval,q1,q3,he,rdB];done));(rintro _ _ ⟨rfl,rfl⟩))))<;>(try simp only [↓R1,RR,seval,q1,q3,he,rdB])))
        all_goals (try (first|omega|(rw [he];simp;done)))
        any_goals (have hne:=hE (by simpa using hc);rw [show gy w1 w2 w3=_ from hne,dO];(refine ak (ad ?_) (by first|(simp [aj,rvS];done)|(simp only [aj,rvS,↓R1,RR,seval,q1,q3,he,rdB];try simp)));(simp only [ao,↓R1,RR,seval,q1,q3,he,rdB]);rfl)
        · obtain ⟨a,b,c,ha,hb,hc,heq⟩:=hO (by simpa using hc)
          rw [show gy w1 w2 w3=_ from heq,dO]
          obtain ⟨g1,x1⟩:=cK ha
          obtain ⟨g2,x2⟩:=cK hb
          obtain ⟨g3,x3⟩:=cK hc
          (refine ak (ad ?_) (by first|(simp [aj,rvS];done)|(simp only [aj,rvS,↓R1,RR,seval,q1,q3,he,rdB];try simp)))
          (simp only [ao,↓R1,RR,seval,q1,q3,he,rdB])
          have f1:=cu (0,0) ha
          have f2:=cu (0,0) hb
          have f3:=cu (0,0) hc
          simp only [cOp,f1,f2,f3,dP (f:=(0,0)) rfl g1,x1,dP (f:=(0,0)) rfl g2,x2,dP (f:=(0,0)) rfl g3,x3]
    · have e:gO r= .error (3,(r.a:Int)):=by simp only [gO,hk,if_neg hln]
      rw [e,dO]
      have hcs:k=0∨k=1∨k=2∨k=3∨k=4∨k=5∨k=6∨k=7∨k=8:=by omega
      have hq1:∀ m:Nat,r.ws.length≠m→((r.ws.length:Int) != (m:Nat))=true:=fun m h=>by rw [bne_iff_ne];omega
      rcases hcs with rfl|rfl|rfl|rfl|rfl|rfl|rfl|rfl|rfl
      all_goals
        have q1:=hq1 _ hln
        (refine an c46 b46 fun σ=>?_;simp only [c46,↓R1,RR,seval,q1,q3,he,rdB])
        repeat' (first|(with_reducible rw [ai])|(with_reducible refine And.intro ?_ ?_;exact ag)|(with_reducible apply And.intro)|((first|(refine ar (fun hc=>?_) (fun hc=>?_))|(with_reducible intro β hβ;(try simp only [RB] at hβ);(repeat (obtain ⟨⟨_,_⟩,hβ⟩:=hβ));(try (have hbis:=ah (by assumption) hβ;obtain ⟨_,_⟩:=hbis)))|(refine Ct (pn) ?_)|(refine Ct (pw) ?_)|(refine Ct (pm) ?_))<;>(try simp only [↓R1,RR,seval,q1,q3,he,rdB])))
        all_goals (try (first|omega|(rw [he];simp;done)))
        all_goals first|(exfalso;simp [ft] at hln hc;omega)|((refine ak (ad ?_) (by first|(simp [aj,rvS];done)|(simp only [aj,rvS,↓R1,RR,seval,q1,q3,he,rdB];try simp)));(simp only [ao,↓R1,RR,seval,q1,q3,he,rdB]);rfl)
theorem di (l:List Rw):(l.flatMap cRw).length=l.length*2:=aS (f:=cRw) (fun _=>rfl) l
theorem Cq {l:List Rw} {k:Nat} {w:Rw} (h:l[k]? =some w):((l.flatMap cRw).drop (k*2)).take 2=cRw w:=by
  induction l generalizing k with
  | nil=>simp at h
  | cons x l ih =>
    cases k with
    | zero=>simp at h;subst h;simp [cRw]
    | succ k =>
      simp only [List.getElem?_cons_succ] at h
      have:=ih h
      rw [List.flatMap_cons,show (k+1)*2=(cRw x).length+k*2 by simp [cRw];omega,List.drop_append,List.drop_eq_nil_of_le (by omega),List.nil_append,Nat.add_sub_cancel_left]
      exact this
theorem dH (l:List OpI):(l.flatMap cOp).length=l.length*8:=aS (f:=cOp) (fun _=>rfl) l
def iq:List Rw→Nat→Except Ft (List OpI)
 | [],_=> .ok []
 | r::rs,n=>eb (gO r) fun o=>if n=400 then .error (6,(r.a:Int)) else eb (iq rs (n+1)) fun l=> .ok (o::l)
def cN (s:List UInt8):Except Ft (List OpI):=eb (eO s) fun rs=>iq rs 0
def Kb (rs:List Rw):Prop:=rs.length≤20001∧∀ r∈rs,r.ws≠ []∧r.ws.length≤20000∧∀ w∈r.ws,w.t.length≤1000000
theorem fR {s:List UInt8} {rs:List Rw} (h:eO s= .ok rs):Kb rs:=by
 unfold eO at h
 split at h
 ·rename_i rs' hr
  cases h
  obtain ⟨h1,h2,h3⟩:=uV hr
  exact ⟨by omega,fun r hr=>⟨(h3 r hr).1,(h3 r hr).2.1,fun w hw=>by have:=(h3 r hr).2.2 w hw;omega⟩⟩
 ·cases h
theorem yN {x:CX} {fr:Fr} {σ:St} {Q:Exit→Fr→St→Prop} {h:Hold (x,σ,Q)} {α:Type} (t e s n:Nat) (cs:List AV) (F:Nat→α→Fr) (S:Nat→α→St) (I:α→Prop) (μ:α→Nat) (a0:α)
  (hf:fresh (slot t fr)) (hs:slv (slot t fr)=some (n,cs)) (h0:I a0) (hF:∀ τ,σ.tip τ=none→az (F τ a0) ((t, .tsl τ n cs)::fr)) (hS:∀ τ,σ.tip τ=none→St.le (S τ a0) (σ.al τ (e,s,n)))
  (hr:∀ τ,σ.tip τ=none→∀ a,I a→aX Tryz.prog x (F τ a) (S τ a) (hZ (fun fr' σ'=>∃ b,I b∧az (F τ b) fr'∧St.le (S τ b) σ'∧μ b<μ a) Q)):rl Tryz.prog x fr σ Q h:=by
 refine tW (α:=α) [(false,t,0,e,s)] ?_
 simp only [cW]
 refine ⟨hf,?_⟩
 rw [hs]
 exact fun τ hτ=>⟨F τ,S τ,I,μ,a0,h0,hF τ hτ,hS τ hτ,hr τ hτ⟩
theorem o4 {rs:List Rw} {k:Nat} {r:Rw} (h:rs[k]? =some r) (n:Nat):iq (rs.drop k) n=eb (gO r) fun o=>if n=400 then .error (6,(r.a:Int)) else eb (iq (rs.drop (k+1)) (n+1)) fun l=> .ok (o::l):=by
 obtain ⟨h1,h2⟩:=List.getElem?_eq_some_iff.1 h
 rw [List.drop_eq_getElem_cons h1,h2];rfl
theorem kG {α β γ:Type} (o:Except Ft α) (f:α→Except Ft β) (g:β→Except Ft γ):eb (eb o f) g=eb o fun a=>eb (f a) g:=by cases o<;>rfl
theorem uZ {a b:St} {τ:Nat} {x:Nat × Nat × Nat} (h:St.le a b):St.le (a.al τ x) (b.al τ x):=by
 refine ⟨h.1,fun υ y hy=>?_,h.2.2⟩
 simp only [St.al,upd] at hy ⊢
 split
 ·rename_i e;rw [if_pos e] at hy;exact hy
 ·rename_i e;rw [if_neg e] at hy;exact h.2.1 _ _ hy
theorem bm (o:OpI):(cOp o).length=8:=rfl
theorem bn (o:OpI):(cOp o).take 8=cOp o:=rfl
set_option maxHeartbeats 4000000 in
theorem x41 {σ σ0:St} {ζ l:Nat} {s:List UInt8} (hσ:cG gl3 σ) (hlw:St.lw σ0 σ) (hs:s.length≤1000000) (hz:σ.box ζ=some [.str s]) (hl:σ.box l=some [.nils]) (hne:l≠ζ) :
  AX Tryz.prog 41 [.ptr ζ 0, .ptr l 0] σ (oX TS (cN s) (fun _=> .tup []) (fun os=>σ.ae l [.sl false os.length (os.flatMap cOp)]) σ0):=by
 haveI:BoxIs σ ζ [.str s]:=⟨hz⟩
 haveI:BoxIs σ l [.nils]:=⟨hl⟩
 have q1:True:=trivial
 have he:True:=trivial
 have hw:True:=trivial
 (refine bl c41 b41 ?_;simp only [c41,↓R1,RR,seval,RX,cRw,q1,he,hw,bm,bn])
 repeat' (((refine bM (x42 (σ0:=σ0) s hs ?_) (aa _) (fun rs ho1=>?_) (fun e ho1=>?_);(focus (exact bI;done))))<;>(try simp only [↓R1,RR,seval,RX,cRw,q1,he,hw,bm,bn]))
 all_goals first|(refine a7 ?_ (St.aH _);focus (simp only [cN,eb,ho1];done))|skip
 obtain ⟨hz1,hz2⟩:=fR ho1
 have hp:cN s=iq rs 0:=by simp only [cN,eb,ho1]
 have hml:maxLen=9223372036854775807:=rfl
 refine yN (α:=List OpI) 2 33 8 0 [] (fun τ acc=> [(1, .ptr l 0),(2, .tsl τ acc.length (acc.flatMap cOp)),(7, .sl false rs.length (rs.flatMap cRw)),(8, .int .i64 (rs.length:Nat)),(9, .int .i64 (acc.length:Nat))]) (fun τ acc=>σ.al τ (33,8,acc.length))
  (fun acc=>acc.length≤rs.length∧acc.length≤400∧iq rs 0=eb (iq (rs.drop acc.length) acc.length) fun m=> .ok (acc++m)) (fun acc=>rs.length - acc.length) [] trivial rfl ⟨by simp,by simp,by simp only [List.length_nil,List.drop_zero,List.nil_append];cases iq rs 0<;>rfl⟩ (fun τ hτ=>by simp [az,slot,af]) (fun τ hτ=>St.le_refl _) ?_
 intro τ hτ acc ⟨hk,hk4,hI⟩
 have htt:(σ.al τ (33,8,acc.length)).tip τ=some (33,8,acc.length):=by simp [St.al,upd]
 by_cases hlt:acc.length<rs.length
 ·obtain ⟨r,hr⟩:∃ r,rs[acc.length]? =some r:=⟨_,List.getElem?_eq_getElem hlt⟩
  obtain ⟨hr1,hr2,hr3⟩:=hz2 r (List.mem_of_getElem? hr)
  have q1:decide ((acc.length:Int)<(rs.length:Int))=true:=by rw [decide_eq_true_eq];omega
  have he:=Cq hr
  simp only [cRw] at he
  have hw:IntKind.i64.wrap ((acc.length:Int)+1)=((acc.length+1:Nat):Int):=by rw [wrap64 (by omega) (by omega)];omega
  rw [o4 hr,kG] at hI
  have hcl:=di rs
  have hol:=dH acc
  simp only [q1,↓R1,RR,seval,RX,cRw,q1,he,hw,bm,bn]
  repeat' (first|(with_reducible rw [ai])|(with_reducible refine And.intro ?_ ?_;exact ag)|((first|(with_reducible intro β hβ;(try simp only [RB] at hβ);(repeat (obtain ⟨⟨_,_⟩,hβ⟩:=hβ));(try (have hbis:=ah (by assumption) hβ;obtain ⟨_,_⟩:=hbis)))|((first|(refine bQ (.inr rfl) rfl ?_ ?_ ?_ ?_ ?_ ?_;(first|rfl|exact St.bg _ _ _|(simp only [↓R1,RR,seval,RX,cRw,q1,he,hw,bm,bn]));(first|omega|(simp only [RZ,List.length_nil,List.length_cons];omega)|(simp only [RZ,List.length_nil,List.length_cons]));(first|rfl|first|omega|(simp only [RZ,List.length_nil,List.length_cons];omega)|(simp only [RZ,List.length_nil,List.length_cons])))|(refine bD rfl ?_ ?_ ?_ ?_ ?_ ?_;(first|rfl|exact St.bg _ _ _|(simp only [↓R1,RR,seval,RX,cRw,q1,he,hw,bm,bn]));(first|omega|(simp only [RZ,List.length_nil,List.length_cons];omega)|(simp only [RZ,List.length_nil,List.length_cons]));(first|rfl|first|omega|(simp only [RZ,List.length_nil,List.length_cons];omega)|(simp only [RZ,List.length_nil,List.length_cons])))|(refine appV_own ?_ ?_ ?_ ?_;exact aS (by intro _;rfl) _)|(refine appD_own ?_ ?_ ?_ ?_ ?_;omega;exact aS (by intro _;rfl) _)|(refine appV_fresh rfl trivial rfl ?_ ?_ ?_ ?_ ?_;(first|rfl|first|omega|(simp only [RZ,List.length_nil,List.length_cons];omega)|(simp only [RZ,List.length_nil,List.length_cons]));(first|rfl|first|omega|(simp only [RZ,List.length_nil,List.length_cons];omega)|(simp only [RZ,List.length_nil,List.length_cons])))|(refine appD_fresh rfl trivial rfl ?_ ?_ ?_ ?_ ?_ ?_;omega;(first|rfl|first|omega|(simp only [RZ,List.length_nil,List.length_cons];omega)|(simp only [RZ,List.length_nil,List.length_cons]));(first|rfl|first|omega|(simp only [RZ,List.length_nil,List.length_cons];omega)|(simp only [RZ,List.length_nil,List.length_cons]))));(unfold maxLen;omega);omega)|((refine bM (x43 (σ0:=σ0) (r:=r) ?_ ?_ hr1 hr2 hr3) (aa _) (fun o ho2=>?_) (fun e ho2=>?_);(focus (intro k cs hk;exact hσ k cs hk));(focus (exact bI;done))))|((refine fh (fun hc=>?_) (fun hc=>?_)))|((refine cm (σ0:=σ0) (by decide) (by exact bI) ?_)))<;>(try simp only [↓R1,RR,seval,RX,cRw,q1,he,hw,bm,bn])))
  all_goals (try (first|omega|(simp;done)))
  ·have hc2:acc.length=400:=by simp only [beq_iff_eq] at hc;omega
   refine a7 ?_ (St.aH _)
   rw [hp,hI,nD _ ho2,if_pos hc2];rfl
  ·have hc2:acc.length≠400:=by
    intro h
    simp only [beq_eq_false_iff_ne] at hc
    exact hc (by rw [h];rfl)
   refine ⟨acc++ [o],⟨by simp;omega,by simp;omega,?_⟩,?_,?_,by simp;omega⟩
   ·rw [hI,nD _ ho2,if_neg hc2,kG,List.length_append,List.length_singleton]
    simp only [eb,List.append_assoc,List.singleton_append]
   ·simp only [az,slot,af,↓R1,RR,seval,RX,cRw,q1,he,hw,bm,bn]
    simp [af]
   ·simp only [List.length_append,List.length_singleton]
    exact uZ (St.aw (St.aw (St.le_refl _) (by assumption)) (by assumption))
  ·refine a7 ?_ (St.aH _)
   rw [hp,hI,oW _ ho2]
 ·have hke:acc.length=rs.length:=by omega
  have q1:decide ((acc.length:Int)<(rs.length:Int))=false:=by rw [decide_eq_false_iff_not];omega
  have ho:cN s= .ok acc:=by
   rw [hp,hI,hke,List.drop_length];simp only [iq,eb,List.append_nil]
  simp only [q1,↓R1,RR,seval,RX,cRw,q1,he,hw,bm,bn]
  skip
  refine cX ho ?_ ?_
  ·simp only [ao,↓R1,RR,seval,RX,cRw,q1,he,hw,bm,bn]
   exact af _
  ·exact bI
theorem nG {α:Type} {fc:Nat} {cap:List AV} {σ:St} {o:Except Ft α} {s1:α→St} {s0:St} {a:α} (hent:∀ xs w,(callFunc fc xs).run Tryz.prog w= .ok (.enter fc xs) w)
  (h:∀ β,σ.box β=none→AX Tryz.prog fc cap (σ.ae β z2) (oX TS o (fun _=> .tup []) (fun a=>(s1 a).ae β z2) (s0.ae β z2)))
  (h1:∀ β a,σ.box β=none→(s1 a).box β=none) (h0:∀ β,σ.box β=none→s0.box β=none) (ho:o= .ok a):AC Tryz.prog 40 [.fn fc cap] σ (fun r s=>r= .agg [.int .i64 0, .int .i64 0]∧s=s1 a) :=
 (a40 hent h h1 h0).mono fun r s hr=>by
  rcases hr with ⟨b,k1,k2,k3⟩|⟨f,k1,k2,k3⟩
  ·rw [ho] at k1;cases k1;exact ⟨k2,k3⟩
  ·rw [ho] at k1;cases k1
theorem nH {α:Type} {fc:Nat} {cap:List AV} {σ:St} {o:Except Ft α} {s1:α→St} {s0:St} {e:Ft} (hent:∀ xs w,(callFunc fc xs).run Tryz.prog w= .ok (.enter fc xs) w)
  (h:∀ β,σ.box β=none→AX Tryz.prog fc cap (σ.ae β z2) (oX TS o (fun _=> .tup []) (fun a=>(s1 a).ae β z2) (s0.ae β z2)))
  (h1:∀ β a,σ.box β=none→(s1 a).box β=none) (h0:∀ β,σ.box β=none→s0.box β=none) (ho:o= .error e):AC Tryz.prog 40 [.fn fc cap] σ (fun r s=>r= .agg [.int .i64 e.1, .int .i64 e.2]∧s=s0) :=
 (a40 hent h h1 h0).mono fun r s hr=>by
  rcases hr with ⟨b,k1,k2,k3⟩|⟨f,k1,k2,k3⟩
  ·rw [ho] at k1;cases k1
  ·rw [ho] at k1;cases k1;exact ⟨k2,k3⟩
theorem Fz {f:Nat} {xs:List AV} {σ s0 s0':St} {α:Type} {T:Nat} {o:Except Ft α} {t:α→AV} {s1 s1':α→St} (h:AX Tryz.prog f xs σ (oX T o t s1 s0)) (h1:∀ a,s1 a=s1' a) (h0:s0=s0'):AX Tryz.prog f xs σ (oX T o t s1' s0'):=by
 have:s1=s1':=funext h1
 subst this;subst h0;exact h
theorem ir {σ:St} {β γ:Nat} {c d:List AV} (h:σ.box γ=some d) (hβ:σ.box β=none):(σ.ae β c).box γ=some d:=by
 have:γ≠β:=fun e=>by rw [e,hβ] at h;cases h
 simp [St.ae,upd,this,h]
theorem gq {σ:St} {β γ:Nat} {c d:List AV} (h:σ.box γ=some d) (hβ:σ.box β=none):(σ.ae γ c).box β=none:=by
 have:β≠γ:=fun e=>by rw [←e,hβ] at h;cases h
 simp [St.ae,upd,this,hβ]
theorem sL {σ:St} {β γ:Nat} {c d z:List AV} (h:σ.box γ=some d) (hβ:σ.box β=none):(σ.ae β z).ae γ c=(σ.ae γ c).ae β z :=
 St.set_comm _ (fun e=>by rw [e,h] at hβ;cases hβ) _ _
def iu (s:List UInt8):AV:=match cN s with
 | .ok os=> .tup [.sl false os.length (os.flatMap cOp), .agg [.int .i64 0, .int .i64 0]]
 | .error e=> .tup [.sl false 0 [], .agg [.int .i64 e.1, .int .i64 e.2]]
theorem sM {σ:St} {ζ l:Nat} {s:List UInt8} (hσ:cG gl3 σ) (hs:s.length≤1000000) (hz:σ.box ζ=some [.str s]) (hl:σ.box l=some [.nils]) (hne:l≠ζ):∀ β,σ.box β=none→AX Tryz.prog 41 [.ptr ζ 0, .ptr l 0] (σ.ae β z2) (oX TS (cN s) (fun _=> .tup []) (fun os=>(σ.ae l [.sl false os.length (os.flatMap cOp)]).ae β z2) (σ.ae β z2)):=fun β hβ =>
 Fz (x41 (σ:=σ.ae β z2) (σ0:=σ.ae β z2) hσ (St.aH _) hs (ir hz hβ) (ir hl hβ) hne) (fun os=>sL hl hβ) rfl
theorem p12 (s:List UInt8) (hs:s.length≤1000000):PuG Tryz.prog gl3 12 [.str s] (iu s):=by
  have hent:=Go.Proofs.enters_of Tryz.func41 (by kernel_rfl) rfl
  cases hp:cN s with
  | ok os =>
    rw [iu,hp]
    (refine b9 c12 b12 fun σ hσ=>?_;simp only [c12,↓R1,RR,seval])
    repeat' (first|(with_reducible rw [ai])|((with_reducible intro β hβ;(try simp only [RB] at hβ);(repeat (obtain ⟨⟨_,_⟩,hβ⟩:=hβ));(try (have hbis:=ah (by assumption) hβ;obtain ⟨_,_⟩:=hbis)))<;>(try simp only [↓R1,RR,seval])))
    rename_i ζ hζ l hl p1 p2 p3 p4 p5 p6
    have hat:=sM (s:=s) (ζ:=ζ) (l:=l) (σ:=((σ.ae ζ [AV.str s]).ae l [AV.nils]).ae β [AV.int IntKind.i64 0,AV.int IntKind.i64 0]) hσ hs (by simp only [↓R1,RR,seval]) (by simp only [↓R1,RR,seval]) p1.ne
    refine AC.mono (AC.wk (nG hent hat (fun γ a hγ=>gq (d:= [AV.nils]) (by simp only [↓R1,RR,seval]) hγ) (fun γ hγ=>hγ) hp) (aa _)) ?_
    rintro _ _ ⟨rfl,rfl⟩
    simp only [↓R1,RR,seval]
    repeat' (with_reducible apply And.intro)
    all_goals (refine ak ?_ (by first|(simp [aj,rvS];done)|(simp only [aj,rvS,↓R1,RR,seval];try simp)))
    all_goals (simp only [ao,↓R1,RR,seval];exact af _)
  | error e =>
    rw [iu,hp]
    (refine b9 c12 b12 fun σ hσ=>?_;simp only [c12,↓R1,RR,seval])
    repeat' (first|(with_reducible rw [ai])|((with_reducible intro β hβ;(try simp only [RB] at hβ);(repeat (obtain ⟨⟨_,_⟩,hβ⟩:=hβ));(try (have hbis:=ah (by assumption) hβ;obtain ⟨_,_⟩:=hbis)))<;>(try simp only [↓R1,RR,seval])))
    rename_i ζ hζ l hl p1 p2 p3 p4 p5 p6
    have hat:=sM (s:=s) (ζ:=ζ) (l:=l) (σ:=((σ.ae ζ [AV.str s]).ae l [AV.nils]).ae β [AV.int IntKind.i64 0,AV.int IntKind.i64 0]) hσ hs (by simp only [↓R1,RR,seval]) (by simp only [↓R1,RR,seval]) p1.ne
    refine AC.mono (AC.wk (nH hent hat (fun γ a hγ=>gq (d:= [AV.nils]) (by simp only [↓R1,RR,seval]) hγ) (fun γ hγ=>hγ) hp) (aa _)) ?_
    rintro _ _ ⟨rfl,rfl⟩
    simp only [↓R1,RR,seval]
    repeat' (with_reducible apply And.intro)
    all_goals (refine ak ?_ (by first|(simp [aj,rvS];done)|(simp only [aj,rvS,↓R1,RR,seval];try simp)))
    all_goals (simp only [ao,↓R1,RR,seval];(repeat' (first|exact af _|exact bz|exact ay _ _ _|exact aq _ _|exact wkL.nil|exact aa _|refine c9 ?_|refine cR ?_|refine wkL.cons ?_ ?_)))
end Go.Proofs.YtgephffbfiemeaaGreatDoor
