/- Part 29 of the proof of ScriptConfigs: an abstract semantics that is proved sound for the model, contracts of functions in it, and plain facts (X1 X2 X3 X4 X13 X14 X15 X5 X6 X7a X7 X8 X9 X16 ZP1 ZP2 ZP3 ZP4 ZP5 ZP6 ZP7 ZP8 ZP9 ZP10). No condition. -/
import Derived.Test.YtgephffbfiemeaaGreatDoorKScriptConfigs28
import Derived.Defers
import Derived.Recover
import Derived.LoopTactic
import Derived.BigCall
set_option linter.all false
namespace Go.Proofs.YtgephffbfiemeaaGreatDoor
open Go.Abs Go.Lib
set_option linter.all false
set_option maxRecDepth 100000
abbrev TS:Nat:=137
def qd (e a:Int):Except Ft Unit:=if e=0 then .ok () else .error (e,a)
theorem w44 (e a:Int) (w:World) :
  Calls Tryz.prog 44 #[.int .i64 e, .int .i64 a] w fun r w'=>w'=w∧((e=0∧r= .returned (.tuple #[]))∨(e≠0∧r= .panicked [{ v:= .iface TS (.agg #[.int .i64 e, .int .i64 a]),recovered:=false }])):=by
 go_enter Tryz.func44,Tryz.ntmps44
 go_wp2
 ·exact ⟨rfl,rfl, .inr ⟨by simpa using ‹(e != 0)=true›,rfl⟩⟩
 ·simp [bodyPost,results,Tryz.results44]
  simpa using ‹(e != 0)=false›
theorem x44 (e a:Int) (σ σ0:St) (hl:St.lw σ0 σ):AX Tryz.prog 44 [.int .i64 e, .int .i64 a] σ (oX TS (qd e a) (fun _=> .tup []) (fun _=>σ) σ0):=by
 intro g w vs hI hv
 refine .inl ⟨Go.Proofs.enters_of Tryz.func44 P7 rfl _ _,?_⟩
 obtain ⟨v1,vs,rfl,r1,hv⟩:=hv.cons_inv
 obtain ⟨v2,vs,rfl,r2,hv⟩:=hv.cons_inv
 rw [hv.cG,r1.bx,r2.bx]
 refine (w44 e a w).mono ?_
 rintro r w' ⟨rfl,⟨h,rfl⟩|⟨h,rfl⟩⟩
 ·exact ⟨_, .tup [],σ,g, .inl ⟨rfl,(),by simp [qd,h],rfl,rfl⟩,hI, .refl g _, .eN .nil⟩
 ·exact ⟨_,jP TS (e,a),σ0,g, .inr ⟨rfl,(e,a),by simp [qd,h],rfl,rfl⟩,hI.lw hl, .refl g _, .ifc _ _ _ (.gH ⟨.cons (.int _ _) (.cons (.int _ _) .nil),by simp [Value.oneCell']⟩)⟩
theorem rC {g:Gh} {σ:St} {w:World} {fr:Fr} {a:Act} {N id:Nat} {ops:Array Oper} {l:List CI} {K:Fr→St→Prop} {Q:Exit→Act→World→Prop} (hl:df Tryz.prog N ops ops.toList l=true) (hS:Sim g σ w fr a N) (h:da Tryz.prog l fr σ K)
  (hQ:∀ fr' σ' g' w' a',K fr' σ'→Sim g' σ' w' fr' a' N→Ext g w g' w'→a'.defers=a.defers→Q .normal a' w'):(Code.region id ops false).wp Tryz.prog Q a w :=
 (wpIn_wide (n:=0)).1 (wpIn_region_list (iu ops (rn:=none) ops.toList l g σ w fr a K hl hS h hQ))
theorem tZ {g:Gh} {σ:St} {w:World} {fr:Fr} {a:Act} {N t:Nat} {b:Bool} (hS:Sim g σ w fr a N) (h:slot t fr= .bool b):a.eval (.tmp t)= .bool b:=by
 have:=hS.rel t
 rw [h] at this
 exact this.dC
def z2:List AV:= [.int .i64 0, .int .i64 0]
theorem KG {g:Gh} {σ:St} {w:World} {β b:Nat} (hI:Inv g σ w) (hβ:σ.box β=some z2) (hg:g.box β=some b) (e a:Int) :
    CallsD Tryz.prog 86 #[.pointer (some ⟨b,0,none⟩)] (.panicking [{ v:= .iface TS (.agg #[.int .i64 e, .int .i64 a]),recovered:=false }]) w fun r u' w' =>
      r= .returned (.tuple #[])∧u'= .panicking [{ v:= .iface TS (.agg #[.int .i64 e, .int .i64 a]),recovered:=true }]∧∃ g',Inv g' (σ.aa β [.int .i64 e, .int .i64 a]) w'∧Ext g w g' w':=by
  refine callsD_of_wpS Tryz.func86 rfl fun c₀ cs hu=>?_
  apply wpS_seq
  apply wpS_region
  simp [wpOpsS,go_sem,recoverD,hu,Tryz.ntmps86,Exit.thenS]
  refine wpS_of_wp ?_
  have hS:Sim g σ w [(0, .ptr β 0),(1, .ifc TS (.agg [.int .i64 e, .int .i64 a]))] { tmps:= #[Value.pointer (some { block:=b,off:=0 })]++((Array.replicate 16 undef).setIfInBounds 3 (Value.iface TS (Value.agg #[Value.int IntKind.i64 e,Value.int IntKind.i64 a]))).setIfInBounds 0 (Value.iface TS (Value.agg #[Value.int IntKind.i64 e,Value.int IntKind.i64 a])),defers:= [] } 17:=by
    refine ⟨hI,fun t=>?_,by simp, .nil⟩
    rw [Array.getD_eq_getD_getElem?]
    cases t with
    | zero=>simp only [slot,if_true];rw [Array.getElem?_append_left Qd];exact .ptr _ _ _ hg
    | succ t =>
      rw [Array.getElem?_append_right Qd]
      cases t with
      | zero =>
        simp only [slot]
        rw [Array.getElem?_setIfInBounds]
        simp
        exact .ifc _ _ _ (.gH ⟨.cons (.int _ _) (.cons (.int _ _) .nil),by simp [Value.oneCell']⟩)
      | succ t=>simp only [slot];rw [if_neg P6,if_neg P6];exact .junk _
  refine wp_seq (rC (l:= [⟨some 5, .mv (.t 1),none⟩,⟨some 6, .isnil 3 true (.t 5),none⟩]) (K:=fun f s=>slot 0 f= .ptr β 0∧slot 1 f= .ifc TS (.agg [.int .i64 e, .int .i64 a])∧slot 6 f= .bool true∧s=σ) P7 hS ?_ ?_)
  · simp only [↓R1,RR,seval]
    intro b hb
    subst hb
    rfl
  rintro f1 s1 g1 w1 a1 ⟨h0,h1,h6,hs⟩ hS1 hE1 hd1
  rw [hs] at hS1
  simp only [Exit.then]
  refine wp_cond_true (tZ hS1 h6) ?_
  refine wp_seq (rC (l:= [⟨some 8, .mv (.t 1),none⟩,⟨some 9, .asT [137] [] false (.agg [.int .i64 0, .int .i64 0]) (.t 8),none⟩,⟨some 7, .mv (.t 9),none⟩,⟨some 10, .ext (.t 7) 0,none⟩,⟨some 11, .ext (.t 7) 1,none⟩,⟨some 2, .alloc [.int .i64 0, .int .i64 0],none⟩,⟨none, .st 2 (.t 2) (.t 10),none⟩,⟨some 3, .mv (.t 11),none⟩])
    (K:=fun f s=>∃ γ,σ.box γ=none∧slot 0 f= .ptr β 0∧slot 2 f= .ptr γ 0∧slot 3 f= .bool true∧s=σ.aa γ [.int .i64 e, .int .i64 a]) P7 hS1 ?_ ?_)
  · simp only [h1,↓R1,RR,seval]
    rw [ah]
    intro γ hγ
    simp only [h0,↓R1,RR,seval]
    exact ⟨γ,hγ,by simp⟩
  rintro f2 s2 g2 w2 a2 ⟨γ,hγ,h0,h2,h3,hs2⟩ hS2 hE2 hd2
  rw [hs2] at hS2
  have hne:β≠γ:=fun e=>by rw [e,hγ] at hβ;cases hβ
  simp only [Exit.then]
  refine wp_seq (wp_seq (rC (l:= [⟨some 12, .mv (.t 3),none⟩,⟨some 13, .un .not (.t 12),none⟩]) (K:=fun f s=>slot 0 f= .ptr β 0∧slot 2 f= .ptr γ 0∧slot 13 f= .bool false∧s=σ.aa γ [.int .i64 e, .int .i64 a]) P7 hS2 ?_ ?_))
  · simp only [h0,h2,h3,↓R1,RR,seval]
  rintro f3 s3 g3 w3 a3 ⟨h0,h2,h13,hs3⟩ hS3 hE3 hd3
  rw [hs3] at hS3
  simp only [Exit.then]
  refine wp_cond_false (tZ hS3 h13) (wp_skip ?_)
  simp only [Exit.then]
  refine rC (l:= [⟨some 15, .fldA 0 (.t 2),none⟩,⟨some 16, .ld (some 2) (.t 15),none⟩,⟨none, .st 2 (.t 0) (.t 16),none⟩]) (K:=fun _ s=>s=(σ.aa γ [.int .i64 e, .int .i64 a]).aa β [.int .i64 e, .int .i64 a]) P7 hS3 ?_ ?_
  · have hb2:(σ.aa γ [.int .i64 e, .int .i64 a]).box β=some z2:=by simp [St.aa,upd,hne,hβ]
    simp only [h0,h2,↓R1,RR,seval]
    rw [hb2]
    simp only [z2,↓R1,RR,seval]
  rintro f4 s4 g4 w4 a4 hs4 hS4 hE4 hd4
  rw [hs4] at hS4
  refine ⟨by rw [hd4,hd3,hd2,hd1],_,rfl, .tuple #[],by simp [results,Tryz.results86],rfl,rfl,g4,hS4.inv.le ?_,hE1.trans (hE2.trans (hE3.trans hE4))⟩
  rw [St.set_comm _ hne.symm]
  exact St.aD (St.le_refl _) (by simp [St.aa,upd,hne.symm,hγ])
theorem KH (b:Nat) (w:World) :
  CallsD Tryz.prog 86 #[.pointer (some ⟨b,0,none⟩)] .returning w fun e u' w'=>e= .returned (.tuple #[])∧u'= .returning∧w'=w:=by
 refine callsD_of_wpS Tryz.func86 rfl fun c₀ cs hu=>?_
 apply wpS_seq
 apply wpS_region
 simp [wpOpsS,go_sem,recoverD,hu,Tryz.ntmps86,Exit.thenS]
 apply wpS_seq
 apply wpS_region
 simp [wpOpsS,go_sem,Exit.thenS]
 refine wpS_cond (t:=false) (by simp [Act.eval,Array.replicate]) ?_
 simp only [Bool.false_eq_true,if_false]
 refine wpS_of_wp (wp_skip ?_)
 cases c₀
 simp_all [bodyPostS,results,Tryz.results86]
theorem DV {g:Gh} {w:World} {a b:Int} {us:List Value} (h:RelC g w [.int .i64 a, .int .i64 b] us):us= [.int .i64 a, .int .i64 b]:=by
 obtain ⟨v1,vs,rfl,r1,h2⟩:=h.1.cons_inv
 obtain ⟨v2,vs,rfl,r2,h3⟩:=h2.cons_inv
 rw [h3.cG,r1.bx,r2.bx]
theorem k7 {w:World} {b o:Nat} {vs:Array Value} {T:TypeId} {q:Nat × Nat} {v:Value} (hb:w.heap[b]? =some (.cells vs T q)) (hv:vs[o]? =some v):w.setCell ⟨b,o,none⟩ v=w:=by
 have hlt:=(Array.getElem?_eq_some_iff.1 hb).1
 have hbe:=(Array.getElem?_eq_some_iff.1 hb).2
 have hm:∀ f:Obj→Obj,f (.cells vs T q)= .cells vs T q→w.heap.modify b f=w.heap:=by
  intro f hf
  apply Array.ext_getElem?
  intro i
  rw [Array.getElem?_modify]
  split
  ·rename_i e;subst e;rw [hb,Option.map_some,hf]
  ·rfl
 simp only [World.setCell]
 rw [hm]
 obtain ⟨h1,h2⟩:=Array.getElem?_eq_some_iff.1 hv
 simp only [Option.isSome_none,Bool.false_eq_true,if_false,Obj.cells.injEq,and_true]
 apply Array.ext_getElem?
 intro i
 rw [Array.getElem?_setIfInBounds]
 split
 ·rename_i e;subst e;rw [hv]
 ·rfl
def rD (f:Ft):AV:= .agg [.int .i64 f.1, .int .i64 f.2]
theorem _root_.Rn {p:Prop} (h:p:=by simp [World.cell?,k2]):p:=h
theorem a40 {α:Type} {fc:Nat} {cap:List AV} {σ:St} {o:Except Ft α} {s1:α→St} {s0:St} (hent:∀ xs w,(callFunc fc xs).run Tryz.prog w= .ok (.enter fc xs) w)
  (h:∀ β,σ.box β=none→AX Tryz.prog fc cap (σ.aa β z2) (oX TS o (fun _=> .tup []) (fun a=>(s1 a).aa β z2) (s0.aa β z2)))
  (h1:∀ β a,σ.box β=none→(s1 a).box β=none) (h0:∀ β,σ.box β=none→s0.box β=none) :
  AC Tryz.prog 40 [.fn fc cap] σ (fun r s=>(∃ a,o= .ok a∧r=rD (0,0)∧s=s1 a)∨∃ f,o= .error f∧r=rD f∧s=s0):=by
 intro g w vs hI hv
 refine .inl ⟨Go.Proofs.enters_of Tryz.func40 P7 rfl _ _,?_⟩
 obtain ⟨v1,vs2,rfl,r1,hv2⟩:=hv.cons_inv
 have hvn:=hv2.cG
 subst hvn
 obtain ⟨us,rfl,hu⟩:=r1.nq
 have hnb:=eE hI
 have hI1:=hI.bp (cs:=z2) (vs:= #[.int .i64 0, .int .i64 0]) (T:=26) ⟨.cons (.int _ _) (.cons (.int _ _) .nil),by simp [Value.oneCell']⟩
 have hE1:=Ext.bp hI (.cells #[.int .i64 0, .int .i64 0] 26)
 have hbox:(g.bp w).box g.nb=some w.heap.size:=Q4
 have hmf:∀ (fn:Fn) (first cap:Array Value) (w:World),(Instr.makeFunc fn first cap).run Tryz.prog w= .ok (.func fn first cap) w:=fun _ _ _ _=>rfl
 have hent1:=hent us.toArray (w.alloc (.cells #[.int .i64 0, .int .i64 0] 26))
 have hc:Calls Tryz.prog fc us.toArray (w.alloc (.cells #[.int .i64 0, .int .i64 0] 26)) (CPX (g.bp w) (w.alloc (.cells #[.int .i64 0, .int .i64 0] 26)) (oX TS o (fun _=> .tup []) (fun a=>(s1 a).aa g.nb z2) (s0.aa g.nb z2))):=by
  rcases h g.nb hnb (g.bp w) _ us hI1 (hu.mono hE1) with ⟨_,h2⟩|⟨v,w',h2,_⟩
  ·exact h2
  ·rw [hent] at h2;cases h2
 go_enter_defers Tryz.func40,Tryz.ntmps40
 go_wp2
 refine hc.mono ?_
 rintro e w' ⟨v,r,σ',g',(⟨rfl,a,ho,rfl,rfl⟩|⟨rfl,f,ho,rfl,rfl⟩),hI',hE',hr⟩
 ·have hbx:(St.aa (s1 a) g.nb z2).box g.nb=some z2:=St.cA _ _ _
  obtain ⟨b,vs,T,k1,k2,k3⟩:=hI'.box _ _ hbx
  rw [hE'.box _ _ hbox] at k1
  cases k1
  have hvs:vs= #[.int .i64 0, .int .i64 0]:=by rw [←Array.toList_inj];exact DV k3
  subst hvs
  have hc0:w'.cell? ⟨w.heap.size,0,none⟩=some (.int .i64 0):=Rn
  have hc1:w'.cell? ⟨w.heap.size,1,none⟩=some (.int .i64 0):=Rn
  have hf0:w'.frozen? ⟨w.heap.size,0,none⟩=false:=by simp [World.frozen?,k2]
  have hs0:w'.setCell ⟨w.heap.size,0,none⟩ (.int .i64 0)=w':=k7 k2 Qd
  have hs1:w'.setCell ⟨w.heap.size,1,none⟩ (.int .i64 0)=w':=k7 k2 Qd
  have hf1:w'.frozen? ⟨w.heap.size,1,none⟩=false:=by simp [World.frozen?,k2]
  simp only
  rename_i hk1 _ hk2
  refine hk2 _ _ ?_
  unfold wpList
  simp only [Exit.then]
  refine hk1 _ _ ?_
  go_wp2
  show Leaves _ _ _ _ _ _ _
  refine leaves_cons (f:=86) (args:= #[.pointer (some ⟨w.heap.size,0,none⟩)]) Qd (by simp [go_sem]) ?_
  refine (KH _ _).mono ?_
  rintro e u' w'' ⟨rfl,rfl,rfl⟩
  simp [Leaves,settle,results,Tryz.results40,go_sem,hc0,hc1]
  exact ⟨_,rD (0,0),s1 a,g',rfl,(by first|exact .inl ⟨a,ho,rfl,rfl⟩|exact ⟨rfl,rfl⟩|simp [ho]),hI'.le (St.aD (St.le_refl _) (h1 _ a hnb)),hE1.trans hE', .gH ⟨.cons (.int _ _) (.cons (.int _ _) .nil),by simp [Value.oneCell']⟩⟩
 ·obtain ⟨u,rfl,hu2⟩:=hr.qp
  obtain ⟨us2,rfl,hu3⟩:=hu2.dT
  have hus:=DV hu3
  subst hus
  have hbx:(St.aa s0 g.nb z2).box g.nb=some z2:=St.cA _ _ _
  show Leaves _ _ _ _ _ _ _
  refine leaves_cons (f:=86) (args:= #[.pointer (some ⟨w.heap.size,0,none⟩)]) Qd (by simp [go_sem]) ?_
  refine (KG hI' hbx (hE'.box _ _ hbox) f.1 f.2).mono ?_
  rintro e u' w'' ⟨rfl,rfl,g2,hI2,hE2⟩
  rw [St.set_set] at hI2
  have hbx2:(St.aa s0 g.nb [.int .i64 f.1, .int .i64 f.2]).box g.nb=some [.int .i64 f.1, .int .i64 f.2]:=St.cA _ _ _
  obtain ⟨b,vs,T,k1,k2,k3⟩:=hI2.box _ _ hbx2
  rw [hE2.box _ _ (hE'.box _ _ hbox)] at k1
  cases k1
  have hvs:vs= #[.int .i64 f.1, .int .i64 f.2]:=by rw [←Array.toList_inj];exact DV k3
  subst hvs
  have hc0:w''.cell? ⟨w.heap.size,0,none⟩=some (.int .i64 f.1):=Rn
  have hc1:w''.cell? ⟨w.heap.size,1,none⟩=some (.int .i64 f.2):=Rn
  simp [Leaves,settle,results,Tryz.results40,go_sem,hc0,hc1]
  exact ⟨_,rD f,s0,g2,rfl, .inr ⟨f.1,f.2,ho,rfl,rfl⟩,hI2.le (St.aD (St.le_refl _) (h0 _ hnb)),hE1.trans (hE'.trans hE2), .gH ⟨.cons (.int _ _) (.cons (.int _ _) .nil),by simp [Value.oneCell']⟩⟩
def cur (r:Rw) (k:Nat):List AV:= [.int .i64 (r.a:Nat), .sl false r.ws.length (r.ws.flatMap cWd), .int .i64 (k:Nat)]
theorem ft (l:List Wd):(l.flatMap cWd).length=l.length*3:=by
 induction l with
 | nil=>rfl
 | cons w l ih=>simp only [List.flatMap_cons,List.length_append,List.length_cons,ih];simp only [cWd,List.length_cons,List.length_nil];omega
theorem oo {l:List Wd} {k:Nat} {w:Wd} (h:l[k]? =some w):((l.flatMap cWd).drop (k*3)).take 3=cWd w:=by
  induction l generalizing k with
  | nil=>simp at h
  | cons x l ih =>
    cases k with
    | zero=>simp at h;subst h;simp [cWd]
    | succ k =>
      simp only [List.getElem?_cons_succ] at h
      have:=ih h
      rw [List.flatMap_cons,show (k+1)*3=(cWd x).length+k*3 by simp [cWd];omega,List.drop_append,List.drop_eq_nil_of_le P6,List.nil_append,Nat.add_sub_cancel_left]
      exact this
theorem _root_.Qv {p:Prop} (h:p:=by first|assumption|(simp only [St.b9,St.bA];assumption)):p:=h
theorem _root_.QE {p:Prop} (h:p:=by first|assumption|(simp only [St.aU,St.cV];assumption)):p:=h
set_option maxHeartbeats 2000000 in
theorem a182 {σ:St} {β k:Nat} {rw_:Rw} {w:Wd} (hb:σ.box β=some (cur rw_ k)) (hw:rw_.ws[k]? =some w) (hl:rw_.ws.length≤20000):AC Tryz.prog 182 [.ptr β 0] σ (fun r s=>r= .agg (cWd w)∧s=σ.aa β (cur rw_ (k+1))):=by
 have hlt:=(List.getElem?_eq_some_iff.1 hw).1
 haveI:BoxIs σ β [.int .i64 (rw_.a:Nat), .sl false rw_.ws.length (rw_.ws.flatMap cWd), .int .i64 (k:Nat)]:=⟨hb⟩
 have he1:IntKind.i64.wrap ((k:Int)+1)=((k+1:Nat):Int):=P9
 have he2:IntKind.i64.wrap (((k+1:Nat):Int) - 1)=(k:Nat):=P9
 have he3:=oo hw
 have hln:=ft rw_.ws
 have hc3:(cWd w).length=3:=rfl
 have hc4:(cWd w).take 3=cWd w:=rfl
 (refine fW J7 ON ?_;simp only [J7,↓R1,RR,seval,he1,he2,he3,cur,hc3,hc4])
 repeat' (first|(with_reducible rw [ah])|(with_reducible refine And.intro ?_ ?_;exact af)|((with_reducible intro β hβ;(try simp only [RB] at hβ);(repeat (obtain ⟨⟨_,_⟩,hβ⟩:=hβ));(try (have hbis:=aj Qa hβ;obtain ⟨_,_⟩:=hbis)))<;>(try simp only [↓R1,RR,seval,he1,he2,he3,cur,hc3,hc4])))
 all_goals (try omega)
 all_goals (try (simp only [hc4];omega))
 all_goals (try (simp [hc3];done))
 (refine vl ?_ ?_ (by first|(simp [av,rvS];done)|(simp only [av,rvS,↓R1,RR,seval,he1,he2,he3,cur,hc3,hc4];try simp)))
 ·simp only [an,↓R1,RR,seval,he1,he2,he3,cur,hc3,hc4]
  simp only [cWd]
  exact ae _
 ·(repeat' (first|exact St.ax _|(refine St.cJ ?_)|(refine St.cX ?_ Qv)|(refine St.dw ?_ ?_)|(refine St.cI ?_ QE)|exact wkL.nil|exact ad _|(refine wkL.cons ?_ ?_)|exact ae _|exact cu|exact cw _ _ _|exact bU _ _))
def dQ {α:Type} (w:Wd) (x:α) (e:Int):Except Ft α:=if w.q=true then .error (3,w.a) else if e=0 then .ok x else .error (e,w.a)
theorem nh {α:Type} {w:Wd} {x:α} {e:Int} (h:w.q=true):dQ w x e= .error (3,(w.a:Int)):=by simp [dQ,h]
theorem ni {α:Type} {w:Wd} {x:α} {e:Int} (h:w.q=false) (he:e≠0):dQ w x e= .error (e,(w.a:Int)):=by simp [dQ,h,he]
theorem k8 {α:Type} {w:Wd} {x:α} {e:Int} (h:w.q=false) (he:e=0):dQ w x e= .ok x:=by simp [dQ,h,he]
theorem dJ {σ0 σ:St} {β:Nat} (h:St.lw σ0 σ) (hn:σ.box β=none):σ0.box β=none:=by
 cases hb:σ0.box β with
 | none=>rfl
 | some c=>obtain ⟨c',h1,_⟩:=h.1 β c hb;rw [hn] at h1;cases h1
theorem ew {σ0 σ:St} {τ:Nat} (h:St.lw σ0 σ) (hn:σ.tip τ=none):σ0.tip τ=none:=by
 cases hb:σ0.tip τ with
 | none=>rfl
 | some c=>rw [h.2.1 τ c hb] at hn;cases hn
theorem _root_.Qh {p:Prop} (h:p:=by first|assumption|exact ew (by assumption) (by assumption)|(simp only [St.b9,St.bA];assumption)):p:=h
theorem _root_.Ql {p:Prop} (h:p:=by first|assumption|exact dJ (by assumption) (by assumption)|(simp only [St.aU,St.cV];assumption)):p:=h
theorem cL {p:Prop} (h:p:=by repeat' (first|assumption|exact St.ax _|(refine St.cJ ?_)|(refine St.cX ?_ Qh)|(refine St.dw ?_ ?_)|(refine St.cI ?_ Ql)|exact wkL.nil|exact ad _|(refine wkL.cons ?_ ?_)|exact ae _|exact cu|exact cw _ _ _|exact bU _ _)):p:=h
theorem bR {σ0 s:St} {e a:Int} {d:Option Nat} {l:List XI} {fr:Fr} {Q:Exit→Fr→St→Prop} {h:Hold (s,l,fr,Q)} (he:e≠0) (hl:St.lw σ0 s) (hq:Q (.panic []) [(0,jP TS (e,a))] σ0):sM Tryz.prog 44 [.int .i64 e, .int .i64 a] s d l fr Q h :=
 bF (x44 e a s σ0 hl) (ad _) (fun _ ho=>by rw [qd,if_neg he] at ho;cases ho) (fun f ho=>by rw [qd,if_neg he] at ho;cases ho;exact hq)
theorem gj {s:St} {e a:Int} {d:Option Nat} {l:List XI} {fr:Fr} {Q:Exit→Fr→St→Prop} {h:Hold (s,l,fr,Q)} (he:e=0) (hq:cC Tryz.prog l (putF d (.tup []) fr) s Q):sM Tryz.prog 44 [.int .i64 e, .int .i64 a] s d l fr Q h :=
 bF (x44 e a s s (St.ax _)) (ad _) (fun _ ho=>hq) (fun f ho=>by rw [qd,if_pos he] at ho;cases ho)
theorem _root_.Qx {p:Prop} (h:p:=by simp only [↓R1,RR,seval,hq,cWd,RX]):p:=h
theorem _root_.Q3 {p:Prop} (h:p:=by exact cL):p:=h
set_option maxHeartbeats 2000000 in
theorem MW {f:Nat} {cap:List AV} {σ σ0:St} {β k:Nat} {rw_:Rw} {w:Wd} {x:Int} {e:Int} (hb:σ.box β=some (cur rw_ k)) (hw:rw_.ws[k]? =some w) (hl:rw_.ws.length≤20000) (h0:σ0.box β=none) (hlw:St.lw σ0 σ)
    (hr:∀ s:St,s.glob=σ.glob→AC Tryz.prog f (.agg (cWd w)::cap) s (fun r s'=>r= .tup [.int .u64 x, .int .i64 e]∧s'=s)) :
    AX Tryz.prog 202 [.ptr β 0, .fn f cap] σ (oX TS (dQ w x e) (fun v=> .int .u64 v) (fun _=>σ.aa β (cur rw_ (k+1))) σ0):=by
  have hlt:=(List.getElem?_eq_some_iff.1 hw).1
  haveI:BoxIs σ β (cur rw_ k):=⟨hb⟩
  have hr':∀ s:St,s.glob=σ.glob→AC Tryz.prog f (.agg [.bool w.q, .str w.t, .int .i64 (w.a:Nat)]::cap) s (fun r s'=>r= .tup [.int .u64 x, .int .i64 e]∧s'=s):=hr
  cases hq:w.q with
  | true =>
    have ho:=nh (x:=x) (e:=e) hq
    (refine bd vv J8 ?_;simp only [vv,↓R1,RR,seval,hq,cWd,RX])
    repeat' (first|(with_reducible rw [ah])|((first|(with_reducible intro β hβ;(try simp only [RB] at hβ);(repeat (obtain ⟨⟨_,_⟩,hβ⟩:=hβ));(try (have hbis:=aj Qa hβ;obtain ⟨_,_⟩:=hbis)))|((refine AC.mono (AC.wk (a182 (k:=k) (rw_:=rw_) (w:=w) Qx hw hl) (ad _)) ?_;(rintro _ _ ⟨rfl,rfl⟩)))|((refine bR (σ0:=σ0) Qg Q3 ?_)))<;>(try simp only [↓R1,RR,seval,hq,cWd,RX])))
    exact aO ho (St.ax _)
  | false =>
    rw [hq] at hr'
    by_cases he:e=0
    · have ho:=k8 (x:=x) hq he
      (refine bd vv J8 ?_;simp only [vv,↓R1,RR,seval,hq,cWd,RX])
      repeat' (first|(with_reducible rw [ah])|((first|(with_reducible intro β hβ;(try simp only [RB] at hβ);(repeat (obtain ⟨⟨_,_⟩,hβ⟩:=hβ));(try (have hbis:=aj Qa hβ;obtain ⟨_,_⟩:=hbis)))|((refine AC.mono (AC.wk (a182 (k:=k) (rw_:=rw_) (w:=w) Qx hw hl) (ad _)) ?_;(rintro _ _ ⟨rfl,rfl⟩)))|((refine AC.mono (AC.wk (hr' _ rfl) (ad _)) ?_;(rintro _ _ ⟨rfl,rfl⟩)))|((refine gj he ?_)))<;>(try simp only [↓R1,RR,seval,hq,cWd,RX])))
      (refine dM Qa ?_ ?_)
      · simp only [an,↓R1,RR,seval,hq,cWd,RX]
        exact ae _
      · exact cL
    · have ho:=ni (x:=x) hq he
      (refine bd vv J8 ?_;simp only [vv,↓R1,RR,seval,hq,cWd,RX])
      repeat' (first|(with_reducible rw [ah])|((first|(with_reducible intro β hβ;(try simp only [RB] at hβ);(repeat (obtain ⟨⟨_,_⟩,hβ⟩:=hβ));(try (have hbis:=aj Qa hβ;obtain ⟨_,_⟩:=hbis)))|((refine AC.mono (AC.wk (a182 (k:=k) (rw_:=rw_) (w:=w) Qx hw hl) (ad _)) ?_;(rintro _ _ ⟨rfl,rfl⟩)))|((refine AC.mono (AC.wk (hr' _ rfl) (ad _)) ?_;(rintro _ _ ⟨rfl,rfl⟩)))|((refine bR (σ0:=σ0) he Q3 ?_)))<;>(try simp only [↓R1,RR,seval,hq,cWd,RX])))
      exact aO ho (St.ax _)
set_option maxHeartbeats 2000000 in
theorem PH {f:Nat} {cap:List AV} {σ σ0:St} {β k:Nat} {rw_:Rw} {w:Wd} {x:Int} {e:Int} (hb:σ.box β=some (cur rw_ k)) (hw:rw_.ws[k]? =some w) (hl:rw_.ws.length≤20000) (h0:σ0.box β=none) (hlw:St.lw σ0 σ)
    (hr:∀ s:St,s.glob=σ.glob→AC Tryz.prog f (.agg (cWd w)::cap) s (fun r s'=>r= .tup [.int .i64 x, .int .i64 e]∧s'=s)) :
    AX Tryz.prog 205 [.ptr β 0, .fn f cap] σ (oX TS (dQ w x e) (fun v=> .int .i64 v) (fun _=>σ.aa β (cur rw_ (k+1))) σ0):=by
  have hlt:=(List.getElem?_eq_some_iff.1 hw).1
  haveI:BoxIs σ β (cur rw_ k):=⟨hb⟩
  have hr':∀ s:St,s.glob=σ.glob→AC Tryz.prog f (.agg [.bool w.q, .str w.t, .int .i64 (w.a:Nat)]::cap) s (fun r s'=>r= .tup [.int .i64 x, .int .i64 e]∧s'=s):=hr
  cases hq:w.q with
  | true =>
    have ho:=nh (x:=x) (e:=e) hq
    (refine bd vw Ka ?_;simp only [vw,↓R1,RR,seval,hq,cWd,RX])
    repeat' (first|(with_reducible rw [ah])|((first|(with_reducible intro β hβ;(try simp only [RB] at hβ);(repeat (obtain ⟨⟨_,_⟩,hβ⟩:=hβ));(try (have hbis:=aj Qa hβ;obtain ⟨_,_⟩:=hbis)))|((refine AC.mono (AC.wk (a182 (k:=k) (rw_:=rw_) (w:=w) Qx hw hl) (ad _)) ?_;(rintro _ _ ⟨rfl,rfl⟩)))|((refine bR (σ0:=σ0) Qg Q3 ?_)))<;>(try simp only [↓R1,RR,seval,hq,cWd,RX])))
    exact aO ho (St.ax _)
  | false =>
    rw [hq] at hr'
    by_cases he:e=0
    · have ho:=k8 (x:=x) hq he
      (refine bd vw Ka ?_;simp only [vw,↓R1,RR,seval,hq,cWd,RX])
      repeat' (first|(with_reducible rw [ah])|((first|(with_reducible intro β hβ;(try simp only [RB] at hβ);(repeat (obtain ⟨⟨_,_⟩,hβ⟩:=hβ));(try (have hbis:=aj Qa hβ;obtain ⟨_,_⟩:=hbis)))|((refine AC.mono (AC.wk (a182 (k:=k) (rw_:=rw_) (w:=w) Qx hw hl) (ad _)) ?_;(rintro _ _ ⟨rfl,rfl⟩)))|((refine AC.mono (AC.wk (hr' _ rfl) (ad _)) ?_;(rintro _ _ ⟨rfl,rfl⟩)))|((refine gj he ?_)))<;>(try simp only [↓R1,RR,seval,hq,cWd,RX])))
      (refine dM Qa ?_ ?_)
      · simp only [an,↓R1,RR,seval,hq,cWd,RX]
        exact ae _
      · exact cL
    · have ho:=ni (x:=x) hq he
      (refine bd vw Ka ?_;simp only [vw,↓R1,RR,seval,hq,cWd,RX])
      repeat' (first|(with_reducible rw [ah])|((first|(with_reducible intro β hβ;(try simp only [RB] at hβ);(repeat (obtain ⟨⟨_,_⟩,hβ⟩:=hβ));(try (have hbis:=aj Qa hβ;obtain ⟨_,_⟩:=hbis)))|((refine AC.mono (AC.wk (a182 (k:=k) (rw_:=rw_) (w:=w) Qx hw hl) (ad _)) ?_;(rintro _ _ ⟨rfl,rfl⟩)))|((refine AC.mono (AC.wk (hr' _ rfl) (ad _)) ?_;(rintro _ _ ⟨rfl,rfl⟩)))|((refine bR (σ0:=σ0) he Q3 ?_)))<;>(try simp only [↓R1,RR,seval,hq,cWd,RX])))
      exact aO ho (St.ax _)
set_option maxHeartbeats 2000000 in
theorem PI {f:Nat} {cap:List AV} {σ σ0:St} {β k:Nat} {rw_:Rw} {w:Wd} {x:Int} {e:Int} (hb:σ.box β=some (cur rw_ k)) (hw:rw_.ws[k]? =some w) (hl:rw_.ws.length≤20000) (h0:σ0.box β=none) (hlw:St.lw σ0 σ)
    (hr:∀ s:St,s.glob=σ.glob→AC Tryz.prog f (.agg (cWd w)::cap) s (fun r s'=>r= .tup [.int .i64 x, .int .i64 e]∧s'=s)) :
    AX Tryz.prog 207 [.ptr β 0, .fn f cap] σ (oX TS (dQ w x e) (fun v=> .int .i64 v) (fun _=>σ.aa β (cur rw_ (k+1))) σ0):=by
  have hlt:=(List.getElem?_eq_some_iff.1 hw).1
  haveI:BoxIs σ β (cur rw_ k):=⟨hb⟩
  have hr':∀ s:St,s.glob=σ.glob→AC Tryz.prog f (.agg [.bool w.q, .str w.t, .int .i64 (w.a:Nat)]::cap) s (fun r s'=>r= .tup [.int .i64 x, .int .i64 e]∧s'=s):=hr
  cases hq:w.q with
  | true =>
    have ho:=nh (x:=x) (e:=e) hq
    (refine bd vz Kb ?_;simp only [vz,↓R1,RR,seval,hq,cWd,RX])
    repeat' (first|(with_reducible rw [ah])|((first|(with_reducible intro β hβ;(try simp only [RB] at hβ);(repeat (obtain ⟨⟨_,_⟩,hβ⟩:=hβ));(try (have hbis:=aj Qa hβ;obtain ⟨_,_⟩:=hbis)))|((refine AC.mono (AC.wk (a182 (k:=k) (rw_:=rw_) (w:=w) Qx hw hl) (ad _)) ?_;(rintro _ _ ⟨rfl,rfl⟩)))|((refine bR (σ0:=σ0) Qg Q3 ?_)))<;>(try simp only [↓R1,RR,seval,hq,cWd,RX])))
    exact aO ho (St.ax _)
  | false =>
    rw [hq] at hr'
    by_cases he:e=0
    · have ho:=k8 (x:=x) hq he
      (refine bd vz Kb ?_;simp only [vz,↓R1,RR,seval,hq,cWd,RX])
      repeat' (first|(with_reducible rw [ah])|((first|(with_reducible intro β hβ;(try simp only [RB] at hβ);(repeat (obtain ⟨⟨_,_⟩,hβ⟩:=hβ));(try (have hbis:=aj Qa hβ;obtain ⟨_,_⟩:=hbis)))|((refine AC.mono (AC.wk (a182 (k:=k) (rw_:=rw_) (w:=w) Qx hw hl) (ad _)) ?_;(rintro _ _ ⟨rfl,rfl⟩)))|((refine AC.mono (AC.wk (hr' _ rfl) (ad _)) ?_;(rintro _ _ ⟨rfl,rfl⟩)))|((refine gj he ?_)))<;>(try simp only [↓R1,RR,seval,hq,cWd,RX])))
      (refine dM Qa ?_ ?_)
      · simp only [an,↓R1,RR,seval,hq,cWd,RX]
        exact ae _
      · exact cL
    · have ho:=ni (x:=x) hq he
      (refine bd vz Kb ?_;simp only [vz,↓R1,RR,seval,hq,cWd,RX])
      repeat' (first|(with_reducible rw [ah])|((first|(with_reducible intro β hβ;(try simp only [RB] at hβ);(repeat (obtain ⟨⟨_,_⟩,hβ⟩:=hβ));(try (have hbis:=aj Qa hβ;obtain ⟨_,_⟩:=hbis)))|((refine AC.mono (AC.wk (a182 (k:=k) (rw_:=rw_) (w:=w) Qx hw hl) (ad _)) ?_;(rintro _ _ ⟨rfl,rfl⟩)))|((refine AC.mono (AC.wk (hr' _ rfl) (ad _)) ?_;(rintro _ _ ⟨rfl,rfl⟩)))|((refine bR (σ0:=σ0) he Q3 ?_)))<;>(try simp only [↓R1,RR,seval,hq,cWd,RX])))
      exact aO ho (St.ax _)
def hG (q:Bool) (t:List UInt8) (lo hi:Int):Int × Int :=
 bif q|| !dr t then (0,3)
 else bif (decide (18446744073709551616≤bO t)||decide (((bO t % 18446744073709551616:Nat):Int)<lo))||decide (hi<((bO t % 18446744073709551616:Nat):Int)) then (0,2)
 else (((bO t % 18446744073709551616:Nat):Int),0)
theorem xB (q:Bool) (t:List UInt8) (lo hi:Int):zZ q t lo hi= .tup [.int .u64 (hG q t lo hi).1, .int .i64 (hG q t lo hi).2]:=by
 unfold zZ hG
 cases (q|| !dr t)<;>simp only [cond_true,cond_false]
 cases ((decide (18446744073709551616≤bO t)||decide (((bO t % 18446744073709551616:Nat):Int)<lo))||decide (hi<((bO t % 18446744073709551616:Nat):Int)))<;>rfl
def mI (q:Bool) (t:List UInt8):Int × Int :=
 bif (q|| !dr (bZ t))||(eW t&&decide (bO (bZ t)=0)) then (0,3)
 else bif (decide (18446744073709551616≤bO (bZ t))||decide (9223372036854775808<bO (bZ t)))||(decide (bO (bZ t)=9223372036854775808)&& !eW t) then (0,2)
 else ((bif eW t then -((bO (bZ t):Nat):Int) else ((bO (bZ t):Nat):Int)),0)
theorem ua (q:Bool) (t:List UInt8):qc q t= .tup [.int .i64 (mI q t).1, .int .i64 (mI q t).2]:=by
 unfold qc mI
 cases ((q|| !dr (bZ t))||(eW t&&decide (bO (bZ t)=0)))<;>simp only [cond_true,cond_false]
 cases ((decide (18446744073709551616≤bO (bZ t))||decide (9223372036854775808<bO (bZ t)))||(decide (bO (bZ t)=9223372036854775808)&& !eW t))<;>rfl
def PJ (s:List UInt8):Int × Int:=bif MG s then (((eC (hS s 35)).l.toNat:Nat),(MF (tS s 35):Nat)) else (0,0)
def ay (w:Wd):Except Ft Int:=dQ w (hG w.q w.t 0 1099511627776).1 (hG w.q w.t 0 1099511627776).2
def bG (w:Wd):Except Ft Int:=dQ w (mI w.q w.t).1 (mI w.q w.t).2
def a7 (w:Wd):Except Ft Int:=dQ w (((eC w.t).l.toNat:Nat):Int) ((eC w.t).err:Nat)
def iP (w:Wd):Except Ft Int:=dQ w (tD w.t) (Dz w.t)
def PK (w:Wd):Except Ft (Int × Int):=dQ w (PJ w.t) (Pb w.t)
def HK (w:Wd):Except Ft (List UInt8):=if 1000<w.t.length then .error (4,w.a) else .ok w.t
theorem PL (w:Wd) (hl:w.t.length≤1000000):Pu Tryz.prog 224 [.agg (cWd w)] (.tup [.int .u64 (hG w.q w.t 0 1099511627776).1, .int .i64 (hG w.q w.t 0 1099511627776).2]):=by
 have hn:=Px w.q w.t (w.a:Nat) 0 1099511627776 hl
 rw [xB] at hn
 simp only [cWd]
 (refine al Ke OR fun σ=>?_;simp only [Ke,↓R1,RR,seval])
 repeat' ((first|(with_reducible intro β hβ;(try simp only [RB] at hβ);(repeat (obtain ⟨⟨_,_⟩,hβ⟩:=hβ));(try (have hbis:=aj Qa hβ;obtain ⟨_,_⟩:=hbis)))|(refine Pt (hn) ?_))<;>(try simp only [↓R1,RR,seval]))
 (refine ak (ag ?_))
 (simp only [an,↓R1,RR,seval])
theorem PM (w:Wd) (hl:w.t.length≤1000000):Pu Tryz.prog 203 [.agg (cWd w)] (.tup [.int .u64 ((eC w.t).l.toNat:Nat), .int .i64 ((eC w.t).err:Nat)]):=by
 have hn:=O6 w.t P6
 simp only [zP] at hn
 simp only [cWd]
 (refine al J9 OO fun σ=>?_;simp only [J9,↓R1,RR,seval])
 repeat' (first|(with_reducible rw [ah])|((first|(with_reducible intro β hβ;(try simp only [RB] at hβ);(repeat (obtain ⟨⟨_,_⟩,hβ⟩:=hβ));(try (have hbis:=aj Qa hβ;obtain ⟨_,_⟩:=hbis)))|(refine Pt (hn) ?_))<;>(try simp only [↓R1,RR,seval])))
 (refine ak (ag ?_))
 (simp only [an,↓R1,RR,seval])
theorem PN (w:Wd) (hl:w.t.length≤1000000):Pu Tryz.prog 208 [.agg (cWd w)] (.tup [.int .i64 (tD w.t), .int .i64 (Dz w.t)]):=by
 have hn:=Pf w.t
 rw [tE] at hn
 simp only [cWd]
 (refine al Kc OP fun σ=>?_;simp only [Kc,↓R1,RR,seval])
 repeat' ((first|(with_reducible intro β hβ;(try simp only [RB] at hβ);(repeat (obtain ⟨⟨_,_⟩,hβ⟩:=hβ));(try (have hbis:=aj Qa hβ;obtain ⟨_,_⟩:=hbis)))|(refine Pt (hn) ?_))<;>(try simp only [↓R1,RR,seval]))
 (refine ak (ag ?_))
 (simp only [an,↓R1,RR,seval])
structure Cu (σ0 σ:St) (β:Nat) (r:Rw) (k:Nat):Prop where
 hb:σ.box β=some (cur r k)
 h0:σ0.box β=none
 lw:St.lw σ0 σ
 n:r.ws.length≤20000
 t:∀ w∈r.ws,w.t.length≤1000000
theorem Cu.to {σ0 σ:St} {β k j:Nat} {r:Rw} (h:Cu σ0 σ β r k):Cu σ0 (σ.aa β (cur r j)) β r j:=⟨St.cA _ _ _,h.h0,St.cI h.lw h.h0,h.n,h.t⟩
theorem Cu.new {σ0 σ:St} {β γ k:Nat} {r:Rw} {c:List AV} (h:Cu σ0 σ β r k) (hn:σ.box γ=none):Cu σ0 (σ.aa γ c) β r k:=by
 have hne:β≠γ:=fun e=>by have:=h.hb;rw [e,hn] at this;cases this
 exact ⟨by simp [St.aa,upd,hne,h.hb],h.h0,St.cI h.lw (dJ h.lw hn),h.n,h.t⟩
theorem Cu.len {σ0 σ:St} {β k:Nat} {r:Rw} {w:Wd} (h:Cu σ0 σ β r k) (hw:r.ws[k]? =some w):w.t.length≤1000000:=h.t w (List.mem_of_getElem? hw)
theorem _root_.Qm {p:Prop} (h:p:=by (repeat' (first|assumption|(refine Cu.to (k:=1) ?_)|(refine Cu.new ?_ (by first|assumption|(simp only [↓R1,RR,seval,RX];done)))))):p:=h
theorem DW {σ σ0:St} {β k:Nat} {r:Rw} {w:Wd} (h:Cu σ0 σ β r k) (hw:r.ws[k]? =some w):AX Tryz.prog 181 [.ptr β 0] σ (oX TS (ay w) (fun v=> .int .u64 v) (fun _=>σ.aa β (cur r (k+1))) σ0):=by
 haveI:BoxIs σ β (cur r k):=⟨h.hb⟩
 have ht:∀ z,Cu σ0 z β r k→z.glob=σ.glob→AX Tryz.prog 202 [.ptr β 0, .fn 224 []] z (oX TS (ay w) (fun v=> .int .u64 v) (fun _=>z.aa β (cur r (k+1))) σ0):=fun z hz hgz=>MW hz.hb hw hz.n hz.h0 hz.lw (fun s _=>PL w (h.len hw) s)
 (refine bd J6 OM ?_;simp only [J6,↓R1,RR,seval,RX])
 repeat' (((refine bF (ht _ Qm rfl) (ad _) (fun a ho=>?_) (fun e ho=>?_)))<;>(try simp only [↓R1,RR,seval,RX]))
 all_goals first|exact aO ho (St.ax _)|(refine dM ho ?_ ?_;(focus (simp only [an,↓R1,RR,seval,RX];exact ae _));exact cL)
theorem KI {σ σ0:St} {β k:Nat} {r:Rw} {w:Wd} (h:Cu σ0 σ β r k) (hw:r.ws[k]? =some w):AX Tryz.prog 151 [.ptr β 0] σ (oX TS (a7 w) (fun v=> .int .u64 v) (fun _=>σ.aa β (cur r (k+1))) σ0):=by
 haveI:BoxIs σ β (cur r k):=⟨h.hb⟩
 have ht:∀ z,Cu σ0 z β r k→z.glob=σ.glob→AX Tryz.prog 202 [.ptr β 0, .fn 203 []] z (oX TS (a7 w) (fun v=> .int .u64 v) (fun _=>z.aa β (cur r (k+1))) σ0):=fun z hz hgz=>MW hz.hb hw hz.n hz.h0 hz.lw (fun s _=>PM w (h.len hw) s)
 (refine bd JW OC ?_;simp only [JW,↓R1,RR,seval,RX])
 repeat' (((refine bF (ht _ Qm rfl) (ad _) (fun a ho=>?_) (fun e ho=>?_)))<;>(try simp only [↓R1,RR,seval,RX]))
 all_goals first|exact aO ho (St.ax _)|(refine dM ho ?_ ?_;(focus (simp only [an,↓R1,RR,seval,RX];exact ae _));exact cL)
theorem PO {σ σ0:St} {β k:Nat} {r:Rw} {w:Wd} (h:Cu σ0 σ β r k) (hw:r.ws[k]? =some w):AX Tryz.prog 154 [.ptr β 0] σ (oX TS (iP w) (fun v=> .int .i64 v) (fun _=>σ.aa β (cur r (k+1))) σ0):=by
 haveI:BoxIs σ β (cur r k):=⟨h.hb⟩
 have ht:∀ z,Cu σ0 z β r k→z.glob=σ.glob→AX Tryz.prog 207 [.ptr β 0, .fn 208 []] z (oX TS (iP w) (fun v=> .int .i64 v) (fun _=>z.aa β (cur r (k+1))) σ0):=fun z hz hgz=>PI hz.hb hw hz.n hz.h0 hz.lw (fun s _=>PN w (h.len hw) s)
 (refine bd JY OE ?_;simp only [JY,↓R1,RR,seval,RX])
 repeat' (((refine bF (ht _ Qm rfl) (ad _) (fun a ho=>?_) (fun e ho=>?_)))<;>(try simp only [↓R1,RR,seval,RX]))
 all_goals first|exact aO ho (St.ax _)|(refine dM ho ?_ ?_;(focus (simp only [an,↓R1,RR,seval,RX];exact ae _));exact cL)
theorem Ak {σ σ0:St} {β k:Nat} {r:Rw} {w:Wd} (h:Cu σ0 σ β r k) (hw:r.ws[k]? =some w):AX Tryz.prog 153 [.ptr β 0] σ (oX TS (bG w) (fun v=> .int .i64 v) (fun _=>σ.aa β (cur r (k+1))) σ0):=by
 haveI:BoxIs σ β (cur r k):=⟨h.hb⟩
 have ht:∀ z,Cu σ0 z β r k→z.glob=σ.glob→AX Tryz.prog 205 [.ptr β 0, .fn 206 []] z (oX TS (bG w) (fun v=> .int .i64 v) (fun _=>z.aa β (cur r (k+1))) σ0):=fun z hz hgz=>PH hz.hb hw hz.n hz.h0 hz.lw (fun s _=>(by have:=PC w.q w.t (w.a:Nat) (h.len hw) s;rw [ua] at this;exact this))
 (refine bd JX OD ?_;simp only [JX,↓R1,RR,seval,RX])
 repeat' (((refine bF (ht _ Qm rfl) (ad _) (fun a ho=>?_) (fun e ho=>?_)))<;>(try simp only [↓R1,RR,seval,RX]))
 all_goals first|exact aO ho (St.ax _)|(refine dM ho ?_ ?_;(focus (simp only [an,↓R1,RR,seval,RX];exact ae _));exact cL)
theorem PQ {σ σ0:St} {β k:Nat} {r:Rw} {w:Wd} (h:Cu σ0 σ β r k) (hw:r.ws[k]? =some w):AX Tryz.prog 150 [.ptr β 0] σ (oX TS (bG w) (fun v=> .int .i64 v) (fun _=>σ.aa β (cur r (k+1))) σ0):=by
 haveI:BoxIs σ β (cur r k):=⟨h.hb⟩
 (refine bd JV OB ?_;simp only [JV,↓R1,RR,seval,RX])
 repeat' (((refine bF (Ak (σ0:=σ0) (r:=r) (k:=k) Qm hw) (ad _) (fun a ho=>?_) (fun e ho=>?_)))<;>(try simp only [↓R1,RR,seval,RX]))
 all_goals first|exact aO ho (St.ax _)|(refine dM ho ?_ ?_;(focus (simp only [an,↓R1,RR,seval,RX];exact ae _));exact cL)
def fb (s:List UInt8):Except Ft (List Rw):=match dE s with
 | .ok rs=> .ok rs
 | .error (e,a)=> .error ((e:Nat),(a:Nat))
theorem qe {s:List UInt8} {e a:Nat} (h:dE s= .error (e,a)):e≠0:=by rcases vM h with rfl|rfl<;>decide
theorem x42 {σ σ0:St} (s:List UInt8) (hs:s.length≤1000000) (hlw:St.lw σ0 σ):AX Tryz.prog 42 [.str s] σ (oX TS (fb s) (fun rs=> .sl false rs.length (rs.flatMap cRw)) (fun _=>σ) σ0):=by
  have hn:=p87 s hs
  cases hr:dE s with
  | ok rs =>
    have ho:fb s= .ok rs:=by simp only [fb,hr]
    rw [hr] at hn
    (refine bd c42 b42 ?_;simp only [c42,↓R1,RR,seval,RX,fC,dP])
    repeat' (first|(with_reducible rw [ah])|((first|(with_reducible intro β hβ;(try simp only [RB] at hβ);(repeat (obtain ⟨⟨_,_⟩,hβ⟩:=hβ));(try (have hbis:=aj Qa hβ;obtain ⟨_,_⟩:=hbis)))|(refine Pt (hn) ?_)|((refine gj rfl ?_)))<;>(try simp only [↓R1,RR,seval,RX,fC,dP])))
    (refine dM ho ?_ ?_;(focus (simp only [an,↓R1,RR,seval,RX,fC,dP];exact ae _));exact cL)
  | error p =>
    obtain ⟨e,a⟩:=p
    have ho:fb s= .error ((e:Nat),(a:Nat)):=by simp only [fb,hr]
    have he:=qe hr
    rw [hr] at hn
    (refine bd c42 b42 ?_;simp only [c42,↓R1,RR,seval,RX,fC,dP])
    repeat' (first|(with_reducible rw [ah])|((first|(with_reducible intro β hβ;(try simp only [RB] at hβ);(repeat (obtain ⟨⟨_,_⟩,hβ⟩:=hβ));(try (have hbis:=aj Qa hβ;obtain ⟨_,_⟩:=hbis)))|(refine Pt (hn) ?_)|((refine bR (σ0:=σ0) P6 Q3 ?_)))<;>(try simp only [↓R1,RR,seval,RX,fC,dP])))
    exact aO ho (St.ax _)
def kf (q:Bool) (t:List UInt8) (l:List (List UInt8)):Int:=match (bif q then none else dc t l 0) with
 | some i=>(i:Nat)
 | none=> -1
set_option maxHeartbeats 2000000 in
theorem p83 (r:Rw) (w:Wd) (f:Bool) (l:List (List UInt8)) (hw0:r.ws[0]? =some w) (hl:l.length≤1000):Pu Tryz.prog 83 [.agg (cRw r), .sl f l.length (l.map AV.str)] (.int .i64 (kf w.q w.t l)):=by
  have q1:True:=trivial
  have q2:True:=trivial
  have hw:True:=trivial
  have hd:True:=trivial
  have he3:(r.ws.flatMap cWd).take 3= [.bool w.q, .str w.t, .int .i64 (w.a:Nat)]:=by have:=oo hw0;simp at this;rw [this];rfl
  have hlt0:=(List.getElem?_eq_some_iff.1 hw0).1
  have hln:=ft r.ws
  simp only [cRw]
  (refine al c83 b83 fun σ=>?_;simp only [c83,↓R1,RR,seval,q1,q2,hw,hd,he3])
  repeat' (first|(with_reducible rw [ah])|(with_reducible refine And.intro ?_ ?_;exact af)|((with_reducible intro β hβ;(try simp only [RB] at hβ);(repeat (obtain ⟨⟨_,_⟩,hβ⟩:=hβ));(try (have hbis:=aj Qa hβ;obtain ⟨_,_⟩:=hbis)))<;>(try simp only [↓R1,RR,seval,q1,q2,hw,hd,he3])))
  all_goals first|omega|skip
  rename_i γ hγ ap1 ap2
  refine aS l.length (fun k=> [(5, .ptr β 0),(12, .sl f l.length (l.map AV.str)),(13, .int .i64 (l.length:Nat)),(14, .int .i64 (k:Nat))]) (fun _=>(σ.aa γ [.int .i64 (r.a:Nat), .sl false r.ws.length (r.ws.flatMap cWd)]).aa β [.bool w.q, .str w.t, .int .i64 (w.a:Nat)]) (fun k=>(bif w.q then none else dc w.t l 0)=(bif w.q then none else dc w.t (l.drop k) k)) Qi (by simp only [St.set_set];exact St.le_refl _) rfl (fun k hk hI=>?_)
  by_cases hlt:k<l.length
  · have q1:decide ((k:Int)<(l.length:Int))=true:=by rw [decide_eq_true_eq];omega
    have hd:=kW l hlt
    have hw:IntKind.i64.wrap ((k:Int)+1)=((k+1:Nat):Int):=P9
    rw [jk w.t l hlt] at hI
    cases hq:w.q with
    | true =>
      have q2:=hq
      simp only [q1,q2,↓R1,RR,seval,q1,q2,hw,hd,he3]
      repeat' (first|(with_reducible refine And.intro ?_ ?_;exact af)|(with_reducible apply And.intro))
      all_goals first|(simp [hq];done)|skip
      all_goals first|(rw [List.length_map];omega)|skip
      · simp [aq,slot,ae]
      · exact St.le_refl _
    | false =>
      rw [hq] at hI
      cases he:l[k] == w.t with
      | true =>
        rw [he] at hI
        simp only [cond_true,cond_false] at hI
        have q2:(w.t == l[k])=true:=by rw [beq_iff_eq] at he ⊢;exact he.symm
        rw [kf];simp only [hq,cond_false];rw [hI]
        simp only [q1,hq,↓R1,RR,seval,q1,q2,hw,hd,he3]
        repeat' (with_reducible refine And.intro ?_ ?_;exact af)
        all_goals first|(rw [List.length_map];omega)|skip
        refine ak (ag (by (simp only [an,↓R1,RR,seval,q1,q2,hw,hd,he3])))
      | false =>
        rw [he] at hI
        have q2:(w.t == l[k])=false:=by rw [Bool.eq_false_iff] at he ⊢;intro h;apply he;simp only [beq_iff_eq] at h ⊢;simp [h]
        simp only [q1,hq,↓R1,RR,seval,q1,q2,hw,hd,he3]
        repeat' (first|(with_reducible refine And.intro ?_ ?_;exact af)|(with_reducible apply And.intro))
        all_goals first|(rw [List.length_map];omega)|skip
        · simpa using hI
        · simp [aq,slot,ae]
        · exact St.le_refl _
  · have hke:k=l.length:=by omega
    subst hke
    have q1:decide ((l.length:Int)<(l.length:Int))=false:=Qd
    rw [List.drop_length] at hI
    rw [kf,hI]
    have e:(bif w.q then none else dc w.t [] l.length)=none:=by cases w.q<;>rfl
    rw [e]
    simp only [q1,↓R1,RR,seval,q1,q2,hw,hd,he3]
    skip
    refine ak (ag (by (simp only [an,↓R1,RR,seval,q1,q2,hw,hd,he3])))
theorem _root_.Q6 {p:Prop} (h:p:=by rw [h];rfl):p:=h
theorem v7 {s:List UInt8} {rs:List Rw} (h:dE s= .ok rs):s.length≤20000∧rs.length≤s.length+1∧∀ r∈rs,r.ws≠ []∧r.ws.length≤20000∧∀ w∈r.ws,w.t.length≤20000:=by
 have hs:s.length≤20000:=by
  refine Classical.byContradiction fun hn=>?_
  rw [dE,if_pos P6] at h;cases h
 have hb:mu (dE s)=some (td rs):=Q6
 rw [th hs] at hb
 obtain ⟨h1,h2⟩:=my (n:=20000) (fun x hx=>Nat.le_trans ((lW s).1 x hx) hs) hb
 have hg:=vJ h
 refine ⟨hs,?_,fun r hr=>?_⟩
 ·have:=(lW s).2
  simp only [td,List.length_map] at h1
  omega
 ·have h3:=h2 (kM r.ws) (by simp only [td,List.mem_map];exact ⟨r,hr,rfl⟩)
  refine ⟨(hg r hr).1,?_,fun w hw=>?_⟩
  ·have:=h3.1;simpa [kM] using this
  ·exact h3.2 (w.q,w.t) (by simp only [kM,List.mem_map];exact ⟨w,hw,rfl⟩)
def ub (l:List Int):List AV:=l.map fun n=> .int .i64 n
def cPr (p:Int × Int):List AV:= [.int .i64 p.1, .int .i64 p.2]
theorem G0 (l:List Int):(ub l).length=l.length:=by simp [ub]
theorem G1 (l:List (Int × Int)):(l.flatMap cPr).length=l.length*2:=a8 (f:=cPr) (fun _=>rfl) l
theorem KJ {l:List Int} {k:Nat} {n:Int} (h:l[k]? =some n):((ub l).drop (k*1)).take 1= [.int .i64 n]:=by
 obtain ⟨h1,h2⟩:=List.getElem?_eq_some_iff.1 h
 simp only [ub,Nat.mul_one]
 rw [List.drop_eq_getElem_cons (by simpa using h1)]
 simp [h2]
theorem KK {l:List (Int × Int)} {k:Nat} {p:Int × Int} (h:l[k]? =some p):((l.flatMap cPr).drop (k*2)).take 2=cPr p:=by
  induction l generalizing k with
  | nil=>simp at h
  | cons x l ih =>
    cases k with
    | zero=>simp at h;subst h;simp [cPr]
    | succ k =>
      simp only [List.getElem?_cons_succ] at h
      have:=ih h
      rw [List.flatMap_cons,show (k+1)*2=(cPr x).length+k*2 by simp [cPr];omega,List.drop_append,List.drop_eq_nil_of_le P6,List.nil_append,Nat.add_sub_cancel_left]
      exact this
def inB (n:Int) (p:Int × Int):Bool:= !(decide (n<p.1)||decide (p.2<n))
def dz:List Int→List (Int × Int)→Bool
 | n::l,p::r=>inB n p&&dz l r
 | _,_=>true
theorem v8 {l:List Int} {r:List (Int × Int)} {k:Nat} {n:Int} {p:Int × Int} (h:l[k]? =some n) (h2:r[k]? =some p):dz (l.drop k) (r.drop k)=(inB n p&&dz (l.drop (k+1)) (r.drop (k+1))):=by
 obtain ⟨h1,h3⟩:=List.getElem?_eq_some_iff.1 h
 obtain ⟨h4,h5⟩:=List.getElem?_eq_some_iff.1 h2
 rw [List.drop_eq_getElem_cons h1,List.drop_eq_getElem_cons h4,h3,h5];rfl
set_option maxHeartbeats 2000000 in
theorem MX (f g:Bool) (l:List Int) (r:List (Int × Int)) (hlr:l.length=r.length) (hl:l.length≤1000):Pu Tryz.prog 163 [.sl f l.length (ub l), .sl g r.length (r.flatMap cPr)] (.bool (dz l r)):=by
 have q1:True:=trivial
 have he:True:=trivial
 have he2:True:=trivial
 have hw:True:=trivial
 (refine al J1 OH fun σ=>?_;simp only [J1,↓R1,RR,seval,q1,he,he2,hw,cPr])
 refine aS l.length (fun k=> [(1, .sl g r.length (r.flatMap cPr)),(7, .sl f l.length (ub l)),(8, .int .i64 (l.length:Nat)),(9, .int .i64 (k:Nat))]) (fun _=>σ) (fun k=>dz l r=dz (l.drop k) (r.drop k)) Qi (St.le_refl _) rfl (fun k hk hI=>?_)
 by_cases hlt:k<l.length
 ·obtain ⟨n,hn⟩:∃ n,l[k]? =some n:=⟨_,List.getElem?_eq_getElem hlt⟩
  obtain ⟨p,hp⟩:∃ p,r[k]? =some p:=⟨_,List.getElem?_eq_getElem P6⟩
  rw [v8 hn hp] at hI
  have he:=KJ hn
  have he2:=KK hp
  have hil:=G0 l
  have hcl:=G1 r
  simp only [cPr] at he2
  have q1:decide ((k:Int)<(l.length:Int))=true:=Qf
  have hw:IntKind.i64.wrap ((k:Int)+1)=((k+1:Nat):Int):=P9
  simp only [q1,↓R1,RR,seval,q1,he,he2,hw,cPr]
  repeat' (first|(with_reducible refine And.intro ?_ ?_;exact af)|(with_reducible apply And.intro)|((refine ar (fun hc=>?_) (fun hc=>?_))<;>(try simp only [↓R1,RR,seval,q1,he,he2,hw,cPr])))
  ·(refine ak (ag ?_))
   (simp only [an,↓R1,RR,seval,q1,he,he2,hw,cPr])
   rw [hI,inB,hc];rfl
  ·rw [hI]
   simp_all [inB]
  ·simp [aq,slot,ae]
  ·exact St.le_refl _
 ·have hke:k=l.length:=by omega
  subst hke
  have q1:decide ((l.length:Int)<(l.length:Int))=false:=Qd
  rw [List.drop_length] at hI
  simp only [q1,↓R1,RR,seval,q1,he,he2,hw,cPr]
  skip
  (refine ak (ag ?_))
  (simp only [an,↓R1,RR,seval,q1,he,he2,hw,cPr])
  rw [hI];rfl
structure ClsI where
 l:Int
 size:Int
 rate:Int
structure TenI where
 budget:Int
 queries:Int
 cap:Int
 out:Int
 audit:Int
structure RulI where
 owner:Int
 auth:Int
 res:Int
 any:Bool
 kind:Int
 low:Int
 high:Int
structure CfgI where
 cls:List ClsI
 tens:List TenI
 ruls:List RulI
 hor:Int
def bE (x:ClsI):List AV:= [.int .u64 x.l, .int .i64 x.size, .int .i64 x.rate]
def b7 (x:TenI):List AV:= [.int .i64 x.budget, .int .i64 x.queries, .int .i64 x.cap, .int .i64 x.out, .int .i64 x.audit]
def cg (x:RulI):List AV:= [.int .i64 x.owner, .int .u64 x.auth, .int .u64 x.res, .bool x.any, .int .i64 x.kind, .int .i64 x.low, .int .i64 x.high]
def aR (c:CfgI):List AV:= .sl false c.cls.length (c.cls.flatMap bE)::(c.tens.flatMap b7++ [.sl false c.ruls.length (c.ruls.flatMap cg), .int .u64 c.hor])
def U64 (n:Int):Prop:=0≤n∧n<18446744073709551616
structure CfgOk (c:CfgI):Prop where
 six:c.tens.length=6
 ncls:c.cls.length≤1000
 nrul:c.ruls.length≤1000
 lcls:∀ x∈c.cls,U64 x.l
 lrul:∀ x∈c.ruls,U64 x.auth∧U64 x.res
def lab (n:Int):BitVec 64:=BitVec.ofInt 64 n
theorem fu {n:Int} (h:U64 n):((lab n).toNat:Int)=n:=by
 unfold lab U64 at *
 rw [BitVec.toNat_ofInt]
 omega
theorem fD (l:List ClsI):(l.flatMap bE).length=l.length*3:=a8 (f:=bE) (fun _=>rfl) l
theorem bl (l:List TenI):(l.flatMap b7).length=l.length*5:=a8 (f:=b7) (fun _=>rfl) l
theorem eX (l:List RulI):(l.flatMap cg).length=l.length*7:=a8 (f:=cg) (fun _=>rfl) l
theorem di {α:Type} {f:α→List AV} {m:Nat} (hf:∀ a,(f a).length=m):∀ {l:List α} {k:Nat} {x:α},l[k]? =some x→((l.flatMap f).drop (k*m)).take m=f x
  | [],_,_,h=>by simp at h
  | y :: l, 0, x, h => by
    simp at h;subst h
    rw [List.flatMap_cons,Nat.zero_mul,List.drop_zero,List.take_append_of_le_length (by rw [hf];exact Nat.le_refl _),List.take_of_length_le (by rw [hf];exact Nat.le_refl _)]
  | y :: l, k + 1, x, h => by
    simp only [List.getElem?_cons_succ] at h
    have:=di hf h
    have hy:=hf y
    rw [List.flatMap_cons,show (k+1)*m=(f y).length+k*m by rw [hy,Nat.add_mul];omega,List.drop_append,List.drop_eq_nil_of_le P6,List.nil_append,Nat.add_sub_cancel_left]
    exact this
theorem eA {c:CfgI} (h:CfgOk c):(aR c).length=33:=by
 simp only [aR,List.length_cons,List.length_append,List.length_nil,bl,h.six]
theorem oq (c:CfgI):(aR c)[0]? =some (.sl false c.cls.length (c.cls.flatMap bE)):=rfl
theorem _root_.Rq {p:Prop} (h:p:=by rw [bl,h.six];decide):p:=h
theorem ot {c:CfgI} (h:CfgOk c):(aR c)[31]? =some (.sl false c.ruls.length (c.ruls.flatMap cg)):=by
 simp only [aR,List.getElem?_cons_succ]
 rw [List.getElem?_append_right Rq,bl,h.six];rfl
theorem rE {c:CfgI} (h:CfgOk c):(aR c)[32]? =some (.int .u64 c.hor):=by
 simp only [aR,List.getElem?_cons_succ]
 rw [List.getElem?_append_right Rq,bl,h.six];rfl
theorem HL {c:CfgI} (h:CfgOk c):((aR c).drop 1).take 30=c.tens.flatMap b7:=by
 simp only [aR,List.drop_succ_cons,List.drop_zero]
 rw [List.take_append_of_le_length Rq,List.take_of_length_le Rq]
theorem gD {c:CfgI} (h:CfgOk c):(aR c).take 33=aR c:=List.take_of_length_le (by rw [eA h];decide)
def jN (seen:List Int) (x:ClsI):Int:=if dz [x.size,x.rate] [(1,64),(0,64)]=false then 2 else if x.l∈seen then 8 else 0
def clsEs:List Int→List ClsI→List Int
 | _,[]=> []
 | seen,x::l=>jN seen x::clsEs (seen++ [x.l]) l
def tenE (x:TenI):Int:=if dz [x.budget,x.queries,x.cap,x.out,x.audit] [(1,64),(0,4),(0,64),(0,64),(0,64)]=false then 2 else 0
def rulE (x:RulI):Int:=if (decide (x.owner<1)||decide (6<x.owner)||decide (x.kind<0)||decide (25<x.kind)||(x.any&&x.kind != 0))=true then 2 else if leB (lab x.res) (lab x.auth)=false then 13 else if x.high<x.low then 9 else 0
def firstE:List Int→Nat→Option (Int × Nat)
 | [],_=>none
 | e::l,i=>if e=0 then firstE l (i+1) else some (e,i)
def de (c:CfgI):Int × Nat :=
  if 8<c.cls.length∨8<c.ruls.length then (6,0) else match firstE (clsEs [] c.cls) 0 with
  | some p=>p
  | none => match firstE (c.tens.map tenE) 0 with
    | some p=>p
    | none => match firstE (c.ruls.map rulE) 0 with
      | some p=>p
      | none=>if c.hor<1∨10000<c.hor then (2,0) else (0,0)
def Round (prs:List Nat) (asg body:CC) (fr:Fr) (L:Nat) (r:Loop) (xs:List AV) (σ1:St) (K:AV→St→Prop):Prop :=
 aC Tryz.prog asg (jL prs xs fr) σ1 (fun e fr1 σ2=>e= .normal∧σ2.lp L=some (.loop r,fr)∧aC Tryz.prog body fr1 (σ2.au L (busy r,fr)) (fun e _ σ3=>σ3.lp L=some (.loop (busy r),fr)∧match e with
    | .normal=>K (.bool true) (σ3.au L (r,fr))
    | .ret=>K (.bool false) (σ3.au L (left r .ret,fr))
    | .exit id=>K (.bool false) (σ3.au L (left r (.exit id),fr))
    | _=>False))
structure Errs (prs:List Nat) (asg body:CC) (fr:Fr) (σ:St) (Q:Exit→Fr→St→Prop) (es:List Int):Prop where
 two:prs.length=2
 go:∀ L r i σ1 (K:AV→St→Prop),es[i]? =some 0→σ1.lp L=some (.loop r,fr)→St.le σ (σ1.dropLp L)→K (.bool true) σ1→Round prs asg body fr L r [.int .i64 (i:Nat), .int .i64 0] σ1 K
 stop:∀ L r i e σ1 (K:AV→St→Prop),es[i]? =some e→e≠0→σ1.lp L=some (.loop r,fr)→St.le σ (σ1.dropLp L)→(∀ s,s.lp L=some (.loop (left r .ret),fr)→(firstE es 0=some (e,i)→Q .ret fr (s.dropLp L))→K (.bool false) s)→Round prs asg body fr L r [.int .i64 (i:Nat), .int .i64 e] σ1 K
 fin:firstE es 0=none→∀ s,St.le σ s→Q .normal fr s
theorem eL {es:List Int} {k:Nat} {e:Int} (h:es[k]? =some e):firstE (es.drop k) k=if e=0 then firstE (es.drop (k+1)) (k+1) else some (e,k):=by
 obtain ⟨h1,h2⟩:=List.getElem?_eq_some_iff.1 h
 rw [List.drop_eq_getElem_cons h1,h2];rfl
theorem k9:∀ {l:List ClsI} {seen:List Int} {k:Nat} {x:ClsI},l[k]? =some x→(clsEs seen l)[k]? =some (jN (seen++(l.take k).map ClsI.l) x)
  | [],_,_,_,h=>by simp at h
  | y::l,seen,0,x,h=>by simp at h;subst h;simp [clsEs]
  | y :: l, seen, k + 1, x, h => by
    simp only [List.getElem?_cons_succ] at h
    simp only [clsEs,List.getElem?_cons_succ]
    rw [k9 h]
    simp [List.take_succ_cons]
theorem l5:∀ (l:List ClsI) (seen:List Int),(clsEs seen l).length=l.length
 | [],_=>rfl
 | x::l,seen=>by simp [clsEs,l5 l]
theorem dF {σ s:St} {L:Nat} {x:LO × Fr} (hL:σ.lp L=none) (h:St.le (σ.au L x) s):St.le σ (s.dropLp L):=by
 refine ⟨h.1,h.2.1,h.2.2.1,fun l r hl=>?_,h.2.2.2.2⟩
 have hne:l≠L:=fun e=>by subst e;rw [hL] at hl;cases hl
 have h2:=h.2.2.2.1 l r (by simp only [St.au,upd,if_neg hne];exact hl)
 simp only [St.dropLp,if_neg hne]
 exact h2
theorem xC {σ:St} {M:Nat} {x:LO × Fr} (hM:σ.lp M=none):St.le σ (σ.au M x):=by
 refine ⟨fun _ _ h=>h,fun _ _ h=>h,fun _ _ h=>h,fun l r hl=>?_,fun _ _ h=>h⟩
 have hne:l≠M:=fun e=>by subst e;rw [hM] at hl;cases hl
 simp only [St.au,upd,if_neg hne];exact hl
theorem o5 {l:List ClsI} {k:Nat} {x:ClsI} (h:l[k]? =some x) (n:Int):n∈(l.take (k+1)).map ClsI.l↔x.l=n∨n∈(l.take k).map ClsI.l:=by
 obtain ⟨h1,h2⟩:=List.getElem?_eq_some_iff.1 h
 rw [←List.take_append_getElem h1,h2]
 simp only [List.map_append,List.map_cons,List.map_nil,List.mem_append,List.mem_singleton]
 constructor
 ·rintro (h|h)
  ·exact .inr h
  ·exact .inl h.symm
 ·rintro (h|h)
  ·exact .inr h.symm
  ·exact .inl h
theorem _root_.QX {p:Prop} (h:p:=by rw [hcl];decide):p:=h
theorem _root_.QU {p:Prop} (h:p:=by simp [h.two]):p:=h
theorem _root_.Rr {p:Prop} (h:p:=by rw [hI];rfl):p:=h
set_option maxHeartbeats 4000000 in
theorem wa {prs:List Nat} {asg body:CC} {fr:Fr} {σ:St} {Q:Exit→Fr→St→Prop} {β:Nat} {c:CfgI} (hc:CfgOk c) (hβ:σ.box β=some (aR c)) (h:Errs prs asg body fr σ Q (clsEs [] c.cls)) :
    RF Tryz.prog 162 [.ptr β 0] prs asg body fr σ Q:=by
  refine ⟨by kernel_rfl,fun L r hL hr1 hr2 hY=>?_⟩
  have q1:True:=trivial
  have he:True:=trivial
  have hw:True:=trivial
  have hc0:=oq c
  have hcl:=eA hc
  have hn:=hc.ncls
  have hlen:=l5 c.cls []
  have hb2:(σ.au L (r,fr)).box β=some (aR c):=hβ
  refine bg J0 OG ?_
  simp only [J0,↓R1,RR,seval,RM,q1,he,hw,bE]
  refine IV fun M hM=>?_
  have hML:M≠L:=fun e=>by rw [e,St.bf] at hM;cases hM
  have hb3:((σ.au L (r,fr)).au M (.map [] 0,[])).box β=some (aR c):=hβ
  have h0:0<(aR c).length:=QX
  simp only [hb3,hc0,h0,↓R1,RR,seval,RM,q1,he,hw,bE]
  refine ca (α:=Nat × List (Int × Bool × Nat) × Nat) (fun a=> [(0, .yld L),(3, .mpv M),(9, .sl false c.cls.length (c.cls.flatMap bE)),(10, .int .i64 (c.cls.length:Nat)),(11, .int .i64 (a.1:Nat))]) (fun a=>(σ.au L (r,fr)).au M (.map a.2.1 a.2.2,[]))
    (fun a=>a.1≤c.cls.length∧firstE (clsEs [] c.cls) 0=firstE ((clsEs [] c.cls).drop a.1) a.1∧∀ n,jI a.2.1 n=decide (n∈(c.cls.take a.1).map ClsI.l)) (fun a=>c.cls.length - a.1) (0,[],0) Qi (St.le_refl _) ⟨Nat.zero_le _,rfl,fun n=>by simp [sS]⟩ ?_
  rintro ⟨k,m,cl⟩ ⟨hk,hI,hmm⟩
  simp only at hk hI hmm ⊢
  by_cases hlt:k<c.cls.length
  · obtain ⟨x,hx⟩:∃ x,c.cls[k]? =some x:=⟨_,List.getElem?_eq_getElem hlt⟩
    have hat:=k9 (seen:= []) hx
    rw [List.nil_append] at hat
    rw [eL hat] at hI
    have he:=di (f:=bE) (m:=3) (fun _=>rfl) hx
    have hln:=fD c.cls
    have q1:decide ((k:Int)<(c.cls.length:Int))=true:=Qf
    have hw:IntKind.i64.wrap ((k:Int)+1)=((k+1:Nat):Int):=P9
    simp only [bE] at he
    have hpw:=MX true true [x.size,x.rate] [(1,64),(0,64)] rfl Qd
    simp only [ub,cPr,List.map,List.flatMap_cons,List.flatMap_nil,List.append_nil,List.cons_append,List.nil_append,List.length_cons,List.length_nil] at hpw
    have hnext:∀ (cl:Nat) (n:Int),jI (jJ m cl x.l true).1 n=decide (n∈(c.cls.take (k+1)).map ClsI.l):=fun _ n=>by
      rw [sU,hmm]
      have:=o5 hx n
      by_cases e1:x.l=n
      · rw [if_pos e1];exact (decide_eq_true (this.2 (.inl e1))).symm
      · rw [if_neg e1,decide_eq_decide,this];simp [e1]
    simp only [q1,↓R1,RR,seval,RM,q1,he,hw,bE]
    cases hwi:dz [x.size,x.rate] [(1,64),(0,64)] with
    | false =>
      rw [hwi] at hpw
      have e2:jN ((c.cls.take k).map ClsI.l) x=2:=by simp only [jN,hwi,if_true]
      rw [e2] at hI hat
      repeat' (first|(with_reducible rw [ah])|(with_reducible refine And.intro ?_ ?_;exact af)|((first|(with_reducible intro β hβ;(try simp only [RB] at hβ);(repeat (obtain ⟨⟨_,_⟩,hβ⟩:=hβ));(try (have hbis:=aj Qa hβ;obtain ⟨_,_⟩:=hbis)))|(refine Pt (hpw) ?_)|((refine vm (St.bf _ _ _) ?_)))<;>(try simp only [↓R1,RR,seval,RM,q1,he,hw,bE])))
      (have hlp:∀ γ cs y,(((σ.au L (.loop r,fr)).au M y).aa γ cs).lp L=some (.loop r,fr):=fun γ cs y=>(St.kJ (fun e=>hML e.symm) ..).trans (St.bf _ _ _));(refine hY _ _ _ QU (hlp _ _ _) (h.stop L r k _ _ _ hat Qg (hlp _ _ _) (dF hL (St.aD (xC hM) Qa)) (fun s hs hq=>?_)));simp only [↓R1,RR,seval,RM,q1,he,hw,bE];(refine cb (.inr (.inl ⟨hs,hq Rr⟩)) QP)
    | true =>
      rw [hwi] at hpw
      cases hmg:jI m x.l with
      | true =>
        have e2:jN ((c.cls.take k).map ClsI.l) x=8:=by
          rw [hmm,decide_eq_true_eq] at hmg
          simp only [jN,hwi,hmg,if_true];rfl
        rw [e2] at hI hat
        repeat' (first|(with_reducible rw [ah])|(with_reducible refine And.intro ?_ ?_;exact af)|((first|(with_reducible intro β hβ;(try simp only [RB] at hβ);(repeat (obtain ⟨⟨_,_⟩,hβ⟩:=hβ));(try (have hbis:=aj Qa hβ;obtain ⟨_,_⟩:=hbis)))|(refine Pt (hpw) ?_)|((refine CW (St.bf _ _ _) ?_;rw [hmg];simp only [↓R1,RR,seval,RM,q1,he,hw,bE]))|((refine vm (St.bf _ _ _) ?_)))<;>(try simp only [↓R1,RR,seval,RM,q1,he,hw,bE])))
        (have hlp:∀ γ cs y,(((σ.au L (.loop r,fr)).au M y).aa γ cs).lp L=some (.loop r,fr):=fun γ cs y=>(St.kJ (fun e=>hML e.symm) ..).trans (St.bf _ _ _));(refine hY _ _ _ QU (hlp _ _ _) (h.stop L r k _ _ _ hat Qg (hlp _ _ _) (dF hL (St.aD (xC hM) Qa)) (fun s hs hq=>?_)));simp only [↓R1,RR,seval,RM,q1,he,hw,bE];(refine cb (.inr (.inl ⟨hs,hq Rr⟩)) QP)
      | false =>
        have e2:jN ((c.cls.take k).map ClsI.l) x=0:=by
          rw [hmm,decide_eq_false_iff_not] at hmg
          simp only [jN,hwi,hmg,if_false];rfl
        rw [e2] at hI hat
        repeat' (first|(with_reducible rw [ah])|(with_reducible refine And.intro ?_ ?_;exact af)|((first|(with_reducible intro β hβ;(try simp only [RB] at hβ);(repeat (obtain ⟨⟨_,_⟩,hβ⟩:=hβ));(try (have hbis:=aj Qa hβ;obtain ⟨_,_⟩:=hbis)))|(refine Pt (hpw) ?_)|((refine CW (St.bf _ _ _) ?_;rw [hmg];simp only [↓R1,RR,seval,RM,q1,he,hw,bE]))|((refine vm (St.bf _ _ _) ?_)))<;>(try simp only [↓R1,RR,seval,RM,q1,he,hw,bE])))
        have hlp:∀ γ cs y,(((σ.au L (.loop r,fr)).au M y).aa γ cs).lp L=some (.loop r,fr):=fun γ cs y=>(St.kJ (fun e=>hML e.symm) ..).trans (St.bf _ _ _)
        refine hY _ _ _ QU (hlp _ _ _) (h.go L r k _ _ hat (hlp _ _ _) (dF hL (St.aD (xC hM) Qa)) ?_)
        rw [if_pos rfl] at hI
        simp only [↓R1,RR,seval,RM,q1,he,hw,bE]
        exact ⟨(k+1,_,_),⟨hlt,hI,hnext _⟩,by simp [aq,slot,ae],St.aD (St.le_refl _) Qa,by simp only;omega⟩
  · have hke:k=c.cls.length:=by omega
    subst hke
    have q1:decide ((c.cls.length:Int)<(c.cls.length:Int))=false:=Qd
    rw [List.drop_eq_nil_of_le P6] at hI
    simp only [q1,↓R1,RR,seval,RM,q1,he,hw,bE]
    skip
    refine cb (.inl ⟨(St.kJ (fun e=>hML e.symm) ..).trans (St.bf _ _ _),h.fin hI _ (dF hL (xC hM))⟩) QP
theorem rF {α:Type} {f:α→Int} {l:List α} {k:Nat} {x:α} (h:l[k]? =some x):(l.map f)[k]? =some (f x):=by simp [h]
set_option maxHeartbeats 4000000 in
theorem wb {prs:List Nat} {asg body:CC} {fr:Fr} {σ:St} {Q:Exit→Fr→St→Prop} {β:Nat} {c:CfgI} (hc:CfgOk c) (hβ:σ.box β=some (aR c)) (h:Errs prs asg body fr σ Q (c.tens.map tenE)) :
    RF Tryz.prog 164 [.ptr β 0] prs asg body fr σ Q:=by
  refine ⟨by kernel_rfl,fun L r hL hr1 hr2 hY=>?_⟩
  have q1:True:=trivial
  have he:True:=trivial
  have hw:True:=trivial
  have hln:True:=trivial
  have hc1:=HL hc
  have hcl:=eA hc
  have h6:=hc.six
  have hlen:(c.tens.map tenE).length=6:=by simp [h6]
  have hb2:(σ.au L (r,fr)).box β=some (aR c):=hβ
  refine bg J2 OI ?_
  have h0:1+30≤(aR c).length:=QX
  simp only [J2,hb2,hc1,h0,hcl,↓R1,RR,seval,q1,he,hw,b7,hln]
  refine aS 6 (fun k=> [(0, .yld L),(3, .sl true 5 [.int .i64 1, .int .i64 64, .int .i64 0, .int .i64 4, .int .i64 0, .int .i64 64, .int .i64 0, .int .i64 64, .int .i64 0, .int .i64 64]),(14, .agg (c.tens.flatMap b7)),(15, .int .i64 (k:Nat))]) (fun _=>σ.au L (r,fr))
    (fun k=>firstE (c.tens.map tenE) 0=firstE ((c.tens.map tenE).drop k) k) Qi (St.le_refl _) rfl (fun k hk hI=>?_)
  by_cases hlt:k<6
  · obtain ⟨x,hx⟩:∃ x,c.tens[k]? =some x:=⟨_,List.getElem?_eq_getElem P6⟩
    have hat:=rF (f:=tenE) hx
    rw [eL hat] at hI
    have he:=di (f:=b7) (m:=5) (fun _=>rfl) hx
    have hln:=bl c.tens
    rw [h6] at hln
    have q1:decide ((k:Int)<6)=true:=Qf
    have hw:IntKind.i64.wrap ((k:Int)+1)=((k+1:Nat):Int):=P9
    simp only [b7] at he
    have hpw:=MX true true [x.budget,x.queries,x.cap,x.out,x.audit] [(1,64),(0,4),(0,64),(0,64),(0,64)] rfl Qd
    simp only [ub,cPr,List.map,List.flatMap_cons,List.flatMap_nil,List.append_nil,List.cons_append,List.nil_append,List.length_cons,List.length_nil] at hpw
    simp only [q1,↓R1,RR,seval,q1,he,hw,b7,hln]
    cases hwi:dz [x.budget,x.queries,x.cap,x.out,x.audit] [(1,64),(0,4),(0,64),(0,64),(0,64)] with
    | false =>
      rw [hwi] at hpw
      have e2:tenE x=2:=by simp only [tenE,hwi,if_true]
      rw [e2] at hI hat
      repeat' (first|(with_reducible rw [ah])|(with_reducible refine And.intro ?_ ?_;exact af)|((first|(with_reducible intro β hβ;(try simp only [RB] at hβ);(repeat (obtain ⟨⟨_,_⟩,hβ⟩:=hβ));(try (have hbis:=aj Qa hβ;obtain ⟨_,_⟩:=hbis)))|(refine Pt (hpw) ?_))<;>(try simp only [↓R1,RR,seval,q1,he,hw,b7,hln])))
      (refine hY _ _ _ QU (St.bf _ _ _) (h.stop L r k _ _ _ hat Qg (St.bf _ _ _) (dF hL (St.aD (St.le_refl _) Qa)) (fun s hs hq=>?_)));simp only [↓R1,RR,seval,q1,he,hw,b7,hln];(refine cb (.inr (.inl ⟨hs,hq Rr⟩)) QP)
    | true =>
      rw [hwi] at hpw
      have e2:tenE x=0:=by simp only [tenE,hwi];rfl
      rw [e2] at hI hat
      repeat' (first|(with_reducible rw [ah])|(with_reducible refine And.intro ?_ ?_;exact af)|((first|(with_reducible intro β hβ;(try simp only [RB] at hβ);(repeat (obtain ⟨⟨_,_⟩,hβ⟩:=hβ));(try (have hbis:=aj Qa hβ;obtain ⟨_,_⟩:=hbis)))|(refine Pt (hpw) ?_))<;>(try simp only [↓R1,RR,seval,q1,he,hw,b7,hln])))
      (refine hY _ _ _ QU (St.bf _ _ _) (h.go L r k _ _ hat (St.bf _ _ _) (dF hL (St.aD (St.le_refl _) Qa)) ?_));rw [if_pos rfl] at hI;simp only [↓R1,RR,seval,q1,he,hw,b7,hln];exact ⟨hlt,hI,by simp [aq,slot,ae],St.aD (St.le_refl _) Qa⟩
  · have hke:k=6:=by omega
    subst hke
    rw [List.drop_eq_nil_of_le P6] at hI
    have q1:decide (((6:Nat):Int)<6)=false:=Qg
    simp only [q1,↓R1,RR,seval,q1,he,hw,b7,hln]
    skip
    refine cb (.inl ⟨St.bf _ _ _,h.fin hI _ (dF hL (St.le_refl _))⟩) QP
set_option maxHeartbeats 4000000 in
theorem DX {prs:List Nat} {asg body:CC} {fr:Fr} {σ:St} {Q:Exit→Fr→St→Prop} {β:Nat} {c:CfgI} (hc:CfgOk c) (hβ:σ.box β=some (aR c)) (h:Errs prs asg body fr σ Q (c.ruls.map rulE)) :
  RF Tryz.prog 165 [.ptr β 0] prs asg body fr σ Q:=by
 refine ⟨by kernel_rfl,fun L r hL hr1 hr2 hY=>?_⟩
 have q1:True:=trivial
 have he:True:=trivial
 have hw:True:=trivial
 have hln:True:=trivial
 have hc1:=ot hc
 have hcl:=eA hc
 have hn:=hc.nrul
 have hlen:(c.ruls.map rulE).length=c.ruls.length:=Qd
 have hb2:(σ.au L (r,fr)).box β=some (aR c):=hβ
 refine bg J3 OJ ?_
 have h0:31<(aR c).length:=QX
 simp only [J3,hb2,hc1,h0,↓R1,RR,seval,q1,he,hw,cg,hln]
 refine aS c.ruls.length (fun k=> [(0, .yld L),(7, .sl false c.ruls.length (c.ruls.flatMap cg)),(8, .int .i64 (c.ruls.length:Nat)),(9, .int .i64 (k:Nat))]) (fun _=>σ.au L (r,fr))
  (fun k=>firstE (c.ruls.map rulE) 0=firstE ((c.ruls.map rulE).drop k) k) Qi (St.le_refl _) rfl (fun k hk hI=>?_)
 by_cases hlt:k<c.ruls.length
 ·obtain ⟨x,hx⟩:∃ x,c.ruls[k]? =some x:=⟨_,List.getElem?_eq_getElem hlt⟩
  have hat:=rF (f:=rulE) hx
  rw [eL hat] at hI
  have he:=di (f:=cg) (m:=7) (fun _=>rfl) hx
  have hln:=eX c.ruls
  have hxm:=hc.lrul x (List.mem_of_getElem? hx)
  have q1:decide ((k:Int)<(c.ruls.length:Int))=true:=Qf
  have hw:IntKind.i64.wrap ((k:Int)+1)=((k+1:Nat):Int):=P9
  simp only [cg] at he
  have hpw:=OZ (lab x.res) (lab x.auth)
  rw [fu hxm.1,fu hxm.2] at hpw
  simp only [q1,↓R1,RR,seval,q1,he,hw,cg,hln]
  repeat' (first|(with_reducible rw [ah])|(with_reducible refine And.intro ?_ ?_;exact af)|(with_reducible apply And.intro)|((first|(refine ar (fun hc=>?_) (fun hc=>?_))|(with_reducible intro β hβ;(try simp only [RB] at hβ);(repeat (obtain ⟨⟨_,_⟩,hβ⟩:=hβ));(try (have hbis:=aj Qa hβ;obtain ⟨_,_⟩:=hbis)))|(refine Pt (hpw) ?_))<;>(try simp only [↓R1,RR,seval,q1,he,hw,cg,hln])))
  ·simp_all
  ·have e2:rulE x=2:=by simp only [rulE,hc,if_true]
   rw [e2] at hI hat
   (refine hY _ _ _ QU (St.bf _ _ _) (h.stop L r k _ _ _ hat Qg (St.bf _ _ _) (dF hL (St.aD (St.le_refl _) Qa)) (fun s hs hq=>?_)));simp only [↓R1,RR,seval,q1,he,hw,cg,hln];(refine cb (.inr (.inl ⟨hs,hq Rr⟩)) QP)
  ·rename_i hc2
   have e2:rulE x=13:=by
    rw [Bool.not_eq_true'] at hc
    simp only [rulE,hc2,hc,if_true];rfl
   rw [e2] at hI hat
   (refine hY _ _ _ QU (St.bf _ _ _) (h.stop L r k _ _ _ hat Qg (St.bf _ _ _) (dF hL (St.aD (St.le_refl _) Qa)) (fun s hs hq=>?_)));simp only [↓R1,RR,seval,q1,he,hw,cg,hln];(refine cb (.inr (.inl ⟨hs,hq Rr⟩)) QP)
  ·rename_i hc2 hc3
   have e2:rulE x=9:=by
    rw [Bool.not_eq_false'] at hc3
    rw [decide_eq_true_eq] at hc
    simp only [rulE,hc2,hc3,hc,if_true];rfl
   rw [e2] at hI hat
   (refine hY _ _ _ QU (St.bf _ _ _) (h.stop L r k _ _ _ hat Qg (St.bf _ _ _) (dF hL (St.aD (St.le_refl _) Qa)) (fun s hs hq=>?_)));simp only [↓R1,RR,seval,q1,he,hw,cg,hln];(refine cb (.inr (.inl ⟨hs,hq Rr⟩)) QP)
  ·rename_i hc2 hc3
   have e2:rulE x=0:=by
    rw [Bool.not_eq_false'] at hc3
    rw [decide_eq_false_iff_not] at hc
    simp only [rulE,hc2,hc3,hc,if_false];rfl
   rw [e2] at hI hat
   (refine hY _ _ _ QU (St.bf _ _ _) (h.go L r k _ _ hat (St.bf _ _ _) (dF hL (St.aD (St.le_refl _) Qa)) ?_));rw [if_pos rfl] at hI;simp only [↓R1,RR,seval,q1,he,hw,cg,hln];exact ⟨hlt,hI,by simp [aq,slot,ae],St.aD (St.le_refl _) Qa⟩
 ·have hke:k=c.ruls.length:=by omega
  subst hke
  have q1:decide ((c.ruls.length:Int)<(c.ruls.length:Int))=false:=Qd
  rw [List.drop_eq_nil_of_le P6] at hI
  simp only [q1,↓R1,RR,seval,q1,he,hw,cg,hln]
  skip
  refine cb (.inl ⟨St.bf _ _ _,h.fin hI _ (dF hL (St.le_refl _))⟩) QP
structure OpI where
 kind:Int
 tenant:Int
 label:Int
 text:List UInt8
 number:Int
 most:Int
 idl:Int
 idn:Int
def cOp (o:OpI):List AV:= [.int .i64 o.kind, .int .i64 o.tenant, .int .u64 o.label, .str o.text, .int .i64 o.number, .int .i64 o.most, .int .u64 o.idl, .int .u64 o.idn]
def eb {α β:Type} (o:Except Ft α) (f:α→Except Ft β):Except Ft β:=match o with
 | .ok a=>f a
 | .error e=> .error e
theorem aJ {α β:Type} {o:Except Ft α} {a:α} (f:α→Except Ft β) (h:o= .ok a):eb o f=f a:=Q6
theorem cS {α β:Type} {o:Except Ft α} {e:Ft} (f:α→Except Ft β) (h:o= .error e):eb o f= .error e:=Q6
def Al (w1 w2:Wd):Except Ft OpI:=eb (bG w1) fun t=>eb (a7 w2) fun l=> .ok ⟨1,t,l,[],0,0,0,0⟩
def KL (w1 w2:Wd):Except Ft OpI:=eb (bG w1) fun t=>eb (HK w2) fun x=> .ok ⟨2,t,0,x,0,0,0,0⟩
def MY (w1 w2:Wd):Except Ft OpI:=eb (bG w1) fun t=>eb (bG w2) fun n=> .ok ⟨3,t,0,[],n,0,0,0⟩
def G2 (w1 w2 w3:Wd):Except Ft OpI:=eb (iP w1) fun k=>eb (a7 w2) fun l=>eb (bG w3) fun v=> .ok ⟨4,0,0,GI (BitVec.ofInt 64 l) k v,0,0,0,0⟩
def KM (w1:Wd):Except Ft OpI:=eb (HK w1) fun x=> .ok ⟨4,0,0,x,0,0,0,0⟩
def HM:Except Ft OpI:= .ok ⟨5,0,0,[],0,0,0,0⟩
def uc (w1 w2:Wd):Except Ft OpI:=eb (bG w1) fun t=>eb (bG w2) fun m=> .ok ⟨6,t,0,[],0,m,0,0⟩
def ud (w1 w2 w3:Wd):Except Ft OpI:=eb (bG w1) fun t=>eb (bG w2) fun n=>eb (PK w3) fun i=> .ok ⟨7,t,0,[],n,0,i.1,i.2⟩
def KN (w1 w2 w3:Wd):Except Ft OpI:=eb (bG w1) fun t=>eb (bG w2) fun n=>eb (bG w3) fun m=> .ok ⟨8,t,0,[],n,m,0,0⟩
theorem _root_.Qo {p:Prop} (h:p:=by rw [hws];rfl):p:=h
set_option maxHeartbeats 2000000 in
theorem x94 {σ σ0:St} {β:Nat} {r:Rw} {w0 w1 w2:Wd} (h:Cu σ0 σ β r 1) (hws:r.ws= [w0,w1,w2]):AX Tryz.prog 94 [.ptr β 0] σ (oX TS (uc w1 w2) (fun o=> .agg (cOp o)) (fun _=>σ.aa β (cur r 3)) σ0):=by
 haveI:BoxIs σ β (cur r 1):=⟨h.hb⟩
 have h0:=h.h0
 have hlw:=h.lw
 have hw1:r.ws[1]? =some w1:=Qo
 have hw2:r.ws[2]? =some w2:=Qo
 (refine bd c94 b94 ?_;simp only [c94,↓R1,RR,seval,RX,cOp])
 repeat' (first|(with_reducible rw [ah])|((first|(with_reducible intro β hβ;(try simp only [RB] at hβ);(repeat (obtain ⟨⟨_,_⟩,hβ⟩:=hβ));(try (have hbis:=aj Qa hβ;obtain ⟨_,_⟩:=hbis)))|((refine bF (PQ (σ0:=σ0) (r:=r) (k:=1) ?_ hw1) (ad _) (fun a1 ho1=>?_) (fun e ho1=>?_);(focus ((repeat' (first|assumption|(refine Cu.to (k:=1) ?_)|(refine Cu.new ?_ (by first|assumption|(simp only [↓R1,RR,seval,RX,cOp];done)))));done))))|((refine bF (Ak (σ0:=σ0) (r:=r) (k:=2) ?_ hw2) (ad _) (fun a2 ho2=>?_) (fun e ho2=>?_);(focus ((repeat' (first|assumption|(refine Cu.to (k:=1) ?_)|(refine Cu.new ?_ (by first|assumption|(simp only [↓R1,RR,seval,RX,cOp];done)))));done)))))<;>(try simp only [↓R1,RR,seval,RX,cOp])))
 all_goals first|(refine aO ?_ (St.ax _);focus (simp only [uc,eb,ho1];done))|(refine aO ?_ (St.ax _);focus (simp only [uc,eb,ho1,ho2];done))|(refine dM ((by simp only [uc,eb,ho1,ho2];rfl)) ?_ ?_ (by first|(simp [av,rvS];done)|(simp only [av,rvS,↓R1,RR,seval,RX,cOp];try simp));(focus (simp only [an,↓R1,RR,seval,RX,cOp];exact ae _));exact cL)
theorem Am {w:Wd} {a:Int} (h:a7 w= .ok a):∃ x:BitVec 64,a=(x.toNat:Int):=by
 unfold a7 dQ at h
 split at h
 ·cases h
 ·split at h
  ·cases h;exact ⟨_,rfl⟩
  ·cases h
def we:List UInt8:= [114,101,103,105,115,116,101,114]
def G3:List UInt8:= [113,117,101,114,121]
def KO:List UInt8:= [100,114,111,112]
def DY:List UInt8:= [105,110,103,101,115,116]
def G4:List UInt8:= [98,121,116,101,115]
def KP:List UInt8:= [116,105,99,107]
def KQ:List UInt8:= [112,111,108,108]
def rG:List UInt8:= [100,101,99,108,97,115,115,105,102,121]
def G5:List UInt8:= [97,117,100,105,116]
theorem ou {σ σ0:St} {r:Rw} {n:Nat} (hlw:St.lw σ0 σ) (hn:r.ws.length≠n):AX Tryz.prog 97 [.agg (cRw r), .int .i64 (n:Nat)] σ (oX TS (.error (3,(r.a:Int)):Except Ft Unit) (fun _=> .tup []) (fun _=>σ) σ0):=by
 have q1:((r.ws.length:Int) != (n:Int))=true:=by rw [bne_iff_ne];omega
 (refine bd c97 b97 ?_;simp only [c97,↓R1,RR,seval,RX,cRw,q1])
 repeat' ((first|(with_reducible intro β hβ;(try simp only [RB] at hβ);(repeat (obtain ⟨⟨_,_⟩,hβ⟩:=hβ));(try (have hbis:=aj Qa hβ;obtain ⟨_,_⟩:=hbis)))|((refine bR (σ0:=σ0) Qg Q3 ?_)))<;>(try simp only [↓R1,RR,seval,RX,cRw,q1]))
 exact aO rfl (St.ax _)
theorem DZ {σ:St} {β γ:Nat} {c x:List AV} (h:σ.box γ=none):St.le (σ.aa β c) ((σ.aa γ x).aa β c):=by
 refine ⟨fun δ d hd=>?_,fun _ _ h=>h,fun _ _ h=>h,fun _ _ h=>h,fun _ _ h=>h⟩
 simp only [St.aa,upd] at hd ⊢
 split
 ·rename_i e;rw [if_pos e] at hd;exact hd
 ·rename_i e
  rw [if_neg e] at hd
  split
  ·rename_i e2;subst e2;rw [h] at hd;cases hd
  ·exact hd
theorem ow {σ:St} {r:Rw} {n:Nat} (hn:r.ws.length=n):AX Tryz.prog 97 [.agg (cRw r), .int .i64 (n:Nat)] σ (fun b v s=>b=false∧∃ κ,σ.box κ=none∧v= .ptr κ 0∧s=σ.aa κ (cur r 1)):=by
 have q1:((r.ws.length:Int) != (n:Int))=false:=by subst hn;simp
 refine Ge c97 b97 ?_
 simp only [c97,↓R1,RR,seval,RX,cRw,q1]
 repeat' ((with_reducible intro β hβ;(try simp only [RB] at hβ);(repeat (obtain ⟨⟨_,_⟩,hβ⟩:=hβ));(try (have hbis:=aj Qa hβ;obtain ⟨_,_⟩:=hbis)))<;>(try simp only [↓R1,RR,seval,RX,cRw,q1]))
 rename_i γ hγ _ _
 exact aN (e:= .ret) (r:= .ptr β 0) (σ':=σ.aa β (cur r 1)) (.inl rfl) Qp (ag (by (simp only [an,↓R1,RR,seval,RX,cRw,q1]))) (DZ hγ) ⟨rfl,β,hβ,rfl,rfl⟩
theorem jU {a b c:St} (h:St.lw a b) (k:St.le b c):St.lw a c:=by
 refine ⟨fun β x hx=>?_,fun τ x hx=>k.2.1 _ _ (h.2.1 _ _ hx),fun l x hx=>k.2.2.1 _ _ (h.2.2.1 _ _ hx),fun l x hx=>k.2.2.2.1 _ _ (h.2.2.2.1 _ _ hx),fun β T hx=>k.2.2.2.2 _ _ (h.2.2.2.2 _ _ hx)⟩
 obtain ⟨x',h1,h2⟩:=h.1 β x hx
 exact ⟨x',k.1 _ _ h1,h2⟩
def names9:List (List UInt8):= [we,G3,KO,DY,G4,KP,KQ,rG,G5]
def gk:List Nat:= [3,3,3,4,2,1,3,4,4]
def ox:List Nat:= [88,89,90,91,92,93,94,95,96]
def opW (k:Nat) (ws:List Wd):Except Ft OpI:=match k,ws with
 | 0,[_,w1,w2]=>Al w1 w2
 | 1,[_,w1,w2]=>KL w1 w2
 | 2,[_,w1,w2]=>MY w1 w2
 | 3,[_,w1,w2,w3]=>G2 w1 w2 w3
 | 4,[_,w1]=>KM w1
 | 5,[_]=>HM
 | 6,[_,w1,w2]=>uc w1 w2
 | 7,[_,w1,w2,w3]=>ud w1 w2 w3
 | 8,[_,w1,w2,w3]=>KN w1 w2 w3
 | _,_=>HM
theorem An {α:Type} {l:List α} (h:l.length=2):∃ a0 a1,l= [a0,a1]:=by
 match l,h with
 | [a0,a1],_=>exact ⟨a0,a1,rfl⟩
theorem MZ {α:Type} {l:List α} (h:l.length=4):∃ a0 a1 a2 a3,l= [a0,a1,a2,a3]:=by
 match l,h with
 | [a0,a1,a2,a3],_=>exact ⟨a0,a1,a2,a3,rfl⟩
theorem iA {a b:St} {β:Nat} {c:List AV} (h:St.le a b) (hb:a.box β=some c):b.box β=some c:=h.1 _ _ hb
theorem le_none {a b:St} {β:Nat} (h:St.le a b) (hb:b.box β=none):a.box β=none:=by
 cases hq:a.box β with
 | none=>rfl
 | some c=>rw [h.1 _ _ hq] at hb;cases hb
theorem bX {fr:Fr} {σ:St} {i:CI} {K:Fr→St→Prop} {R:AV→St→Prop} (h:da Tryz.prog [i] fr σ K):gv Tryz.prog (.o i) fr σ K R:=h
def V7 (δ n:Nat) (f:Nat) (r:Rw) (σb:St) (i:Nat) (v:AV) (s:St):Prop:=match i with
 | 0=>v= .ptr δ 2
 | 1=>v= .fn f []
 | 2=>v= .agg (cRw r)
 | 3=>v= .ptr δ 1
 | 4=>v= .int .i64 (n:Nat)
 | 5=>∃ κ,v= .ptr κ 0∧s.box κ=some (cur r 1)∧σb.box κ=none∧r.ws.length=n
 | _=>True
def z8:List AV:= [.int .i64 0, .int .i64 0, .int .u64 0, .str [], .int .i64 0, .int .i64 0, .int .u64 0, .int .u64 0]
set_option maxHeartbeats 4000000 in
theorem G6 {σ0 σ1 σb:St} {r:Rw} {γ ρ δ k:Nat} {nm:List UInt8} {fr:Fr} {Q:Exit→Fr→St→Prop} (hσ:cY gl3 σb) (hlw:St.lw σ0 σb) (hle:St.le σ1 σb) (hk:k<9) (hn:r.ws.length≤20000) (ht:∀ w∈r.ws,w.t.length≤1000000)
  (hγ:σb.box γ=some (cRw r)) (hδ:σb.box δ=some [.str nm, .int .i64 ((gk[k]?.getD 0:Nat):Int), .fn (ox[k]?.getD 0) []]) (hρ:σb.box ρ=some z8) (hρ1:σ1.box ρ=none)
  (h1:slot 1 fr= .ptr γ 0) (h2:slot 2 fr= .ptr ρ 0) (h5:slot 5 fr= .ptr δ 0)
  (hF:∀ {σ σ0:St} {β:Nat},Cu σ0 σ β r 1→cY gl3 σ→r.ws.length=gk[k]?.getD 0→AX Tryz.prog (ox[k]?.getD 0) [.ptr β 0] σ (oX TS (opW k r.ws) (fun o=> .agg (cOp o)) (fun _=>σ.aa β (cur r (gk[k]?.getD 0))) σ0))
  (hno:r.ws.length≠gk[k]?.getD 0→Q (.panic []) [(0,jP TS (3,(r.a:Int)))] σ0)
  (her:r.ws.length=gk[k]?.getD 0→∀ e,opW k r.ws= .error e→Q (.panic []) [(0,jP TS e)] σ0)
  (hok:r.ws.length=gk[k]?.getD 0→∀ o,opW k r.ws= .ok o→∀ f s,St.lw σ1 s→slot 2 f= .ptr ρ 0→s.box ρ=some (cOp o)→Q .normal f s) :
  aX Tryz.prog (.invX [.o ⟨some 26, .fldA 2 (.t 5),none⟩, .o ⟨some 27, .ld (none) (.t 26),none⟩, .o ⟨some 28, .ld (some 2) (.t 1),none⟩, .o ⟨some 29, .fldA 1 (.t 5),none⟩, .o ⟨some 30, .ld (none) (.t 29),none⟩, .c (some 31) 97 [(.t 28),(.t 30)], .v (some 32) (.t 27) [(.t 31)], .o ⟨none, .st 8 (.t 2) (.t 32),none⟩] [[],[0],[],[],[3],[2,4],[1,5,5],[6,6,0,1,2,3,4,5,6]]) fr σb Q:=by
 refine lN [26,27,28,29,30,31] 6 (V7 δ (gk[k]?.getD 0) (ox[k]?.getD 0) r σb) Qg ?_ ?_ ?_
 ·intro i v s s' h hs
  unfold V7 at h ⊢
  split at h
  all_goals first|exact h|skip
  obtain ⟨κ,q1,q2,q3⟩:=h
  exact ⟨κ,q1,hs.1 _ _ q2,q3⟩
 ·intro j x d hj hx hd f s hs hfr hv
  have h1':slot 1 f= .ptr γ 0:=by rw [hfr 1 Qg];exact h1
  have h5':slot 5 f= .ptr δ 0:=by rw [hfr 5 Qg];exact h5
  have hc:j=0∨j=1∨j=2∨j=3∨j=4∨j=5:=P6
  haveI b1:BoxIs s γ [.int .i64 (r.a:Nat), .sl false r.ws.length (r.ws.flatMap cWd)]:=⟨iA hs hγ⟩
  haveI b2:BoxIs s δ [.str nm, .int .i64 ((gk[k]?.getD 0:Nat):Int), .fn (ox[k]?.getD 0) []]:=⟨iA hs hδ⟩
  have h1:=h1'
  have h5:=h5'
  have e0:True:=trivial
  have e1:True:=trivial
  have e2:True:=trivial
  have e3:True:=trivial
  have e4:True:=trivial
  rcases hc with rfl|rfl|rfl|rfl|rfl|rfl
  ·cases hx;cases hd
   refine bX ?_
   simp only [↓R1,RR,seval,h1,h2,h5,e0,e1,e2,e3,e4,RX]
   exact ⟨_,rfl,St.le_refl _,rfl⟩
  ·cases hx;cases hd
   have e0:slot 26 f= .ptr δ 2:=hv 0 26 Qd rfl
   refine bX ?_
   simp only [↓R1,RR,seval,h1,h2,h5,e0,e1,e2,e3,e4,RX]
   exact ⟨_,rfl,St.le_refl _,rfl⟩
  ·cases hx;cases hd
   refine bX ?_
   simp only [↓R1,RR,seval,h1,h2,h5,e0,e1,e2,e3,e4,RX]
   exact ⟨_,rfl,St.le_refl _,rfl⟩
  ·cases hx;cases hd
   refine bX ?_
   simp only [↓R1,RR,seval,h1,h2,h5,e0,e1,e2,e3,e4,RX]
   exact ⟨_,rfl,St.le_refl _,rfl⟩
  ·cases hx;cases hd
   have e3:slot 29 f= .ptr δ 1:=hv 3 29 Qd rfl
   refine bX ?_
   simp only [↓R1,RR,seval,h1,h2,h5,e0,e1,e2,e3,e4,RX]
   exact ⟨_,rfl,St.le_refl _,rfl⟩
  ·cases hx;cases hd
   have e2:slot 28 f= .agg (cRw r):=hv 2 28 Qd rfl
   have e4:slot 30 f= .int .i64 ((gk[k]?.getD 0:Nat):Int):=hv 4 30 Qd rfl
   simp only [gv,List.map_cons,List.map_nil,ev,e2,e4]
   by_cases hln:r.ws.length=gk[k]?.getD 0
   ·refine (ow hln).mono fun b v s' hb=>?_
    obtain ⟨rfl,κ,q1,rfl,rfl⟩:=hb
    exact ⟨_,rfl,St.aD (St.le_refl _) q1,κ,rfl,St.cA _ _ _,le_none hs q1,hln⟩
   ·refine (ou (σ0:=σ0) (jU hlw hs) hln).mono fun b v s' hb=>?_
    cases b with
    | false=>obtain ⟨a,q1,_⟩:=hb;cases q1
    | true=>obtain ⟨a,q1,rfl,rfl⟩:=hb;cases q1;exact hno hln
 ·intro f s hs hfr hv
  have h2':slot 2 f= .ptr ρ 0:=by rw [hfr 2 Qg];exact h2
  have e1:slot 27 f= .fn (ox[k]?.getD 0) []:=hv 1 27 rfl
  obtain ⟨κ,e5,q2,q3,hln⟩:∃ κ,slot 31 f= .ptr κ 0∧s.box κ=some (cur r 1)∧σb.box κ=none∧r.ws.length=gk[k]?.getD 0:=hv 5 31 rfl
  have hne:ρ≠κ:=fun e=>by rw [e,q3] at hρ;cases hρ
  have hcu:Cu σ0 s κ r 1:=⟨q2,dJ hlw q3,jU hlw hs,hn,ht⟩
  have hsp:s.box ρ=some z8:=iA hs hρ
  have hσs:cY gl3 s:=fun k cs hk=>hs.2.2.1 _ _ (hσ k cs hk)
  haveI b3:BoxIs s ρ z8:=⟨hsp⟩
  haveI:Apart ρ κ:=⟨hne⟩
  haveI:Apart κ ρ:=⟨Ne.symm hne⟩
  show cC _ [.v (some 32) (.t 27) [(.t 31)], .o ⟨none, .st 8 (.t 2) (.t 32),none⟩] f s Q
  have e0:True:=trivial
  have e2:True:=trivial
  have e3:True:=trivial
  have e4:=e5
  have h1:True:=trivial
  have h5:True:=trivial
  have h2:=h2'
  simp only [↓R1,RR,seval,h1,h2,h5,e0,e1,e2,e3,e4,RX]
  refine bF (hF hcu hσs hln) (ad _) (fun o ho=>?_) (fun e ho=>her hln e ho)
  simp only [z8,↓R1,RR,seval,h1,h2,h5,e0,e1,e2,e3,e4,RX]
  refine ⟨rfl,hok hln o ho _ _ ?_ ?_ (St.cA _ _ _)⟩
  ·exact St.cI (St.cI (jU (St.gT hle) hs) (le_none hle q3)) hρ1
  ·simp only [slot];rw [if_neg Qg];exact h2
def oy (r:Rw):Option Nat:=match r.ws with
 | []=>none
 | w0::_=>bif w0.q then none else dc w0.t names9 0
def wg (r:Rw):Except Ft OpI:=match oy r with
 | none=> .error (11,(r.a:Int))
 | some k=>if r.ws.length=gk[k]?.getD 0 then opW k r.ws else .error (3,(r.a:Int))
theorem KR {k:Nat} (hk:k<9):(([.str [114,101,103,105,115,116,101,114], .int .i64 3, .fn 88 [], .str [113,117,101,114,121], .int .i64 3, .fn 89 [], .str [100,114,111,112], .int .i64 3, .fn 90 [], .str [105,110,103,101,115,116], .int .i64 4, .fn 91 [], .str [98,121,116,101,115], .int .i64 2, .fn 92 [], .str [116,105,99,107], .int .i64 1, .fn 93 [], .str [112,111,108,108], .int .i64 3, .fn 94 [], .str [100,101,99,108,97,115,115,105,102,121], .int .i64 4, .fn 95 [], .str [97,117,100,105,116], .int .i64 4, .fn 96 []]:List AV).drop (k*3)).take 3= [.str (names9[k]?.getD []), .int .i64 ((gk[k]?.getD 0:Nat):Int), .fn (ox[k]?.getD 0) []]:=by
 have hc:k=0∨k=1∨k=2∨k=3∨k=4∨k=5∨k=6∨k=7∨k=8:=P6
 rcases hc with rfl|rfl|rfl|rfl|rfl|rfl|rfl|rfl|rfl<;>rfl
theorem ue (q:Bool) (t n:List UInt8):(kf q t [n] == 0)=(!q&&(n == t)):=by
 unfold kf dc
 cases q<;>simp only [cond_true,cond_false]
 ·cases n == t<;>rfl
 ·rfl
theorem rH (t:List UInt8) (l:List (List UInt8)) {k:Nat} (h:k<l.length) (j:Nat):dc t (l.drop k) j=bif (l[k]?.getD [] == t) then some j else dc t (l.drop (k+1)) (j+1):=by
 rw [jk t l h,List.getElem?_eq_getElem h];rfl
theorem qf (t:List UInt8):∀ (l:List (List UInt8)) (i k:Nat),dc t l i=some k→k<i+l.length
  | [],_,_,h=>by simp [dc] at h
  | n :: l, i, k, h => by
    simp only [dc] at h
    cases hb:n == t with
    | true=>rw [hb] at h;cases h;simp
    | false=>rw [hb] at h;have:=qf t l (i+1) k h;simp;omega
def l6 (r:Rw):Prop:=∀ {σ σ0:St} {β k:Nat},oy r=some k→Cu σ0 σ β r 1→cY gl3 σ→r.ws.length=gk[k]?.getD 0→AX Tryz.prog (ox[k]?.getD 0) [.ptr β 0] σ (oX TS (opW k r.ws) (fun o=> .agg (cOp o)) (fun _=>σ.aa β (cur r (gk[k]?.getD 0))) σ0)
set_option maxHeartbeats 4000000 in
theorem M0 {σ σ0:St} {r:Rw} (hF:l6 r) (hσ:cY gl3 σ) (hlw:St.lw σ0 σ) (hne:r.ws≠ []) (hn:r.ws.length≤20000) (ht:∀ w∈r.ws,w.t.length≤1000000):AX Tryz.prog 43 [.agg (cRw r)] σ (oX TS (wg r) (fun o=> .agg (cOp o)) (fun _=>σ) σ0):=by
  obtain ⟨w0,ws,hws⟩:∃ w0 ws,r.ws=w0::ws:=by
    cases h:r.ws with
    | nil=>exact (hne h).elim
    | cons w0 ws=>exact ⟨w0,ws,rfl⟩
  have hw0:r.ws[0]? =some w0:=Qo
  have q1:True:=trivial
  have q2:True:=trivial
  have he:True:=trivial
  have hw:True:=trivial
  (refine bd c43 b43 ?_;simp only [c43,↓R1,RR,seval,RX,cRw,q1,q2,he,hw])
  repeat' (first|(with_reducible rw [ah])|((with_reducible intro β hβ;(try simp only [RB] at hβ);(repeat (obtain ⟨⟨_,_⟩,hβ⟩:=hβ));(try (have hbis:=aj Qa hβ;obtain ⟨_,_⟩:=hbis)))<;>(try simp only [↓R1,RR,seval,RX,cRw,q1,q2,he,hw])))
  rename_i γ hγ ρ hρ p1 p2 p3 p4 p5 p6
  refine pQ 9 (fun k=> [(1, .ptr γ 0),(2, .ptr ρ 0),(16, .agg [.str [114,101,103,105,115,116,101,114], .int .i64 3, .fn 88 [], .str [113,117,101,114,121], .int .i64 3, .fn 89 [], .str [100,114,111,112], .int .i64 3, .fn 90 [], .str [105,110,103,101,115,116], .int .i64 4, .fn 91 [], .str [98,121,116,101,115], .int .i64 2, .fn 92 [], .str [116,105,99,107], .int .i64 1, .fn 93 [], .str [112,111,108,108], .int .i64 3, .fn 94 [], .str [100,101,99,108,97,115,115,105,102,121], .int .i64 4, .fn 95 [], .str [97,117,100,105,116], .int .i64 4, .fn 96 []]),(17, .int .i64 (k:Nat))]) (fun _=>(σ.aa γ [.int .i64 (r.a:Nat), .sl false r.ws.length (r.ws.flatMap cWd)]).aa ρ [.int .i64 0, .int .i64 0, .int .u64 0, .str [], .int .i64 0, .int .i64 0, .int .u64 0, .int .u64 0])
    (fun k=>oy r=(bif w0.q then none else dc w0.t (names9.drop k) k)) Qi (St.aD (St.le_refl _) (by simp only [↓R1,RR,seval,RX,cRw,q1,q2,he,hw];exact hβ)) (by simp [oy,hws]) (fun k hk hI=>?_)
  have hlen:names9.length=9:=rfl
  by_cases hlt:k<9
  · have q1:decide ((k:Int)<9)=true:=by rw [decide_eq_true_eq];omega
    have he:=KR hlt
    have hw:IntKind.i64.wrap ((k:Int)+1)=((k+1:Nat):Int):=P9
    rw [rH w0.t names9 P6] at hI
    have hwh:=p83 r w0 true [names9[k]?.getD []] hw0 Qd
    simp only [cRw] at hwh
    have q2:=ue w0.q w0.t (names9[k]?.getD [])
    simp only [q1,↓R1,RR,seval,RX,cRw,q1,q2,he,hw]
    repeat' (first|(with_reducible rw [ah])|(with_reducible refine And.intro ?_ ?_;exact af)|((first|(with_reducible intro β hβ;(try simp only [RB] at hβ);(repeat (obtain ⟨⟨_,_⟩,hβ⟩:=hβ));(try (have hbis:=aj Qa hβ;obtain ⟨_,_⟩:=hbis)))|(refine Pt (hwh) ?_))<;>(try simp only [↓R1,RR,seval,RX,cRw,q1,q2,he,hw])))
    all_goals first|omega|skip
    refine eK (fun hc=>?_) (fun hc=>?_)
    · have hfo:oy r=some k:=by
        rw [hI]
        simp only [Bool.and_eq_true,Bool.not_eq_true'] at hc
        rw [hc.1,hc.2];rfl
      simp only [↓R1,RR,seval,RX,cRw,q1,q2,he,hw]
      refine G6 (σ0:=σ0) (σ1:=σ) (k:=k) (nm:=names9[k]?.getD []) (γ:=γ) (ρ:=ρ) (δ:=β) hσ ?_ ?_ hlt hn ht ?_ ?_ ?_ hρ rfl rfl rfl (fun h hσ hn=>hF hfo h hσ hn) ?_ ?_ ?_
      · exact cL
      · (repeat (first|exact St.le_refl _|(refine St.aD ?_ Qa)|(refine St.cW ?_ Qa)))
      · simp only [cRw,↓R1,RR,seval,RX,cRw,q1,q2,he,hw]
      · simp only [↓R1,RR,seval,RX,cRw,q1,q2,he,hw]
      · simp only [z8,↓R1,RR,seval,RX,cRw,q1,q2,he,hw]
      · intro hno
        simp only [↓R1,RR,seval,RX,cRw,q1,q2,he,hw]
        exact aO (by simp only [wg,hfo,if_neg hno]) (St.ax _)
      · intro hln e he
        simp only [↓R1,RR,seval,RX,cRw,q1,q2,he,hw]
        exact aO (by simp only [wg,hfo,if_pos hln,he]) (St.ax _)
      · intro hln o ho f s hs hf hsr
        haveI:BoxIs s ρ (cOp o):=⟨hsr⟩
        simp only [↓R1,RR,seval,RX,cRw,q1,q2,he,hw]
        refine jA (a:=o) Qd (by simp only [wg,hfo,if_pos hln,ho]) ?_ ?_ hs
        · simp only [av,rvS,hf,↓R1,RR,seval,RX,cRw,q1,q2,he,hw];simp [cOp]
        · simp only [an,hf,↓R1,RR,seval,RX,cRw,q1,q2,he,hw];exact ae _
    · simp only [↓R1,RR,seval,RX,cRw,q1,q2,he,hw]
      repeat' (first|(with_reducible refine And.intro ?_ ?_;exact af)|(with_reducible apply And.intro))
      · rw [hI]
        cases hq:w0.q with
        | true=>rfl
        | false =>
          rw [hq] at hc
          simp only [Bool.not_false,Bool.true_and] at hc
          rw [hc];rfl
      · simp [aq,slot,ae]
      · refine St.aD (St.le_refl _) ?_
        simp only [↓R1,RR,seval,RX,cRw,q1,q2,he,hw]
        assumption
  · have hke:k=9:=by omega
    subst hke
    have q1:decide (((9:Nat):Int)<9)=false:=Qd
    have hfo:oy r=none:=by
      rw [hI,show names9.drop 9= [] from rfl]
      cases w0.q<;>rfl
    simp only [q1,↓R1,RR,seval,RX,cRw,q1,q2,he,hw]
    repeat' (((refine bR (σ0:=σ0) Qg Q3 ?_))<;>(try simp only [↓R1,RR,seval,RX,cRw,q1,q2,he,hw]))
    exact aO (by simp only [wg,hfo]) (St.ax _)
theorem rI (l:List Rw):(l.flatMap cRw).length=l.length*2:=a8 (f:=cRw) (fun _=>rfl) l
theorem wh {l:List Rw} {k:Nat} {w:Rw} (h:l[k]? =some w):((l.flatMap cRw).drop (k*2)).take 2=cRw w:=by
  induction l generalizing k with
  | nil=>simp at h
  | cons x l ih =>
    cases k with
    | zero=>simp at h;subst h;simp [cRw]
    | succ k =>
      simp only [List.getElem?_cons_succ] at h
      have:=ih h
      rw [List.flatMap_cons,show (k+1)*2=(cRw x).length+k*2 by simp [cRw];omega,List.drop_append,List.drop_eq_nil_of_le P6,List.nil_append,Nat.add_sub_cancel_left]
      exact this
theorem G7 (l:List OpI):(l.flatMap cOp).length=l.length*8:=a8 (f:=cOp) (fun _=>rfl) l
def rJ:List Rw→Nat→Except Ft (List OpI)
 | [],_=> .ok []
 | r::rs,n=>eb (wg r) fun o=>if n=400 then .error (6,(r.a:Int)) else eb (rJ rs (n+1)) fun l=> .ok (o::l)
def iB (s:List UInt8):Except Ft (List OpI):=eb (fb s) fun rs=>rJ rs 0
def M1 (rs:List Rw):Prop:=rs.length≤20001∧∀ r∈rs,r.ws≠ []∧r.ws.length≤20000∧∀ w∈r.ws,w.t.length≤1000000
theorem kg {s:List UInt8} {rs:List Rw} (h:fb s= .ok rs):M1 rs:=by
 unfold fb at h
 split at h
 ·rename_i rs' hr
  cases h
  obtain ⟨h1,h2,h3⟩:=v7 hr
  exact ⟨by omega,fun r hr=>⟨(h3 r hr).1,(h3 r hr).2.1,fun w hw=>by have:=(h3 r hr).2.2 w hw;omega⟩⟩
 ·cases h
theorem Ao {x:CX} {fr:Fr} {σ:St} {Q:Exit→Fr→St→Prop} {h:Hold (x,σ,Q)} {α:Type} (t e s n:Nat) (cs:List AV) (F:Nat→α→Fr) (S:Nat→α→St) (I:α→Prop) (μ:α→Nat) (a0:α)
  (hf:fresh (slot t fr)) (hs:slv (slot t fr)=some (n,cs)) (h0:I a0) (hF:∀ τ,σ.tip τ=none→aq (F τ a0) ((t, .tsl τ n cs)::fr)) (hS:∀ τ,σ.tip τ=none→St.le (S τ a0) (σ.ai τ (e,s,n)))
  (hr:∀ τ,σ.tip τ=none→∀ a,I a→aX Tryz.prog x (F τ a) (S τ a) (fV (fun fr' σ'=>∃ b,I b∧aq (F τ b) fr'∧St.le (S τ b) σ'∧μ b<μ a) Q)):nO Tryz.prog x fr σ Q h:=by
 refine j7 (α:=α) [(false,t,0,e,s)] ?_
 simp only [cH]
 refine ⟨hf,?_⟩
 rw [hs]
 exact fun τ hτ=>⟨F τ,S τ,I,μ,a0,h0,hF τ hτ,hS τ hτ,hr τ hτ⟩
theorem Ap {rs:List Rw} {k:Nat} {r:Rw} (h:rs[k]? =some r) (n:Nat):rJ (rs.drop k) n=eb (wg r) fun o=>if n=400 then .error (6,(r.a:Int)) else eb (rJ (rs.drop (k+1)) (n+1)) fun l=> .ok (o::l):=by
 obtain ⟨h1,h2⟩:=List.getElem?_eq_some_iff.1 h
 rw [List.drop_eq_getElem_cons h1,h2];rfl
theorem jm {α β γ:Type} (o:Except Ft α) (f:α→Except Ft β) (g:β→Except Ft γ):eb (eb o f) g=eb o fun a=>eb (f a) g:=by cases o<;>rfl
theorem wi {a b:St} {τ:Nat} {x:Nat × Nat × Nat} (h:St.le a b):St.le (a.ai τ x) (b.ai τ x):=by
 refine ⟨h.1,fun υ y hy=>?_,h.2.2⟩
 simp only [St.ai,upd] at hy ⊢
 split
 ·rename_i e;rw [if_pos e] at hy;exact hy
 ·rename_i e;rw [if_neg e] at hy;exact h.2.1 _ _ hy
theorem rK (o:OpI):(cOp o).length=8:=rfl
theorem rL (o:OpI):(cOp o).take 8=cOp o:=rfl
set_option maxHeartbeats 4000000 in
theorem x41 {σ σ0:St} {ζ l:Nat} {s:List UInt8} (hF:∀ rs,fb s= .ok rs→∀ r∈rs,l6 r) (hσ:cY gl3 σ) (hlw:St.lw σ0 σ) (hs:s.length≤1000000) (hz:σ.box ζ=some [.str s]) (hl:σ.box l=some [.nils]) (hne:l≠ζ) :
  AX Tryz.prog 41 [.ptr ζ 0, .ptr l 0] σ (oX TS (iB s) (fun _=> .tup []) (fun os=>σ.aa l [.sl false os.length (os.flatMap cOp)]) σ0):=by
 haveI:BoxIs σ ζ [.str s]:=⟨hz⟩
 haveI:BoxIs σ l [.nils]:=⟨hl⟩
 have q1:True:=trivial
 have he:True:=trivial
 have hw:True:=trivial
 (refine bd c41 b41 ?_;simp only [c41,↓R1,RR,seval,RX,cRw,q1,he,hw,rK,rL])
 repeat' (((refine bF (x42 (σ0:=σ0) s hs ?_) (ad _) (fun rs ho1=>?_) (fun e ho1=>?_);(focus (exact cL;done))))<;>(try simp only [↓R1,RR,seval,RX,cRw,q1,he,hw,rK,rL]))
 all_goals first|(refine aO ?_ (St.ax _);focus (simp only [iB,eb,ho1];done))|skip
 obtain ⟨hz1,hz2⟩:=kg ho1
 have hp:iB s=rJ rs 0:=by simp only [iB,eb,ho1]
 have hml:maxLen=9223372036854775807:=rfl
 refine Ao (α:=List OpI) 2 33 8 0 [] (fun τ acc=> [(1, .ptr l 0),(2, .tsl τ acc.length (acc.flatMap cOp)),(7, .sl false rs.length (rs.flatMap cRw)),(8, .int .i64 (rs.length:Nat)),(9, .int .i64 (acc.length:Nat))]) (fun τ acc=>σ.ai τ (33,8,acc.length))
  (fun acc=>acc.length≤rs.length∧acc.length≤400∧rJ rs 0=eb (rJ (rs.drop acc.length) acc.length) fun m=> .ok (acc++m)) (fun acc=>rs.length - acc.length) [] trivial rfl ⟨by simp,by simp,by simp only [List.length_nil,List.drop_zero,List.nil_append];cases rJ rs 0<;>rfl⟩ (fun τ hτ=>by simp [aq,slot,ae]) (fun τ hτ=>St.le_refl _) ?_
 intro τ hτ acc ⟨hk,hk4,hI⟩
 have htt:(σ.ai τ (33,8,acc.length)).tip τ=some (33,8,acc.length):=QS
 by_cases hlt:acc.length<rs.length
 ·obtain ⟨r,hr⟩:∃ r,rs[acc.length]? =some r:=⟨_,List.getElem?_eq_getElem hlt⟩
  obtain ⟨hr1,hr2,hr3⟩:=hz2 r (List.mem_of_getElem? hr)
  have hFr:l6 r:=hF rs ho1 r (List.mem_of_getElem? hr)
  have q1:decide ((acc.length:Int)<(rs.length:Int))=true:=Qf
  have he:=wh hr
  simp only [cRw] at he
  have hw:IntKind.i64.wrap ((acc.length:Int)+1)=((acc.length+1:Nat):Int):=P9
  rw [Ap hr,jm] at hI
  have hcl:=rI rs
  have hol:=G7 acc
  simp only [q1,↓R1,RR,seval,RX,cRw,q1,he,hw,rK,rL]
  repeat' (first|(with_reducible rw [ah])|(with_reducible refine And.intro ?_ ?_;exact af)|((first|(with_reducible intro β hβ;(try simp only [RB] at hβ);(repeat (obtain ⟨⟨_,_⟩,hβ⟩:=hβ));(try (have hbis:=aj Qa hβ;obtain ⟨_,_⟩:=hbis)))|((first|(refine bI (.inr rfl) rfl ?_ ?_ ?_ ?_ ?_ ?_;(first|rfl|exact St.bn _ _ _|(simp only [↓R1,RR,seval,RX,cRw,q1,he,hw,rK,rL]));(first|omega|(exact aE)|(simp only [RZ]));(first|rfl|first|omega|(exact aE)|(simp only [RZ])))|(refine br rfl ?_ ?_ ?_ ?_ ?_ ?_;(first|rfl|exact St.bn _ _ _|(simp only [↓R1,RR,seval,RX,cRw,q1,he,hw,rK,rL]));(first|omega|(exact aE)|(simp only [RZ]));(first|rfl|first|omega|(exact aE)|(simp only [RZ])))|(refine appV_own ?_ ?_ ?_ ?_;exact a8 QB _)|(refine appD_own ?_ ?_ ?_ ?_ ?_;omega;exact a8 QB _)|(refine appV_fresh rfl trivial rfl ?_ ?_ ?_ ?_ ?_;(first|rfl|first|omega|(exact aE)|(simp only [RZ]));(first|rfl|first|omega|(exact aE)|(simp only [RZ])))|(refine appD_fresh rfl trivial rfl ?_ ?_ ?_ ?_ ?_ ?_;omega;(first|rfl|first|omega|(exact aE)|(simp only [RZ]));(first|rfl|first|omega|(exact aE)|(simp only [RZ]))));(unfold maxLen;omega);omega)|((refine bF (M0 (σ0:=σ0) (r:=r) hFr ?_ ?_ hr1 hr2 hr3) (ad _) (fun o ho2=>?_) (fun e ho2=>?_);(focus (intro k cs hk;exact hσ k cs hk));(focus (exact cL;done))))|((refine eK (fun hc=>?_) (fun hc=>?_)))|((refine bR (σ0:=σ0) Qg Q3 ?_)))<;>(try simp only [↓R1,RR,seval,RX,cRw,q1,he,hw,rK,rL])))
  all_goals (try (first|omega|(simp;done)))
  ·have hc2:acc.length=400:=by simp only [beq_iff_eq] at hc;omega
   refine aO ?_ (St.ax _)
   rw [hp,hI,aJ _ ho2,if_pos hc2];rfl
  ·have hc2:acc.length≠400:=by
    intro h
    simp only [beq_eq_false_iff_ne] at hc
    exact hc Q6
   refine ⟨acc++ [o],⟨by simp;omega,by simp;omega,?_⟩,?_,?_,by simp;omega⟩
   ·rw [hI,aJ _ ho2,if_neg hc2,jm,List.length_append,List.length_singleton]
    simp only [eb,List.append_assoc,List.singleton_append]
   ·simp only [aq,slot,ae,↓R1,RR,seval,RX,cRw,q1,he,hw,rK,rL]
    simp [ae]
   ·simp only [List.length_append,List.length_singleton]
    exact wi (St.aD (St.aD (St.le_refl _) Qa) Qa)
  ·refine aO ?_ (St.ax _)
   rw [hp,hI,cS _ ho2]
 ·have hke:acc.length=rs.length:=by omega
  have q1:decide ((acc.length:Int)<(rs.length:Int))=false:=Qs
  have ho:iB s= .ok acc:=by
   rw [hp,hI,hke,List.drop_length];simp only [rJ,eb,List.append_nil]
  simp only [q1,↓R1,RR,seval,RX,cRw,q1,he,hw,rK,rL]
  skip
  refine dM ho ?_ ?_
  ·simp only [an,↓R1,RR,seval,RX,cRw,q1,he,hw,rK,rL]
   exact ae _
  ·exact cL
theorem oz {α:Type} {fc:Nat} {cap:List AV} {σ:St} {o:Except Ft α} {s1:α→St} {s0:St} {a:α} (hent:∀ xs w,(callFunc fc xs).run Tryz.prog w= .ok (.enter fc xs) w)
  (h:∀ β,σ.box β=none→AX Tryz.prog fc cap (σ.aa β z2) (oX TS o (fun _=> .tup []) (fun a=>(s1 a).aa β z2) (s0.aa β z2)))
  (h1:∀ β a,σ.box β=none→(s1 a).box β=none) (h0:∀ β,σ.box β=none→s0.box β=none) (ho:o= .ok a):AC Tryz.prog 40 [.fn fc cap] σ (fun r s=>r= .agg [.int .i64 0, .int .i64 0]∧s=s1 a) :=
 (a40 hent h h1 h0).mono fun r s hr=>by
  rcases hr with ⟨b,k1,k2,k3⟩|⟨f,k1,k2,k3⟩
  ·rw [ho] at k1;cases k1;exact ⟨k2,k3⟩
  ·rw [ho] at k1;cases k1
theorem oA {α:Type} {fc:Nat} {cap:List AV} {σ:St} {o:Except Ft α} {s1:α→St} {s0:St} {e:Ft} (hent:∀ xs w,(callFunc fc xs).run Tryz.prog w= .ok (.enter fc xs) w)
  (h:∀ β,σ.box β=none→AX Tryz.prog fc cap (σ.aa β z2) (oX TS o (fun _=> .tup []) (fun a=>(s1 a).aa β z2) (s0.aa β z2)))
  (h1:∀ β a,σ.box β=none→(s1 a).box β=none) (h0:∀ β,σ.box β=none→s0.box β=none) (ho:o= .error e):AC Tryz.prog 40 [.fn fc cap] σ (fun r s=>r= .agg [.int .i64 e.1, .int .i64 e.2]∧s=s0) :=
 (a40 hent h h1 h0).mono fun r s hr=>by
  rcases hr with ⟨b,k1,k2,k3⟩|⟨f,k1,k2,k3⟩
  ·rw [ho] at k1;cases k1
  ·rw [ho] at k1;cases k1;exact ⟨k2,k3⟩
theorem HN {f:Nat} {xs:List AV} {σ s0 s0':St} {α:Type} {T:Nat} {o:Except Ft α} {t:α→AV} {s1 s1':α→St} (h:AX Tryz.prog f xs σ (oX T o t s1 s0)) (h1:∀ a,s1 a=s1' a) (h0:s0=s0'):AX Tryz.prog f xs σ (oX T o t s1' s0'):=by
 have:s1=s1':=funext h1
 subst this;subst h0;exact h
theorem iC {σ:St} {β γ:Nat} {c d:List AV} (h:σ.box γ=some d) (hβ:σ.box β=none):(σ.aa β c).box γ=some d:=by
 have:γ≠β:=fun e=>by rw [e,hβ] at h;cases h
 simp [St.aa,upd,this,h]
theorem gE {σ:St} {β γ:Nat} {c d:List AV} (h:σ.box γ=some d) (hβ:σ.box β=none):(σ.aa γ c).box β=none:=by
 have:β≠γ:=fun e=>by rw [←e,hβ] at h;cases h
 simp [St.aa,upd,this,hβ]
theorem uf {σ:St} {β γ:Nat} {c d z:List AV} (h:σ.box γ=some d) (hβ:σ.box β=none):(σ.aa β z).aa γ c=(σ.aa γ c).aa β z :=
 St.set_comm _ (fun e=>by rw [e,h] at hβ;cases hβ) _ _
def rM (s:List UInt8):AV:=match iB s with
 | .ok os=> .tup [.sl false os.length (os.flatMap cOp), .agg [.int .i64 0, .int .i64 0]]
 | .error e=> .tup [.sl false 0 [], .agg [.int .i64 e.1, .int .i64 e.2]]
theorem ug {σ:St} {ζ l:Nat} {s:List UInt8} (hF:∀ rs,fb s= .ok rs→∀ r∈rs,l6 r) (hσ:cY gl3 σ) (hs:s.length≤1000000) (hz:σ.box ζ=some [.str s]) (hl:σ.box l=some [.nils]) (hne:l≠ζ):∀ β,σ.box β=none→AX Tryz.prog 41 [.ptr ζ 0, .ptr l 0] (σ.aa β z2) (oX TS (iB s) (fun _=> .tup []) (fun os=>(σ.aa l [.sl false os.length (os.flatMap cOp)]).aa β z2) (σ.aa β z2)):=fun β hβ =>
 HN (x41 (σ:=σ.aa β z2) (σ0:=σ.aa β z2) hF hσ (St.ax _) hs (iC hz hβ) (iC hl hβ) hne) (fun os=>uf hl hβ) rfl
theorem _root_.QR {p:Prop} (h:p:=by simp only [↓R1,RR,seval]):p:=h
theorem _root_.Rj {p:Prop} (h:p:=by first|(simp [av,rvS];done)|(simp only [av,rvS,↓R1,RR,seval];try simp)):p:=h
theorem G8 (s:List UInt8) (hF:∀ rs,fb s= .ok rs→∀ r∈rs,l6 r) (hs:s.length≤1000000):PuG Tryz.prog gl3 12 [.str s] (rM s):=by
  have hent:=Go.Proofs.enters_of Tryz.func41 P7 rfl
  cases hp:iB s with
  | ok os =>
    rw [rM,hp]
    (refine cP c12 b12 fun σ hσ=>?_;simp only [c12,↓R1,RR,seval])
    repeat' (first|(with_reducible rw [ah])|((with_reducible intro β hβ;(try simp only [RB] at hβ);(repeat (obtain ⟨⟨_,_⟩,hβ⟩:=hβ));(try (have hbis:=aj Qa hβ;obtain ⟨_,_⟩:=hbis)))<;>(try simp only [↓R1,RR,seval])))
    rename_i ζ hζ l hl p1 p2 p3 p4 p5 p6
    have hat:=ug (s:=s) (ζ:=ζ) (l:=l) (σ:=((σ.aa ζ [AV.str s]).aa l [AV.nils]).aa β [AV.int IntKind.i64 0,AV.int IntKind.i64 0]) hF hσ hs QR QR p1.ne
    refine AC.mono (AC.wk (oz hent hat (fun γ a hγ=>gE (d:= [AV.nils]) QR hγ) (fun γ hγ=>hγ) hp) (ad _)) ?_
    rintro _ _ ⟨rfl,rfl⟩
    simp only [↓R1,RR,seval]
    repeat' (with_reducible apply And.intro)
    all_goals (refine ak ?_ Rj)
    all_goals (simp only [an,↓R1,RR,seval];exact ae _)
  | error e =>
    rw [rM,hp]
    (refine cP c12 b12 fun σ hσ=>?_;simp only [c12,↓R1,RR,seval])
    repeat' (first|(with_reducible rw [ah])|((with_reducible intro β hβ;(try simp only [RB] at hβ);(repeat (obtain ⟨⟨_,_⟩,hβ⟩:=hβ));(try (have hbis:=aj Qa hβ;obtain ⟨_,_⟩:=hbis)))<;>(try simp only [↓R1,RR,seval])))
    rename_i ζ hζ l hl p1 p2 p3 p4 p5 p6
    have hat:=ug (s:=s) (ζ:=ζ) (l:=l) (σ:=((σ.aa ζ [AV.str s]).aa l [AV.nils]).aa β [AV.int IntKind.i64 0,AV.int IntKind.i64 0]) hF hσ hs QR QR p1.ne
    refine AC.mono (AC.wk (oA hent hat (fun γ a hγ=>gE (d:= [AV.nils]) QR hγ) (fun γ hγ=>hγ) hp) (ad _)) ?_
    rintro _ _ ⟨rfl,rfl⟩
    simp only [↓R1,RR,seval]
    repeat' (with_reducible apply And.intro)
    all_goals (refine ak ?_ Rj)
    all_goals (simp only [an,↓R1,RR,seval];all_goals exact dN)
theorem uh {P:Program} {f:Nat} {xs:List AV} {α:Type} {T:Nat} {a:α} {t:α→AV} {v:AV} (h:∀ σ,AX P f xs σ (oX T (.ok a) t (fun _=>σ) σ)) (hv:v=t a):Pu P f xs v:=fun σ=>by
 refine AC.Mh ((h σ).mono fun b r s hb=>?_)
 cases b with
 | false=>obtain ⟨a',h1,rfl,rfl⟩:=hb;cases h1;exact ⟨rfl,hv.symm,rfl⟩
 | true=>obtain ⟨e,h1,_⟩:=hb;cases h1
theorem St.D0 {σ:St} {L:Nat} {x:LO × Fr} (h:σ.lp L=some x):σ.au L x=σ:=by
 obtain ⟨b,t,g,l,bt⟩:=σ
 simp only [St.au,St.mk.injEq,true_and,and_true]
 funext j;simp only [upd]
 split
 ·rename_i e;subst e;exact h.symm
 ·rfl
theorem PR {c:CfgI} (hc:CfgOk c) (σ:St):AC Tryz.prog 106 [.agg (aR c)] σ (fun r s=>∃ β,σ.box β=none∧r= .fn 162 [.ptr β 0]∧s=σ.aa β (aR c)):=by
 have hcl:=eA hc
 have hca:=gD hc
 refine bg JM Oo ?_
 simp only [JM,↓R1,RR,seval,hcl,hca]
 intro β hβ
 refine cb ?_
 exact ⟨β,hβ,rfl,rfl⟩
theorem PS {c:CfgI} (hc:CfgOk c) (σ:St):AC Tryz.prog 107 [.agg (aR c)] σ (fun r s=>∃ β,σ.box β=none∧r= .fn 164 [.ptr β 0]∧s=σ.aa β (aR c)):=by
 have hcl:=eA hc
 have hca:=gD hc
 refine bg JN Oq ?_
 simp only [JN,↓R1,RR,seval,hcl,hca]
 intro β hβ
 refine cb ?_
 exact ⟨β,hβ,rfl,rfl⟩
theorem PT {c:CfgI} (hc:CfgOk c) (σ:St):AC Tryz.prog 108 [.agg (aR c)] σ (fun r s=>∃ β,σ.box β=none∧r= .fn 165 [.ptr β 0]∧s=σ.aa β (aR c)):=by
 have hcl:=eA hc
 have hca:=gD hc
 refine bg JO Ov ?_
 simp only [JO,↓R1,RR,seval,hcl,hca]
 intro β hβ
 refine cb ?_
 exact ⟨β,hβ,rfl,rfl⟩
def V9 (c:CfgI) (i:Nat) (v:AV) (s:St):Prop:=match i with
 | 0=>v= .agg (aR c)
 | 1=>∃ β,v= .fn 162 [.ptr β 0]∧s.box β=some (aR c)
 | 2=>v= .agg (aR c)
 | 3=>∃ β,v= .fn 164 [.ptr β 0]∧s.box β=some (aR c)
 | 4=>v= .agg (aR c)
 | 5=>∃ β,v= .fn 165 [.ptr β 0]∧s.box β=some (aR c)
 | 6=>∃ β γ δ,v= .sl true 3 [.fn 162 [.ptr β 0], .fn 164 [.ptr γ 0], .fn 165 [.ptr δ 0]]∧s.box β=some (aR c)∧s.box γ=some (aR c)∧s.box δ=some (aR c)
 | 7=>v= .int .i64 3
 | _=>v= .int .i64 0
set_option maxHeartbeats 4000000 in
theorem Aq {σ:St} {c:CfgI} {B:Nat} {fr:Fr} {Q:Exit→Fr→St→Prop} (hc:CfgOk c) (hB:σ.box B=some (aR c)) (h1:slot 1 fr= .ptr B 0)
  (hok:∀ f s β γ δ,St.le σ s→(∀ t,t ∉ [18,19,20,21,22,23,24,25,26]→slot t f=slot t fr)→slot 24 f= .sl true 3 [.fn 162 [.ptr β 0], .fn 164 [.ptr γ 0], .fn 165 [.ptr δ 0]]→slot 25 f= .int .i64 3→slot 26 f= .int .i64 0→s.box β=some (aR c)→s.box γ=some (aR c)→s.box δ=some (aR c)→Q .normal f s) :
  aX Tryz.prog (.invX [.o ⟨some 18, .ld (some 33) (.t 1),none⟩, .o ⟨some 19, .call 106 [(.t 18)],none⟩, .o ⟨some 20, .ld (some 33) (.t 1),none⟩, .o ⟨some 21, .call 107 [(.t 20)],none⟩, .o ⟨some 22, .ld (some 33) (.t 1),none⟩, .o ⟨some 23, .call 108 [(.t 22)],none⟩, .o ⟨some 24, .mkSl 1 3 [.nilf, .nilf, .nilf] [(0,1,(.t 19)),(1,1,(.t 21)),(2,1,(.t 23))],none⟩, .o ⟨some 25, .len (.t 24),none⟩, .o ⟨some 26, .mv (.c (.int .i64 0)),none⟩] [[],[0],[],[2,1],[],[4,3],[1,3,5],[6],[]]) fr σ Q:=by
 have hcl:=eA hc
 have hca:=gD hc
 refine lN [18,19,20,21,22,23,24,25,26] 9 (V9 c) Qg ?_ ?_ ?_
 ·intro i v s s' h hs
  unfold V9 at h ⊢
  split at h
  all_goals first|exact h|skip
  ·obtain ⟨κ,q1,q2⟩:=h;exact ⟨κ,q1,hs.1 _ _ q2⟩
  ·obtain ⟨κ,q1,q2⟩:=h;exact ⟨κ,q1,hs.1 _ _ q2⟩
  ·obtain ⟨κ,q1,q2⟩:=h;exact ⟨κ,q1,hs.1 _ _ q2⟩
  ·obtain ⟨κ,μ,ν,q1,q2,q3,q4⟩:=h;exact ⟨κ,μ,ν,q1,hs.1 _ _ q2,hs.1 _ _ q3,hs.1 _ _ q4⟩
 ·intro j x d hj hx hd f s hs hfr hv
  have h1':slot 1 f= .ptr B 0:=by rw [hfr 1 Qg];exact h1
  have hcs:j=0∨j=1∨j=2∨j=3∨j=4∨j=5∨j=6∨j=7∨j=8:=P6
  have hb:s.box B=some (aR c):=iA hs hB
  have h1:=h1'
  have e0:True:=trivial
  have e1:True:=trivial
  have e2:True:=trivial
  rcases hcs with rfl|rfl|rfl|rfl|rfl|rfl|rfl|rfl|rfl
  ·cases hx;cases hd
   refine bX ?_
   simp only [↓R1,RR,seval,RX,h1,e0,e1,e2,hb,hcl,hca]
   exact ⟨_,rfl,St.le_refl _,rfl⟩
  ·cases hx;cases hd
   have e0:slot 18 f= .agg (aR c):=hv 0 18 Qd rfl
   refine bX ?_
   simp only [↓R1,RR,seval,RX,h1,e0,e1,e2,hb,hcl,hca]
   refine (PR hc s).mono ?_
   rintro _ _ ⟨β,hβ,rfl,rfl⟩
   simp only [↓R1,RR,seval,RX,h1,e0,e1,e2,hb,hcl,hca]
   exact ⟨_,rfl,St.aD (St.le_refl _) hβ,β,rfl,St.cA _ _ _⟩
  ·cases hx;cases hd
   refine bX ?_
   simp only [↓R1,RR,seval,RX,h1,e0,e1,e2,hb,hcl,hca]
   exact ⟨_,rfl,St.le_refl _,rfl⟩
  ·cases hx;cases hd
   have e0:slot 20 f= .agg (aR c):=hv 2 20 Qd rfl
   refine bX ?_
   simp only [↓R1,RR,seval,RX,h1,e0,e1,e2,hb,hcl,hca]
   refine (PS hc s).mono ?_
   rintro _ _ ⟨β,hβ,rfl,rfl⟩
   simp only [↓R1,RR,seval,RX,h1,e0,e1,e2,hb,hcl,hca]
   exact ⟨_,rfl,St.aD (St.le_refl _) hβ,β,rfl,St.cA _ _ _⟩
  ·cases hx;cases hd
   refine bX ?_
   simp only [↓R1,RR,seval,RX,h1,e0,e1,e2,hb,hcl,hca]
   exact ⟨_,rfl,St.le_refl _,rfl⟩
  ·cases hx;cases hd
   have e0:slot 22 f= .agg (aR c):=hv 4 22 Qd rfl
   refine bX ?_
   simp only [↓R1,RR,seval,RX,h1,e0,e1,e2,hb,hcl,hca]
   refine (PT hc s).mono ?_
   rintro _ _ ⟨β,hβ,rfl,rfl⟩
   simp only [↓R1,RR,seval,RX,h1,e0,e1,e2,hb,hcl,hca]
   exact ⟨_,rfl,St.aD (St.le_refl _) hβ,β,rfl,St.cA _ _ _⟩
  ·cases hx;cases hd
   obtain ⟨β,e0,k0⟩:∃ β,slot 19 f= .fn 162 [.ptr β 0]∧s.box β=some (aR c):=hv 1 19 Qd rfl
   obtain ⟨γ,e1,k1⟩:∃ β,slot 21 f= .fn 164 [.ptr β 0]∧s.box β=some (aR c):=hv 3 21 Qd rfl
   obtain ⟨δ,e2,k2⟩:∃ β,slot 23 f= .fn 165 [.ptr β 0]∧s.box β=some (aR c):=hv 5 23 Qd rfl
   refine bX ?_
   simp only [↓R1,RR,seval,RX,h1,e0,e1,e2,hb,hcl,hca]
   exact ⟨_,rfl,St.le_refl _,β,γ,δ,rfl,k0,k1,k2⟩
  ·cases hx;cases hd
   obtain ⟨β,γ,δ,e0,_⟩:∃ β γ δ,slot 24 f= .sl true 3 [.fn 162 [.ptr β 0], .fn 164 [.ptr γ 0], .fn 165 [.ptr δ 0]]∧_:=hv 6 24 Qd rfl
   refine bX ?_
   simp only [↓R1,RR,seval,RX,h1,e0,e1,e2,hb,hcl,hca]
   exact ⟨_,rfl,St.le_refl _,rfl⟩
  ·cases hx;cases hd
   refine bX ?_
   simp only [↓R1,RR,seval,RX,h1,e0,e1,e2,hb,hcl,hca]
   exact ⟨_,rfl,St.le_refl _,rfl⟩
 ·intro f s hs hfr hv
  obtain ⟨β,γ,δ,k1,k2,k3,k4⟩:∃ β γ δ,slot 24 f= .sl true 3 [.fn 162 [.ptr β 0], .fn 164 [.ptr γ 0], .fn 165 [.ptr δ 0]]∧s.box β=some (aR c)∧s.box γ=some (aR c)∧s.box δ=some (aR c):=hv 6 24 rfl
  exact hok f s β γ δ hs hfr k1 (hv 7 25 rfl) (hv 8 26 rfl) k2 k3 k4
theorem Ar {σ:St} {L E N:Nat} {a:LO × Fr} {x y:List AV}:(((σ.au L a).aa E x).aa N y).dropLp L=((σ.dropLp L).aa E x).aa N y:=by
 obtain ⟨b1,t,g,l,bt⟩:=σ
 simp only [St.au,St.aa,St.dropLp,St.mk.injEq,true_and,and_true]
 funext j;simp only [upd];split<;>rfl
set_option maxHeartbeats 2000000 in
theorem ki {σ s:St} {E N B:Nat} {v30 v5 v24 v25 v26:AV} {Q:Exit→Fr→St→Prop} {es:List Int} (hle:St.le σ s) (hE:σ.box E=none) (hN:σ.box N=none) (hne:N≠E) (sE:s.box E=some [.int .i64 0]) (sN:s.box N=some [.int .i64 0])
  (ret:∀ e i s',firstE es 0=some (e,i)→s'.box E=some [.int .i64 e]→s'.box N=some [.int .i64 (i:Nat)]→St.le σ s'→Q .ret [(30,v30),(1, .ptr B 0),(2, .ptr E 0),(3, .ptr N 0),(5,v5),(24,v24),(25,v25),(26,v26)] s')
  (fin:firstE es 0=none→∀ s',St.le s s'→Q .normal [(30,v30),(1, .ptr B 0),(2, .ptr E 0),(3, .ptr N 0),(5,v5),(24,v24),(25,v25),(26,v26)] s') :
  Errs [31,32] (.seq (.keep [2,3,31,32] (.ops [⟨some 6, .mv (.t 31),none⟩])) (.keep [2,3,6,32] (.ops [⟨some 7, .mv (.t 32),none⟩])))
   (.block 3 (.seq (.keep [2,3,6,7] (.ops [⟨some 33, .mv (.t 7),none⟩,⟨some 34, .bin .neq (.t 33) (.c (.int .i64 0)),none⟩]))
   (.cond (.t 34)
    (.seq (.keep [2,3,6,7] (.ops [⟨some 35, .mv (.t 7),none⟩,⟨some 36, .mv (.t 6),none⟩,⟨none, .st 1 (.t 2) (.t 35),none⟩,⟨none, .st 1 (.t 3) (.t 36),none⟩]))
    .ret)
    .skip)))
   [(30,v30),(1, .ptr B 0),(2, .ptr E 0),(3, .ptr N 0),(5,v5),(24,v24),(25,v25),(26,v26)] s Q es:=by
 refine ⟨rfl,fun L r i σ1 K hat hl hs hk=>?_,fun L r i e σ1 K hat he hl hs hk=>?_,fin⟩
 ·unfold Round
  simp only [jL,putF,↓R1,RR,seval]
  refine ⟨hl,?_⟩
  rw [St.D0 hl];exact hk
 ·unfold Round
  have q1:(e != 0)=true:=by rw [bne_iff_ne];exact he
  have k1:∀ x,(σ1.au L x).box E=some [.int .i64 0]:=fun x=>hs.1 _ _ sE
  have k2:∀ x,(σ1.au L x).box N=some [.int .i64 0]:=fun x=>hs.1 _ _ sN
  haveI:Apart N E:=⟨hne⟩
  haveI:Apart E N:=⟨hne.symm⟩
  simp only [jL,putF,q1,k1,k2,↓R1,RR,seval]
  refine ⟨hl,?_⟩
  refine hk _ (St.bf _ _ _) (fun h1=>ret e i _ h1 ?_ ?_ ?_)
  all_goals rw [Ar]
  ·simp only [↓R1,RR,seval]
  ·simp only [↓R1,RR,seval]
  ·exact St.aD (St.aD (St.le_trans hle hs) hE) hN
theorem fR {σ s:St} {E N i:Nat} {e:Int} {c:CfgI} {fr:Fr} (h2:slot 2 fr= .ptr E 0) (h3:slot 3 fr= .ptr N 0) (hc:de c=(e,i)) (kE:s.box E=some [.int .i64 e]) (kN:s.box N=some [.int .i64 (i:Nat)]) (hl:St.le σ s) :
  oV [.cl 2 none, .cl 3 none] (oXW TS (.ok (de c)) (fun p=> .tup [.int .i64 p.1, .int .i64 (p.2:Nat)]) (fun _=>σ) σ) .ret fr s:=by
 refine jA (a:=(e,i)) (.inl rfl) (by rw [hc]) ?_ ?_ (St.gT hl)
 ·simp [av,rvS,h2,h3,kE,kN,cT,ldS]
 ·simp [fI,rvV,h2,h3,kE,kN,cT,ldV,ae]
theorem _root_.Qu {p:Prop} (h:p:=by first|rfl|(simp only [↓R1,RR,seval,RX,hcl,hca,hc0,h31,h32];done)):p:=h
theorem _root_.QQ {p:Prop} (h:p:=by simp only [↓R1,RR,seval,RX,hcl,hca,hc0,h31,h32]):p:=h
set_option maxHeartbeats 4000000 in
theorem G9 {c:CfgI} (ck:CfgOk c) (σ:St):AX Tryz.prog 48 [.agg (aR c)] σ (oX TS (.ok (de c)) (fun p=> .tup [.int .i64 p.1, .int .i64 (p.2:Nat)]) (fun _=>σ) σ):=by
 have hcl:=eA ck
 have hca:=gD ck
 have hc0:=oq c
 have h31:=ot ck
 have h32:=rE ck
 (refine bd c48 b48 ?_;simp only [c48,↓R1,RR,seval,RX,hcl,hca,hc0,h31,h32])
 repeat' (first|(with_reducible rw [ah])|((first|(refine ar (fun hc=>?_) (fun hc=>?_))|(with_reducible intro β hβ;(try simp only [RB] at hβ);(repeat (obtain ⟨⟨_,_⟩,hβ⟩:=hβ));(try (have hbis:=aj Qa hβ;obtain ⟨_,_⟩:=hbis))))<;>(try simp only [↓R1,RR,seval,RX,hcl,hca,hc0,h31,h32])))
 ·rename_i B hB E hE a1 a2 a3 a4 a5 a6
  refine fR rfl rfl (e:=6) (i:=0) ?_ Qu Qu ?_
  ·rw [de,if_pos]
   rw [Bool.or_eq_true,decide_eq_true_eq,decide_eq_true_eq] at hc;omega
  ·exact St.aD (St.aD (St.aD (St.le_refl _) hB) hE) hβ
 ·rename_i B hB E hE a1 a2 a3 a4 a5 a6
  refine Aq ck (B:=B) QQ rfl (fun f s γ1 γ2 γ3 hs hfr f24 f25 f26 g1 g2 g3=>?_)
  have hov:¬(8<c.cls.length∨8<c.ruls.length):=by
   rw [Bool.or_eq_false_iff,decide_eq_false_iff_not,decide_eq_false_iff_not] at hc;omega
  have hσs:St.le σ s:=St.le_trans (St.aD (St.aD (St.aD (St.le_refl _) hB) hE) hβ) hs
  have f1:slot 1 f= .ptr B 0:=hfr 1 Qg
  have f2:slot 2 f= .ptr E 0:=hfr 2 Qg
  have f3:slot 3 f= .ptr β 0:=hfr 3 Qg
  have sB:s.box B=some (aR c):=iA hs QQ
  have sE:s.box E=some [.int .i64 0]:=iA hs QQ
  have sN:s.box β=some [.int .i64 0]:=iA hs QQ
  simp only [↓R1,RR,seval,RX,hcl,hca,hc0,h31,h32]
  refine aS 3 (fun k=> [(1, .ptr B 0),(2, .ptr E 0),(3, .ptr β 0),(24, .sl true 3 [.fn 162 [.ptr γ1 0], .fn 164 [.ptr γ2 0], .fn 165 [.ptr γ3 0]]),(25, .int .i64 3),(26, .int .i64 (k:Nat))]) (fun _=>s)
   (fun k=>(1≤k→firstE (clsEs [] c.cls) 0=none)∧(2≤k→firstE (c.tens.map tenE) 0=none)∧(3≤k→firstE (c.ruls.map rulE) 0=none)) (by simp [aq,ae,f1,f2,f3,f24,f25,f26]) (St.le_refl _) ⟨fun h=>by omega,fun h=>by omega,fun h=>by omega⟩ (fun k hk hI=>?_)
  rcases (show k=0∨k=1∨k=2∨k=3 by omega) with rfl|rfl|rfl|rfl
  ·simp only [↓R1,RR,seval,RX,hcl,hca,hc0,h31,h32]
   refine fz [] ?_
   simp only [cH]
   refine ⟨_,_,rfl,wa ck g1 (ki (σ:=σ) hσs hE hβ a3.ne sE sN (fun e i s' h1 h2 h3 h4=>?_) (fun h1 s' h2=>?_))⟩
   ·simp only [↓R1,RR,seval,RX,hcl,hca,hc0,h31,h32]
    exact fR rfl rfl (by rw [de,if_neg hov,h1]) h2 h3 h4
   ·simp only [↓R1,RR,seval,RX,hcl,hca,hc0,h31,h32]
    exact ⟨h1,by simp [aq,slot,ae,show IntKind.i64.wrap 1=1 from rfl],h2⟩
  ·have hI1:=hI.1 P6
   simp only [↓R1,RR,seval,RX,hcl,hca,hc0,h31,h32]
   refine fz [] ?_
   simp only [cH]
   refine ⟨_,_,rfl,wb ck g2 (ki (σ:=σ) hσs hE hβ a3.ne sE sN (fun e i s' h1 h2 h3 h4=>?_) (fun h1 s' h2=>?_))⟩
   ·simp only [↓R1,RR,seval,RX,hcl,hca,hc0,h31,h32]
    exact fR rfl rfl (by rw [de,if_neg hov,hI1];simp only [h1]) h2 h3 h4
   ·simp only [↓R1,RR,seval,RX,hcl,hca,hc0,h31,h32]
    exact ⟨⟨hI1,h1⟩,by simp [aq,slot,ae,show IntKind.i64.wrap 2=2 from rfl],h2⟩
  ·have hI1:=hI.1 P6
   have hI2:=hI.2.1 P6
   simp only [↓R1,RR,seval,RX,hcl,hca,hc0,h31,h32]
   refine fz [] ?_
   simp only [cH]
   refine ⟨_,_,rfl,DX ck g3 (ki (σ:=σ) hσs hE hβ a3.ne sE sN (fun e i s' h1 h2 h3 h4=>?_) (fun h1 s' h2=>?_))⟩
   ·simp only [↓R1,RR,seval,RX,hcl,hca,hc0,h31,h32]
    exact fR rfl rfl (by rw [de,if_neg hov,hI1];simp only [hI2,h1]) h2 h3 h4
   ·simp only [↓R1,RR,seval,RX,hcl,hca,hc0,h31,h32]
    exact ⟨⟨hI1,hI2,h1⟩,by simp [aq,slot,ae,show IntKind.i64.wrap 3=3 from rfl],h2⟩
  ·have hI1:=hI.1 P6
   have hI2:=hI.2.1 P6
   have hI3:=hI.2.2 P6
   haveI:BoxIs s B (aR c):=⟨sB⟩
   haveI:BoxIs s E [.int .i64 0]:=⟨sE⟩
   haveI:BoxIs s β [.int .i64 0]:=⟨sN⟩
   have l32:32<(aR c).length:=QX
   simp only [h32,l32,↓R1,RR,seval,RX,hcl,hca,hc0,h31,h32]
   repeat' ((refine ar (fun hc=>?_) (fun hc=>?_))<;>(try simp only [↓R1,RR,seval,RX,hcl,hca,hc0,h31,h32]))
   ·refine fR rfl rfl (e:=2) (i:=0) ?_ Qu Qu ?_
    ·rw [de,if_neg hov,hI1];simp only [hI2,hI3]
     rw [if_pos]
     rwa [Bool.or_eq_true,decide_eq_true_eq,decide_eq_true_eq] at hc
    ·exact St.aD (St.aD hσs hE) hβ
   ·refine fR rfl rfl (e:=0) (i:=0) ?_ Qu Qu ?_
    ·rw [de,if_neg hov,hI1];simp only [hI2,hI3]
     rw [if_neg]
     rw [Bool.or_eq_false_iff,decide_eq_false_iff_not,decide_eq_false_iff_not] at hc
     omega
    ·exact St.aD (St.aD hσs hE) hβ
def mR (c:CfgI):AV:= .tup [.int .i64 (de c).1, .int .i64 ((de c).2:Nat)]
theorem p48 {c:CfgI} (hc:CfgOk c):Pu Tryz.prog 48 [.agg (aR c)] (mR c):=uh (G9 hc) rfl
structure PlanI where
 cls:List ClsI
 tens:List TenI
 ruls:List RulI
 hor:Int
 n:Nat
 t:Nat
def pB (τ υ:Nat) (p:PlanI):List AV:= .tsl τ p.cls.length (p.cls.flatMap bE)::(p.tens.flatMap b7++ [.tsl υ p.ruls.length (p.ruls.flatMap cg), .int .u64 p.hor, .int .i64 (p.n:Nat), .int .i64 (p.t:Nat)])
theorem M3 (τ υ:Nat) (p:PlanI):(pB τ υ p)[0]? =some (.tsl τ p.cls.length (p.cls.flatMap bE)):=rfl
theorem gL {p:PlanI} (τ υ:Nat) (h:p.tens.length=6):(pB τ υ p).length=35:=by
 simp only [pB,List.length_cons,List.length_append,List.length_nil,bl,h]
theorem KS {p:PlanI} (τ υ:Nat) (h:p.tens.length=6) (k:Nat):(pB τ υ p)[31+k]? = [AV.tsl υ p.ruls.length (p.ruls.flatMap cg), .int .u64 p.hor, .int .i64 (p.n:Nat), .int .i64 (p.t:Nat)][k]? :=by
 rw [pB,show 31+k=(30+k)+1 by omega,List.getElem?_cons_succ,List.getElem?_append_right (by rw [bl,h];omega),bl,h]
 congr 1
 omega
theorem HO {p:PlanI} (τ υ:Nat) (h:p.tens.length=6):(pB τ υ p)[31]? =some (.tsl υ p.ruls.length (p.ruls.flatMap cg)):=KS τ υ h 0
theorem D1 {p:PlanI} (τ υ:Nat) (h:p.tens.length=6):(pB τ υ p)[33]? =some (.int .i64 (p.n:Nat)):=KS τ υ h 2
theorem xD {p:PlanI} (τ υ:Nat) (h:p.tens.length=6):(pB τ υ p)[34]? =some (.int .i64 (p.t:Nat)):=KS τ υ h 3
def fO (p:PlanI) (k:Nat):Bool:=match k with
 | 0=>((p.n:Nat):Int) == 0
 | 1=>decide ((0:Int)<(p.n:Nat))&&(((p.t:Nat):Int) == 0)
 | 2=>(decide ((0:Int)<(p.n:Nat))&&decide (((p.t:Nat):Int)<6))&&(((p.ruls.length:Nat):Int) == 0)
 | 3=>((p.t:Nat):Int) == 6
 | _=>false
set_option maxHeartbeats 2000000 in
theorem M4 {σ:St} {β τ υ k:Nat} {p:PlanI} (hb:σ.box β=some (pB τ υ p)) (h6:p.tens.length=6) (hk:k<4):AC Tryz.prog 127 [.ptr β 0, .int .i64 (k:Nat)] σ (fun r s=>r= .bool (fO p k)∧s=σ):=by
 haveI:BoxIs σ β (pB τ υ p):=⟨hb⟩
 have h0:=M3 τ υ p
 have h31:=HO τ υ h6
 have h33:=D1 τ υ h6
 have h34:=xD τ υ h6
 have hln:=gL τ υ h6
 have hc:k=0∨k=1∨k=2∨k=3:=P6
 rcases hc with rfl|rfl|rfl|rfl
 all_goals
  (refine bg JU OA ?_;simp only [JU,↓R1,RR,seval,h0,h31,h33,h34])
  repeat' (with_reducible refine And.intro ?_ ?_;exact af)
  all_goals (try (first|omega|(rw [hln];decide)))
  (refine ak (ag ?_))
  (simp only [an,↓R1,RR,seval,h0,h31,h33,h34])
  rfl
theorem xE {p:PlanI} (τ υ:Nat) (h:p.tens.length=6):(pB τ υ p).take 31= .tsl τ p.cls.length (p.cls.flatMap bE)::p.tens.flatMap b7∧(pB τ υ p).drop 31= [.tsl υ p.ruls.length (p.ruls.flatMap cg), .int .u64 p.hor, .int .i64 (p.n:Nat), .int .i64 (p.t:Nat)]:=by
 have hl:(p.tens.flatMap b7).length=30:=by rw [bl,h]
 constructor
 ·rw [pB,List.take_succ_cons,List.take_left' hl]
 ·rw [pB,List.drop_succ_cons,List.drop_left' hl]
theorem D2 {p:PlanI} (τ υ:Nat):pB τ υ p=(.tsl τ p.cls.length (p.cls.flatMap bE)::p.tens.flatMap b7)++ [.tsl υ p.ruls.length (p.ruls.flatMap cg), .int .u64 p.hor, .int .i64 (p.n:Nat), .int .i64 (p.t:Nat)]:=rfl
theorem wj {p:PlanI} (τ υ:Nat) (h:p.tens.length=6) (k:Nat) (x:AV):(pB τ υ p).take (31+k)++ [x]++(pB τ υ p).drop (31+k+1)=(.tsl τ p.cls.length (p.cls.flatMap bE)::p.tens.flatMap b7)++([AV.tsl υ p.ruls.length (p.ruls.flatMap cg), .int .u64 p.hor, .int .i64 (p.n:Nat), .int .i64 (p.t:Nat)].take k++ [x]++ [AV.tsl υ p.ruls.length (p.ruls.flatMap cg), .int .u64 p.hor, .int .i64 (p.n:Nat), .int .i64 (p.t:Nat)].drop (k+1)):=by
 have hl:(AV.tsl τ p.cls.length (p.cls.flatMap bE)::p.tens.flatMap b7).length=31:=by rw [List.length_cons,bl,h]
 rw [D2]
 generalize AV.tsl τ p.cls.length (p.cls.flatMap bE)::p.tens.flatMap b7=a at hl
 rw [List.take_append,List.drop_append,hl,List.take_of_length_le P6,List.drop_of_length_le P6]
 simp only [List.nil_append,show 31+k - 31=k by omega,show 31+k+1 - 31=k+1 by omega,List.append_assoc]
theorem D3 {p:PlanI} (τ υ:Nat) (h:p.tens.length=6) (x:Int):(pB τ υ p).take 32++ [.int .u64 x]++(pB τ υ p).drop 33=pB τ υ { p with hor:=x }:=wj τ υ h 1 _
set_option maxHeartbeats 2000000 in
theorem PU {σ σ0:St} {β γ τ υ:Nat} {p:PlanI} {r:Rw} {w0 w1:Wd} (hp:σ.box β=some (pB τ υ p)) (hp0:σ0.box β=none) (h6:p.tens.length=6) (h:Cu σ0 σ γ r 1) (hne:β≠γ) (hws:r.ws= [w0,w1]) :
  AX Tryz.prog 123 [.ptr β 0, .ptr γ 0] σ (oX TS (ay w1) (fun _=> .tup []) (fun v=>(σ.aa γ (cur r 2)).aa β (pB τ υ { p with hor:=v })) σ0):=by
 haveI:BoxIs σ β (pB τ υ p):=⟨hp⟩
 haveI:BoxIs σ γ (cur r 1):=⟨h.hb⟩
 haveI:Apart β γ:=⟨hne⟩
 haveI:Apart γ β:=⟨hne.symm⟩
 have hln:=gL τ υ h6
 have h32s:∀ x,(pB τ υ p).take 32++ [.int .u64 x]++(pB τ υ p).drop 33=pB τ υ { p with hor:=x }:=D3 τ υ h6
 have h0:=h.h0
 have hlw:=h.lw
 have hw1:r.ws[1]? =some w1:=Qo
 (refine bd JS Oy ?_;simp only [JS,↓R1,RR,seval,RX,hln,h32s])
 repeat' (((refine bF (DW (σ0:=σ0) (r:=r) (k:=1) ?_ hw1) (ad _) (fun a1 ho1=>?_) (fun e ho1=>?_);(focus ((repeat' (first|assumption|(refine Cu.to (k:=1) ?_)|(refine Cu.new ?_ (by first|assumption|(simp only [↓R1,RR,seval,RX,hln,h32s];done)))));done))))<;>(try simp only [↓R1,RR,seval,RX,hln,h32s]))
 ·refine dM ho1 ?_ ?_
  ·simp only [an,↓R1,RR,seval,RX,hln,h32s]
   exact ae _
  ·exact St.ax _
 ·exact aO ho1 (St.ax _)
def fG (w1 w2 w3:Wd) (a:Int) (p:PlanI):Except Ft PlanI:=eb (a7 w1) fun l=>eb (ay w2) fun s=>eb (ay w3) fun t=>if p.cls.length=8 then .error (6,a) else .ok { p with cls:=p.cls++ [⟨l,s,t⟩] }
theorem gn {w:Wd} {v:Int} (h:ay w= .ok v):IntKind.i64.wrap v=v:=by
  unfold ay dQ at h
  split at h
  · cases h
  · split at h
    · cases h
      have hh:0≤(hG w.q w.t 0 1099511627776).1∧(hG w.q w.t 0 1099511627776).1≤1099511627776:=by
        unfold hG
        cases h1:(w.q|| !dr w.t) with
        | true=>simp
        | false =>
          simp only [cond_false]
          cases h2:((decide (18446744073709551616≤bO w.t)||decide (((bO w.t % 18446744073709551616:Nat):Int)<0))||decide ((1099511627776:Int)<((bO w.t % 18446744073709551616:Nat):Int))) with
          | true=>simp
          | false =>
            simp only [cond_false]
            simp only [Bool.or_eq_false_iff,decide_eq_false_iff_not] at h2
            omega
      rw [wrap64 P6 P6]
    · cases h
theorem Ha {p:PlanI} (κ υ:Nat) (x:ClsI):AV.tsl κ (p.cls.length+1) (p.cls.flatMap bE++ [.int .u64 x.l, .int .i64 x.size, .int .i64 x.rate])::(pB κ υ p).drop 1=pB κ υ { p with cls:=p.cls++ [x] }:=by
 simp [pB,bE]
theorem _root_.Ro {p:Prop} (h:p:=by first|assumption|(simp only [↓R1,RR,seval,RX,hln,h0p,hcur];done)):p:=h
theorem _root_.Qb {p:Prop} (h:p:=by (repeat' (first|assumption|exact St.ax _|(refine St.cJ ?_)|(refine St.cX ?_ (by first|assumption|exact ew (by assumption) (by assumption)|(simp only [St.b9,St.bA];assumption)))|(refine St.dw ?_ ?_)|(refine St.cI ?_ (by first|assumption|exact dJ (by assumption) (by assumption)|(simp only [St.aU,St.cV];assumption)))|exact wkL.nil|exact ad _|(refine wkL.cons ?_ ?_)|exact ae _|exact cu|exact cw _ _ _|exact bU _ _))):p:=h
theorem _root_.QK {p:Prop} (h:p:=by first|assumption|exact dJ (by assumption) (by assumption)|(simp only [St.aU];assumption)):p:=h
set_option maxHeartbeats 4000000 in
theorem PV {σ σ0:St} {ζ γ κ υ:Nat} {p:PlanI} {r:Rw} {w0 w1 w2 w3:Wd} (hp:σ.box ζ=some (pB κ υ p)) (hp0:σ0.box ζ=none) (ht:σ.tip κ=some (94,3,p.cls.length)) (h6:p.tens.length=6) (hc8:p.cls.length≤8) (h:Cu σ0 σ γ r 1) (hne:ζ≠γ) (hws:r.ws= [w0,w1,w2,w3]) :
  AX Tryz.prog 124 [.ptr ζ 0, .ptr γ 0] σ (oX TS (fG w1 w2 w3 (r.a:Nat) p) (fun _=> .tup []) (fun q=>((σ.aa γ (cur r 4)).ai κ (94,3,q.cls.length)).aa ζ (pB κ υ q)) σ0):=by
 haveI:BoxIs σ γ (cur r 1):=⟨h.hb⟩
 haveI:BoxIs σ ζ (pB κ υ p):=⟨hp⟩
 haveI:Apart ζ γ:=⟨hne⟩
 haveI:Apart γ ζ:=⟨hne.symm⟩
 have hln:=gL κ υ h6
 have h0p:=M3 κ υ p
 have hcur:∀ k,(cur r k)[0]? =some (.int .i64 (r.a:Nat)):=fun _=>rfl
 have h0:=h.h0
 have hlw:=h.lw
 have hw1:r.ws[1]? =some w1:=Qo
 have hw2:r.ws[2]? =some w2:=Qo
 have hw3:r.ws[3]? =some w3:=Qo
 (refine bd C6 Mp ?_;simp only [C6,↓R1,RR,seval,RX])
 repeat' (first|(with_reducible rw [ah])|(with_reducible apply And.intro)|((first|(with_reducible intro β hβ;(try simp only [RB] at hβ);(repeat (obtain ⟨⟨_,_⟩,hβ⟩:=hβ));(try (have hbis:=aj Qa hβ;obtain ⟨_,_⟩:=hbis)))|((refine bF (KI (σ0:=σ0) (r:=r) (k:=1) ?_ hw1) (ad _) (fun a1 ho1=>?_) (fun e ho1=>?_);(focus ((repeat' (first|assumption|(refine Cu.to (k:=1) ?_)|(refine Cu.new ?_ Ro)));done))))|((refine bF (DW (σ0:=σ0) (r:=r) (k:=2) ?_ hw2) (ad _) (fun a2 ho2=>?_) (fun e ho2=>?_);(focus ((repeat' (first|assumption|(refine Cu.to (k:=1) ?_)|(refine Cu.new ?_ (by first|assumption|(simp only [RR,seval];done)))));done))))|((refine bF (DW (σ0:=σ0) (r:=r) (k:=3) ?_ hw3) (ad _) (fun a3 ho3=>?_) (fun e ho3=>?_);(focus ((repeat' (first|assumption|(refine Cu.to (k:=1) ?_)|(refine Cu.new ?_ Ro)));done))))|((refine eK (fun hc=>?_) (fun hc=>?_)))|((refine bR (σ0:=σ0) Qg Qb ?_)))<;>(try simp only [↓R1,RR,seval,RX,hln,h0p,hcur])))
 ·simp [cur]
 ·have h8:p.cls.length=8:=by simp only [beq_iff_eq] at hc;omega
  exact aO (by rw [fG,aJ _ ho1,aJ _ ho2,aJ _ ho3,if_pos h8]) (St.ax _)
 ·have h8:p.cls.length≠8:=by
   intro h
   simp only [beq_eq_false_iff_ne] at hc
   exact hc Q6
  have hcl:=fD p.cls
  refine bI (.inr rfl) rfl ?_ ?_ ?_ ?_ ?_ ?_
  ·simp only [ht,RR,seval]
  ·omega
  ·rfl
  ·unfold maxLen;omega
  ·omega
  have hq:fG w1 w2 w3 (r.a:Nat) p= .ok { p with cls:=p.cls++ [⟨a1,a2,a3⟩] }:=by simp only [fG,aJ _ ho1,aJ _ ho2,aJ _ ho3,if_neg h8]
  have hm:=Ha (p:=p) κ υ ⟨a1,a2,a3⟩
  simp only [gn ho2,gn ho3,↓R1,RR,seval,RX,hln]
  simp only at hm
  rw [hm]
  refine dM hq ?_ ?_
  ·simp only [an,RR,seval]
   exact ae _
  ·simp only [List.length_append,List.length_singleton]
   (repeat' (first|assumption|exact St.ax _|(refine St.cJ ?_)|(refine St.cX ?_ Qh)|(refine St.dw ?_ ?_)|(refine St.cI ?_ QK)|exact wkL.nil|exact ad _|(refine wkL.cons ?_ ?_)|exact ae _|exact cu|exact cw _ _ _|exact bU _ _))
 ·exact aO (by simp only [fG,aJ _ ho1,aJ _ ho2,cS _ ho3]) (St.ax _)
 ·exact aO (by simp only [fG,aJ _ ho1,cS _ ho2]) (St.ax _)
 ·exact aO (by simp only [fG,cS _ ho1]) (St.ax _)
def xF:List UInt8:= [97,110,121]
def jn (w:Wd):Except Ft (Bool × Int):=if w.q=false∧w.t=xF then .ok (true,0) else eb (iP w) fun k=> .ok (false,k)
def ez (w1 w2 w3 w4 w5 w6:Wd) (a:Int) (p:PlanI):Except Ft PlanI :=
 eb (ay w1) fun o=>eb (a7 w2) fun x=>eb (a7 w3) fun y=>eb (jn w4) fun k=>eb (bG w5) fun lo=>eb (bG w6) fun hi =>
  if p.ruls.length=8 then .error (6,a) else .ok { p with ruls:=p.ruls++ [⟨o,x,y,k.1,k.2,lo,hi⟩] }
theorem ui {p:PlanI} (κ υ:Nat) (h:p.tens.length=6) (x:RulI):(pB κ υ p).take 31++ [AV.tsl υ (p.ruls.length+1) (p.ruls.flatMap cg++ [.int .i64 x.owner, .int .u64 x.auth, .int .u64 x.res, .bool x.any, .int .i64 x.kind, .int .i64 x.low, .int .i64 x.high])]++(pB κ υ p).drop 32=pB κ υ { p with ruls:=p.ruls++ [x] }:=by
 have h1:=(xE κ υ h).1
 have h2:(pB κ υ p).drop 32= [.int .u64 p.hor, .int .i64 (p.n:Nat), .int .i64 (p.t:Nat)]:=by
  rw [show 32=31+1 from rfl,←List.drop_drop,(xE κ υ h).2];rfl
 rw [h1,h2]
 simp [pB,cg]
theorem _root_.QY {p:Prop} (h:p:=by first|assumption|(simp only [↓R1,RR,seval,RX,hln,h31p,hcur,hcur1,hcur2,hcurl,hr7,he];assumption)):p:=h
theorem _root_.Qz {p:Prop} (h:p:=by first|assumption|(simp only [RR,seval];assumption)):p:=h
theorem _root_.Rg {p:Prop} (h:p:=by rw [ez,aJ _ ho1,aJ _ ho2,aJ _ ho3,aJ _ hany,aJ _ ho5,aJ _ ho6,if_pos h8]):p:=h
theorem _root_.Rh {p:Prop} (h:p:=by rw [ez,aJ _ ho1,aJ _ ho2,aJ _ ho3,aJ _ hany,aJ _ ho5,aJ _ ho6,if_neg h8]):p:=h
theorem _root_.Ru {p:Prop} (h:p:=by rw [ez,aJ _ ho1,aJ _ ho2,aJ _ ho3,aJ _ hany,aJ _ ho5,cS _ ho6]):p:=h
set_option maxHeartbeats 4000000 in
theorem PW {σ σ0:St} {ζ γ κ υ:Nat} {p:PlanI} {r:Rw} {w0 w1 w2 w3 w4 w5 w6:Wd} (hp:σ.box ζ=some (pB κ υ p)) (hp0:σ0.box ζ=none) (ht:σ.tip υ=some (97,7,p.ruls.length)) (h6:p.tens.length=6) (hc8:p.ruls.length≤8) (h:Cu σ0 σ γ r 1) (hne:ζ≠γ) (hws:r.ws= [w0,w1,w2,w3,w4,w5,w6]) :
  AX Tryz.prog 126 [.ptr ζ 0, .ptr γ 0] σ (oX TS (ez w1 w2 w3 w4 w5 w6 (r.a:Nat) p) (fun _=> .tup []) (fun q=>((σ.aa γ (cur r 7)).ai υ (97,7,q.ruls.length)).aa ζ (pB κ υ q)) σ0):=by
 haveI:BoxIs σ γ (cur r 1):=⟨h.hb⟩
 haveI:BoxIs σ ζ (pB κ υ p):=⟨hp⟩
 haveI:Apart ζ γ:=⟨hne⟩
 haveI:Apart γ ζ:=⟨hne.symm⟩
 have hln:=gL κ υ h6
 have h31p:=HO κ υ h6
 have hcur:∀ k,(cur r k)[0]? =some (.int .i64 (r.a:Nat)):=fun _=>rfl
 have hcur1:∀ k,(cur r k)[1]? =some (.sl false r.ws.length (r.ws.flatMap cWd)):=fun _=>rfl
 have hcur2:∀ k,(cur r k)[2]? =some (.int .i64 (k:Nat)):=fun _=>rfl
 have hcurl:∀ k,(cur r k).length=3:=fun _=>rfl
 have hr7:r.ws.length=7:=Qo
 have h0:=h.h0
 have hlw:=h.lw
 have hw1:r.ws[1]? =some w1:=Qo
 have hw2:r.ws[2]? =some w2:=Qo
 have hw3:r.ws[3]? =some w3:=Qo
 have hw4:r.ws[4]? =some w4:=Qo
 have hw5:r.ws[5]? =some w5:=Qo
 have hw6:r.ws[6]? =some w6:=Qo
 have he:((r.ws.flatMap cWd).drop 12).take 3= [.bool w4.q, .str w4.t, .int .i64 (w4.a:Nat)]:=oo hw4
 have hwl:=ft r.ws
 (refine bd C7 Mq ?_;simp only [C7,↓R1,RR,seval,RX])
 repeat' (first|(with_reducible rw [ah])|(with_reducible refine And.intro ?_ ?_;exact af)|(with_reducible apply And.intro)|((first|(with_reducible intro β hβ;(try simp only [RB] at hβ);(repeat (obtain ⟨⟨_,_⟩,hβ⟩:=hβ));(try (have hbis:=aj Qa hβ;obtain ⟨_,_⟩:=hbis)))|((refine bF (DW (σ0:=σ0) (r:=r) (k:=1) ?_ hw1) (ad _) (fun a1 ho1=>?_) (fun e ho1=>?_);(focus ((repeat' (first|assumption|(refine Cu.to (k:=1) ?_)|(refine Cu.new ?_ QY)));done))))|((refine bF (KI (σ0:=σ0) (r:=r) (k:=2) ?_ hw2) (ad _) (fun a2 ho2=>?_) (fun e ho2=>?_);(focus ((repeat' (first|assumption|(refine Cu.to (k:=1) ?_)|(refine Cu.new ?_ Qz)));done))))|((refine bF (KI (σ0:=σ0) (r:=r) (k:=3) ?_ hw3) (ad _) (fun a3 ho3=>?_) (fun e ho3=>?_);(focus ((repeat' (first|assumption|(refine Cu.to (k:=1) ?_)|(refine Cu.new ?_ QY)));done)))))<;>(try simp only [↓R1,RR,seval,RX,hcur1,hcur2,hcurl,hr7,he])))
 ·exact .inr trivial
 ·refine eK (fun hc=>?_) (fun hc=>?_)
  ·have hany:jn w4= .ok (true,0):=by
    rw [jn,if_pos]
    simpa [xF] using hc
   simp only [↓R1,RR,seval,RX]
   repeat' ((first|((refine AC.mono (AC.wk (a182 (k:=4) (rw_:=r) ?_ hw4 h.n) (ad _)) ?_;(focus (simp only [RR,seval];done));(rintro _ _ ⟨rfl,rfl⟩)))|((refine bF (Ak (σ0:=σ0) (r:=r) (k:=5) ?_ hw5) (ad _) (fun a5 ho5=>?_) (fun e ho5=>?_);(focus ((repeat' (first|assumption|(refine Cu.to (k:=1) ?_)|(refine Cu.new ?_ Qz)));done))))|((refine bF (Ak (σ0:=σ0) (r:=r) (k:=6) ?_ hw6) (ad _) (fun a6 ho6=>?_) (fun e ho6=>?_);(focus ((repeat' (first|assumption|(refine Cu.to (k:=1) ?_)|(refine Cu.new ?_ Qz)));done))))|((refine eK (fun hc=>?_) (fun hc=>?_)))|((refine bR (σ0:=σ0) Qg Qb ?_)))<;>(try simp only [↓R1,RR,seval,RX,hln,h31p,hcur,hcurl]))
   ·have h8:p.ruls.length=8:=by simp only [beq_iff_eq] at hc;omega
    exact aO Rg (St.ax _)
   ·have h8:p.ruls.length≠8:=by
     intro h
     simp only [beq_eq_false_iff_ne] at hc
     exact hc Q6
    have hcl:=eX p.ruls
    refine bI (.inr rfl) rfl ?_ ?_ ?_ ?_ ?_ ?_
    ·simp only [ht,RR,seval]
    ·omega
    ·rfl
    ·unfold maxLen;omega
    ·omega
    have hq:ez w1 w2 w3 w4 w5 w6 (r.a:Nat) p= .ok { p with ruls:=p.ruls++ [⟨a1,a2,a3,true,0,a5,a6⟩] }:=Rh
    have hm:=ui (p:=p) κ υ h6 ⟨a1,a2,a3,true,0,a5,a6⟩
    simp only [gn ho1,↓R1,RR,seval,RX,hln]
    simp only at hm
    rw [hm]
    refine dM hq ?_ ?_
    ·simp only [an,RR,seval]
     exact ae _
    ·simp only [List.length_append,List.length_singleton]
     (repeat' (first|assumption|exact St.ax _|(refine St.cJ ?_)|(refine St.cX ?_ Qh)|(refine St.dw ?_ ?_)|(refine St.cI ?_ QK)|exact wkL.nil|exact ad _|(refine wkL.cons ?_ ?_)|exact ae _|exact cu|exact cw _ _ _|exact bU _ _))
   ·exact aO Ru (St.ax _)
   ·exact aO (by rw [ez,aJ _ ho1,aJ _ ho2,aJ _ ho3,aJ _ hany,cS _ ho5]) (St.ax _)
  ·have hany:jn w4=eb (iP w4) fun k=> .ok (false,k):=by
    rw [jn,if_neg]
    intro hh
    rw [hh.1,hh.2] at hc
    simp [xF] at hc
   simp only [↓R1,RR,seval,RX]
   repeat' ((first|((refine bF (PO (σ0:=σ0) (r:=r) (k:=4) ?_ hw4) (ad _) (fun a4 ho4=>?_) (fun e ho4=>?_);(focus ((repeat' (first|assumption|(refine Cu.to (k:=1) ?_)|(refine Cu.new ?_ Qz)));done))))|((refine bF (Ak (σ0:=σ0) (r:=r) (k:=5) ?_ hw5) (ad _) (fun a5 ho5=>?_) (fun e ho5=>?_);(focus ((repeat' (first|assumption|(refine Cu.to (k:=1) ?_)|(refine Cu.new ?_ Qz)));done))))|((refine bF (Ak (σ0:=σ0) (r:=r) (k:=6) ?_ hw6) (ad _) (fun a6 ho6=>?_) (fun e ho6=>?_);(focus ((repeat' (first|assumption|(refine Cu.to (k:=1) ?_)|(refine Cu.new ?_ Qz)));done))))|((refine eK (fun hc=>?_) (fun hc=>?_)))|((refine bR (σ0:=σ0) Qg Qb ?_)))<;>(try simp only [↓R1,RR,seval,RX,hln,h31p,hcur,hcurl]))
   ·have h8:p.ruls.length=8:=by simp only [beq_iff_eq] at hc;omega
    rw [aJ _ ho4] at hany
    exact aO Rg (St.ax _)
   ·rw [aJ _ ho4] at hany
    have h8:p.ruls.length≠8:=by
     intro h
     simp only [beq_eq_false_iff_ne] at hc
     exact hc Q6
    have hcl:=eX p.ruls
    refine bI (.inr rfl) rfl ?_ ?_ ?_ ?_ ?_ ?_
    ·simp only [ht,RR,seval]
    ·omega
    ·rfl
    ·unfold maxLen;omega
    ·omega
    have hq:ez w1 w2 w3 w4 w5 w6 (r.a:Nat) p= .ok { p with ruls:=p.ruls++ [⟨a1,a2,a3,false,a4,a5,a6⟩] }:=Rh
    have hm:=ui (p:=p) κ υ h6 ⟨a1,a2,a3,false,a4,a5,a6⟩
    simp only [gn ho1,↓R1,RR,seval,RX,hln]
    simp only at hm
    rw [hm]
    refine dM hq ?_ ?_
    ·simp only [an,RR,seval]
     exact ae _
    ·simp only [List.length_append,List.length_singleton]
     (repeat' (first|assumption|exact St.ax _|(refine St.cJ ?_)|(refine St.cX ?_ Qh)|(refine St.dw ?_ ?_)|(refine St.cI ?_ QK)|exact wkL.nil|exact ad _|(refine wkL.cons ?_ ?_)|exact ae _|exact cu|exact cw _ _ _|exact bU _ _))
   ·rw [aJ _ ho4] at hany
    exact aO Ru (St.ax _)
   ·rw [aJ _ ho4] at hany
    exact aO (by rw [ez,aJ _ ho1,aJ _ ho2,aJ _ ho3,aJ _ hany,cS _ ho5]) (St.ax _)
   ·rw [cS _ ho4] at hany
    exact aO (by rw [ez,aJ _ ho1,aJ _ ho2,aJ _ ho3,cS _ hany]) (St.ax _)
 ·exact aO (by simp only [ez,aJ _ ho1,aJ _ ho2,cS _ ho3]) (St.ax _)
 ·exact aO (by simp only [ez,aJ _ ho1,cS _ ho2]) (St.ax _)
 ·exact aO (by simp only [ez,cS _ ho1]) (St.ax _)
def hU (l:List AV) (o:Nat) (xs:List AV):List AV:=l.take o++xs++l.drop (o+xs.length)
theorem D4 (l:List AV) (o:Nat):hU l o []=l:=by simp [hU]
theorem D5 {l xs:List AV} {o:Nat} (h:o+xs.length≤l.length):(hU l o xs).length=l.length:=by
 simp only [hU,List.length_append,List.length_take,List.length_drop];omega
theorem As {l xs:List AV} {o:Nat} (x:AV) (h:o+xs.length<l.length):(hU l o xs).take (o+xs.length)++ [x]++(hU l o xs).drop (o+xs.length+1)=hU l o (xs++ [x]):=by
 have h1:(l.take o++xs).length=o+xs.length:=by simp only [List.length_append,List.length_take];omega
 have e1:(hU l o xs).take (o+xs.length)=l.take o++xs:=by rw [hU,List.take_left' h1]
 have e2:(hU l o xs).drop (o+xs.length+1)=l.drop (o+xs.length+1):=by
  rw [hU,List.drop_append,h1,List.drop_of_length_le P6,List.nil_append,show o+xs.length+1 - (o+xs.length)=1 by omega,List.drop_drop]
 rw [e1,e2,hU]
 simp [Nat.add_assoc]
def okv (o:Except Ft Int):Int:=match o with
 | .ok a=>a
 | .error _=>0
theorem l7 {o:Except Ft Int} {a:Int} (h:o= .ok a):okv o=a:=Q6
def mS (ws:List Wd):List AV:=ws.map fun w=> .int .i64 (okv (ay w))
def eY (w1 w2 w3 w4 w5:Wd) (p:PlanI):Except Ft PlanI :=
 eb (ay w1) fun a=>eb (ay w2) fun b=>eb (ay w3) fun c=>eb (ay w4) fun d=>eb (ay w5) fun e=> .ok { p with tens:=p.tens.set p.t ⟨a,b,c,d,e⟩,t:=p.t+1 }
theorem rN:∀ (l:List TenI) (t:Nat) (x:TenI),t<l.length→hU (l.flatMap b7) (t*5) (b7 x)=(l.set t x).flatMap b7
  | [],t,x,h=>by simp at h
  | y::l,0,x,_=>by simp [hU,b7]
  | y :: l, t + 1, x, h => by
    have ih:=rN l t x Rf
    rw [List.set_cons_succ,List.flatMap_cons,List.flatMap_cons,←ih]
    have hy:(b7 y).length=5:=rfl
    have hx:(b7 x).length=5:=rfl
    simp only [hU,hx]
    rw [show (t+1)*5=5+t*5 by omega,List.take_append,List.drop_append,hy,List.take_of_length_le P6,List.drop_of_length_le P6,show 5+t*5 - 5=t*5 by omega,show 5+t*5+5 - 5=t*5+5 by omega]
    simp
theorem KT {p:PlanI} (κ υ:Nat) (h6:p.tens.length=6) (ht:p.t<6) (x:TenI):hU (pB κ υ p) (1+p.t*5) (b7 x)=pB κ υ { p with tens:=p.tens.set p.t x }:=by
 have hl:(p.tens.flatMap b7).length=30:=by rw [bl,h6]
 have hx:(b7 x).length=5:=rfl
 simp only [pB]
 rw [←rN p.tens p.t x P6]
 simp only [hU,hx]
 rw [show 1+p.t*5+5=(p.t*5+5)+1 by omega,show 1+p.t*5=p.t*5+1 by omega,List.take_succ_cons,List.drop_succ_cons,List.take_append_of_le_length P6,List.drop_append_of_le_length P6]
 simp
theorem xG {σ:St} {β:Nat} {c:List AV} (h:σ.box β=some c):σ.aa β c=σ:=by
 obtain ⟨b,t,g,l,bt⟩:=σ
 simp only [St.aa,St.mk.injEq,and_true]
 funext j
 simp only [upd]
 split
 ·rename_i e;subst e;exact h.symm
 ·rfl
def D6 (wl:List Wd) (k:Nat):Prop:=∀ j w,j<k→wl[j]? =some w→∃ a,ay w= .ok a
theorem D6.next {wl:List Wd} {k:Nat} {w:Wd} {a:Int} (h:D6 wl k) (hw:wl[k]? =some w) (ha:ay w= .ok a):D6 wl (k+1):=by
 intro j v hj hv
 by_cases e:j=k
 ·subst e;rw [hw] at hv;cases hv;exact ⟨a,ha⟩
 ·exact h j v P6 hv
theorem Hb {w1 w2 w3 w4 w5 w:Wd} {p:PlanI} {k:Nat} {e:Ft} (hI:D6 [w1,w2,w3,w4,w5] k) (hw : [w1,w2,w3,w4,w5][k]? =some w) (he:ay w= .error e):eY w1 w2 w3 w4 w5 p= .error e:=by
 have hk:k<5:=(List.getElem?_eq_some_iff.1 hw).1
 have hc:k=0∨k=1∨k=2∨k=3∨k=4:=P6
 unfold eY
 rcases hc with rfl|rfl|rfl|rfl|rfl
 ·cases hw;rw [cS _ he]
 ·cases hw;obtain ⟨a,ha⟩:=hI 0 _ P6 rfl;rw [aJ _ ha,cS _ he]
 ·cases hw;obtain ⟨a,ha⟩:=hI 0 _ P6 rfl;obtain ⟨b,hb⟩:=hI 1 _ P6 rfl;rw [aJ _ ha,aJ _ hb,cS _ he]
 ·cases hw;obtain ⟨a,ha⟩:=hI 0 _ P6 rfl;obtain ⟨b,hb⟩:=hI 1 _ P6 rfl;obtain ⟨c,hc⟩:=hI 2 _ P6 rfl;rw [aJ _ ha,aJ _ hb,aJ _ hc,cS _ he]
 ·cases hw;obtain ⟨a,ha⟩:=hI 0 _ P6 rfl;obtain ⟨b,hb⟩:=hI 1 _ P6 rfl;obtain ⟨c,hc⟩:=hI 2 _ P6 rfl;obtain ⟨d,hd⟩:=hI 3 _ P6 rfl;rw [aJ _ ha,aJ _ hb,aJ _ hc,aJ _ hd,cS _ he]
set_option maxHeartbeats 4000000 in
theorem PX {σ σ0:St} {ζ γ κ υ:Nat} {p:PlanI} {r:Rw} {w0 w1 w2 w3 w4 w5:Wd} (hp:σ.box ζ=some (pB κ υ p)) (hp0:σ0.box ζ=none) (h6:p.tens.length=6) (ht6:p.t<6) (h:Cu σ0 σ γ r 1) (hne:ζ≠γ) (hws:r.ws= [w0,w1,w2,w3,w4,w5]) :
  AX Tryz.prog 125 [.ptr ζ 0, .ptr γ 0] σ (oX TS (eY w1 w2 w3 w4 w5 p) (fun _=> .tup []) (fun q=>(σ.aa γ (cur r 6)).aa ζ (pB κ υ q)) σ0):=by
 haveI:BoxIs σ γ (cur r 1):=⟨h.hb⟩
 haveI:BoxIs σ ζ (pB κ υ p):=⟨hp⟩
 haveI:Apart ζ γ:=⟨hne⟩
 haveI:Apart γ ζ:=⟨hne.symm⟩
 have hln:=gL κ υ h6
 have h34p:=xD κ υ h6
 have i1:True:=trivial
 have hw:True:=trivial
 have he:True:=trivial
 have h0:=h.h0
 have hlw:=h.lw
 (refine bd JT Oz ?_;simp only [JT,↓R1,RR,seval,RX,hln,h34p])
 repeat' (with_reducible refine And.intro ?_ ?_;exact af)
 ·have hbase:1+p.t*5+5≤35:=by omega
  obtain ⟨wl,hwl⟩:∃ wl,wl= [w1,w2,w3,w4,w5]:=⟨_,rfl⟩
  have hl5:wl.length=5:=by rw [hwl];rfl
  refine pQ 5 (fun k=> [(0, .ptr ζ 0),(1, .ptr γ 0),(31, .sl true 5 [.ptr ζ (1+p.t*5), .ptr ζ (1+p.t*5+1), .ptr ζ (1+p.t*5+2), .ptr ζ (1+p.t*5+3), .ptr ζ (1+p.t*5+4)]),(32, .int .i64 5),(33, .int .i64 (k:Nat))])
   (fun k=>(σ.aa γ (cur r (1+k))).aa ζ (hU (pB κ υ p) (1+p.t*5) (mS (wl.take k))))
   (D6 wl) Qi (by
    simp only [List.take_zero,mS,List.map_nil,D4]
    rw [xG h.hb,xG hp];exact St.le_refl _) (by intro j w hj;omega) (fun k hk hI=>?_)
  by_cases hlt:k<5
  ·have i1:decide ((k:Int)<5)=true:=by rw [decide_eq_true_eq];omega
   obtain ⟨w,hwk⟩:∃ w,wl[k]? =some w:=⟨_,List.getElem?_eq_getElem P6⟩
   have hrk:r.ws[1+k]? =some w:=by rw [hws,show 1+k=k+1 by omega,List.getElem?_cons_succ,←hwl];exact hwk
   have he:([AV.ptr ζ (1+p.t*5), .ptr ζ (1+p.t*5+1), .ptr ζ (1+p.t*5+2), .ptr ζ (1+p.t*5+3), .ptr ζ (1+p.t*5+4)].drop (k*1)).take 1= [.ptr ζ (1+p.t*5+k)]:=by
    have hc:k=0∨k=1∨k=2∨k=3∨k=4:=P6
    rcases hc with rfl|rfl|rfl|rfl|rfl<;>rfl
   have hw:IntKind.i64.wrap ((k:Int)+1)=((k+1:Nat):Int):=P9
   have hcu:∀ X,Cu σ0 ((σ.aa γ (cur r (1+k))).aa ζ X) γ r (1+k):=fun X=>⟨by simp [St.aa,upd,hne.symm],h.h0,St.cI (St.cI h.lw h.h0) hp0,h.n,h.t⟩
   simp only [↓R1,RR,seval,RX,i1,he]
   repeat' (first|(with_reducible refine And.intro ?_ ?_;exact af)|(with_reducible apply And.intro)|(((refine bF (DW (hcu _) hrk) (ad _) (fun a1 ho1=>?_) (fun e ho1=>?_)))<;>(try simp only [↓R1,RR,seval,RX,hw])))
   ·have htl:(mS (wl.take k)).length=k:=by simp only [mS,List.length_map,List.length_take];omega
    rw [D5 (by rw [htl,hln];omega),hln];omega
   ·exact hI.next hwk ho1
   ·simp [aq,slot,ae]
   ·have htl:(mS (wl.take k)).length=k:=by simp only [mS,List.length_map,List.length_take];omega
    have hst:=As (l:=pB κ υ p) (xs:=mS (wl.take k)) (o:=1+p.t*5) (.int .i64 a1) (by rw [htl,hln];omega)
    rw [htl] at hst
    have hsn:mS (wl.take (k+1))=mS (wl.take k)++ [.int .i64 a1]:=by
     obtain ⟨q1,q2⟩:=List.getElem?_eq_some_iff.1 hwk
     rw [←List.take_append_getElem q1,q2,mS,List.map_append,List.map_singleton,l7 ho1];rfl
    rw [gn ho1,hst,hsn]
    exact St.le_refl _
   ·rw [hwl] at hI hwk
    exact aO (Hb hI hwk ho1) (St.ax _)
  ·have hk5:k=5:=by omega
   subst hk5
   have i1:decide (((5:Nat):Int)<5)=false:=Qg
   rw [hwl] at hI
   obtain ⟨a,ha⟩:=hI 0 w1 P6 rfl
   obtain ⟨b,hb⟩:=hI 1 w2 P6 rfl
   obtain ⟨c,hc⟩:=hI 2 w3 P6 rfl
   obtain ⟨d,hd⟩:=hI 3 w4 P6 rfl
   obtain ⟨e,he5⟩:=hI 4 w5 P6 rfl
   have hq:eY w1 w2 w3 w4 w5 p= .ok { p with tens:=p.tens.set p.t ⟨a,b,c,d,e⟩,t:=p.t+1 }:=by
    unfold eY;rw [aJ _ ha,aJ _ hb,aJ _ hc,aJ _ hd,aJ _ he5]
   have hbx:hU (pB κ υ p) (1+p.t*5) (mS (wl.take 5))=pB κ υ { p with tens:=p.tens.set p.t ⟨a,b,c,d,e⟩ }:=by
    rw [←KT κ υ h6 ht6,hwl]
    simp only [mS,List.take,List.map_cons,List.map_nil,l7 ha,l7 hb,l7 hc,l7 hd,l7 he5,b7]
   have h6':({ p with tens:=p.tens.set p.t ⟨a,b,c,d,e⟩ }:PlanI).tens.length=6:=by simp [h6]
   rw [hbx]
   generalize hp':({ p with tens:=p.tens.set p.t ⟨a,b,c,d,e⟩ }:PlanI)=p' at h6'
   have htt:p'.t=p.t:=by rw [←hp']
   have hln:=gL κ υ h6'
   have h34p:=xD κ υ h6'
   have hw:IntKind.i64.wrap ((p'.t:Int)+1)=((p'.t+1:Nat):Int):=P9
   simp only [↓R1,RR,seval,RX,hln,h34p,hw]
   skip
   have hst:(pB κ υ p').take 34++ [.int .i64 ((p'.t+1:Nat):Int)]++(pB κ υ p').drop 35=pB κ υ { p' with t:=p'.t+1 }:=wj κ υ h6' 3 _
   rw [hst]
   refine dM hq ?_ ?_
   ·simp only [an,RR,seval]
    exact ae _
   ·rw [←hp']
    exact St.ax _
def qg:List UInt8:= [104,111,114,105,122,111,110]
def xH:List UInt8:= [99,108,97,115,115]
def uj:List UInt8:= [116,101,110,97,110,116]
def D7:List UInt8:= [114,117,108,101]
def iD:List (List UInt8):= [qg,xH,uj,D7]
def fe:List Nat:= [2,4,6,7]
def xI:List Nat:= [123,124,125,126]
def planW (k:Nat) (ws:List Wd) (a:Int) (p:PlanI):Except Ft PlanI:=match k,ws with
 | 0,[_,w1]=>eb (ay w1) fun v=> .ok { p with hor:=v }
 | 1,[_,w1,w2,w3]=>fG w1 w2 w3 a p
 | 2,[_,w1,w2,w3,w4,w5]=>eY w1 w2 w3 w4 w5 p
 | 3,[_,w1,w2,w3,w4,w5,w6]=>ez w1 w2 w3 w4 w5 w6 a p
 | _,_=> .ok p
def la (r:Rw):Option Nat:=match r.ws with
 | []=>none
 | w0::_=>bif w0.q then none else dc w0.t iD 0
def ee (r:Rw) (p:PlanI):Except Ft PlanI:=match la r with
 | none=> .error (9,(r.a:Int))
 | some k=>if fO p k=false then .error (9,(r.a:Int)) else if r.ws.length=fe[k]?.getD 0 then eb (planW k r.ws (r.a:Nat) p) fun q=> .ok { q with n:=q.n+1 } else .error (3,(r.a:Int))
structure Pl (σ0 σ:St) (ζ κ υ:Nat) (p:PlanI):Prop where
 hb:σ.box ζ=some (pB κ υ p)
 h0:σ0.box ζ=none
 tk:σ.tip κ=some (94,3,p.cls.length)
 tu:σ.tip υ=some (97,7,p.ruls.length)
 six:p.tens.length=6
 c8:p.cls.length≤8
 r8:p.ruls.length≤8
def eD (ζ κ υ:Nat) (q:PlanI) (σ:St):St:=((σ.ai κ (94,3,q.cls.length)).ai υ (97,7,q.ruls.length)).aa ζ (pB κ υ q)
theorem eM {σ:St} {τ:Nat} {x:Nat × Nat × Nat} (h:σ.tip τ=some x):σ.ai τ x=σ:=by
 obtain ⟨b,t,g,l,bt⟩:=σ
 simp only [St.ai,St.mk.injEq,true_and,and_true]
 funext j;simp only [upd]
 split
 ·rename_i e;subst e;exact h.symm
 ·rfl
theorem aV {α β:Type} {o:Except Ft α} {f:α→Except Ft β} {b:β} (h:eb o f= .ok b):∃ a,o= .ok a∧f a= .ok b:=by
 cases o with
 | error x=>simp only [eb] at h;cases h
 | ok a=>exact ⟨a,rfl,h⟩
theorem AX.res {f T:Nat} {xs:List AV} {σ:St} {α:Type} {o:Except Ft α} {t:α→AV} {s1 s2:α→St} {s0:St} (h:AX Tryz.prog f xs σ (oX T o t s1 s0)) (he:∀ a,o= .ok a→s1 a=s2 a):AX Tryz.prog f xs σ (oX T o t s2 s0) :=
 h.mono fun b r s hb=>by
  cases b with
  | false=>obtain ⟨a,h1,h2,h3⟩:=hb;exact ⟨a,h1,h2,by rw [h3,he a h1]⟩
  | true=>exact hb
theorem KU {α:Type} {l:List α} (h:l.length=6):∃ a0 a1 a2 a3 a4 a5,l= [a0,a1,a2,a3,a4,a5]:=by
 match l,h with
 | [a0,a1,a2,a3,a4,a5],_=>exact ⟨a0,a1,a2,a3,a4,a5,rfl⟩
theorem M5 {α:Type} {l:List α} (h:l.length=7):∃ a0 a1 a2 a3 a4 a5 a6,l= [a0,a1,a2,a3,a4,a5,a6]:=by
 match l,h with
 | [a0,a1,a2,a3,a4,a5,a6],_=>exact ⟨a0,a1,a2,a3,a4,a5,a6,rfl⟩
theorem HP {w1 w2 w3 w4 w5:Wd} {p q:PlanI} (h:eY w1 w2 w3 w4 w5 p= .ok q):q.cls=p.cls∧q.ruls=p.ruls∧q.tens.length=p.tens.length∧q.t=p.t+1:=by
 unfold eY at h
 obtain ⟨_,_,h⟩:=aV h
 obtain ⟨_,_,h⟩:=aV h
 obtain ⟨_,_,h⟩:=aV h
 obtain ⟨_,_,h⟩:=aV h
 obtain ⟨_,_,h⟩:=aV h
 cases h;simp
theorem KV {w1 w2 w3:Wd} {a:Int} {p q:PlanI} (h:fG w1 w2 w3 a p= .ok q):∃ x,q={ p with cls:=p.cls++ [x] }∧p.cls.length≠8:=by
 unfold fG at h
 obtain ⟨_,_,h⟩:=aV h
 obtain ⟨_,_,h⟩:=aV h
 obtain ⟨_,_,h⟩:=aV h
 split at h
 ·cases h
 ·rename_i h8;cases h;exact ⟨_,rfl,h8⟩
theorem KW {w1 w2 w3 w4 w5 w6:Wd} {a:Int} {p q:PlanI} (h:ez w1 w2 w3 w4 w5 w6 a p= .ok q):∃ x,q={ p with ruls:=p.ruls++ [x] }∧p.ruls.length≠8:=by
 unfold ez at h
 obtain ⟨_,_,h⟩:=aV h
 obtain ⟨_,_,h⟩:=aV h
 obtain ⟨_,_,h⟩:=aV h
 obtain ⟨_,_,h⟩:=aV h
 obtain ⟨_,_,h⟩:=aV h
 obtain ⟨_,_,h⟩:=aV h
 split at h
 ·cases h
 ·rename_i h8;cases h;exact ⟨_,rfl,h8⟩
theorem D8 {p:PlanI} (h:fO p 2=true):p.t<6:=by
 simp only [fO,Bool.and_eq_true,decide_eq_true_eq] at h;omega
theorem qh {σ:St} {ζ κ υ:Nat} {q:PlanI} (hk:σ.tip κ=some (94,3,q.cls.length)) (hu:σ.tip υ=some (97,7,q.ruls.length)):eD ζ κ υ q σ=σ.aa ζ (pB κ υ q):=by
 rw [eD,eM hk,eM hu]
theorem KX {σ σ0:St} {ζ β κ υ k:Nat} {p:PlanI} {r:Rw} (h:Cu σ0 σ β r 1) (hp:Pl σ0 σ ζ κ υ p) (hne:ζ≠β) (hk:k<4) (hm:fO p k=true) (hn:r.ws.length=fe[k]?.getD 0) :
    AX Tryz.prog (xI[k]?.getD 0) [.ptr ζ 0, .ptr β 0] σ (oX TS (planW k r.ws (r.a:Nat) p) (fun _=> .tup []) (fun q=>eD ζ κ υ q (σ.aa β (cur r (fe[k]?.getD 0)))) σ0):=by
  have hc:k=0∨k=1∨k=2∨k=3:=P6
  rcases hc with rfl|rfl|rfl|rfl<;>simp only [fe,List.getElem?_cons_zero,List.getElem?_cons_succ,Option.getD_some] at hn
  · obtain ⟨w0,w1,hws⟩:=An hn
    rw [hws]
    refine ((PU hp.hb hp.h0 hp.six h hne hws).mono ?_:AX Tryz.prog 123 _ _ _)
    intro b v s hb
    cases b with
    | false =>
      obtain ⟨a,h1,h2,h3⟩:=hb
      refine ⟨{ p with hor:=a },by simp only [planW,aJ _ h1],h2,?_⟩
      rw [h3]
      exact (qh (σ:=σ.aa β (cur r 2)) (q:={ p with hor:=a }) hp.tk hp.tu).symm
    | true=>obtain ⟨e,h1,h2,h3⟩:=hb;exact ⟨e,by simp only [planW,cS _ h1],h2,h3⟩
  · obtain ⟨w0,w1,w2,w3,hws⟩:=MZ hn
    rw [hws]
    refine AX.res (PV hp.hb hp.h0 hp.tk hp.six hp.c8 h hne hws) fun q hq=>?_
    obtain ⟨x,rfl,h8⟩:=KV hq
    have hku:υ≠κ:=fun e=>by have h1:=hp.tk;rw [←e,hp.tu] at h1;cases h1
    show _=St.aa (St.ai (St.ai _ _ _) _ _) _ _
    rw [eM (τ:=υ) (by simp only [St.ai,upd,if_neg hku];exact hp.tu)];rfl
  · obtain ⟨w0,w1,w2,w3,w4,w5,hws⟩:=KU hn
    rw [hws]
    refine AX.res (PX hp.hb hp.h0 hp.six (D8 hm) h hne hws) fun q hq=>?_
    obtain ⟨h1,h2,_⟩:=HP hq
    exact (qh (by rw [h1];exact hp.tk) (by rw [h2];exact hp.tu)).symm
  · obtain ⟨w0,w1,w2,w3,w4,w5,w6,hws⟩:=M5 hn
    rw [hws]
    refine AX.res (PW hp.hb hp.h0 hp.tu hp.six hp.r8 h hne hws) fun q hq=>?_
    obtain ⟨x,rfl,h8⟩:=KW hq
    show _=St.aa (St.ai (St.ai _ _ _) _ _) _ _
    rw [eM (τ:=κ) (by exact hp.tk)];rfl
def wo:List AV:= [.str [104,111,114,105,122,111,110], .int .i64 2, .fn 123 [], .str [99,108,97,115,115], .int .i64 4, .fn 124 [], .str [116,101,110,97,110,116], .int .i64 6, .fn 125 [], .str [114,117,108,101], .int .i64 7, .fn 126 []]
def VP (ζ δ k n f:Nat) (r:Rw) (σb:St) (i:Nat) (v:AV) (s:St):Prop:=match i with
 | 0=>v= .int .i64 (k:Nat)
 | 1=>v= .ptr δ (k*3)
 | 2=>v= .ptr δ (k*3+2)
 | 3=>v= .fn f []
 | 4=>v= .ptr ζ 0
 | 5=>v= .agg (cRw r)
 | 6=>v= .int .i64 (k:Nat)
 | 7=>v= .ptr δ (k*3)
 | 8=>v= .ptr δ (k*3+1)
 | 9=>v= .int .i64 (n:Nat)
 | 10=>∃ κ,v= .ptr κ 0∧s.box κ=some (cur r 1)∧σb.box κ=none∧r.ws.length=n
 | _=>True
theorem Pl.le {σ0 σ s:St} {ζ κ υ:Nat} {p:PlanI} (h:Pl σ0 σ ζ κ υ p) (hs:St.le σ s):Pl σ0 s ζ κ υ p:=⟨hs.1 _ _ h.hb,h.h0,hs.2.1 _ _ h.tk,hs.2.1 _ _ h.tu,h.six,h.c8,h.r8⟩
theorem M6 {k:Nat} (hk:k<4):wo[k*3+2]? =some (.fn (xI[k]?.getD 0) []):=by
 have hc:k=0∨k=1∨k=2∨k=3:=P6
 rcases hc with rfl|rfl|rfl|rfl<;>rfl
theorem M7 {k:Nat} (hk:k<4):wo[k*3+1]? =some (.int .i64 ((fe[k]?.getD 0:Nat):Int)):=by
 have hc:k=0∨k=1∨k=2∨k=3:=P6
 rcases hc with rfl|rfl|rfl|rfl<;>rfl
set_option maxHeartbeats 4000000 in
theorem D9 {σ0 σb:St} {r:Rw} {γ δ ζ κ υ k:Nat} {p:PlanI} {fr:Fr} {Q:Exit→Fr→St→Prop} (hlw:St.lw σ0 σb) (hp:Pl σ0 σb ζ κ υ p) (hm:fO p k=true) (hk:k<4) (hn:r.ws.length≤20000) (ht:∀ w∈r.ws,w.t.length≤1000000)
  (hγ:σb.box γ=some (cRw r)) (hδ:σb.box δ=some wo)
  (h0:slot 0 fr= .ptr ζ 0) (h3:slot 3 fr= .ptr γ 0) (h4:slot 4 fr= .ptr δ 0) (h5:slot 5 fr= .int .i64 (k:Nat))
  (hno:r.ws.length≠fe[k]?.getD 0→Q (.panic []) [(0,jP TS (3,(r.a:Int)))] σ0)
  (her:r.ws.length=fe[k]?.getD 0→∀ e,planW k r.ws (r.a:Nat) p= .error e→Q (.panic []) [(0,jP TS e)] σ0)
  (hok:r.ws.length=fe[k]?.getD 0→∀ q,planW k r.ws (r.a:Nat) p= .ok q→∀ f s β c,St.le σb s→σb.box β=none→slot 0 f= .ptr ζ 0→Q .normal f (eD ζ κ υ q (s.aa β c))) :
  aX Tryz.prog (.invX [.o ⟨some 37, .mv (.t 5),none⟩, .o ⟨some 38, .ixP 4 3 (.t 4) (.t 37),none⟩, .o ⟨some 39, .fldA 2 (.t 38),none⟩, .o ⟨some 40, .ld (none) (.t 39),none⟩, .o ⟨some 41, .mv (.t 0),none⟩, .o ⟨some 42, .ld (some 2) (.t 3),none⟩, .o ⟨some 43, .mv (.t 5),none⟩, .o ⟨some 44, .ixP 4 3 (.t 4) (.t 43),none⟩, .o ⟨some 45, .fldA 1 (.t 44),none⟩, .o ⟨some 46, .ld (none) (.t 45),none⟩, .c (some 47) 97 [(.t 42),(.t 46)], .v (some 48) (.t 40) [(.t 41),(.t 47)]] [[],[0],[1],[2],[],[],[],[6],[7],[8],[5,9],[3,4,10,10]]) fr σb Q:=by
 have tf:=M6 hk
 have tn:=M7 hk
 have hln12:wo.length=12:=rfl
 refine lN [37,38,39,40,41,42,43,44,45,46,47] 11 (VP ζ δ k (fe[k]?.getD 0) (xI[k]?.getD 0) r σb) Qg ?_ ?_ ?_
 ·intro i v s s' h hs
  unfold VP at h ⊢
  split at h
  all_goals first|exact h|skip
  obtain ⟨κ,q1,q2,q3⟩:=h
  exact ⟨κ,q1,hs.1 _ _ q2,q3⟩
 ·intro j x d hj hx hd f s hs hfr hv
  have h0':slot 0 f= .ptr ζ 0:=by rw [hfr 0 Qg];exact h0
  have h3':slot 3 f= .ptr γ 0:=by rw [hfr 3 Qg];exact h3
  have h4':slot 4 f= .ptr δ 0:=by rw [hfr 4 Qg];exact h4
  have h5':slot 5 f= .int .i64 (k:Nat):=by rw [hfr 5 Qg];exact h5
  have hc:j=0∨j=1∨j=2∨j=3∨j=4∨j=5∨j=6∨j=7∨j=8∨j=9∨j=10:=P6
  haveI b1:BoxIs s γ [.int .i64 (r.a:Nat), .sl false r.ws.length (r.ws.flatMap cWd)]:=⟨iA hs hγ⟩
  haveI b2:BoxIs s δ wo:=⟨iA hs hδ⟩
  have h0:=h0'
  have h3:=h3'
  have h4:=h4'
  have h5:=h5'
  have e0:True:=trivial
  have e1:True:=trivial
  have e2:True:=trivial
  have e4:True:=trivial
  rcases hc with rfl|rfl|rfl|rfl|rfl|rfl|rfl|rfl|rfl|rfl|rfl
  ·cases hx;cases hd
   refine bX ?_
   simp only [↓R1,RR,seval,h5]
   exact ⟨_,rfl,St.le_refl _,rfl⟩
  ·cases hx;cases hd
   have e0:slot 37 f= .int .i64 (k:Nat):=hv 0 37 Qd rfl
   refine bX ?_
   simp only [↓R1,RR,seval,h4,e0]
   exact ⟨by omega,_,rfl,St.le_refl _,rfl⟩
  ·cases hx;cases hd
   have e1:slot 38 f= .ptr δ (k*3):=hv 1 38 Qd rfl
   refine bX ?_
   simp only [↓R1,RR,seval,e1]
   exact ⟨_,rfl,St.le_refl _,rfl⟩
  ·cases hx;cases hd
   have e1:slot 39 f= .ptr δ (k*3+2):=hv 2 39 Qd rfl
   refine bX ?_
   simp only [↓R1,RR,seval,e1,tf]
   exact ⟨by omega,_,rfl,St.le_refl _,rfl⟩
  ·cases hx;cases hd
   refine bX ?_
   simp only [↓R1,RR,seval,h0]
   exact ⟨_,rfl,St.le_refl _,rfl⟩
  ·cases hx;cases hd
   refine bX ?_
   simp only [↓R1,RR,seval,h3]
   exact ⟨_,rfl,St.le_refl _,rfl⟩
  ·cases hx;cases hd
   refine bX ?_
   simp only [↓R1,RR,seval,h5]
   exact ⟨_,rfl,St.le_refl _,rfl⟩
  ·cases hx;cases hd
   have e0:slot 43 f= .int .i64 (k:Nat):=hv 6 43 Qd rfl
   refine bX ?_
   simp only [↓R1,RR,seval,h4,e0]
   exact ⟨by omega,_,rfl,St.le_refl _,rfl⟩
  ·cases hx;cases hd
   have e1:slot 44 f= .ptr δ (k*3):=hv 7 44 Qd rfl
   refine bX ?_
   simp only [↓R1,RR,seval,e1]
   exact ⟨_,rfl,St.le_refl _,rfl⟩
  ·cases hx;cases hd
   have e1:slot 45 f= .ptr δ (k*3+1):=hv 8 45 Qd rfl
   refine bX ?_
   simp only [↓R1,RR,seval,e1,tn]
   exact ⟨by omega,_,rfl,St.le_refl _,rfl⟩
  ·cases hx;cases hd
   have e2:slot 42 f= .agg (cRw r):=hv 5 42 Qd rfl
   have e4:slot 46 f= .int .i64 ((fe[k]?.getD 0:Nat):Int):=hv 9 46 Qd rfl
   simp only [gv,List.map_cons,List.map_nil,ev,e2,e4]
   by_cases hln:r.ws.length=fe[k]?.getD 0
   ·refine (ow hln).mono fun b v s' hb=>?_
    obtain ⟨rfl,κ,q1,rfl,rfl⟩:=hb
    exact ⟨_,rfl,St.aD (St.le_refl _) q1,κ,rfl,St.cA _ _ _,le_none hs q1,hln⟩
   ·refine (ou (σ0:=σ0) (jU hlw hs) hln).mono fun b v s' hb=>?_
    cases b with
    | false=>obtain ⟨a,q1,_⟩:=hb;cases q1
    | true=>obtain ⟨a,q1,rfl,rfl⟩:=hb;cases q1;exact hno hln
 ·intro f s hs hfr hv
  have h0':slot 0 f= .ptr ζ 0:=by rw [hfr 0 Qg];exact h0
  have e1:slot 40 f= .fn (xI[k]?.getD 0) []:=hv 3 40 rfl
  have e2:slot 41 f= .ptr ζ 0:=hv 4 41 rfl
  obtain ⟨β,e5,q2,q3,hln⟩:∃ κ,slot 47 f= .ptr κ 0∧s.box κ=some (cur r 1)∧σb.box κ=none∧r.ws.length=fe[k]?.getD 0:=hv 10 47 rfl
  have hne:ζ≠β:=fun e=>by have:=hp.hb;rw [e,q3] at this;cases this
  have hcu:Cu σ0 s β r 1:=⟨q2,dJ hlw q3,jU hlw hs,hn,ht⟩
  show cC _ [.v (some 48) (.t 40) [(.t 41),(.t 47)]] f s Q
  have e0:True:=trivial
  have e4:=e5
  have h3:True:=trivial
  have h4:True:=trivial
  have h5:True:=trivial
  simp only [RR,seval,e1,e2,e4,RX]
  refine bF (KX hcu (hp.le hs) hne hk hm hln) (ad _) (fun q hq=>?_) (fun e he=>her hln e he)
  simp only [RR,seval,RX]
  refine hok hln q hq _ _ _ _ hs q3 ?_
  simp only [slot];rw [if_neg Qg];exact h0'
theorem uk {r:Rw} {k:Nat} (h:la r=some k):k<4:=by
 unfold la at h
 split at h
 ·cases h
 ·rename_i w0 _ _
  cases hq:w0.q with
  | true=>rw [hq] at h;cases h
  | false=>rw [hq] at h;have:=qf _ _ _ _ h;simpa [iD] using this
theorem Hc {r:Rw} {w0:Wd} {ws:List Wd} (h:r.ws=w0::ws):kf w0.q w0.t iD=match la r with
  | some k=>((k:Nat):Int)
  | none=> -1:=by
 unfold kf la
 rw [h]
 try (split<;>rename_i h1<;>simp only [h1])
theorem qi {k:Nat} {ws:List Wd} {a:Int} {p q:PlanI} (h:planW k ws a p= .ok q):q.tens.length=p.tens.length∧q.n=p.n:=by
 unfold planW at h
 split at h
 ·obtain ⟨_,_,h⟩:=aV h;cases h;exact ⟨rfl,rfl⟩
 ·obtain ⟨x,rfl,_⟩:=KV h;exact ⟨rfl,rfl⟩
 ·unfold eY at h
  obtain ⟨_,_,h⟩:=aV h
  obtain ⟨_,_,h⟩:=aV h
  obtain ⟨_,_,h⟩:=aV h
  obtain ⟨_,_,h⟩:=aV h
  obtain ⟨_,_,h⟩:=aV h
  cases h;simp
 ·obtain ⟨x,rfl,_⟩:=KW h;exact ⟨rfl,rfl⟩
 ·cases h;exact ⟨rfl,rfl⟩
theorem KY {ζ κ υ:Nat} {q:PlanI} {s:St} (n:Nat):(eD ζ κ υ q s).aa ζ (pB κ υ { q with n:=n })=eD ζ κ υ { q with n:=n } s:=by
 simp only [eD,St.set_set]
set_option maxHeartbeats 4000000 in
theorem x63 {σ σ0:St} {ζ κ υ:Nat} {p:PlanI} {r:Rw} (hlw:St.lw σ0 σ) (hp:Pl σ0 σ ζ κ υ p) (hpn:p.n≤1000000) (hne:r.ws≠ []) (hn:r.ws.length≤20000) (ht:∀ w∈r.ws,w.t.length≤1000000) :
    AX Tryz.prog 63 [.ptr ζ 0, .agg (cRw r)] σ (oX TS (ee r p) (fun _=> .tup []) (fun q=>eD ζ κ υ q σ) σ0):=by
  obtain ⟨w0,ws,hws⟩:∃ w0 ws,r.ws=w0::ws:=by
    cases h:r.ws with
    | nil=>exact (hne h).elim
    | cons w0 ws=>exact ⟨w0,ws,rfl⟩
  have hw0:r.ws[0]? =some w0:=Qo
  haveI:BoxIs σ ζ (pB κ υ p):=⟨hp.hb⟩
  have hln:=gL κ υ hp.six
  have q1:True:=trivial
  have q2:True:=trivial
  have q3:True:=trivial
  have h33:True:=trivial
  have hst:True:=trivial
  have hwr:True:=trivial
  have hwh:=p83 r w0 true iD hw0 (by simp [iD])
  rw [Hc hws] at hwh
  simp only [cRw,iD,qg,xH,uj,D7,List.map_cons,List.map_nil,List.length_cons,List.length_nil] at hwh
  cases hf:la r with
  | none =>
    rw [hf] at hwh
    simp only at hwh
    (refine bd c63 b63 ?_;simp only [c63,↓R1,RR,seval,RX,cRw])
    repeat' (first|(with_reducible rw [ah])|((first|(with_reducible intro β hβ;(try simp only [RB] at hβ);(repeat (obtain ⟨⟨_,_⟩,hβ⟩:=hβ));(try (have hbis:=aj Qa hβ;obtain ⟨_,_⟩:=hbis)))|(refine Pt (hwh) ?_)|((refine bR (σ0:=σ0) Qg Qb ?_)))<;>(try simp only [↓R1,RR,seval,RX])))
    all_goals first|omega|skip
    exact aO (by simp only [ee,hf]) (St.ax _)
  | some k =>
    rw [hf] at hwh
    simp only at hwh
    have hk:=uk hf
    have q1:decide ((k:Int)<0)=false:=Qs
    cases hm:fO p k with
    | false =>
      (refine bd c63 b63 ?_;simp only [c63,↓R1,RR,seval,RX,cRw])
      repeat' (first|(with_reducible rw [ah])|((first|(with_reducible intro β hβ;(try simp only [RB] at hβ);(repeat (obtain ⟨⟨_,_⟩,hβ⟩:=hβ));(try (have hbis:=aj Qa hβ;obtain ⟨_,_⟩:=hbis)))|(refine Pt (hwh) ?_))<;>(try simp only [↓R1,RR,seval,RX,q1])))
      refine AC.mono (AC.wk (M4 (p:=p) (τ:=κ) (υ:=υ) (β:=ζ) ?_ hp.six hk) (ad _)) ?_
      (focus (simp only [RR,seval];done))
      rintro _ _ ⟨rfl,rfl⟩
      simp only [hm,↓R1,RR,seval,RX]
      repeat' (((refine bR (σ0:=σ0) Qg Qb ?_))<;>(try simp only [seval,RX]))
      exact aO (by simp only [ee,hf,hm,if_true]) (St.ax _)
    | true =>
      (refine bd c63 b63 ?_;simp only [c63,↓R1,RR,seval,RX,cRw])
      repeat' (first|(with_reducible rw [ah])|((first|(with_reducible intro β hβ;(try simp only [RB] at hβ);(repeat (obtain ⟨⟨_,_⟩,hβ⟩:=hβ));(try (have hbis:=aj Qa hβ;obtain ⟨_,_⟩:=hbis)))|(refine Pt (hwh) ?_))<;>(try simp only [↓R1,RR,seval,RX,q1])))
      rename_i γ hγ a1 a2 b1 b2 b3 b4
      refine AC.mono (AC.wk (M4 (p:=p) (τ:=κ) (υ:=υ) (β:=ζ) ?_ hp.six hk) (ad _)) ?_
      (focus (simp only [RR,seval];done))
      rintro _ _ ⟨rfl,rfl⟩
      simp only [hm,↓R1,RR,seval,RX]
      have hle:St.le σ ((σ.aa γ [AV.int IntKind.i64 ↑r.a,AV.sl false r.ws.length (List.flatMap cWd r.ws)]).aa β wo):=St.aD (St.aD (St.le_refl _) hγ) hβ
      refine D9 (σ0:=σ0) (k:=k) (γ:=γ) (δ:=β) (jU hlw hle) (hp.le hle) hm hk hn ht ?_ ?_ rfl rfl rfl rfl ?_ ?_ ?_
      · simp only [cRw,RR,seval,cRw]
      · simp only [wo,RR,seval]
      · intro hno
        simp only [seval,RX]
        exact aO (by simp only [ee,hf,hm,Bool.true_eq_false,if_false,if_neg hno]) (St.ax _)
      · intro hl e he
        simp only [seval,RX]
        exact aO (by simp only [ee,hf,hm,Bool.true_eq_false,if_false,if_pos hl,cS _ he]) (St.ax _)
      · intro hl q hq f s δ c hs hδ hf0
        obtain ⟨h6',hqn⟩:=qi hq
        have h6:q.tens.length=6:=by rw [h6',hp.six]
        have hln:=gL κ υ h6
        have h33:=D1 κ υ h6
        have hwr:IntKind.i64.wrap ((q.n:Int)+1)=((q.n+1:Nat):Int):=P9
        have hst:(pB κ υ q).take 33++ [.int .i64 ((q.n+1:Nat):Int)]++(pB κ υ q).drop 34=pB κ υ { q with n:=q.n+1 }:=wj κ υ h6 2 _
        haveI:BoxIs (eD ζ κ υ q (s.aa δ c)) ζ (pB κ υ q):=⟨St.cA _ _ _⟩
        have q2:=hf0
        have q3:= @KY ζ κ υ q
        simp only [↓R1,RR,seval,RX,q2,q3,hln,h33,hst,hwr]
        skip
        refine jA (a:={ q with n:=q.n+1 }) Qd (by simp only [ee,hf,hm,Bool.true_eq_false,if_false,if_pos hl,aJ _ hq]) QP ?_ ?_
        · simp only [an,RR,seval]
          exact ae _
        · exact St.dw (St.cJ (St.cJ (St.cI (St.gT (St.le_trans hle hs)) (le_none hle hδ)))) (ad _)
def mT:TenI:=⟨0,0,0,0,0⟩
def dR:PlanI:=⟨[],[mT,mT,mT,mT,mT,mT],[],0,0,0⟩
def fE (p:PlanI):CfgI:=⟨p.cls,p.tens,p.ruls,p.hor⟩
def eZ:List Rw→PlanI→Except Ft PlanI
 | [],p=> .ok p
 | r::rs,p=>eb (ee r p) fun q=>eZ rs q
def dX (n:Nat) (p:PlanI):Except Ft CfgI :=
 if p.n=0∨p.t<6 then .error (7,(n:Int)) else if (de (fE p)).1≠0 then .error ((de (fE p)).1,0) else .ok (fE p)
def bH (s:List UInt8):Except Ft CfgI:=eb (fb s) fun rs=>eb (eZ rs dR) (dX s.length)
theorem mJ {rs:List Rw} {k:Nat} {r:Rw} (h:rs[k]? =some r) (p:PlanI):eZ (rs.drop k) p=eb (ee r p) fun q=>eZ (rs.drop (k+1)) q:=by
 obtain ⟨h1,h2⟩:=List.getElem?_eq_some_iff.1 h
 rw [List.drop_eq_getElem_cons h1,h2];rfl
structure PlanOk (p:PlanI):Prop where
 six:p.tens.length=6
 c8:p.cls.length≤8
 r8:p.ruls.length≤8
 lcls:∀ x∈p.cls,U64 x.l
 lrul:∀ x∈p.ruls,U64 x.auth∧U64 x.res
 lt:p.t≤6
theorem lb:PlanOk dR:=⟨rfl,by simp [dR],by simp [dR],by simp [dR],by simp [dR],by simp [dR]⟩
theorem KZ (x:BitVec 64):U64 ((x.toNat:Nat):Int):=by
 have:=x.isLt
 exact ⟨by omega,by omega⟩
theorem rO {w:Wd} {a:Int} (h:a7 w= .ok a):U64 a:=by
 obtain ⟨x,rfl⟩:=Am h;exact KZ x
theorem Ea {k:Nat} {ws:List Wd} {a:Int} {p q:PlanI} (hp:PlanOk p) (hm:fO p k=true) (h:planW k ws a p= .ok q):PlanOk q:=by
 obtain ⟨p1,p2,p3,p4,p5,p6⟩:=hp
 unfold planW at h
 split at h
 ·obtain ⟨_,_,h⟩:=aV h;cases h;exact ⟨p1,p2,p3,p4,p5,p6⟩
 ·unfold fG at h
  obtain ⟨x,hx,h⟩:=aV h
  obtain ⟨_,_,h⟩:=aV h
  obtain ⟨_,_,h⟩:=aV h
  split at h
  ·cases h
  ·cases h
   refine ⟨p1,?_,p3,?_,p5,p6⟩
   ·simp;omega
   ·intro y hy
    rcases List.mem_append.1 hy with hy|hy
    ·exact p4 y hy
    ·simp at hy;subst hy;exact rO hx
 ·have ht:=D8 hm
  unfold eY at h
  obtain ⟨_,_,h⟩:=aV h
  obtain ⟨_,_,h⟩:=aV h
  obtain ⟨_,_,h⟩:=aV h
  obtain ⟨_,_,h⟩:=aV h
  obtain ⟨_,_,h⟩:=aV h
  cases h;exact ⟨by simp [p1],p2,p3,p4,p5,by simp;omega⟩
 ·unfold ez at h
  obtain ⟨_,_,h⟩:=aV h
  obtain ⟨x,hx,h⟩:=aV h
  obtain ⟨y,hy,h⟩:=aV h
  obtain ⟨_,_,h⟩:=aV h
  obtain ⟨_,_,h⟩:=aV h
  obtain ⟨_,_,h⟩:=aV h
  split at h
  ·cases h
  ·cases h
   refine ⟨p1,p2,?_,p4,?_,p6⟩
   ·simp;omega
   ·intro z hz
    rcases List.mem_append.1 hz with hz|hz
    ·exact p5 z hz
    ·simp at hz;subst hz;exact ⟨rO hx,rO hy⟩
 ·cases h;exact ⟨p1,p2,p3,p4,p5,p6⟩
theorem lf {r:Rw} {p q:PlanI} (hp:PlanOk p) (h:ee r p= .ok q):PlanOk q∧q.n=p.n+1:=by
 unfold ee at h
 split at h
 ·cases h
 ·rename_i k hk
  split at h
  ·cases h
  ·rename_i hm
   split at h
   ·obtain ⟨q',hq,h⟩:=aV h
    cases h
    have h1:=Ea hp (by simpa using hm) hq
    exact ⟨⟨h1.six,h1.c8,h1.r8,h1.lcls,h1.lrul,h1.lt⟩,by rw [(qi hq).2]⟩
   ·cases h
theorem PlanOk.cfg {p:PlanI} (h:PlanOk p):CfgOk (fE p):=⟨h.six,by have:=h.c8;simp only [fE];omega,by have:=h.r8;simp only [fE];omega,h.lcls,h.lrul⟩
theorem K0 (κ υ:Nat) {p:PlanI} (h:p.tens.length=6):∃ l,(pB κ υ p).take 33=l∧l.length=33∧wkL l (aR (fE p)):=by
 refine ⟨_,rfl,by rw [List.length_take,gL κ υ h];decide,?_⟩
 have hl:(p.tens.flatMap b7).length=30:=by rw [bl,h]
 have e:(pB κ υ p).take 33= .tsl κ p.cls.length (p.cls.flatMap bE)::(p.tens.flatMap b7++ [.tsl υ p.ruls.length (p.ruls.flatMap cg), .int .u64 p.hor]):=by
  rw [pB,List.take_succ_cons,List.take_append,hl,List.take_of_length_le P6];rfl
 rw [e,aR]
 refine wkL.cons (cw _ _ _) ?_
 refine na (ad _) ?_
 exact wkL.cons (cw _ _ _) (ad _)
end Go.Proofs.YtgephffbfiemeaaGreatDoor
