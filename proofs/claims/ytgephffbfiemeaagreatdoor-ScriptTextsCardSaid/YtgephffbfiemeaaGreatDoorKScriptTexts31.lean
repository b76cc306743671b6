/- Part 31 of the proof of ScriptTexts: an abstract semantics that is proved sound for the model, contracts of functions in it, and plain facts (X1 X2 X3 X4 X13 X14 X15 X5 X6 X7a X7 X8 X9 X16 X18 X19 X20 X21). No condition. -/
import Derived.Test.YtgephffbfiemeaaGreatDoorKScriptTexts30
import Derived.Defers
import Derived.Recover
import Derived.LoopTactic
import Derived.BigCall
set_option linter.all false
namespace Go.Proofs.YtgephffbfiemeaaGreatDoor
open Go.Abs Go.Lib
set_option linter.all false
set_option maxRecDepth 100000
abbrev TS:Nat:=137
def ox (e a:Int):Except Ft Unit:=if e=0 then .ok () else .error (e,a)
theorem w44 (e a:Int) (w:World) :
  Calls Tryz.prog 44 #[.int .i64 e, .int .i64 a] w fun r w'=>w'=w∧((e=0∧r= .returned (.tuple #[]))∨(e≠0∧r= .panicked [{ v:= .iface TS (.agg #[.int .i64 e, .int .i64 a]),recovered:=false }])):=by
 go_enter Tryz.func44,Tryz.ntmps44
 go_wp2
 ·exact ⟨rfl,rfl, .inr ⟨by simpa using ‹(e != 0)=true›,rfl⟩⟩
 ·simp [bodyPost,results,Tryz.results44]
  simpa using ‹(e != 0)=false›
theorem x44 (e a:Int) (σ σ0:St) (hl:St.lw σ0 σ):AX Tryz.prog 44 [.int .i64 e, .int .i64 a] σ (oX TS (ox e a) (fun _=> .tup []) (fun _=>σ) σ0):=by
 intro g w vs hI hv
 refine .inl ⟨Go.Proofs.enters_of Tryz.func44 (by kernel_rfl) rfl _ _,?_⟩
 obtain ⟨v1,vs,rfl,r1,hv⟩:=hv.cons_inv
 obtain ⟨v2,vs,rfl,r2,hv⟩:=hv.cons_inv
 rw [hv.bO,r1.bc,r2.bc]
 refine (w44 e a w).mono ?_
 rintro r w' ⟨rfl,⟨h,rfl⟩|⟨h,rfl⟩⟩
 ·exact ⟨_, .tup [],σ,g, .inl ⟨rfl,(),by simp [ox,h],rfl,rfl⟩,hI, .refl g _, .dz .nil⟩
 ·exact ⟨_,ky TS (e,a),σ0,g, .inr ⟨rfl,(e,a),by simp [ox,h],rfl,rfl⟩,hI.lw hl, .refl g _, .ifc _ _ _ (.fW ⟨.cons (.int _ _) (.cons (.int _ _) .nil),by simp [Value.oneCell']⟩)⟩
theorem pE {g:Gh} {σ:St} {w:World} {fr:Fr} {a:Act} {N id:Nat} {ops:Array Oper} {l:List CI} {K:Fr→St→Prop} {Q:Exit→Act→World→Prop} (hl:cL Tryz.prog N ops ops.toList l=true) (hS:Sim g σ w fr a N) (h:cI Tryz.prog l fr σ K)
  (hQ:∀ fr' σ' g' w' a',K fr' σ'→Sim g' σ' w' fr' a' N→Ext g w g' w'→a'.defers=a.defers→Q .normal a' w'):(Code.region id ops false).wp Tryz.prog Q a w :=
 (wpIn_wide (n:=0)).1 (wpIn_region_list (gq ops (rn:=none) ops.toList l g σ w fr a K hl hS h hQ))
theorem rU {g:Gh} {σ:St} {w:World} {fr:Fr} {a:Act} {N t:Nat} {b:Bool} (hS:Sim g σ w fr a N) (h:slot t fr= .bool b):a.eval (.tmp t)= .bool b:=by
 have:=hS.rel t
 rw [h] at this
 exact this.db
def z2:List AV:= [.int .i64 0, .int .i64 0]
theorem H7 {g:Gh} {σ:St} {w:World} {β b:Nat} (hI:Inv g σ w) (hβ:σ.box β=some z2) (hg:g.box β=some b) (e a:Int) :
    CallsD Tryz.prog 86 #[.pointer (some ⟨b,0,none⟩)] (.panicking [{ v:= .iface TS (.agg #[.int .i64 e, .int .i64 a]),recovered:=false }]) w fun r u' w' =>
      r= .returned (.tuple #[])∧u'= .panicking [{ v:= .iface TS (.agg #[.int .i64 e, .int .i64 a]),recovered:=true }]∧∃ g',Inv g' (σ.ad β [.int .i64 e, .int .i64 a]) w'∧Ext g w g' w':=by
  refine callsD_of_wpS Tryz.func86 rfl fun c₀ cs hu=>?_
  apply wpS_seq
  apply wpS_region
  simp [wpOpsS,go_sem,recoverD,hu,Tryz.ntmps86,Exit.thenS]
  refine wpS_of_wp ?_
  have hS:Sim g σ w [(0, .ptr β 0),(1, .ifc TS (.agg [.int .i64 e, .int .i64 a]))] { tmps:= #[Value.pointer (some { block:=b,off:=0 })]++((Array.replicate 16 undef).setIfInBounds 3 (Value.iface TS (Value.agg #[Value.int IntKind.i64 e,Value.int IntKind.i64 a]))).setIfInBounds 0 (Value.iface TS (Value.agg #[Value.int IntKind.i64 e,Value.int IntKind.i64 a])),defers:= [] } 17:=by
    refine ⟨hI,fun t=>?_,by simp, .nil⟩
    rw [Array.getD_eq_getD_getElem?]
    cases t with
    | zero=>simp only [slot,if_true];rw [Array.getElem?_append_left (by simp)];exact .ptr _ _ _ hg
    | succ t =>
      rw [Array.getElem?_append_right (by simp)]
      cases t with
      | zero =>
        simp only [slot]
        rw [Array.getElem?_setIfInBounds]
        simp
        exact .ifc _ _ _ (.fW ⟨.cons (.int _ _) (.cons (.int _ _) .nil),by simp [Value.oneCell']⟩)
      | succ t=>simp only [slot];rw [if_neg (by omega),if_neg (by omega)];exact .junk _
  refine wp_seq (pE (l:= [⟨some 5, .mv (.t 1),none⟩,⟨some 6, .isnil 3 true (.t 5),none⟩]) (K:=fun f s=>slot 0 f= .ptr β 0∧slot 1 f= .ifc TS (.agg [.int .i64 e, .int .i64 a])∧slot 6 f= .bool true∧s=σ) (by kernel_rfl) hS ?_ ?_)
  · simp only [↓R1,RR,seval]
    intro b hb
    subst hb
    rfl
  rintro f1 s1 g1 w1 a1 ⟨h0,h1,h6,hs⟩ hS1 hE1 hd1
  rw [hs] at hS1
  simp only [Exit.then]
  refine wp_cond_true (rU hS1 h6) ?_
  refine wp_seq (pE (l:= [⟨some 8, .mv (.t 1),none⟩,⟨some 9, .asT [137] [] false (.agg [.int .i64 0, .int .i64 0]) (.t 8),none⟩,⟨some 7, .mv (.t 9),none⟩,⟨some 10, .ext (.t 7) 0,none⟩,⟨some 11, .ext (.t 7) 1,none⟩,⟨some 2, .alloc [.int .i64 0, .int .i64 0],none⟩,⟨none, .st 2 (.t 2) (.t 10),none⟩,⟨some 3, .mv (.t 11),none⟩])
    (K:=fun f s=>∃ γ,σ.box γ=none∧slot 0 f= .ptr β 0∧slot 2 f= .ptr γ 0∧slot 3 f= .bool true∧s=σ.ad γ [.int .i64 e, .int .i64 a]) (by kernel_rfl) hS1 ?_ ?_)
  · simp only [h0,h1,↓R1,RR,seval]
    rw [ah]
    intro γ hγ
    simp only [h0,↓R1,RR,seval]
    exact ⟨γ,hγ,by simp⟩
  rintro f2 s2 g2 w2 a2 ⟨γ,hγ,h0,h2,h3,hs2⟩ hS2 hE2 hd2
  rw [hs2] at hS2
  have hne:β≠γ:=fun e=>by rw [e,hγ] at hβ;cases hβ
  simp only [Exit.then]
  refine wp_seq (wp_seq (pE (l:= [⟨some 12, .mv (.t 3),none⟩,⟨some 13, .un .not (.t 12),none⟩]) (K:=fun f s=>slot 0 f= .ptr β 0∧slot 2 f= .ptr γ 0∧slot 13 f= .bool false∧s=σ.ad γ [.int .i64 e, .int .i64 a]) (by kernel_rfl) hS2 ?_ ?_))
  · simp only [h0,h2,h3,↓R1,RR,seval]
  rintro f3 s3 g3 w3 a3 ⟨h0,h2,h13,hs3⟩ hS3 hE3 hd3
  rw [hs3] at hS3
  simp only [Exit.then]
  refine wp_cond_false (rU hS3 h13) (wp_skip ?_)
  simp only [Exit.then]
  refine pE (l:= [⟨some 15, .fldA 0 (.t 2),none⟩,⟨some 16, .ld (some 2) (.t 15),none⟩,⟨none, .st 2 (.t 0) (.t 16),none⟩]) (K:=fun _ s=>s=(σ.ad γ [.int .i64 e, .int .i64 a]).ad β [.int .i64 e, .int .i64 a]) (by kernel_rfl) hS3 ?_ ?_
  · have hb2:(σ.ad γ [.int .i64 e, .int .i64 a]).box β=some z2:=by simp [St.ad,upd,hne,hβ]
    simp only [h0,h2,↓R1,RR,seval]
    rw [hb2]
    simp only [z2,↓R1,RR,seval]
  rintro f4 s4 g4 w4 a4 hs4 hS4 hE4 hd4
  rw [hs4] at hS4
  refine ⟨by rw [hd4,hd3,hd2,hd1],_,rfl, .tuple #[],by simp [results,Tryz.results86],rfl,rfl,g4,hS4.inv.le ?_,hE1.trans (hE2.trans (hE3.trans hE4))⟩
  rw [St.set_comm _ hne.symm]
  exact St.aM (St.le_refl _) (by simp [St.ad,upd,hne.symm,hγ])
theorem H8 (b:Nat) (w:World) :
  CallsD Tryz.prog 86 #[.pointer (some ⟨b,0,none⟩)] .returning w fun e u' w'=>e= .returned (.tuple #[])∧u'= .returning∧w'=w:=by
 refine callsD_of_wpS Tryz.func86 rfl fun c₀ cs hu=>?_
 apply wpS_seq
 apply wpS_region
 simp [wpOpsS,go_sem,recoverD,hu,Tryz.ntmps86,Exit.thenS]
 apply wpS_seq
 apply wpS_region
 simp [wpOpsS,go_sem,Exit.thenS]
 refine wpS_cond (t:=false) (by simp [Act.eval,Array.replicate]) ?_
 simp only [Bool.false_eq_true,if_false]
 refine wpS_of_wp (wp_skip ?_)
 cases c₀
 simp_all [bodyPostS,results,Tryz.results86]
theorem BP {g:Gh} {w:World} {a b:Int} {us:List Value} (h:RelC g w [.int .i64 a, .int .i64 b] us):us= [.int .i64 a, .int .i64 b]:=by
 obtain ⟨v1,vs,rfl,r1,h2⟩:=h.1.cons_inv
 obtain ⟨v2,vs,rfl,r2,h3⟩:=h2.cons_inv
 rw [h3.bO,r1.bc,r2.bc]
theorem jM {w:World} {b o:Nat} {vs:Array Value} {T:TypeId} {q:Nat × Nat} {v:Value} (hb:w.heap[b]? =some (.cells vs T q)) (hv:vs[o]? =some v):w.setCell ⟨b,o,none⟩ v=w:=by
 have hlt:=(Array.getElem?_eq_some_iff.1 hb).1
 have hbe:=(Array.getElem?_eq_some_iff.1 hb).2
 have hm:∀ f:Obj→Obj,f (.cells vs T q)= .cells vs T q→w.heap.modify b f=w.heap:=by
  intro f hf
  apply Array.ext_getElem?
  intro i
  rw [Array.getElem?_modify]
  split
  ·rename_i e;subst e;rw [hb,Option.map_some,hf]
  ·rfl
 simp only [World.setCell]
 rw [hm]
 obtain ⟨h1,h2⟩:=Array.getElem?_eq_some_iff.1 hv
 simp only [Option.isSome_none,Bool.false_eq_true,if_false,Obj.cells.injEq,and_true]
 apply Array.ext_getElem?
 intro i
 rw [Array.getElem?_setIfInBounds]
 split
 ·rename_i e;subst e;rw [hv]
 ·rfl
def pF (f:Ft):AV:= .agg [.int .i64 f.1, .int .i64 f.2]
theorem a40 {α:Type} {fc:Nat} {cap:List AV} {σ:St} {o:Except Ft α} {s1:α→St} {s0:St} (hent:∀ xs w,(callFunc fc xs).run Tryz.prog w= .ok (.enter fc xs) w)
  (h:∀ β,σ.box β=none→AX Tryz.prog fc cap (σ.ad β z2) (oX TS o (fun _=> .tup []) (fun a=>(s1 a).ad β z2) (s0.ad β z2)))
  (h1:∀ β a,σ.box β=none→(s1 a).box β=none) (h0:∀ β,σ.box β=none→s0.box β=none) :
  AC Tryz.prog 40 [.fn fc cap] σ (fun r s=>(∃ a,o= .ok a∧r=pF (0,0)∧s=s1 a)∨∃ f,o= .error f∧r=pF f∧s=s0):=by
 intro g w vs hI hv
 refine .inl ⟨Go.Proofs.enters_of Tryz.func40 (by kernel_rfl) rfl _ _,?_⟩
 obtain ⟨v1,vs2,rfl,r1,hv2⟩:=hv.cons_inv
 have hvn:=hv2.bO
 subst hvn
 obtain ⟨us,rfl,hu⟩:=r1.lK
 have hnb:=dO hI
 have hI1:=hI.bf (cs:=z2) (vs:= #[.int .i64 0, .int .i64 0]) (T:=26) ⟨.cons (.int _ _) (.cons (.int _ _) .nil),by simp [Value.oneCell']⟩
 have hE1:=Ext.bf hI (.cells #[.int .i64 0, .int .i64 0] 26)
 have hbox:(g.bf w).box g.nb=some w.heap.size:=by simp [Gh.bf]
 have hmf:∀ (fn:Fn) (first cap:Array Value) (w:World),(Instr.makeFunc fn first cap).run Tryz.prog w= .ok (.func fn first cap) w:=fun _ _ _ _=>rfl
 have hent1:=hent us.toArray (w.alloc (.cells #[.int .i64 0, .int .i64 0] 26))
 have hc:Calls Tryz.prog fc us.toArray (w.alloc (.cells #[.int .i64 0, .int .i64 0] 26)) (CPX (g.bf w) (w.alloc (.cells #[.int .i64 0, .int .i64 0] 26)) (oX TS o (fun _=> .tup []) (fun a=>(s1 a).ad g.nb z2) (s0.ad g.nb z2))):=by
  rcases h g.nb hnb (g.bf w) _ us hI1 (hu.mono hE1) with ⟨_,h2⟩|⟨v,w',h2,_⟩
  ·exact h2
  ·rw [hent] at h2;cases h2
 go_enter_defers Tryz.func40,Tryz.ntmps40
 go_wp2
 refine hc.mono ?_
 rintro e w' ⟨v,r,σ',g',(⟨rfl,a,ho,rfl,rfl⟩|⟨rfl,f,ho,rfl,rfl⟩),hI',hE',hr⟩
 ·have hbx:(St.ad (s1 a) g.nb z2).box g.nb=some z2:=St.bL _ _ _
  obtain ⟨b,vs,T,k1,k2,k3⟩:=hI'.box _ _ hbx
  rw [hE'.box _ _ hbox] at k1
  cases k1
  have hvs:vs= #[.int .i64 0, .int .i64 0]:=by rw [←Array.toList_inj];exact BP k3
  subst hvs
  have hc0:w'.cell? ⟨w.heap.size,0,none⟩=some (.int .i64 0):=by simp [World.cell?,k2]
  have hc1:w'.cell? ⟨w.heap.size,1,none⟩=some (.int .i64 0):=by simp [World.cell?,k2]
  have hf0:w'.frozen? ⟨w.heap.size,0,none⟩=false:=by simp [World.frozen?,k2]
  have hs0:w'.setCell ⟨w.heap.size,0,none⟩ (.int .i64 0)=w':=jM k2 (by simp)
  have hs1:w'.setCell ⟨w.heap.size,1,none⟩ (.int .i64 0)=w':=jM k2 (by simp)
  have hf1:w'.frozen? ⟨w.heap.size,1,none⟩=false:=by simp [World.frozen?,k2]
  simp only
  rename_i hk1 _ hk2
  refine hk2 _ _ ?_
  unfold wpList
  simp only [Exit.then]
  refine hk1 _ _ ?_
  go_wp2
  show Leaves _ _ _ _ _ _ _
  refine leaves_cons (f:=86) (args:= #[.pointer (some ⟨w.heap.size,0,none⟩)]) (by simp) (by simp [go_sem]) ?_
  refine (H8 _ _).mono ?_
  rintro e u' w'' ⟨rfl,rfl,rfl⟩
  simp [Leaves,settle,results,Tryz.results40,go_sem,hc0,hc1]
  exact ⟨_,pF (0,0),s1 a,g',rfl,(by first|exact .inl ⟨a,ho,rfl,rfl⟩|exact ⟨rfl,rfl⟩|simp [ho]),hI'.le (St.aM (St.le_refl _) (h1 _ a hnb)),hE1.trans hE', .fW ⟨.cons (.int _ _) (.cons (.int _ _) .nil),by simp [Value.oneCell']⟩⟩
 ·obtain ⟨u,rfl,hu2⟩:=hr.oF
  obtain ⟨us2,rfl,hu3⟩:=hu2.eY
  have hus:=BP hu3
  subst hus
  have hbx:(St.ad s0 g.nb z2).box g.nb=some z2:=St.bL _ _ _
  show Leaves _ _ _ _ _ _ _
  refine leaves_cons (f:=86) (args:= #[.pointer (some ⟨w.heap.size,0,none⟩)]) (by simp) (by simp [go_sem]) ?_
  refine (H7 hI' hbx (hE'.box _ _ hbox) f.1 f.2).mono ?_
  rintro e u' w'' ⟨rfl,rfl,g2,hI2,hE2⟩
  rw [St.set_set] at hI2
  have hbx2:(St.ad s0 g.nb [.int .i64 f.1, .int .i64 f.2]).box g.nb=some [.int .i64 f.1, .int .i64 f.2]:=St.bL _ _ _
  obtain ⟨b,vs,T,k1,k2,k3⟩:=hI2.box _ _ hbx2
  rw [hE2.box _ _ (hE'.box _ _ hbox)] at k1
  cases k1
  have hvs:vs= #[.int .i64 f.1, .int .i64 f.2]:=by rw [←Array.toList_inj];exact BP k3
  subst hvs
  have hc0:w''.cell? ⟨w.heap.size,0,none⟩=some (.int .i64 f.1):=by simp [World.cell?,k2]
  have hc1:w''.cell? ⟨w.heap.size,1,none⟩=some (.int .i64 f.2):=by simp [World.cell?,k2]
  simp [Leaves,settle,results,Tryz.results40,go_sem,hc0,hc1]
  exact ⟨_,pF f,s0,g2,rfl, .inr ⟨f.1,f.2,ho,rfl,rfl⟩,hI2.le (St.aM (St.le_refl _) (h0 _ hnb)),hE1.trans (hE'.trans hE2), .fW ⟨.cons (.int _ _) (.cons (.int _ _) .nil),by simp [Value.oneCell']⟩⟩
def cur (r:Rw) (k:Nat):List AV:= [.int .i64 (r.a:Nat), .sl false r.ws.length (r.ws.flatMap cWd), .int .i64 (k:Nat)]
theorem va (l:List Wd):(l.flatMap cWd).length=l.length*3:=by
 induction l with
 | nil=>rfl
 | cons w l ih=>simp only [List.flatMap_cons,List.length_append,List.length_cons,ih];simp only [cWd,List.length_cons,List.length_nil];omega
theorem BQ {l:List Wd} {k:Nat} {w:Wd} (h:l[k]? =some w):((l.flatMap cWd).drop (k*3)).take 3=cWd w:=by
  induction l generalizing k with
  | nil=>simp at h
  | cons x l ih =>
    cases k with
    | zero=>simp at h;subst h;simp [cWd]
    | succ k =>
      simp only [List.getElem?_cons_succ] at h
      have:=ih h
      rw [List.flatMap_cons,show (k+1)*3=(cWd x).length+k*3 by simp [cWd];omega,List.drop_append,List.drop_eq_nil_of_le (by omega),List.nil_append,Nat.add_sub_cancel_left]
      exact this
set_option maxHeartbeats 2000000 in
theorem a182 {σ:St} {β k:Nat} {rw_:Rw} {w:Wd} (hb:σ.box β=some (cur rw_ k)) (hw:rw_.ws[k]? =some w) (hl:rw_.ws.length≤20000):AC Tryz.prog 182 [.ptr β 0] σ (fun r s=>r= .agg (cWd w)∧s=σ.ad β (cur rw_ (k+1))):=by
 have hlt:=(List.getElem?_eq_some_iff.1 hw).1
 haveI:BoxIs σ β [.int .i64 (rw_.a:Nat), .sl false rw_.ws.length (rw_.ws.flatMap cWd), .int .i64 (k:Nat)]:=⟨hb⟩
 have he1:IntKind.i64.wrap ((k:Int)+1)=((k+1:Nat):Int):=by rw [wrap64 (by omega) (by omega)];omega
 have he2:IntKind.i64.wrap (((k+1:Nat):Int) - 1)=(k:Nat):=by rw [wrap64 (by omega) (by omega)];omega
 have he3:=BQ hw
 have hln:=va rw_.ws
 have hc3:(cWd w).length=3:=rfl
 have hc4:(cWd w).take 3=cWd w:=rfl
 (refine AG Hx LC ?_;simp only [Hx,↓R1,RR,seval,he1,he2,he3,cur,hc3,hc4])
 repeat' (first|(with_reducible rw [ah])|(with_reducible refine And.intro ?_ ?_;exact aq)|((with_reducible intro β hβ;(try simp only [RB] at hβ);(repeat (obtain ⟨⟨_,_⟩,hβ⟩:=hβ));(try (have hbis:=ag (by assumption) hβ;obtain ⟨_,_⟩:=hbis)))<;>(try simp only [↓R1,RR,seval,he1,he2,he3,cur,hc3,hc4])))
 all_goals (try omega)
 all_goals (try (simp only [hc4];omega))
 all_goals (try (simp [hc3];done))
 (refine Kj ?_ ?_ (by first|(simp [aj,rvS];done)|(simp only [aj,rvS,↓R1,RR,seval,he1,he2,he3,cur,hc3,hc4];try simp)))
 ·simp only [ao,↓R1,RR,seval,he1,he2,he3,cur,hc3,hc4]
  simp only [cWd]
  exact ae _
 ·(repeat' (first|exact St.aI _|(refine St.lw_setT ?_)|(refine St.uN ?_ (by first|assumption|(simp only [St.bx,St.iY];assumption)))|(refine St.Aq ?_ ?_)|(refine St.j5 ?_ (by first|assumption|(simp only [St.dM,St.bz];assumption)))|exact wkL.nil|exact aa _|(refine wkL.cons ?_ ?_)|exact ae _|exact c7|exact cd _ _ _|exact bw _ _))
def fl {α:Type} (w:Wd) (x:α) (e:Int):Except Ft α:=if w.q=true then .error (3,w.a) else if e=0 then .ok x else .error (e,w.a)
theorem lG {α:Type} {w:Wd} {x:α} {e:Int} (h:w.q=true):fl w x e= .error (3,(w.a:Int)):=by simp [fl,h]
theorem lH {α:Type} {w:Wd} {x:α} {e:Int} (h:w.q=false) (he:e≠0):fl w x e= .error (e,(w.a:Int)):=by simp [fl,h,he]
theorem jN {α:Type} {w:Wd} {x:α} {e:Int} (h:w.q=false) (he:e=0):fl w x e= .ok x:=by simp [fl,h,he]
theorem pG {σ0 σ:St} {β:Nat} (h:St.lw σ0 σ) (hn:σ.box β=none):σ0.box β=none:=by
 cases hb:σ0.box β with
 | none=>rfl
 | some c=>obtain ⟨c',h1,_⟩:=h.1 β c hb;rw [hn] at h1;cases h1
theorem BR {σ0 σ:St} {τ:Nat} (h:St.lw σ0 σ) (hn:σ.tip τ=none):σ0.tip τ=none:=by
 cases hb:σ0.tip τ with
 | none=>rfl
 | some c=>rw [h.2.1 τ c hb] at hn;cases hn
theorem bo {p:Prop} (h:p:=by repeat' (first|assumption|exact St.aI _|(refine St.lw_setT ?_)|(refine St.uN ?_ (by first|assumption|exact BR (by assumption) (by assumption)|(simp only [St.bx,St.iY];assumption)))|(refine St.Aq ?_ ?_)|(refine St.j5 ?_ (by first|assumption|exact pG (by assumption) (by assumption)|(simp only [St.dM,St.bz];assumption)))|exact wkL.nil|exact aa _|(refine wkL.cons ?_ ?_)|exact ae _|exact c7|exact cd _ _ _|exact bw _ _)):p:=h
theorem cr {σ0 s:St} {e a:Int} {d:Option Nat} {l:List XI} {fr:Fr} {Q:Exit→Fr→St→Prop} {h:Hold (s,l,fr,Q)} (he:e≠0) (hl:St.lw σ0 s) (hq:Q (.panic []) [(0,ky TS (e,a))] σ0):qL Tryz.prog 44 [.int .i64 e, .int .i64 a] s d l fr Q h :=
 bu (x44 e a s σ0 hl) (aa _) (fun _ ho=>by rw [ox,if_neg he] at ho;cases ho) (fun f ho=>by rw [ox,if_neg he] at ho;cases ho;exact hq)
theorem fm {s:St} {e a:Int} {d:Option Nat} {l:List XI} {fr:Fr} {Q:Exit→Fr→St→Prop} {h:Hold (s,l,fr,Q)} (he:e=0) (hq:cM Tryz.prog l (putF d (.tup []) fr) s Q):qL Tryz.prog 44 [.int .i64 e, .int .i64 a] s d l fr Q h :=
 bu (x44 e a s s (St.aI _)) (aa _) (fun _ ho=>hq) (fun f ho=>by rw [ox,if_pos he] at ho;cases ho)
set_option maxHeartbeats 2000000 in
theorem MC {f:Nat} {cap:List AV} {σ σ0:St} {β k:Nat} {rw_:Rw} {w:Wd} {x:Int} {e:Int} (hb:σ.box β=some (cur rw_ k)) (hw:rw_.ws[k]? =some w) (hl:rw_.ws.length≤20000) (h0:σ0.box β=none) (hlw:St.lw σ0 σ)
    (hr:∀ s:St,s.glob=σ.glob→AC Tryz.prog f (.agg (cWd w)::cap) s (fun r s'=>r= .tup [.int .u64 x, .int .i64 e]∧s'=s)) :
    AX Tryz.prog 202 [.ptr β 0, .fn f cap] σ (oX TS (fl w x e) (fun v=> .int .u64 v) (fun _=>σ.ad β (cur rw_ (k+1))) σ0):=by
  have hlt:=(List.getElem?_eq_some_iff.1 hw).1
  haveI:BoxIs σ β (cur rw_ k):=⟨hb⟩
  have hr':∀ s:St,s.glob=σ.glob→AC Tryz.prog f (.agg [.bool w.q, .str w.t, .int .i64 (w.a:Nat)]::cap) s (fun r s'=>r= .tup [.int .u64 x, .int .i64 e]∧s'=s):=hr
  cases hq:w.q with
  | true =>
    have ho:=lG (x:=x) (e:=e) hq
    (refine aN tz Hy ?_;simp only [tz,↓R1,RR,seval,hq,cWd,RX])
    repeat' (first|(with_reducible rw [ah])|((first|(with_reducible intro β hβ;(try simp only [RB] at hβ);(repeat (obtain ⟨⟨_,_⟩,hβ⟩:=hβ));(try (have hbis:=ag (by assumption) hβ;obtain ⟨_,_⟩:=hbis)))|((refine AC.mono (AC.wk (a182 (k:=k) (rw_:=rw_) (w:=w) (by simp only [↓R1,RR,seval,hq,cWd,RX]) hw hl) (aa _)) ?_;(rintro _ _ ⟨rfl,rfl⟩)))|((refine cr (σ0:=σ0) (by decide) (by exact bo) ?_)))<;>(try simp only [↓R1,RR,seval,hq,cWd,RX])))
    exact aO ho (St.aI _)
  | false =>
    rw [hq] at hr'
    by_cases he:e=0
    · have ho:=jN (x:=x) hq he
      (refine aN tz Hy ?_;simp only [tz,↓R1,RR,seval,hq,cWd,RX])
      repeat' (first|(with_reducible rw [ah])|((first|(with_reducible intro β hβ;(try simp only [RB] at hβ);(repeat (obtain ⟨⟨_,_⟩,hβ⟩:=hβ));(try (have hbis:=ag (by assumption) hβ;obtain ⟨_,_⟩:=hbis)))|((refine AC.mono (AC.wk (a182 (k:=k) (rw_:=rw_) (w:=w) (by simp only [↓R1,RR,seval,hq,cWd,RX]) hw hl) (aa _)) ?_;(rintro _ _ ⟨rfl,rfl⟩)))|((refine AC.mono (AC.wk (hr' _ rfl) (aa _)) ?_;(rintro _ _ ⟨rfl,rfl⟩)))|((refine fm he ?_)))<;>(try simp only [↓R1,RR,seval,hq,cWd,RX])))
      (refine cJ (by assumption) ?_ ?_ (by first|(simp [aj,rvS];done)|(simp only [aj,rvS,↓R1,RR,seval,hq,cWd,RX];try simp)))
      · simp only [ao,↓R1,RR,seval,hq,cWd,RX]
        exact ae _
      · exact bo
    · have ho:=lH (x:=x) hq he
      (refine aN tz Hy ?_;simp only [tz,↓R1,RR,seval,hq,cWd,RX])
      repeat' (first|(with_reducible rw [ah])|((first|(with_reducible intro β hβ;(try simp only [RB] at hβ);(repeat (obtain ⟨⟨_,_⟩,hβ⟩:=hβ));(try (have hbis:=ag (by assumption) hβ;obtain ⟨_,_⟩:=hbis)))|((refine AC.mono (AC.wk (a182 (k:=k) (rw_:=rw_) (w:=w) (by simp only [↓R1,RR,seval,hq,cWd,RX]) hw hl) (aa _)) ?_;(rintro _ _ ⟨rfl,rfl⟩)))|((refine AC.mono (AC.wk (hr' _ rfl) (aa _)) ?_;(rintro _ _ ⟨rfl,rfl⟩)))|((refine cr (σ0:=σ0) he (by exact bo) ?_)))<;>(try simp only [↓R1,RR,seval,hq,cWd,RX])))
      exact aO ho (St.aI _)
set_option maxHeartbeats 2000000 in
theorem MD {f:Nat} {cap:List AV} {σ σ0:St} {β k:Nat} {rw_:Rw} {w:Wd} {x:Int} {e:Int} (hb:σ.box β=some (cur rw_ k)) (hw:rw_.ws[k]? =some w) (hl:rw_.ws.length≤20000) (h0:σ0.box β=none) (hlw:St.lw σ0 σ)
    (hr:∀ s:St,s.glob=σ.glob→AC Tryz.prog f (.agg (cWd w)::cap) s (fun r s'=>r= .tup [.int .i64 x, .int .i64 e]∧s'=s)) :
    AX Tryz.prog 205 [.ptr β 0, .fn f cap] σ (oX TS (fl w x e) (fun v=> .int .i64 v) (fun _=>σ.ad β (cur rw_ (k+1))) σ0):=by
  have hlt:=(List.getElem?_eq_some_iff.1 hw).1
  haveI:BoxIs σ β (cur rw_ k):=⟨hb⟩
  have hr':∀ s:St,s.glob=σ.glob→AC Tryz.prog f (.agg [.bool w.q, .str w.t, .int .i64 (w.a:Nat)]::cap) s (fun r s'=>r= .tup [.int .i64 x, .int .i64 e]∧s'=s):=hr
  cases hq:w.q with
  | true =>
    have ho:=lG (x:=x) (e:=e) hq
    (refine aN tA HA ?_;simp only [tA,↓R1,RR,seval,hq,cWd,RX])
    repeat' (first|(with_reducible rw [ah])|((first|(with_reducible intro β hβ;(try simp only [RB] at hβ);(repeat (obtain ⟨⟨_,_⟩,hβ⟩:=hβ));(try (have hbis:=ag (by assumption) hβ;obtain ⟨_,_⟩:=hbis)))|((refine AC.mono (AC.wk (a182 (k:=k) (rw_:=rw_) (w:=w) (by simp only [↓R1,RR,seval,hq,cWd,RX]) hw hl) (aa _)) ?_;(rintro _ _ ⟨rfl,rfl⟩)))|((refine cr (σ0:=σ0) (by decide) (by exact bo) ?_)))<;>(try simp only [↓R1,RR,seval,hq,cWd,RX])))
    exact aO ho (St.aI _)
  | false =>
    rw [hq] at hr'
    by_cases he:e=0
    · have ho:=jN (x:=x) hq he
      (refine aN tA HA ?_;simp only [tA,↓R1,RR,seval,hq,cWd,RX])
      repeat' (first|(with_reducible rw [ah])|((first|(with_reducible intro β hβ;(try simp only [RB] at hβ);(repeat (obtain ⟨⟨_,_⟩,hβ⟩:=hβ));(try (have hbis:=ag (by assumption) hβ;obtain ⟨_,_⟩:=hbis)))|((refine AC.mono (AC.wk (a182 (k:=k) (rw_:=rw_) (w:=w) (by simp only [↓R1,RR,seval,hq,cWd,RX]) hw hl) (aa _)) ?_;(rintro _ _ ⟨rfl,rfl⟩)))|((refine AC.mono (AC.wk (hr' _ rfl) (aa _)) ?_;(rintro _ _ ⟨rfl,rfl⟩)))|((refine fm he ?_)))<;>(try simp only [↓R1,RR,seval,hq,cWd,RX])))
      (refine cJ (by assumption) ?_ ?_ (by first|(simp [aj,rvS];done)|(simp only [aj,rvS,↓R1,RR,seval,hq,cWd,RX];try simp)))
      · simp only [ao,↓R1,RR,seval,hq,cWd,RX]
        exact ae _
      · exact bo
    · have ho:=lH (x:=x) hq he
      (refine aN tA HA ?_;simp only [tA,↓R1,RR,seval,hq,cWd,RX])
      repeat' (first|(with_reducible rw [ah])|((first|(with_reducible intro β hβ;(try simp only [RB] at hβ);(repeat (obtain ⟨⟨_,_⟩,hβ⟩:=hβ));(try (have hbis:=ag (by assumption) hβ;obtain ⟨_,_⟩:=hbis)))|((refine AC.mono (AC.wk (a182 (k:=k) (rw_:=rw_) (w:=w) (by simp only [↓R1,RR,seval,hq,cWd,RX]) hw hl) (aa _)) ?_;(rintro _ _ ⟨rfl,rfl⟩)))|((refine AC.mono (AC.wk (hr' _ rfl) (aa _)) ?_;(rintro _ _ ⟨rfl,rfl⟩)))|((refine cr (σ0:=σ0) he (by exact bo) ?_)))<;>(try simp only [↓R1,RR,seval,hq,cWd,RX])))
      exact aO ho (St.aI _)
set_option maxHeartbeats 2000000 in
theorem ME {f:Nat} {cap:List AV} {σ σ0:St} {β k:Nat} {rw_:Rw} {w:Wd} {x:Int} {e:Int} (hb:σ.box β=some (cur rw_ k)) (hw:rw_.ws[k]? =some w) (hl:rw_.ws.length≤20000) (h0:σ0.box β=none) (hlw:St.lw σ0 σ)
    (hr:∀ s:St,s.glob=σ.glob→AC Tryz.prog f (.agg (cWd w)::cap) s (fun r s'=>r= .tup [.int .i64 x, .int .i64 e]∧s'=s)) :
    AX Tryz.prog 207 [.ptr β 0, .fn f cap] σ (oX TS (fl w x e) (fun v=> .int .i64 v) (fun _=>σ.ad β (cur rw_ (k+1))) σ0):=by
  have hlt:=(List.getElem?_eq_some_iff.1 hw).1
  haveI:BoxIs σ β (cur rw_ k):=⟨hb⟩
  have hr':∀ s:St,s.glob=σ.glob→AC Tryz.prog f (.agg [.bool w.q, .str w.t, .int .i64 (w.a:Nat)]::cap) s (fun r s'=>r= .tup [.int .i64 x, .int .i64 e]∧s'=s):=hr
  cases hq:w.q with
  | true =>
    have ho:=lG (x:=x) (e:=e) hq
    (refine aN tB HB ?_;simp only [tB,↓R1,RR,seval,hq,cWd,RX])
    repeat' (first|(with_reducible rw [ah])|((first|(with_reducible intro β hβ;(try simp only [RB] at hβ);(repeat (obtain ⟨⟨_,_⟩,hβ⟩:=hβ));(try (have hbis:=ag (by assumption) hβ;obtain ⟨_,_⟩:=hbis)))|((refine AC.mono (AC.wk (a182 (k:=k) (rw_:=rw_) (w:=w) (by simp only [↓R1,RR,seval,hq,cWd,RX]) hw hl) (aa _)) ?_;(rintro _ _ ⟨rfl,rfl⟩)))|((refine cr (σ0:=σ0) (by decide) (by exact bo) ?_)))<;>(try simp only [↓R1,RR,seval,hq,cWd,RX])))
    exact aO ho (St.aI _)
  | false =>
    rw [hq] at hr'
    by_cases he:e=0
    · have ho:=jN (x:=x) hq he
      (refine aN tB HB ?_;simp only [tB,↓R1,RR,seval,hq,cWd,RX])
      repeat' (first|(with_reducible rw [ah])|((first|(with_reducible intro β hβ;(try simp only [RB] at hβ);(repeat (obtain ⟨⟨_,_⟩,hβ⟩:=hβ));(try (have hbis:=ag (by assumption) hβ;obtain ⟨_,_⟩:=hbis)))|((refine AC.mono (AC.wk (a182 (k:=k) (rw_:=rw_) (w:=w) (by simp only [↓R1,RR,seval,hq,cWd,RX]) hw hl) (aa _)) ?_;(rintro _ _ ⟨rfl,rfl⟩)))|((refine AC.mono (AC.wk (hr' _ rfl) (aa _)) ?_;(rintro _ _ ⟨rfl,rfl⟩)))|((refine fm he ?_)))<;>(try simp only [↓R1,RR,seval,hq,cWd,RX])))
      (refine cJ (by assumption) ?_ ?_ (by first|(simp [aj,rvS];done)|(simp only [aj,rvS,↓R1,RR,seval,hq,cWd,RX];try simp)))
      · simp only [ao,↓R1,RR,seval,hq,cWd,RX]
        exact ae _
      · exact bo
    · have ho:=lH (x:=x) hq he
      (refine aN tB HB ?_;simp only [tB,↓R1,RR,seval,hq,cWd,RX])
      repeat' (first|(with_reducible rw [ah])|((first|(with_reducible intro β hβ;(try simp only [RB] at hβ);(repeat (obtain ⟨⟨_,_⟩,hβ⟩:=hβ));(try (have hbis:=ag (by assumption) hβ;obtain ⟨_,_⟩:=hbis)))|((refine AC.mono (AC.wk (a182 (k:=k) (rw_:=rw_) (w:=w) (by simp only [↓R1,RR,seval,hq,cWd,RX]) hw hl) (aa _)) ?_;(rintro _ _ ⟨rfl,rfl⟩)))|((refine AC.mono (AC.wk (hr' _ rfl) (aa _)) ?_;(rintro _ _ ⟨rfl,rfl⟩)))|((refine cr (σ0:=σ0) he (by exact bo) ?_)))<;>(try simp only [↓R1,RR,seval,hq,cWd,RX])))
      exact aO ho (St.aI _)
set_option maxHeartbeats 2000000 in
theorem MF {f:Nat} {cap:List AV} {σ σ0:St} {β k:Nat} {rw_:Rw} {w:Wd} {x:Int × Int} {e:Int} (hb:σ.box β=some (cur rw_ k)) (hw:rw_.ws[k]? =some w) (hl:rw_.ws.length≤20000) (h0:σ0.box β=none) (hlw:St.lw σ0 σ)
    (hr:∀ s:St,s.glob=σ.glob→AC Tryz.prog f (.agg (cWd w)::cap) s (fun r s'=>r= .tup [.agg [.int .u64 x.1, .int .u64 x.2], .int .i64 e]∧s'=s)) :
    AX Tryz.prog 212 [.ptr β 0, .fn f cap] σ (oX TS (fl w x e) (fun v=> .agg [.int .u64 v.1, .int .u64 v.2]) (fun _=>σ.ad β (cur rw_ (k+1))) σ0):=by
  have hlt:=(List.getElem?_eq_some_iff.1 hw).1
  haveI:BoxIs σ β (cur rw_ k):=⟨hb⟩
  have hr':∀ s:St,s.glob=σ.glob→AC Tryz.prog f (.agg [.bool w.q, .str w.t, .int .i64 (w.a:Nat)]::cap) s (fun r s'=>r= .tup [.agg [.int .u64 x.1, .int .u64 x.2], .int .i64 e]∧s'=s):=hr
  cases hq:w.q with
  | true =>
    have ho:=lG (x:=x) (e:=e) hq
    (refine aN tC HD ?_;simp only [tC,↓R1,RR,seval,hq,cWd,RX])
    repeat' (first|(with_reducible rw [ah])|((first|(with_reducible intro β hβ;(try simp only [RB] at hβ);(repeat (obtain ⟨⟨_,_⟩,hβ⟩:=hβ));(try (have hbis:=ag (by assumption) hβ;obtain ⟨_,_⟩:=hbis)))|((refine AC.mono (AC.wk (a182 (k:=k) (rw_:=rw_) (w:=w) (by simp only [↓R1,RR,seval,hq,cWd,RX]) hw hl) (aa _)) ?_;(rintro _ _ ⟨rfl,rfl⟩)))|((refine cr (σ0:=σ0) (by decide) (by exact bo) ?_)))<;>(try simp only [↓R1,RR,seval,hq,cWd,RX])))
    exact aO ho (St.aI _)
  | false =>
    rw [hq] at hr'
    by_cases he:e=0
    · have ho:=jN (x:=x) hq he
      (refine aN tC HD ?_;simp only [tC,↓R1,RR,seval,hq,cWd,RX])
      repeat' (first|(with_reducible rw [ah])|((first|(with_reducible intro β hβ;(try simp only [RB] at hβ);(repeat (obtain ⟨⟨_,_⟩,hβ⟩:=hβ));(try (have hbis:=ag (by assumption) hβ;obtain ⟨_,_⟩:=hbis)))|((refine AC.mono (AC.wk (a182 (k:=k) (rw_:=rw_) (w:=w) (by simp only [↓R1,RR,seval,hq,cWd,RX]) hw hl) (aa _)) ?_;(rintro _ _ ⟨rfl,rfl⟩)))|((refine AC.mono (AC.wk (hr' _ rfl) (aa _)) ?_;(rintro _ _ ⟨rfl,rfl⟩)))|((refine fm he ?_)))<;>(try simp only [↓R1,RR,seval,hq,cWd,RX])))
      (refine cJ (by assumption) ?_ ?_ (by first|(simp [aj,rvS];done)|(simp only [aj,rvS,↓R1,RR,seval,hq,cWd,RX];try simp)))
      · simp only [ao,↓R1,RR,seval,hq,cWd,RX]
        exact ae _
      · exact bo
    · have ho:=lH (x:=x) hq he
      (refine aN tC HD ?_;simp only [tC,↓R1,RR,seval,hq,cWd,RX])
      repeat' (first|(with_reducible rw [ah])|((first|(with_reducible intro β hβ;(try simp only [RB] at hβ);(repeat (obtain ⟨⟨_,_⟩,hβ⟩:=hβ));(try (have hbis:=ag (by assumption) hβ;obtain ⟨_,_⟩:=hbis)))|((refine AC.mono (AC.wk (a182 (k:=k) (rw_:=rw_) (w:=w) (by simp only [↓R1,RR,seval,hq,cWd,RX]) hw hl) (aa _)) ?_;(rintro _ _ ⟨rfl,rfl⟩)))|((refine AC.mono (AC.wk (hr' _ rfl) (aa _)) ?_;(rintro _ _ ⟨rfl,rfl⟩)))|((refine cr (σ0:=σ0) he (by exact bo) ?_)))<;>(try simp only [↓R1,RR,seval,hq,cWd,RX])))
      exact aO ho (St.aI _)
def rV (q:Bool) (t:List UInt8):Int × Int :=
 bif (q|| !ov (er t))||(hZ t&&decide (dH (er t)=0)) then (0,3)
 else bif (decide (18446744073709551616≤dH (er t))||decide (9223372036854775808<dH (er t)))||(decide (dH (er t)=9223372036854775808)&& !hZ t) then (0,2)
 else ((bif hZ t then -((dH (er t):Nat):Int) else ((dH (er t):Nat):Int)),0)
theorem BS (q:Bool) (t:List UInt8):ow q t= .tup [.int .i64 (rV q t).1, .int .i64 (rV q t).2]:=by
 unfold ow rV
 cases ((q|| !ov (er t))||(hZ t&&decide (dH (er t)=0)))<;>simp only [cond_true,cond_false]
 cases ((decide (18446744073709551616≤dH (er t))||decide (9223372036854775808<dH (er t)))||(decide (dH (er t)=9223372036854775808)&& !hZ t))<;>rfl
def x6 (s:List UInt8):Int × Int:=bif lh s then (((c8 (hS s 35)).l.toNat:Nat),(kd (tS s 35):Nat)) else (0,0)
theorem EC (s:List UInt8):xP s= [.int .u64 (x6 s).1, .int .u64 (x6 s).2]:=by
 unfold xP x6;cases lh s<;>rfl
def da (w:Wd):Except Ft Int:=fl w (rV w.q w.t).1 (rV w.q w.t).2
def kg (w:Wd):Except Ft Int:=fl w (((c8 w.t).l.toNat:Nat):Int) ((c8 w.t).err:Nat)
def BT (w:Wd):Except Ft Int:=fl w (Bv w.t) (Bw w.t)
def H9 (w:Wd):Except Ft (Int × Int):=fl w (x6 w.t) (xQ w.t)
def mM (w:Wd):Except Ft (List UInt8):=if 1000<w.t.length then .error (4,w.a) else .ok w.t
theorem MG (w:Wd) (hl:w.t.length≤1000000):Pu Tryz.prog 203 [.agg (cWd w)] (.tup [.int .u64 ((c8 w.t).l.toNat:Nat), .int .i64 ((c8 w.t).err:Nat)]):=by
 have hn:=JC w.t (by omega)
 simp only [D7] at hn
 simp only [cWd]
 (refine al Hz LD fun σ=>?_;simp only [Hz,↓R1,RR,seval])
 repeat' (first|(with_reducible rw [ah])|((first|(with_reducible intro β hβ;(try simp only [RB] at hβ);(repeat (obtain ⟨⟨_,_⟩,hβ⟩:=hβ));(try (have hbis:=ag (by assumption) hβ;obtain ⟨_,_⟩:=hbis)))|(refine Pt (hn) ?_))<;>(try simp only [↓R1,RR,seval])))
 (refine ak (af ?_) (by first|(simp [aj,rvS];done)|(simp only [aj,rvS,↓R1,RR,seval];try simp)))
 (simp only [ao,↓R1,RR,seval])
theorem MH (w:Wd) (hl:w.t.length≤1000000):Pu Tryz.prog 208 [.agg (cWd w)] (.tup [.int .i64 (Bv w.t), .int .i64 (Bw w.t)]):=by
 have hn:=Mj w.t
 rw [By] at hn
 simp only [cWd]
 (refine al HC LF fun σ=>?_;simp only [HC,↓R1,RR,seval])
 repeat' ((first|(with_reducible intro β hβ;(try simp only [RB] at hβ);(repeat (obtain ⟨⟨_,_⟩,hβ⟩:=hβ));(try (have hbis:=ag (by assumption) hβ;obtain ⟨_,_⟩:=hbis)))|(refine Pt (hn) ?_))<;>(try simp only [↓R1,RR,seval]))
 (refine ak (af ?_) (by first|(simp [aj,rvS];done)|(simp only [aj,rvS,↓R1,RR,seval];try simp)))
 (simp only [ao,↓R1,RR,seval])
theorem MI (w:Wd) (hl:w.t.length≤1000000):PuG Tryz.prog gl3 213 [.agg (cWd w)] (.tup [.agg [.int .u64 (x6 w.t).1, .int .u64 (x6 w.t).2], .int .i64 (xQ w.t)]):=by
 have hn:=Mg w.t hl
 rw [EC] at hn
 simp only [cWd]
 (refine aP HE LG fun σ hσ=>?_;simp only [HE,↓R1,RR,seval])
 repeat' (first|(with_reducible rw [ah])|((first|(with_reducible intro β hβ;(try simp only [RB] at hβ);(repeat (obtain ⟨⟨_,_⟩,hβ⟩:=hβ));(try (have hbis:=ag (by assumption) hβ;obtain ⟨_,_⟩:=hbis)))|(refine PuG.to (hn) hσ (aa _) ?_))<;>(try simp only [↓R1,RR,seval])))
 (refine ak (af ?_) (by first|(simp [aj,rvS];done)|(simp only [aj,rvS,↓R1,RR,seval];try simp)))
 (simp only [ao,↓R1,RR,seval])
structure Cu (σ0 σ:St) (β:Nat) (r:Rw) (k:Nat):Prop where
 hb:σ.box β=some (cur r k)
 h0:σ0.box β=none
 lw:St.lw σ0 σ
 n:r.ws.length≤20000
 t:∀ w∈r.ws,w.t.length≤1000000
theorem Cu.to {σ0 σ:St} {β k j:Nat} {r:Rw} (h:Cu σ0 σ β r k):Cu σ0 (σ.ad β (cur r j)) β r j:=⟨St.bL _ _ _,h.h0,St.j5 h.lw h.h0,h.n,h.t⟩
theorem Cu.new {σ0 σ:St} {β γ k:Nat} {r:Rw} {c:List AV} (h:Cu σ0 σ β r k) (hn:σ.box γ=none):Cu σ0 (σ.ad γ c) β r k:=by
 have hne:β≠γ:=fun e=>by have:=h.hb;rw [e,hn] at this;cases this
 exact ⟨by simp [St.ad,upd,hne,h.hb],h.h0,St.j5 h.lw (pG h.lw hn),h.n,h.t⟩
theorem Cu.len {σ0 σ:St} {β k:Nat} {r:Rw} {w:Wd} (h:Cu σ0 σ β r k) (hw:r.ws[k]? =some w):w.t.length≤1000000:=h.t w (List.mem_of_getElem? hw)
theorem JZ {σ σ0:St} {β k:Nat} {r:Rw} {w:Wd} (h:Cu σ0 σ β r k) (hw:r.ws[k]? =some w):AX Tryz.prog 151 [.ptr β 0] σ (oX TS (kg w) (fun v=> .int .u64 v) (fun _=>σ.ad β (cur r (k+1))) σ0):=by
 haveI:BoxIs σ β (cur r k):=⟨h.hb⟩
 have ht:∀ z,Cu σ0 z β r k→z.glob=σ.glob→AX Tryz.prog 202 [.ptr β 0, .fn 203 []] z (oX TS (kg w) (fun v=> .int .u64 v) (fun _=>z.ad β (cur r (k+1))) σ0):=fun z hz hgz=>MC hz.hb hw hz.n hz.h0 hz.lw (fun s _=>MG w (h.len hw) s)
 (refine aN Hp Ls ?_;simp only [Hp,↓R1,RR,seval,RX])
 repeat' (((refine bu (ht _ (by (repeat' (first|assumption|(refine Cu.to (k:=1) ?_)|(refine Cu.new ?_ (by first|assumption|(simp only [↓R1,RR,seval,RX];done)))))) rfl) (aa _) (fun a ho=>?_) (fun e ho=>?_)))<;>(try simp only [↓R1,RR,seval,RX]))
 all_goals first|exact aO ho (St.aI _)|(refine cJ ho ?_ ?_ (by first|(simp [aj,rvS];done)|(simp only [aj,rvS,↓R1,RR,seval,RX];try simp));(focus (simp only [ao,↓R1,RR,seval,RX];exact ae _));exact bo)
theorem MJ {σ σ0:St} {β k:Nat} {r:Rw} {w:Wd} (h:Cu σ0 σ β r k) (hw:r.ws[k]? =some w):AX Tryz.prog 154 [.ptr β 0] σ (oX TS (BT w) (fun v=> .int .i64 v) (fun _=>σ.ad β (cur r (k+1))) σ0):=by
 haveI:BoxIs σ β (cur r k):=⟨h.hb⟩
 have ht:∀ z,Cu σ0 z β r k→z.glob=σ.glob→AX Tryz.prog 207 [.ptr β 0, .fn 208 []] z (oX TS (BT w) (fun v=> .int .i64 v) (fun _=>z.ad β (cur r (k+1))) σ0):=fun z hz hgz=>ME hz.hb hw hz.n hz.h0 hz.lw (fun s _=>MH w (h.len hw) s)
 (refine aN Hr Lu ?_;simp only [Hr,↓R1,RR,seval,RX])
 repeat' (((refine bu (ht _ (by (repeat' (first|assumption|(refine Cu.to (k:=1) ?_)|(refine Cu.new ?_ (by first|assumption|(simp only [↓R1,RR,seval,RX];done)))))) rfl) (aa _) (fun a ho=>?_) (fun e ho=>?_)))<;>(try simp only [↓R1,RR,seval,RX]))
 all_goals first|exact aO ho (St.aI _)|(refine cJ ho ?_ ?_ (by first|(simp [aj,rvS];done)|(simp only [aj,rvS,↓R1,RR,seval,RX];try simp));(focus (simp only [ao,↓R1,RR,seval,RX];exact ae _));exact bo)
theorem MK {σ σ0:St} {β k:Nat} {r:Rw} {w:Wd} (h:Cu σ0 σ β r k) (hw:r.ws[k]? =some w) (hσ:bY gl3 σ):AX Tryz.prog 156 [.ptr β 0] σ (oX TS (H9 w) (fun v=> .agg [.int .u64 v.1, .int .u64 v.2]) (fun _=>σ.ad β (cur r (k+1))) σ0):=by
 haveI:BoxIs σ β (cur r k):=⟨h.hb⟩
 have ht:∀ z,Cu σ0 z β r k→z.glob=σ.glob→AX Tryz.prog 212 [.ptr β 0, .fn 213 []] z (oX TS (H9 w) (fun v=> .agg [.int .u64 v.1, .int .u64 v.2]) (fun _=>z.ad β (cur r (k+1))) σ0):=fun z hz hgz=>MF hz.hb hw hz.n hz.h0 hz.lw (fun s hg=>MI w (h.len hw) s (by intro k cs hk;rw [hg,hgz];exact hσ k cs hk))
 (refine aN Hs Lx ?_;simp only [Hs,↓R1,RR,seval,RX])
 repeat' (first|(with_reducible rw [ah])|((first|(with_reducible intro β hβ;(try simp only [RB] at hβ);(repeat (obtain ⟨⟨_,_⟩,hβ⟩:=hβ));(try (have hbis:=ag (by assumption) hβ;obtain ⟨_,_⟩:=hbis)))|((refine bu (ht _ (by (repeat' (first|assumption|(refine Cu.to (k:=1) ?_)|(refine Cu.new ?_ (by first|assumption|(simp only [↓R1,RR,seval,RX];done)))))) rfl) (aa _) (fun a ho=>?_) (fun e ho=>?_))))<;>(try simp only [↓R1,RR,seval,RX])))
 all_goals first|exact aO ho (St.aI _)|(refine cJ ho ?_ ?_ (by first|(simp [aj,rvS];done)|(simp only [aj,rvS,↓R1,RR,seval,RX];try simp));(focus (simp only [ao,↓R1,RR,seval,RX];exact ae _));exact bo)
theorem ua {σ σ0:St} {β k:Nat} {r:Rw} {w:Wd} (h:Cu σ0 σ β r k) (hw:r.ws[k]? =some w):AX Tryz.prog 153 [.ptr β 0] σ (oX TS (da w) (fun v=> .int .i64 v) (fun _=>σ.ad β (cur r (k+1))) σ0):=by
 haveI:BoxIs σ β (cur r k):=⟨h.hb⟩
 have ht:∀ z,Cu σ0 z β r k→z.glob=σ.glob→AX Tryz.prog 205 [.ptr β 0, .fn 206 []] z (oX TS (da w) (fun v=> .int .i64 v) (fun _=>z.ad β (cur r (k+1))) σ0):=fun z hz hgz=>MD hz.hb hw hz.n hz.h0 hz.lw (fun s _=>(by have:=MB w.q w.t (w.a:Nat) (h.len hw) s;rw [BS] at this;exact this))
 (refine aN Hq Lt ?_;simp only [Hq,↓R1,RR,seval,RX])
 repeat' (((refine bu (ht _ (by (repeat' (first|assumption|(refine Cu.to (k:=1) ?_)|(refine Cu.new ?_ (by first|assumption|(simp only [↓R1,RR,seval,RX];done)))))) rfl) (aa _) (fun a ho=>?_) (fun e ho=>?_)))<;>(try simp only [↓R1,RR,seval,RX]))
 all_goals first|exact aO ho (St.aI _)|(refine cJ ho ?_ ?_ (by first|(simp [aj,rvS];done)|(simp only [aj,rvS,↓R1,RR,seval,RX];try simp));(focus (simp only [ao,↓R1,RR,seval,RX];exact ae _));exact bo)
theorem x7 {σ σ0:St} {β k:Nat} {r:Rw} {w:Wd} (h:Cu σ0 σ β r k) (hw:r.ws[k]? =some w):AX Tryz.prog 150 [.ptr β 0] σ (oX TS (da w) (fun v=> .int .i64 v) (fun _=>σ.ad β (cur r (k+1))) σ0):=by
 haveI:BoxIs σ β (cur r k):=⟨h.hb⟩
 (refine aN Ho Lr ?_;simp only [Ho,↓R1,RR,seval,RX])
 repeat' (((refine bu (ua (σ0:=σ0) (r:=r) (k:=k) (by (repeat' (first|assumption|(refine Cu.to (k:=1) ?_)|(refine Cu.new ?_ (by first|assumption|(simp only [↓R1,RR,seval,RX];done)))))) hw) (aa _) (fun a ho=>?_) (fun e ho=>?_)))<;>(try simp only [↓R1,RR,seval,RX]))
 all_goals first|exact aO ho (St.aI _)|(refine cJ ho ?_ ?_;(focus (simp only [ao,↓R1,RR,seval,RX];exact ae _));exact bo)
theorem J0 {σ σ0:St} {β k:Nat} {r:Rw} {w:Wd} (h:Cu σ0 σ β r k) (hw:r.ws[k]? =some w):AX Tryz.prog 152 [.ptr β 0] σ (oX TS (mM w) (fun v=> .str v) (fun _=>σ.ad β (cur r (k+1))) σ0):=by
 haveI:BoxIs σ β (cur r k):=⟨h.hb⟩
 have h0:=h.h0
 have hlw:=h.lw
 by_cases hc:1000<w.t.length
 ·have ho:mM w= .error (4,(w.a:Int)):=by simp [mM,hc]
  have q1:decide ((1000:Int)<(w.t.length:Int))=true:=by rw [decide_eq_true_eq];omega
  (refine aN AR Jy ?_;simp only [AR,↓R1,RR,seval,q1,cWd,RX])
  repeat' (first|(with_reducible rw [ah])|((first|(with_reducible intro β hβ;(try simp only [RB] at hβ);(repeat (obtain ⟨⟨_,_⟩,hβ⟩:=hβ));(try (have hbis:=ag (by assumption) hβ;obtain ⟨_,_⟩:=hbis)))|((refine AC.mono (AC.wk (a182 (k:=k) (rw_:=r) (w:=w) (by simp only [↓R1,RR,seval,q1,cWd,RX]) hw h.n) (aa _)) ?_;(rintro _ _ ⟨rfl,rfl⟩)))|((refine cr (σ0:=σ0) (by decide) (by exact bo) ?_)))<;>(try simp only [↓R1,RR,seval,q1,cWd,RX])))
  exact aO ho (St.aI _)
 ·have ho:mM w= .ok w.t:=by simp [mM,hc]
  have q1:decide ((1000:Int)<(w.t.length:Int))=false:=by rw [decide_eq_false_iff_not];omega
  (refine aN AR Jy ?_;simp only [AR,↓R1,RR,seval,q1,cWd,RX])
  repeat' (first|(with_reducible rw [ah])|((first|(with_reducible intro β hβ;(try simp only [RB] at hβ);(repeat (obtain ⟨⟨_,_⟩,hβ⟩:=hβ));(try (have hbis:=ag (by assumption) hβ;obtain ⟨_,_⟩:=hbis)))|((refine AC.mono (AC.wk (a182 (k:=k) (rw_:=r) (w:=w) (by simp only [↓R1,RR,seval,q1,cWd,RX]) hw h.n) (aa _)) ?_;(rintro _ _ ⟨rfl,rfl⟩))))<;>(try simp only [↓R1,RR,seval,q1,cWd,RX])))
  (refine cJ ho ?_ ?_;(focus (simp only [ao,↓R1,RR,seval,q1,cWd,RX];exact ae _));exact bo)
def kV (s:List UInt8):Except Ft (List Rw):=match eR s with
 | .ok rs=> .ok rs
 | .error (e,a)=> .error ((e:Nat),(a:Nat))
theorem x8 {s:List UInt8} {e a:Nat} (h:eR s= .error (e,a)):e≠0:=by rcases tO h with rfl|rfl<;>decide
theorem x42 {σ σ0:St} (s:List UInt8) (hs:s.length≤1000000) (hlw:St.lw σ0 σ):AX Tryz.prog 42 [.str s] σ (oX TS (kV s) (fun rs=> .sl false rs.length (rs.flatMap cRw)) (fun _=>σ) σ0):=by
  have hn:=p87 s hs
  cases hr:eR s with
  | ok rs =>
    have ho:kV s= .ok rs:=by simp only [kV,hr]
    rw [hr] at hn
    (refine aN c42 b42 ?_;simp only [c42,↓R1,RR,seval,RX,iN,fk])
    repeat' (first|(with_reducible rw [ah])|((first|(with_reducible intro β hβ;(try simp only [RB] at hβ);(repeat (obtain ⟨⟨_,_⟩,hβ⟩:=hβ));(try (have hbis:=ag (by assumption) hβ;obtain ⟨_,_⟩:=hbis)))|(refine Pt (hn) ?_)|((refine fm rfl ?_)))<;>(try simp only [↓R1,RR,seval,RX,iN,fk])))
    (refine cJ ho ?_ ?_;(focus (simp only [ao,↓R1,RR,seval,RX,iN,fk];exact ae _));exact bo)
  | error p =>
    obtain ⟨e,a⟩:=p
    have ho:kV s= .error ((e:Nat),(a:Nat)):=by simp only [kV,hr]
    have he:=x8 hr
    rw [hr] at hn
    (refine aN c42 b42 ?_;simp only [c42,↓R1,RR,seval,RX,iN,fk])
    repeat' (first|(with_reducible rw [ah])|((first|(with_reducible intro β hβ;(try simp only [RB] at hβ);(repeat (obtain ⟨⟨_,_⟩,hβ⟩:=hβ));(try (have hbis:=ag (by assumption) hβ;obtain ⟨_,_⟩:=hbis)))|(refine Pt (hn) ?_)|((refine cr (σ0:=σ0) (by omega) (by exact bo) ?_)))<;>(try simp only [↓R1,RR,seval,RX,iN,fk])))
    exact aO ho (St.aI _)
def mN (q:Bool) (t:List UInt8) (l:List (List UInt8)):Int:=match (bif q then none else eT t l 0) with
 | some i=>(i:Nat)
 | none=> -1
set_option maxHeartbeats 2000000 in
theorem p83 (r:Rw) (w:Wd) (f:Bool) (l:List (List UInt8)) (hw0:r.ws[0]? =some w) (hl:l.length≤1000):Pu Tryz.prog 83 [.agg (cRw r), .sl f l.length (l.map AV.str)] (.int .i64 (mN w.q w.t l)):=by
  have q1:True:=trivial
  have q2:True:=trivial
  have hw:True:=trivial
  have hd:True:=trivial
  have he3:(r.ws.flatMap cWd).take 3= [.bool w.q, .str w.t, .int .i64 (w.a:Nat)]:=by have:=BQ hw0;simp at this;rw [this];rfl
  have hlt0:=(List.getElem?_eq_some_iff.1 hw0).1
  have hln:=va r.ws
  simp only [cRw]
  (refine al c83 b83 fun σ=>?_;simp only [c83,↓R1,RR,seval,q1,q2,hw,hd,he3])
  repeat' (first|(with_reducible rw [ah])|(with_reducible refine And.intro ?_ ?_;exact aq)|((with_reducible intro β hβ;(try simp only [RB] at hβ);(repeat (obtain ⟨⟨_,_⟩,hβ⟩:=hβ));(try (have hbis:=ag (by assumption) hβ;obtain ⟨_,_⟩:=hbis)))<;>(try simp only [↓R1,RR,seval,q1,q2,hw,hd,he3])))
  all_goals first|omega|skip
  rename_i γ hγ ap1 ap2
  refine bn l.length (fun k=> [(5, .ptr β 0),(12, .sl f l.length (l.map AV.str)),(13, .int .i64 (l.length:Nat)),(14, .int .i64 (k:Nat))]) (fun _=>(σ.ad γ [.int .i64 (r.a:Nat), .sl false r.ws.length (r.ws.flatMap cWd)]).ad β [.bool w.q, .str w.t, .int .i64 (w.a:Nat)]) (fun k=>(bif w.q then none else eT w.t l 0)=(bif w.q then none else eT w.t (l.drop k) k)) (by simp [aE,slot,ae]) (by simp only [St.set_set];exact St.le_refl _) rfl (fun k hk hI=>?_)
  by_cases hlt:k<l.length
  · have q1:decide ((k:Int)<(l.length:Int))=true:=by rw [decide_eq_true_eq];omega
    have hd:=mH l hlt
    have hw:IntKind.i64.wrap ((k:Int)+1)=((k+1:Nat):Int):=by rw [wrap64 (by omega) (by omega)];omega
    rw [kU w.t l hlt] at hI
    cases hq:w.q with
    | true =>
      have q2:=hq
      simp only [q1,q2,↓R1,RR,seval,q1,q2,hw,hd,he3]
      repeat' (first|(with_reducible refine And.intro ?_ ?_;exact aq)|(with_reducible apply And.intro))
      all_goals first|(simp [hq];done)|skip
      all_goals first|(rw [List.length_map];omega)|skip
      · simp [aE,slot,ae]
      · exact St.le_refl _
    | false =>
      rw [hq] at hI
      cases he:l[k] == w.t with
      | true =>
        rw [he] at hI
        simp only [cond_true,cond_false] at hI
        have q2:(w.t == l[k])=true:=by rw [beq_iff_eq] at he ⊢;exact he.symm
        rw [mN];simp only [hq,cond_false];rw [hI]
        simp only [q1,hq,↓R1,RR,seval,q1,q2,hw,hd,he3]
        repeat' (with_reducible refine And.intro ?_ ?_;exact aq)
        all_goals first|(rw [List.length_map];omega)|skip
        refine ak (af (by (simp only [ao,↓R1,RR,seval,q1,q2,hw,hd,he3])))
      | false =>
        rw [he] at hI
        have q2:(w.t == l[k])=false:=by rw [Bool.eq_false_iff] at he ⊢;intro h;apply he;simp only [beq_iff_eq] at h ⊢;simp [h]
        simp only [q1,hq,↓R1,RR,seval,q1,q2,hw,hd,he3]
        repeat' (first|(with_reducible refine And.intro ?_ ?_;exact aq)|(with_reducible apply And.intro))
        all_goals first|(rw [List.length_map];omega)|skip
        · simpa using hI
        · simp [aE,slot,ae]
        · exact St.le_refl _
  · have hke:k=l.length:=by omega
    subst hke
    have q1:decide ((l.length:Int)<(l.length:Int))=false:=by simp
    rw [List.drop_length] at hI
    rw [mN,hI]
    have e:(bif w.q then none else eT w.t [] l.length)=none:=by cases w.q<;>rfl
    rw [e]
    simp only [q1,↓R1,RR,seval,q1,q2,hw,hd,he3]
    skip
    refine ak (af (by (simp only [ao,↓R1,RR,seval,q1,q2,hw,hd,he3])))
theorem ub {s:List UInt8} {rs:List Rw} (h:eR s= .ok rs):s.length≤20000∧rs.length≤s.length+1∧∀ r∈rs,r.ws≠ []∧r.ws.length≤20000∧∀ w∈r.ws,w.t.length≤20000:=by
 have hs:s.length≤20000:=by
  refine Classical.byContradiction fun hn=>?_
  rw [eR,if_pos (by omega)] at h;cases h
 have hb:kH (eR s)=some (q9 rs):=by rw [h];rfl
 rw [re hs] at hb
 obtain ⟨h1,h2⟩:=kK (n:=20000) (fun x hx=>Nat.le_trans ((kc s).1 x hx) hs) hb
 have hg:=tL h
 refine ⟨hs,?_,fun r hr=>?_⟩
 ·have:=(kc s).2
  simp only [q9,List.length_map] at h1
  omega
 ·have h3:=h2 (jB r.ws) (by simp only [q9,List.mem_map];exact ⟨r,hr,rfl⟩)
  refine ⟨(hg r hr).1,?_,fun w hw=>?_⟩
  ·have:=h3.1;simpa [jB] using this
  ·exact h3.2 (w.q,w.t) (by simp only [jB,List.mem_map];exact ⟨w,hw,rfl⟩)
def rW (l:List Int):List AV:=l.map fun n=> .int .i64 n
def cPr (p:Int × Int):List AV:= [.int .i64 p.1, .int .i64 p.2]
theorem ED (l:List Int):(rW l).length=l.length:=by simp [rW]
theorem EE (l:List (Int × Int)):(l.flatMap cPr).length=l.length*2:=aU (f:=cPr) (fun _=>rfl) l
theorem Ia {l:List Int} {k:Nat} {n:Int} (h:l[k]? =some n):((rW l).drop (k*1)).take 1= [.int .i64 n]:=by
 obtain ⟨h1,h2⟩:=List.getElem?_eq_some_iff.1 h
 simp only [rW,Nat.mul_one]
 rw [List.drop_eq_getElem_cons (by simpa using h1)]
 simp [h2]
theorem Ib {l:List (Int × Int)} {k:Nat} {p:Int × Int} (h:l[k]? =some p):((l.flatMap cPr).drop (k*2)).take 2=cPr p:=by
  induction l generalizing k with
  | nil=>simp at h
  | cons x l ih =>
    cases k with
    | zero=>simp at h;subst h;simp [cPr]
    | succ k =>
      simp only [List.getElem?_cons_succ] at h
      have:=ih h
      rw [List.flatMap_cons,show (k+1)*2=(cPr x).length+k*2 by simp [cPr];omega,List.drop_append,List.drop_eq_nil_of_le (by omega),List.nil_append,Nat.add_sub_cancel_left]
      exact this
def inB (n:Int) (p:Int × Int):Bool:= !(decide (n<p.1)||decide (p.2<n))
def dI:List Int→List (Int × Int)→Bool
 | n::l,p::r=>inB n p&&dI l r
 | _,_=>true
theorem uc {l:List Int} {r:List (Int × Int)} {k:Nat} {n:Int} {p:Int × Int} (h:l[k]? =some n) (h2:r[k]? =some p):dI (l.drop k) (r.drop k)=(inB n p&&dI (l.drop (k+1)) (r.drop (k+1))):=by
 obtain ⟨h1,h3⟩:=List.getElem?_eq_some_iff.1 h
 obtain ⟨h4,h5⟩:=List.getElem?_eq_some_iff.1 h2
 rw [List.drop_eq_getElem_cons h1,List.drop_eq_getElem_cons h4,h3,h5];rfl
set_option maxHeartbeats 2000000 in
theorem J1 (f g:Bool) (l:List Int) (r:List (Int × Int)) (hlr:l.length=r.length) (hl:l.length≤1000):Pu Tryz.prog 163 [.sl f l.length (rW l), .sl g r.length (r.flatMap cPr)] (.bool (dI l r)):=by
 have q1:True:=trivial
 have he:True:=trivial
 have he2:True:=trivial
 have hw:True:=trivial
 (refine al Hu Lz fun σ=>?_;simp only [Hu,↓R1,RR,seval,q1,he,he2,hw,cPr])
 refine bn l.length (fun k=> [(1, .sl g r.length (r.flatMap cPr)),(7, .sl f l.length (rW l)),(8, .int .i64 (l.length:Nat)),(9, .int .i64 (k:Nat))]) (fun _=>σ) (fun k=>dI l r=dI (l.drop k) (r.drop k)) (by simp [aE,slot,ae]) (St.le_refl _) rfl (fun k hk hI=>?_)
 by_cases hlt:k<l.length
 ·obtain ⟨n,hn⟩:∃ n,l[k]? =some n:=⟨_,List.getElem?_eq_getElem hlt⟩
  obtain ⟨p,hp⟩:∃ p,r[k]? =some p:=⟨_,List.getElem?_eq_getElem (by omega)⟩
  rw [uc hn hp] at hI
  have he:=Ia hn
  have he2:=Ib hp
  have hil:=ED l
  have hcl:=EE r
  simp only [cPr] at he2
  have q1:decide ((k:Int)<(l.length:Int))=true:=by rw [decide_eq_true_eq];omega
  have hw:IntKind.i64.wrap ((k:Int)+1)=((k+1:Nat):Int):=by rw [wrap64 (by omega) (by omega)];omega
  simp only [q1,↓R1,RR,seval,q1,he,he2,hw,cPr]
  repeat' (first|(with_reducible refine And.intro ?_ ?_;exact aq)|(with_reducible apply And.intro)|((refine an (fun hc=>?_) (fun hc=>?_))<;>(try simp only [↓R1,RR,seval,q1,he,he2,hw,cPr])))
  ·(refine ak (af ?_))
   (simp only [ao,↓R1,RR,seval,q1,he,he2,hw,cPr])
   rw [hI,inB,hc];rfl
  ·rw [hI]
   simp_all [inB]
  ·simp [aE,slot,ae]
  ·exact St.le_refl _
 ·have hke:k=l.length:=by omega
  subst hke
  have q1:decide ((l.length:Int)<(l.length:Int))=false:=by simp
  rw [List.drop_length] at hI
  simp only [q1,↓R1,RR,seval,q1,he,he2,hw,cPr]
  skip
  (refine ak (af ?_))
  (simp only [ao,↓R1,RR,seval,q1,he,he2,hw,cPr])
  rw [hI];rfl
structure ClsI where
 l:Int
 size:Int
 rate:Int
structure TenI where
 budget:Int
 queries:Int
 cap:Int
 out:Int
 audit:Int
structure RulI where
 owner:Int
 auth:Int
 res:Int
 any:Bool
 kind:Int
 low:Int
 high:Int
structure CfgI where
 cls:List ClsI
 tens:List TenI
 ruls:List RulI
 hor:Int
def fq (x:ClsI):List AV:= [.int .u64 x.l, .int .i64 x.size, .int .i64 x.rate]
def ia (x:TenI):List AV:= [.int .i64 x.budget, .int .i64 x.queries, .int .i64 x.cap, .int .i64 x.out, .int .i64 x.audit]
def gM (x:RulI):List AV:= [.int .i64 x.owner, .int .u64 x.auth, .int .u64 x.res, .bool x.any, .int .i64 x.kind, .int .i64 x.low, .int .i64 x.high]
def bK (c:CfgI):List AV:= .sl false c.cls.length (c.cls.flatMap fq)::(c.tens.flatMap ia++ [.sl false c.ruls.length (c.ruls.flatMap gM), .int .u64 c.hor])
def U64 (n:Int):Prop:=0≤n∧n<18446744073709551616
structure CfgOk (c:CfgI):Prop where
 six:c.tens.length=6
 ncls:c.cls.length≤1000
 nrul:c.ruls.length≤1000
 lcls:∀ x∈c.cls,U64 x.l
 lrul:∀ x∈c.ruls,U64 x.auth∧U64 x.res
def lab (n:Int):BitVec 64:=BitVec.ofInt 64 n
theorem e7 {n:Int} (h:U64 n):((lab n).toNat:Int)=n:=by
 unfold lab U64 at *
 rw [BitVec.toNat_ofInt]
 omega
theorem rX (l:List ClsI):(l.flatMap fq).length=l.length*3:=aU (f:=fq) (fun _=>rfl) l
theorem ei (l:List TenI):(l.flatMap ia).length=l.length*5:=aU (f:=ia) (fun _=>rfl) l
theorem rY (l:List RulI):(l.flatMap gM).length=l.length*7:=aU (f:=gM) (fun _=>rfl) l
theorem ej {α:Type} {f:α→List AV} {m:Nat} (hf:∀ a,(f a).length=m):∀ {l:List α} {k:Nat} {x:α},l[k]? =some x→((l.flatMap f).drop (k*m)).take m=f x
  | [],_,_,h=>by simp at h
  | y :: l, 0, x, h => by
    simp at h;subst h
    rw [List.flatMap_cons,Nat.zero_mul,List.drop_zero,List.take_append_of_le_length (by rw [hf];exact Nat.le_refl _),List.take_of_length_le (by rw [hf];exact Nat.le_refl _)]
  | y :: l, k + 1, x, h => by
    simp only [List.getElem?_cons_succ] at h
    have:=ej hf h
    have hy:=hf y
    rw [List.flatMap_cons,show (k+1)*m=(f y).length+k*m by rw [hy,Nat.add_mul];omega,List.drop_append,List.drop_eq_nil_of_le (by omega),List.nil_append,Nat.add_sub_cancel_left]
    exact this
theorem eJ {c:CfgI} (h:CfgOk c):(bK c).length=33:=by
 simp only [bK,List.length_cons,List.length_append,List.length_nil,ei,h.six]
theorem BU (c:CfgI):(bK c)[0]? =some (.sl false c.cls.length (c.cls.flatMap fq)):=rfl
theorem ud {c:CfgI} (h:CfgOk c):(bK c)[31]? =some (.sl false c.ruls.length (c.ruls.flatMap gM)):=by
 simp only [bK,List.getElem?_cons_succ]
 rw [List.getElem?_append_right (by rw [ei,h.six];decide),ei,h.six];rfl
theorem BV {c:CfgI} (h:CfgOk c):(bK c)[32]? =some (.int .u64 c.hor):=by
 simp only [bK,List.getElem?_cons_succ]
 rw [List.getElem?_append_right (by rw [ei,h.six];decide),ei,h.six];rfl
theorem E8 {c:CfgI} (h:CfgOk c):((bK c).drop 1).take 30=c.tens.flatMap ia:=by
 simp only [bK,List.drop_succ_cons,List.drop_zero]
 rw [List.take_append_of_le_length (by rw [ei,h.six];decide),List.take_of_length_le (by rw [ei,h.six];decide)]
theorem ix {c:CfgI} (h:CfgOk c):(bK c).take 33=bK c:=List.take_of_length_le (by rw [eJ h];decide)
def pH (seen:List Int) (x:ClsI):Int:=if dI [x.size,x.rate] [(1,64),(0,64)]=false then 2 else if x.l∈seen then 8 else 0
def clsEs:List Int→List ClsI→List Int
 | _,[]=> []
 | seen,x::l=>pH seen x::clsEs (seen++ [x.l]) l
def tenE (x:TenI):Int:=if dI [x.budget,x.queries,x.cap,x.out,x.audit] [(1,64),(0,4),(0,64),(0,64),(0,64)]=false then 2 else 0
def rulE (x:RulI):Int:=if (decide (x.owner<1)||decide (6<x.owner)||decide (x.kind<0)||decide (25<x.kind)||(x.any&&x.kind != 0))=true then 2 else if leB (lab x.res) (lab x.auth)=false then 13 else if x.high<x.low then 9 else 0
def firstE:List Int→Nat→Option (Int × Nat)
 | [],_=>none
 | e::l,i=>if e=0 then firstE l (i+1) else some (e,i)
def gD (c:CfgI):Int × Nat :=
  if 8<c.cls.length∨8<c.ruls.length then (6,0) else match firstE (clsEs [] c.cls) 0 with
  | some p=>p
  | none => match firstE (c.tens.map tenE) 0 with
    | some p=>p
    | none => match firstE (c.ruls.map rulE) 0 with
      | some p=>p
      | none=>if c.hor<1∨10000<c.hor then (2,0) else (0,0)
def Round (prs:List Nat) (asg body:CC) (fr:Fr) (L:Nat) (r:Loop) (xs:List AV) (σ1:St) (K:AV→St→Prop):Prop :=
 aC Tryz.prog asg (iD prs xs fr) σ1 (fun e fr1 σ2=>e= .normal∧σ2.lp L=some (.loop r,fr)∧aC Tryz.prog body fr1 (σ2.av L (busy r,fr)) (fun e _ σ3=>σ3.lp L=some (.loop (busy r),fr)∧match e with
    | .normal=>K (.bool true) (σ3.av L (r,fr))
    | .ret=>K (.bool false) (σ3.av L (left r .ret,fr))
    | .exit id=>K (.bool false) (σ3.av L (left r (.exit id),fr))
    | _=>False))
structure Errs (prs:List Nat) (asg body:CC) (fr:Fr) (σ:St) (Q:Exit→Fr→St→Prop) (es:List Int):Prop where
 two:prs.length=2
 go:∀ L r i σ1 (K:AV→St→Prop),es[i]? =some 0→σ1.lp L=some (.loop r,fr)→St.le σ (σ1.dropLp L)→K (.bool true) σ1→Round prs asg body fr L r [.int .i64 (i:Nat), .int .i64 0] σ1 K
 stop:∀ L r i e σ1 (K:AV→St→Prop),es[i]? =some e→e≠0→σ1.lp L=some (.loop r,fr)→St.le σ (σ1.dropLp L)→(∀ s,s.lp L=some (.loop (left r .ret),fr)→(firstE es 0=some (e,i)→Q .ret fr (s.dropLp L))→K (.bool false) s)→Round prs asg body fr L r [.int .i64 (i:Nat), .int .i64 e] σ1 K
 fin:firstE es 0=none→∀ s,St.le σ s→Q .normal fr s
theorem ib {es:List Int} {k:Nat} {e:Int} (h:es[k]? =some e):firstE (es.drop k) k=if e=0 then firstE (es.drop (k+1)) (k+1) else some (e,k):=by
 obtain ⟨h1,h2⟩:=List.getElem?_eq_some_iff.1 h
 rw [List.drop_eq_getElem_cons h1,h2];rfl
theorem mO:∀ {l:List ClsI} {seen:List Int} {k:Nat} {x:ClsI},l[k]? =some x→(clsEs seen l)[k]? =some (pH (seen++(l.take k).map ClsI.l) x)
  | [],_,_,_,h=>by simp at h
  | y::l,seen,0,x,h=>by simp at h;subst h;simp [clsEs]
  | y :: l, seen, k + 1, x, h => by
    simp only [List.getElem?_cons_succ] at h
    simp only [clsEs,List.getElem?_cons_succ]
    rw [mO h]
    simp [List.take_succ_cons]
theorem oy:∀ (l:List ClsI) (seen:List Int),(clsEs seen l).length=l.length
 | [],_=>rfl
 | x::l,seen=>by simp [clsEs,oy l]
theorem df {σ s:St} {L:Nat} {x:LO × Fr} (hL:σ.lp L=none) (h:St.le (σ.av L x) s):St.le σ (s.dropLp L):=by
 refine ⟨h.1,h.2.1,h.2.2.1,fun l r hl=>?_,h.2.2.2.2⟩
 have hne:l≠L:=fun e=>by subst e;rw [hL] at hl;cases hl
 have h2:=h.2.2.2.1 l r (by simp only [St.av,upd,if_neg hne];exact hl)
 simp only [St.dropLp,if_neg hne]
 exact h2
theorem vb {σ:St} {M:Nat} {x:LO × Fr} (hM:σ.lp M=none):St.le σ (σ.av M x):=by
 refine ⟨fun _ _ h=>h,fun _ _ h=>h,fun _ _ h=>h,fun l r hl=>?_,fun _ _ h=>h⟩
 have hne:l≠M:=fun e=>by subst e;rw [hM] at hl;cases hl
 simp only [St.av,upd,if_neg hne];exact hl
theorem nx {l:List ClsI} {k:Nat} {x:ClsI} (h:l[k]? =some x) (n:Int):n∈(l.take (k+1)).map ClsI.l↔x.l=n∨n∈(l.take k).map ClsI.l:=by
 obtain ⟨h1,h2⟩:=List.getElem?_eq_some_iff.1 h
 rw [←List.take_append_getElem h1,h2]
 simp only [List.map_append,List.map_cons,List.map_nil,List.mem_append,List.mem_singleton]
 constructor
 ·rintro (h|h)
  ·exact .inr h
  ·exact .inl h.symm
 ·rintro (h|h)
  ·exact .inr h.symm
  ·exact .inl h
set_option maxHeartbeats 4000000 in
theorem ue {prs:List Nat} {asg body:CC} {fr:Fr} {σ:St} {Q:Exit→Fr→St→Prop} {β:Nat} {c:CfgI} (hc:CfgOk c) (hβ:σ.box β=some (bK c)) (h:Errs prs asg body fr σ Q (clsEs [] c.cls)) :
    RF Tryz.prog 162 [.ptr β 0] prs asg body fr σ Q:=by
  refine ⟨by kernel_rfl,fun L r hL hr1 hr2 hY=>?_⟩
  have q1:True:=trivial
  have he:True:=trivial
  have hw:True:=trivial
  have hc0:=BU c
  have hcl:=eJ hc
  have hn:=hc.ncls
  have hlen:=oy c.cls []
  have hb2:(σ.av L (r,fr)).box β=some (bK c):=hβ
  refine aT Ht Ly ?_
  simp only [Ht,↓R1,RR,seval,RM,q1,he,hw,fq]
  refine Ga fun M hM=>?_
  have hML:M≠L:=fun e=>by rw [e,St.aZ] at hM;cases hM
  have hb3:((σ.av L (r,fr)).av M (.map [] 0,[])).box β=some (bK c):=hβ
  have h0:0<(bK c).length:=by rw [hcl];decide
  simp only [hb3,hc0,h0,↓R1,RR,seval,RM,q1,he,hw,fq]
  refine bQ (α:=Nat × List (Int × Bool × Nat) × Nat) (fun a=> [(0, .yld L),(3, .mpv M),(9, .sl false c.cls.length (c.cls.flatMap fq)),(10, .int .i64 (c.cls.length:Nat)),(11, .int .i64 (a.1:Nat))]) (fun a=>(σ.av L (r,fr)).av M (.map a.2.1 a.2.2,[]))
    (fun a=>a.1≤c.cls.length∧firstE (clsEs [] c.cls) 0=firstE ((clsEs [] c.cls).drop a.1) a.1∧∀ n,iA a.2.1 n=decide (n∈(c.cls.take a.1).map ClsI.l)) (fun a=>c.cls.length - a.1) (0,[],0) (by simp [aE,slot,ae]) (St.le_refl _) ⟨Nat.zero_le _,rfl,fun n=>by simp [qQ]⟩ ?_
  rintro ⟨k,m,cl⟩ ⟨hk,hI,hmm⟩
  simp only at hk hI hmm ⊢
  by_cases hlt:k<c.cls.length
  · obtain ⟨x,hx⟩:∃ x,c.cls[k]? =some x:=⟨_,List.getElem?_eq_getElem hlt⟩
    have hat:=mO (seen:= []) hx
    rw [List.nil_append] at hat
    rw [ib hat] at hI
    have he:=ej (f:=fq) (m:=3) (fun _=>rfl) hx
    have hln:=rX c.cls
    have q1:decide ((k:Int)<(c.cls.length:Int))=true:=by rw [decide_eq_true_eq];omega
    have hw:IntKind.i64.wrap ((k:Int)+1)=((k+1:Nat):Int):=by rw [wrap64 (by omega) (by omega)];omega
    simp only [fq] at he
    have hpw:=J1 true true [x.size,x.rate] [(1,64),(0,64)] rfl (by simp)
    simp only [rW,cPr,List.map,List.flatMap_cons,List.flatMap_nil,List.append_nil,List.cons_append,List.nil_append,List.length_cons,List.length_nil] at hpw
    have hnext:∀ (cl:Nat) (n:Int),iA (iB m cl x.l true).1 n=decide (n∈(c.cls.take (k+1)).map ClsI.l):=fun _ n=>by
      rw [qR,hmm]
      have:=nx hx n
      by_cases e1:x.l=n
      · rw [if_pos e1];exact (decide_eq_true (this.2 (.inl e1))).symm
      · rw [if_neg e1,decide_eq_decide,this];simp [e1]
    simp only [q1,↓R1,RR,seval,RM,q1,he,hw,fq]
    cases hwi:dI [x.size,x.rate] [(1,64),(0,64)] with
    | false =>
      rw [hwi] at hpw
      have e2:pH ((c.cls.take k).map ClsI.l) x=2:=by simp only [pH,hwi,if_true]
      rw [e2] at hI hat
      repeat' (first|(with_reducible rw [ah])|(with_reducible refine And.intro ?_ ?_;exact aq)|((first|(with_reducible intro β hβ;(try simp only [RB] at hβ);(repeat (obtain ⟨⟨_,_⟩,hβ⟩:=hβ));(try (have hbis:=ag (by assumption) hβ;obtain ⟨_,_⟩:=hbis)))|(refine Pt (hpw) ?_)|((refine tm (St.aZ _ _ _) ?_)))<;>(try simp only [↓R1,RR,seval,RM,q1,he,hw,fq])))
      (have hlp:∀ γ cs y,(((σ.av L (.loop r,fr)).av M y).ad γ cs).lp L=some (.loop r,fr):=fun γ cs y=>(St.jx (fun e=>hML e.symm) ..).trans (St.aZ _ _ _));(refine hY _ _ _ (by simp [h.two]) (hlp _ _ _) (h.stop L r k _ _ _ hat (by decide) (hlp _ _ _) (df hL (St.aM (vb hM) (by assumption))) (fun s hs hq=>?_)));simp only [↓R1,RR,seval,RM,q1,he,hw,fq];(refine cq (.inr (.inl ⟨hs,hq (by rw [hI];rfl)⟩)) (by simp [aj]))
    | true =>
      rw [hwi] at hpw
      cases hmg:iA m x.l with
      | true =>
        have e2:pH ((c.cls.take k).map ClsI.l) x=8:=by
          rw [hmm,decide_eq_true_eq] at hmg
          simp only [pH,hwi,hmg,if_true];rfl
        rw [e2] at hI hat
        repeat' (first|(with_reducible rw [ah])|(with_reducible refine And.intro ?_ ?_;exact aq)|((first|(with_reducible intro β hβ;(try simp only [RB] at hβ);(repeat (obtain ⟨⟨_,_⟩,hβ⟩:=hβ));(try (have hbis:=ag (by assumption) hβ;obtain ⟨_,_⟩:=hbis)))|(refine Pt (hpw) ?_)|((refine AH (St.aZ _ _ _) ?_;rw [hmg];simp only [↓R1,RR,seval,RM,q1,he,hw,fq]))|((refine tm (St.aZ _ _ _) ?_)))<;>(try simp only [↓R1,RR,seval,RM,q1,he,hw,fq])))
        (have hlp:∀ γ cs y,(((σ.av L (.loop r,fr)).av M y).ad γ cs).lp L=some (.loop r,fr):=fun γ cs y=>(St.jx (fun e=>hML e.symm) ..).trans (St.aZ _ _ _));(refine hY _ _ _ (by simp [h.two]) (hlp _ _ _) (h.stop L r k _ _ _ hat (by decide) (hlp _ _ _) (df hL (St.aM (vb hM) (by assumption))) (fun s hs hq=>?_)));simp only [↓R1,RR,seval,RM,q1,he,hw,fq];(refine cq (.inr (.inl ⟨hs,hq (by rw [hI];rfl)⟩)) (by simp [aj]))
      | false =>
        have e2:pH ((c.cls.take k).map ClsI.l) x=0:=by
          rw [hmm,decide_eq_false_iff_not] at hmg
          simp only [pH,hwi,hmg,if_false];rfl
        rw [e2] at hI hat
        repeat' (first|(with_reducible rw [ah])|(with_reducible refine And.intro ?_ ?_;exact aq)|((first|(with_reducible intro β hβ;(try simp only [RB] at hβ);(repeat (obtain ⟨⟨_,_⟩,hβ⟩:=hβ));(try (have hbis:=ag (by assumption) hβ;obtain ⟨_,_⟩:=hbis)))|(refine Pt (hpw) ?_)|((refine AH (St.aZ _ _ _) ?_;rw [hmg];simp only [↓R1,RR,seval,RM,q1,he,hw,fq]))|((refine tm (St.aZ _ _ _) ?_)))<;>(try simp only [↓R1,RR,seval,RM,q1,he,hw,fq])))
        have hlp:∀ γ cs y,(((σ.av L (.loop r,fr)).av M y).ad γ cs).lp L=some (.loop r,fr):=fun γ cs y=>(St.jx (fun e=>hML e.symm) ..).trans (St.aZ _ _ _)
        refine hY _ _ _ (by simp [h.two]) (hlp _ _ _) (h.go L r k _ _ hat (hlp _ _ _) (df hL (St.aM (vb hM) (by assumption))) ?_)
        rw [if_pos rfl] at hI
        simp only [↓R1,RR,seval,RM,q1,he,hw,fq]
        exact ⟨(k+1,_,_),⟨hlt,hI,hnext _⟩,by simp [aE,slot,ae],St.aM (St.le_refl _) (by assumption),by simp only;omega⟩
  · have hke:k=c.cls.length:=by omega
    subst hke
    have q1:decide ((c.cls.length:Int)<(c.cls.length:Int))=false:=by simp
    rw [List.drop_eq_nil_of_le (by omega)] at hI
    simp only [q1,↓R1,RR,seval,RM,q1,he,hw,fq]
    skip
    refine cq (.inl ⟨(St.jx (fun e=>hML e.symm) ..).trans (St.aZ _ _ _),h.fin hI _ (df hL (vb hM))⟩) (by simp [aj])
theorem BX {α:Type} {f:α→Int} {l:List α} {k:Nat} {x:α} (h:l[k]? =some x):(l.map f)[k]? =some (f x):=by simp [h]
set_option maxHeartbeats 4000000 in
theorem uf {prs:List Nat} {asg body:CC} {fr:Fr} {σ:St} {Q:Exit→Fr→St→Prop} {β:Nat} {c:CfgI} (hc:CfgOk c) (hβ:σ.box β=some (bK c)) (h:Errs prs asg body fr σ Q (c.tens.map tenE)) :
    RF Tryz.prog 164 [.ptr β 0] prs asg body fr σ Q:=by
  refine ⟨by kernel_rfl,fun L r hL hr1 hr2 hY=>?_⟩
  have q1:True:=trivial
  have he:True:=trivial
  have hw:True:=trivial
  have hln:True:=trivial
  have hc1:=E8 hc
  have hcl:=eJ hc
  have h6:=hc.six
  have hlen:(c.tens.map tenE).length=6:=by simp [h6]
  have hb2:(σ.av L (r,fr)).box β=some (bK c):=hβ
  refine aT Hv LA ?_
  have h0:1+30≤(bK c).length:=by rw [hcl];decide
  simp only [Hv,hb2,hc1,h0,hcl,↓R1,RR,seval,q1,he,hw,ia,hln]
  refine bn 6 (fun k=> [(0, .yld L),(3, .sl true 5 [.int .i64 1, .int .i64 64, .int .i64 0, .int .i64 4, .int .i64 0, .int .i64 64, .int .i64 0, .int .i64 64, .int .i64 0, .int .i64 64]),(14, .agg (c.tens.flatMap ia)),(15, .int .i64 (k:Nat))]) (fun _=>σ.av L (r,fr))
    (fun k=>firstE (c.tens.map tenE) 0=firstE ((c.tens.map tenE).drop k) k) (by simp [aE,slot,ae]) (St.le_refl _) rfl (fun k hk hI=>?_)
  by_cases hlt:k<6
  · obtain ⟨x,hx⟩:∃ x,c.tens[k]? =some x:=⟨_,List.getElem?_eq_getElem (by omega)⟩
    have hat:=BX (f:=tenE) hx
    rw [ib hat] at hI
    have he:=ej (f:=ia) (m:=5) (fun _=>rfl) hx
    have hln:=ei c.tens
    rw [h6] at hln
    have q1:decide ((k:Int)<6)=true:=by rw [decide_eq_true_eq];omega
    have hw:IntKind.i64.wrap ((k:Int)+1)=((k+1:Nat):Int):=by rw [wrap64 (by omega) (by omega)];omega
    simp only [ia] at he
    have hpw:=J1 true true [x.budget,x.queries,x.cap,x.out,x.audit] [(1,64),(0,4),(0,64),(0,64),(0,64)] rfl (by simp)
    simp only [rW,cPr,List.map,List.flatMap_cons,List.flatMap_nil,List.append_nil,List.cons_append,List.nil_append,List.length_cons,List.length_nil] at hpw
    simp only [q1,↓R1,RR,seval,q1,he,hw,ia,hln]
    cases hwi:dI [x.budget,x.queries,x.cap,x.out,x.audit] [(1,64),(0,4),(0,64),(0,64),(0,64)] with
    | false =>
      rw [hwi] at hpw
      have e2:tenE x=2:=by simp only [tenE,hwi,if_true]
      rw [e2] at hI hat
      repeat' (first|(with_reducible rw [ah])|(with_reducible refine And.intro ?_ ?_;exact aq)|((first|(with_reducible intro β hβ;(try simp only [RB] at hβ);(repeat (obtain ⟨⟨_,_⟩,hβ⟩:=hβ));(try (have hbis:=ag (by assumption) hβ;obtain ⟨_,_⟩:=hbis)))|(refine Pt (hpw) ?_))<;>(try simp only [↓R1,RR,seval,q1,he,hw,ia,hln])))
      (refine hY _ _ _ (by simp [h.two]) (St.aZ _ _ _) (h.stop L r k _ _ _ hat (by decide) (St.aZ _ _ _) (df hL (St.aM (St.le_refl _) (by assumption))) (fun s hs hq=>?_)));simp only [↓R1,RR,seval,q1,he,hw,ia,hln];(refine cq (.inr (.inl ⟨hs,hq (by rw [hI];rfl)⟩)) (by simp [aj]))
    | true =>
      rw [hwi] at hpw
      have e2:tenE x=0:=by simp only [tenE,hwi];rfl
      rw [e2] at hI hat
      repeat' (first|(with_reducible rw [ah])|(with_reducible refine And.intro ?_ ?_;exact aq)|((first|(with_reducible intro β hβ;(try simp only [RB] at hβ);(repeat (obtain ⟨⟨_,_⟩,hβ⟩:=hβ));(try (have hbis:=ag (by assumption) hβ;obtain ⟨_,_⟩:=hbis)))|(refine Pt (hpw) ?_))<;>(try simp only [↓R1,RR,seval,q1,he,hw,ia,hln])))
      (refine hY _ _ _ (by simp [h.two]) (St.aZ _ _ _) (h.go L r k _ _ hat (St.aZ _ _ _) (df hL (St.aM (St.le_refl _) (by assumption))) ?_));rw [if_pos rfl] at hI;simp only [↓R1,RR,seval,q1,he,hw,ia,hln];exact ⟨hlt,hI,by simp [aE,slot,ae],St.aM (St.le_refl _) (by assumption)⟩
  · have hke:k=6:=by omega
    subst hke
    rw [List.drop_eq_nil_of_le (by omega)] at hI
    have q1:decide (((6:Nat):Int)<6)=false:=by decide
    simp only [q1,↓R1,RR,seval,q1,he,hw,ia,hln]
    skip
    refine cq (.inl ⟨St.aZ _ _ _,h.fin hI _ (df hL (St.le_refl _))⟩) (by simp [aj])
set_option maxHeartbeats 4000000 in
theorem BY {prs:List Nat} {asg body:CC} {fr:Fr} {σ:St} {Q:Exit→Fr→St→Prop} {β:Nat} {c:CfgI} (hc:CfgOk c) (hβ:σ.box β=some (bK c)) (h:Errs prs asg body fr σ Q (c.ruls.map rulE)) :
  RF Tryz.prog 165 [.ptr β 0] prs asg body fr σ Q:=by
 refine ⟨by kernel_rfl,fun L r hL hr1 hr2 hY=>?_⟩
 have q1:True:=trivial
 have he:True:=trivial
 have hw:True:=trivial
 have hln:True:=trivial
 have hc1:=ud hc
 have hcl:=eJ hc
 have hn:=hc.nrul
 have hlen:(c.ruls.map rulE).length=c.ruls.length:=by simp
 have hb2:(σ.av L (r,fr)).box β=some (bK c):=hβ
 refine aT Hw LB ?_
 have h0:31<(bK c).length:=by rw [hcl];decide
 simp only [Hw,hb2,hc1,h0,↓R1,RR,seval,q1,he,hw,gM,hln]
 refine bn c.ruls.length (fun k=> [(0, .yld L),(7, .sl false c.ruls.length (c.ruls.flatMap gM)),(8, .int .i64 (c.ruls.length:Nat)),(9, .int .i64 (k:Nat))]) (fun _=>σ.av L (r,fr))
  (fun k=>firstE (c.ruls.map rulE) 0=firstE ((c.ruls.map rulE).drop k) k) (by simp [aE,slot,ae]) (St.le_refl _) rfl (fun k hk hI=>?_)
 by_cases hlt:k<c.ruls.length
 ·obtain ⟨x,hx⟩:∃ x,c.ruls[k]? =some x:=⟨_,List.getElem?_eq_getElem hlt⟩
  have hat:=BX (f:=rulE) hx
  rw [ib hat] at hI
  have he:=ej (f:=gM) (m:=7) (fun _=>rfl) hx
  have hln:=rY c.ruls
  have hxm:=hc.lrul x (List.mem_of_getElem? hx)
  have q1:decide ((k:Int)<(c.ruls.length:Int))=true:=by rw [decide_eq_true_eq];omega
  have hw:IntKind.i64.wrap ((k:Int)+1)=((k+1:Nat):Int):=by rw [wrap64 (by omega) (by omega)];omega
  simp only [gM] at he
  have hpw:=LP (lab x.res) (lab x.auth)
  rw [e7 hxm.1,e7 hxm.2] at hpw
  simp only [q1,↓R1,RR,seval,q1,he,hw,gM,hln]
  repeat' (first|(with_reducible rw [ah])|(with_reducible refine And.intro ?_ ?_;exact aq)|(with_reducible apply And.intro)|((first|(refine an (fun hc=>?_) (fun hc=>?_))|(with_reducible intro β hβ;(try simp only [RB] at hβ);(repeat (obtain ⟨⟨_,_⟩,hβ⟩:=hβ));(try (have hbis:=ag (by assumption) hβ;obtain ⟨_,_⟩:=hbis)))|(refine Pt (hpw) ?_))<;>(try simp only [↓R1,RR,seval,q1,he,hw,gM,hln])))
  ·simp_all
  ·have e2:rulE x=2:=by simp only [rulE,hc,if_true]
   rw [e2] at hI hat
   (refine hY _ _ _ (by simp [h.two]) (St.aZ _ _ _) (h.stop L r k _ _ _ hat (by decide) (St.aZ _ _ _) (df hL (St.aM (St.le_refl _) (by assumption))) (fun s hs hq=>?_)));simp only [↓R1,RR,seval,q1,he,hw,gM,hln];(refine cq (.inr (.inl ⟨hs,hq (by rw [hI];rfl)⟩)) (by simp [aj]))
  ·rename_i hc2
   have e2:rulE x=13:=by
    rw [Bool.not_eq_true'] at hc
    simp only [rulE,hc2,hc,if_true];rfl
   rw [e2] at hI hat
   (refine hY _ _ _ (by simp [h.two]) (St.aZ _ _ _) (h.stop L r k _ _ _ hat (by decide) (St.aZ _ _ _) (df hL (St.aM (St.le_refl _) (by assumption))) (fun s hs hq=>?_)));simp only [↓R1,RR,seval,q1,he,hw,gM,hln];(refine cq (.inr (.inl ⟨hs,hq (by rw [hI];rfl)⟩)) (by simp [aj]))
  ·rename_i hc2 hc3
   have e2:rulE x=9:=by
    rw [Bool.not_eq_false'] at hc3
    rw [decide_eq_true_eq] at hc
    simp only [rulE,hc2,hc3,hc,if_true];rfl
   rw [e2] at hI hat
   (refine hY _ _ _ (by simp [h.two]) (St.aZ _ _ _) (h.stop L r k _ _ _ hat (by decide) (St.aZ _ _ _) (df hL (St.aM (St.le_refl _) (by assumption))) (fun s hs hq=>?_)));simp only [↓R1,RR,seval,q1,he,hw,gM,hln];(refine cq (.inr (.inl ⟨hs,hq (by rw [hI];rfl)⟩)) (by simp [aj]))
  ·rename_i hc2 hc3
   have e2:rulE x=0:=by
    rw [Bool.not_eq_false'] at hc3
    rw [decide_eq_false_iff_not] at hc
    simp only [rulE,hc2,hc3,hc,if_false];rfl
   rw [e2] at hI hat
   (refine hY _ _ _ (by simp [h.two]) (St.aZ _ _ _) (h.go L r k _ _ hat (St.aZ _ _ _) (df hL (St.aM (St.le_refl _) (by assumption))) ?_));rw [if_pos rfl] at hI;simp only [↓R1,RR,seval,q1,he,hw,gM,hln];exact ⟨hlt,hI,by simp [aE,slot,ae],St.aM (St.le_refl _) (by assumption)⟩
 ·have hke:k=c.ruls.length:=by omega
  subst hke
  have q1:decide ((c.ruls.length:Int)<(c.ruls.length:Int))=false:=by simp
  rw [List.drop_eq_nil_of_le (by omega)] at hI
  simp only [q1,↓R1,RR,seval,q1,he,hw,gM,hln]
  skip
  refine cq (.inl ⟨St.aZ _ _ _,h.fin hI _ (df hL (St.le_refl _))⟩) (by simp [aj])
structure OpI where
 kind:Int
 tenant:Int
 label:Int
 text:List UInt8
 number:Int
 most:Int
 idl:Int
 idn:Int
def cOp (o:OpI):List AV:= [.int .i64 o.kind, .int .i64 o.tenant, .int .u64 o.label, .str o.text, .int .i64 o.number, .int .i64 o.most, .int .u64 o.idl, .int .u64 o.idn]
def eb {α β:Type} (o:Except Ft α) (f:α→Except Ft β):Except Ft β:=match o with
 | .ok a=>f a
 | .error e=> .error e
theorem E9 {α β:Type} {o:Except Ft α} {a:α} (f:α→Except Ft β) (h:o= .ok a):eb o f=f a:=by rw [h];rfl
theorem J2 {α β:Type} {o:Except Ft α} {e:Ft} (f:α→Except Ft β) (h:o= .error e):eb o f= .error e:=by rw [h];rfl
def fU (w1 w2:Wd):Except Ft OpI:=eb (da w1) fun t=>eb (kg w2) fun l=> .ok ⟨1,t,l,[],0,0,0,0⟩
def mP (w1 w2:Wd):Except Ft OpI:=eb (da w1) fun t=>eb (mM w2) fun x=> .ok ⟨2,t,0,x,0,0,0,0⟩
def rZ (w1 w2:Wd):Except Ft OpI:=eb (da w1) fun t=>eb (da w2) fun n=> .ok ⟨3,t,0,[],n,0,0,0⟩
def iy (w1 w2 w3:Wd):Except Ft OpI:=eb (BT w1) fun k=>eb (kg w2) fun l=>eb (da w3) fun v=> .ok ⟨4,0,0,lE (BitVec.ofInt 64 l) k v,0,0,0,0⟩
def pI (w1:Wd):Except Ft OpI:=eb (mM w1) fun x=> .ok ⟨4,0,0,x,0,0,0,0⟩
def BZ:Except Ft OpI:= .ok ⟨5,0,0,[],0,0,0,0⟩
def r4 (w1 w2:Wd):Except Ft OpI:=eb (da w1) fun t=>eb (da w2) fun m=> .ok ⟨6,t,0,[],0,m,0,0⟩
def dW (w1 w2 w3:Wd):Except Ft OpI:=eb (da w1) fun t=>eb (da w2) fun n=>eb (H9 w3) fun i=> .ok ⟨7,t,0,[],n,0,i.1,i.2⟩
def ki (w1 w2 w3:Wd):Except Ft OpI:=eb (da w1) fun t=>eb (da w2) fun n=>eb (da w3) fun m=> .ok ⟨8,t,0,[],n,m,0,0⟩
set_option maxHeartbeats 2000000 in
theorem x88 {σ σ0:St} {β:Nat} {r:Rw} {w0 w1 w2:Wd} (h:Cu σ0 σ β r 1) (hws:r.ws= [w0,w1,w2]):AX Tryz.prog 88 [.ptr β 0] σ (oX TS (fU w1 w2) (fun o=> .agg (cOp o)) (fun _=>σ.ad β (cur r 3)) σ0):=by
 haveI:BoxIs σ β (cur r 1):=⟨h.hb⟩
 have h0:=h.h0
 have hlw:=h.lw
 have hw1:r.ws[1]? =some w1:=by rw [hws];rfl
 have hw2:r.ws[2]? =some w2:=by rw [hws];rfl
 (refine aN c88 b88 ?_;simp only [c88,↓R1,RR,seval,RX,cOp])
 repeat' (first|(with_reducible rw [ah])|((first|(with_reducible intro β hβ;(try simp only [RB] at hβ);(repeat (obtain ⟨⟨_,_⟩,hβ⟩:=hβ));(try (have hbis:=ag (by assumption) hβ;obtain ⟨_,_⟩:=hbis)))|((refine bu (x7 (σ0:=σ0) (r:=r) (k:=1) ?_ hw1) (aa _) (fun a1 ho1=>?_) (fun e ho1=>?_);(focus ((repeat' (first|assumption|(refine Cu.to (k:=1) ?_)|(refine Cu.new ?_ (by first|assumption|(simp only [↓R1,RR,seval,RX,cOp];done)))));done))))|((refine bu (JZ (σ0:=σ0) (r:=r) (k:=2) ?_ hw2) (aa _) (fun a2 ho2=>?_) (fun e ho2=>?_);(focus ((repeat' (first|assumption|(refine Cu.to (k:=1) ?_)|(refine Cu.new ?_ (by first|assumption|(simp only [↓R1,RR,seval,RX,cOp];done)))));done)))))<;>(try simp only [↓R1,RR,seval,RX,cOp])))
 all_goals first|(refine aO ?_ (St.aI _);focus (simp only [fU,eb,ho1];done))|(refine aO ?_ (St.aI _);focus (simp only [fU,eb,ho1,ho2];done))|(refine cJ ((by simp only [fU,eb,ho1,ho2];rfl)) ?_ ?_ (by first|(simp [aj,rvS];done)|(simp only [aj,rvS,↓R1,RR,seval,RX,cOp];try simp));(focus (simp only [ao,↓R1,RR,seval,RX,cOp];exact ae _));exact bo)
set_option maxHeartbeats 2000000 in
theorem x89 {σ σ0:St} {β:Nat} {r:Rw} {w0 w1 w2:Wd} (h:Cu σ0 σ β r 1) (hws:r.ws= [w0,w1,w2]):AX Tryz.prog 89 [.ptr β 0] σ (oX TS (mP w1 w2) (fun o=> .agg (cOp o)) (fun _=>σ.ad β (cur r 3)) σ0):=by
 haveI:BoxIs σ β (cur r 1):=⟨h.hb⟩
 have h0:=h.h0
 have hlw:=h.lw
 have hw1:r.ws[1]? =some w1:=by rw [hws];rfl
 have hw2:r.ws[2]? =some w2:=by rw [hws];rfl
 (refine aN c89 b89 ?_;simp only [c89,↓R1,RR,seval,RX,cOp])
 repeat' (first|(with_reducible rw [ah])|((first|(with_reducible intro β hβ;(try simp only [RB] at hβ);(repeat (obtain ⟨⟨_,_⟩,hβ⟩:=hβ));(try (have hbis:=ag (by assumption) hβ;obtain ⟨_,_⟩:=hbis)))|((refine bu (x7 (σ0:=σ0) (r:=r) (k:=1) ?_ hw1) (aa _) (fun a1 ho1=>?_) (fun e ho1=>?_);(focus ((repeat' (first|assumption|(refine Cu.to (k:=1) ?_)|(refine Cu.new ?_ (by first|assumption|(simp only [↓R1,RR,seval,RX,cOp];done)))));done))))|((refine bu (J0 (σ0:=σ0) (r:=r) (k:=2) ?_ hw2) (aa _) (fun a2 ho2=>?_) (fun e ho2=>?_);(focus ((repeat' (first|assumption|(refine Cu.to (k:=1) ?_)|(refine Cu.new ?_ (by first|assumption|(simp only [↓R1,RR,seval,RX,cOp];done)))));done)))))<;>(try simp only [↓R1,RR,seval,RX,cOp])))
 all_goals first|(refine aO ?_ (St.aI _);focus (simp only [mP,eb,ho1];done))|(refine aO ?_ (St.aI _);focus (simp only [mP,eb,ho1,ho2];done))|(refine cJ ((by simp only [mP,eb,ho1,ho2];rfl)) ?_ ?_ (by first|(simp [aj,rvS];done)|(simp only [aj,rvS,↓R1,RR,seval,RX,cOp];try simp));(focus (simp only [ao,↓R1,RR,seval,RX,cOp];exact ae _));exact bo)
set_option maxHeartbeats 2000000 in
theorem x90 {σ σ0:St} {β:Nat} {r:Rw} {w0 w1 w2:Wd} (h:Cu σ0 σ β r 1) (hws:r.ws= [w0,w1,w2]):AX Tryz.prog 90 [.ptr β 0] σ (oX TS (rZ w1 w2) (fun o=> .agg (cOp o)) (fun _=>σ.ad β (cur r 3)) σ0):=by
 haveI:BoxIs σ β (cur r 1):=⟨h.hb⟩
 have h0:=h.h0
 have hlw:=h.lw
 have hw1:r.ws[1]? =some w1:=by rw [hws];rfl
 have hw2:r.ws[2]? =some w2:=by rw [hws];rfl
 (refine aN c90 b90 ?_;simp only [c90,↓R1,RR,seval,RX,cOp])
 repeat' (first|(with_reducible rw [ah])|((first|(with_reducible intro β hβ;(try simp only [RB] at hβ);(repeat (obtain ⟨⟨_,_⟩,hβ⟩:=hβ));(try (have hbis:=ag (by assumption) hβ;obtain ⟨_,_⟩:=hbis)))|((refine bu (x7 (σ0:=σ0) (r:=r) (k:=1) ?_ hw1) (aa _) (fun a1 ho1=>?_) (fun e ho1=>?_);(focus ((repeat' (first|assumption|(refine Cu.to (k:=1) ?_)|(refine Cu.new ?_ (by first|assumption|(simp only [↓R1,RR,seval,RX,cOp];done)))));done))))|((refine bu (ua (σ0:=σ0) (r:=r) (k:=2) ?_ hw2) (aa _) (fun a2 ho2=>?_) (fun e ho2=>?_);(focus ((repeat' (first|assumption|(refine Cu.to (k:=1) ?_)|(refine Cu.new ?_ (by first|assumption|(simp only [↓R1,RR,seval,RX,cOp];done)))));done)))))<;>(try simp only [↓R1,RR,seval,RX,cOp])))
 all_goals first|(refine aO ?_ (St.aI _);focus (simp only [rZ,eb,ho1];done))|(refine aO ?_ (St.aI _);focus (simp only [rZ,eb,ho1,ho2];done))|(refine cJ ((by simp only [rZ,eb,ho1,ho2];rfl)) ?_ ?_ (by first|(simp [aj,rvS];done)|(simp only [aj,rvS,↓R1,RR,seval,RX,cOp];try simp));(focus (simp only [ao,↓R1,RR,seval,RX,cOp];exact ae _));exact bo)
set_option maxHeartbeats 2000000 in
theorem x92 {σ σ0:St} {β:Nat} {r:Rw} {w0 w1:Wd} (h:Cu σ0 σ β r 1) (hws:r.ws= [w0,w1]):AX Tryz.prog 92 [.ptr β 0] σ (oX TS (pI w1) (fun o=> .agg (cOp o)) (fun _=>σ.ad β (cur r 2)) σ0):=by
 haveI:BoxIs σ β (cur r 1):=⟨h.hb⟩
 have h0:=h.h0
 have hlw:=h.lw
 have hw1:r.ws[1]? =some w1:=by rw [hws];rfl
 (refine aN c92 b92 ?_;simp only [c92,↓R1,RR,seval,RX,cOp])
 repeat' (first|(with_reducible rw [ah])|((first|(with_reducible intro β hβ;(try simp only [RB] at hβ);(repeat (obtain ⟨⟨_,_⟩,hβ⟩:=hβ));(try (have hbis:=ag (by assumption) hβ;obtain ⟨_,_⟩:=hbis)))|((refine bu (J0 (σ0:=σ0) (r:=r) (k:=1) ?_ hw1) (aa _) (fun a1 ho1=>?_) (fun e ho1=>?_);(focus ((repeat' (first|assumption|(refine Cu.to (k:=1) ?_)|(refine Cu.new ?_ (by first|assumption|(simp only [↓R1,RR,seval,RX,cOp];done)))));done)))))<;>(try simp only [↓R1,RR,seval,RX,cOp])))
 all_goals first|(refine aO ?_ (St.aI _);focus (simp only [pI,eb,ho1];done))|(refine cJ ((by simp only [pI,eb,ho1];rfl)) ?_ ?_ (by first|(simp [aj,rvS];done)|(simp only [aj,rvS,↓R1,RR,seval,RX,cOp];try simp));(focus (simp only [ao,↓R1,RR,seval,RX,cOp];exact ae _));exact bo)
set_option maxHeartbeats 2000000 in
theorem x94 {σ σ0:St} {β:Nat} {r:Rw} {w0 w1 w2:Wd} (h:Cu σ0 σ β r 1) (hws:r.ws= [w0,w1,w2]):AX Tryz.prog 94 [.ptr β 0] σ (oX TS (r4 w1 w2) (fun o=> .agg (cOp o)) (fun _=>σ.ad β (cur r 3)) σ0):=by
 haveI:BoxIs σ β (cur r 1):=⟨h.hb⟩
 have h0:=h.h0
 have hlw:=h.lw
 have hw1:r.ws[1]? =some w1:=by rw [hws];rfl
 have hw2:r.ws[2]? =some w2:=by rw [hws];rfl
 (refine aN c94 b94 ?_;simp only [c94,↓R1,RR,seval,RX,cOp])
 repeat' (first|(with_reducible rw [ah])|((first|(with_reducible intro β hβ;(try simp only [RB] at hβ);(repeat (obtain ⟨⟨_,_⟩,hβ⟩:=hβ));(try (have hbis:=ag (by assumption) hβ;obtain ⟨_,_⟩:=hbis)))|((refine bu (x7 (σ0:=σ0) (r:=r) (k:=1) ?_ hw1) (aa _) (fun a1 ho1=>?_) (fun e ho1=>?_);(focus ((repeat' (first|assumption|(refine Cu.to (k:=1) ?_)|(refine Cu.new ?_ (by first|assumption|(simp only [↓R1,RR,seval,RX,cOp];done)))));done))))|((refine bu (ua (σ0:=σ0) (r:=r) (k:=2) ?_ hw2) (aa _) (fun a2 ho2=>?_) (fun e ho2=>?_);(focus ((repeat' (first|assumption|(refine Cu.to (k:=1) ?_)|(refine Cu.new ?_ (by first|assumption|(simp only [↓R1,RR,seval,RX,cOp];done)))));done)))))<;>(try simp only [↓R1,RR,seval,RX,cOp])))
 all_goals first|(refine aO ?_ (St.aI _);focus (simp only [r4,eb,ho1];done))|(refine aO ?_ (St.aI _);focus (simp only [r4,eb,ho1,ho2];done))|(refine cJ ((by simp only [r4,eb,ho1,ho2];rfl)) ?_ ?_ (by first|(simp [aj,rvS];done)|(simp only [aj,rvS,↓R1,RR,seval,RX,cOp];try simp));(focus (simp only [ao,↓R1,RR,seval,RX,cOp];exact ae _));exact bo)
set_option maxHeartbeats 2000000 in
theorem x96 {σ σ0:St} {β:Nat} {r:Rw} {w0 w1 w2 w3:Wd} (h:Cu σ0 σ β r 1) (hws:r.ws= [w0,w1,w2,w3]):AX Tryz.prog 96 [.ptr β 0] σ (oX TS (ki w1 w2 w3) (fun o=> .agg (cOp o)) (fun _=>σ.ad β (cur r 4)) σ0):=by
 haveI:BoxIs σ β (cur r 1):=⟨h.hb⟩
 have h0:=h.h0
 have hlw:=h.lw
 have hw1:r.ws[1]? =some w1:=by rw [hws];rfl
 have hw2:r.ws[2]? =some w2:=by rw [hws];rfl
 have hw3:r.ws[3]? =some w3:=by rw [hws];rfl
 (refine aN c96 b96 ?_;simp only [c96,↓R1,RR,seval,RX,cOp])
 repeat' (first|(with_reducible rw [ah])|((first|(with_reducible intro β hβ;(try simp only [RB] at hβ);(repeat (obtain ⟨⟨_,_⟩,hβ⟩:=hβ));(try (have hbis:=ag (by assumption) hβ;obtain ⟨_,_⟩:=hbis)))|((refine bu (x7 (σ0:=σ0) (r:=r) (k:=1) ?_ hw1) (aa _) (fun a1 ho1=>?_) (fun e ho1=>?_);(focus ((repeat' (first|assumption|(refine Cu.to (k:=1) ?_)|(refine Cu.new ?_ (by first|assumption|(simp only [↓R1,RR,seval,RX,cOp];done)))));done))))|((refine bu (ua (σ0:=σ0) (r:=r) (k:=2) ?_ hw2) (aa _) (fun a2 ho2=>?_) (fun e ho2=>?_);(focus ((repeat' (first|assumption|(refine Cu.to (k:=1) ?_)|(refine Cu.new ?_ (by first|assumption|(simp only [↓R1,RR,seval,RX,cOp];done)))));done))))|((refine bu (ua (σ0:=σ0) (r:=r) (k:=3) ?_ hw3) (aa _) (fun a3 ho3=>?_) (fun e ho3=>?_);(focus ((repeat' (first|assumption|(refine Cu.to (k:=1) ?_)|(refine Cu.new ?_ (by first|assumption|(simp only [↓R1,RR,seval,RX,cOp];done)))));done)))))<;>(try simp only [↓R1,RR,seval,RX,cOp])))
 all_goals first|(refine aO ?_ (St.aI _);focus (simp only [ki,eb,ho1];done))|(refine aO ?_ (St.aI _);focus (simp only [ki,eb,ho1,ho2];done))|(refine aO ?_ (St.aI _);focus (simp only [ki,eb,ho1,ho2,ho3];done))|(refine cJ ((by simp only [ki,eb,ho1,ho2,ho3];rfl)) ?_ ?_ (by first|(simp [aj,rvS];done)|(simp only [aj,rvS,↓R1,RR,seval,RX,cOp];try simp));(focus (simp only [ao,↓R1,RR,seval,RX,cOp];exact ae _));exact bo)
set_option maxHeartbeats 2000000 in
theorem x95 {σ σ0:St} {β:Nat} {r:Rw} {w0 w1 w2 w3:Wd} (h:Cu σ0 σ β r 1) (hws:r.ws= [w0,w1,w2,w3]) (hσ:bY gl3 σ):AX Tryz.prog 95 [.ptr β 0] σ (oX TS (dW w1 w2 w3) (fun o=> .agg (cOp o)) (fun _=>σ.ad β (cur r 4)) σ0):=by
 haveI:BoxIs σ β (cur r 1):=⟨h.hb⟩
 have h0:=h.h0
 have hlw:=h.lw
 have hw1:r.ws[1]? =some w1:=by rw [hws];rfl
 have hw2:r.ws[2]? =some w2:=by rw [hws];rfl
 have hw3:r.ws[3]? =some w3:=by rw [hws];rfl
 (refine aN c95 b95 ?_;simp only [c95,↓R1,RR,seval,RX,cOp])
 repeat' (first|(with_reducible rw [ah])|((first|(with_reducible intro β hβ;(try simp only [RB] at hβ);(repeat (obtain ⟨⟨_,_⟩,hβ⟩:=hβ));(try (have hbis:=ag (by assumption) hβ;obtain ⟨_,_⟩:=hbis)))|((refine bu (x7 (σ0:=σ0) (r:=r) (k:=1) ?_ hw1) (aa _) (fun a1 ho1=>?_) (fun e ho1=>?_);(focus ((repeat' (first|assumption|(refine Cu.to (k:=1) ?_)|(refine Cu.new ?_ (by first|assumption|(simp only [↓R1,RR,seval,RX,cOp];done)))));done))))|((refine bu (ua (σ0:=σ0) (r:=r) (k:=2) ?_ hw2) (aa _) (fun a2 ho2=>?_) (fun e ho2=>?_);(focus ((repeat' (first|assumption|(refine Cu.to (k:=1) ?_)|(refine Cu.new ?_ (by first|assumption|(simp only [↓R1,RR,seval,RX,cOp];done)))));done))))|((refine bu (MK (σ0:=σ0) (r:=r) (k:=3) ?_ hw3 (by intro k cs hk;exact hσ k cs hk)) (aa _) (fun a3 ho3=>?_) (fun e ho3=>?_);(focus ((repeat' (first|assumption|(refine Cu.to (k:=1) ?_)|(refine Cu.new ?_ (by first|assumption|(simp only [↓R1,RR,seval,RX,cOp];done)))));done)))))<;>(try simp only [↓R1,RR,seval,RX,cOp])))
 all_goals first|(refine aO ?_ (St.aI _);focus (simp only [dW,eb,ho1];done))|(refine aO ?_ (St.aI _);focus (simp only [dW,eb,ho1,ho2];done))|(refine aO ?_ (St.aI _);focus (simp only [dW,eb,ho1,ho2,ho3];done))|(refine cJ ((by simp only [dW,eb,ho1,ho2,ho3];rfl)) ?_ ?_ (by first|(simp [aj,rvS];done)|(simp only [aj,rvS,↓R1,RR,seval,RX,cOp];try simp));(focus (simp only [ao,↓R1,RR,seval,RX,cOp];exact ae _));exact bo)
theorem x93 {σ σ0:St} {β:Nat} {r:Rw}:AX Tryz.prog 93 [.ptr β 0] σ (oX TS BZ (fun o=> .agg (cOp o)) (fun _=>σ) σ0):=by
 (refine aN c93 b93 ?_;simp only [c93,↓R1,RR,seval,RX,cOp])
 repeat' (first|(with_reducible rw [ah])|((with_reducible intro β hβ;(try simp only [RB] at hβ);(repeat (obtain ⟨⟨_,_⟩,hβ⟩:=hβ));(try (have hbis:=ag (by assumption) hβ;obtain ⟨_,_⟩:=hbis)))<;>(try simp only [↓R1,RR,seval,RX,cOp])))
 refine cJ rfl ?_ ?_ (by first|(simp [aj,rvS];done)|(simp only [aj,rvS,↓R1,RR,seval,RX,cOp];try simp))
 ·simp only [ao,↓R1,RR,seval,RX,cOp]
  exact ae _
 ·exact bo
theorem x9 {w:Wd} {a:Int} (h:kg w= .ok a):∃ x:BitVec 64,a=(x.toNat:Int):=by
 unfold kg fl at h
 split at h
 ·cases h
 ·split at h
  ·cases h;exact ⟨_,rfl⟩
  ·cases h
set_option maxHeartbeats 2000000 in
theorem x91 {σ σ0:St} {β:Nat} {r:Rw} {w0 w1 w2 w3:Wd} (h:Cu σ0 σ β r 1) (hws:r.ws= [w0,w1,w2,w3]):AX Tryz.prog 91 [.ptr β 0] σ (oX TS (iy w1 w2 w3) (fun o=> .agg (cOp o)) (fun _=>σ.ad β (cur r 4)) σ0):=by
 haveI:BoxIs σ β (cur r 1):=⟨h.hb⟩
 have h0:=h.h0
 have hlw:=h.lw
 have hw1:r.ws[1]? =some w1:=by rw [hws];rfl
 have hw2:r.ws[2]? =some w2:=by rw [hws];rfl
 have hw3:r.ws[3]? =some w3:=by rw [hws];rfl
 (refine aN c91 b91 ?_;simp only [c91,↓R1,RR,seval,RX,cOp,BitVec.ofInt_natCast,BitVec.ofNat_toNat,BitVec.setWidth_eq])
 repeat' (first|(with_reducible rw [ah])|((first|(with_reducible intro β hβ;(try simp only [RB] at hβ);(repeat (obtain ⟨⟨_,_⟩,hβ⟩:=hβ));(try (have hbis:=ag (by assumption) hβ;obtain ⟨_,_⟩:=hbis)))|((refine bu (MJ (σ0:=σ0) (r:=r) (k:=1) ?_ hw1) (aa _) (fun a1 ho1=>?_) (fun e ho1=>?_);(focus ((repeat' (first|assumption|(refine Cu.to (k:=1) ?_)|(refine Cu.new ?_ (by first|assumption|(simp only [↓R1,RR,seval,RX,cOp,BitVec.ofInt_natCast,BitVec.ofNat_toNat,BitVec.setWidth_eq];done)))));done))))|((refine bu (JZ (σ0:=σ0) (r:=r) (k:=2) ?_ hw2) (aa _) (fun a2 ho2=>?_) (fun e ho2=>?_);(focus ((repeat' (first|assumption|(refine Cu.to (k:=1) ?_)|(refine Cu.new ?_ (by first|assumption|(simp only [↓R1,RR,seval,RX,cOp,BitVec.ofInt_natCast,BitVec.ofNat_toNat,BitVec.setWidth_eq];done)))));done))))|((refine bu (ua (σ0:=σ0) (r:=r) (k:=3) ?_ hw3) (aa _) (fun a3 ho3=>?_) (fun e ho3=>?_);(focus ((repeat' (first|assumption|(refine Cu.to (k:=1) ?_)|(refine Cu.new ?_ (by first|assumption|(simp only [↓R1,RR,seval,RX,cOp,BitVec.ofInt_natCast,BitVec.ofNat_toNat,BitVec.setWidth_eq];done)))));done)))))<;>(try simp only [↓R1,RR,seval,RX,cOp,BitVec.ofInt_natCast,BitVec.ofNat_toNat,BitVec.setWidth_eq])))
 all_goals first|(refine aO ?_ (St.aI _);focus (simp only [iy,eb,ho1];done))|(refine aO ?_ (St.aI _);focus (simp only [iy,eb,ho1,ho2];done))|(refine aO ?_ (St.aI _);focus (simp only [iy,eb,ho1,ho2,ho3];done))|skip
 obtain ⟨x,rfl⟩:=x9 ho2
 repeat' ((refine Pt (LZ x a1 a3) ?_)<;>(try simp only [↓R1,RR,seval,RX,cOp,BitVec.ofInt_natCast,BitVec.ofNat_toNat,BitVec.setWidth_eq]))
 refine cJ ((by simp only [iy,eb,ho1,ho2,ho3];rfl)) ?_ ?_ (by first|(simp [aj,rvS];done)|(simp only [aj,rvS,↓R1,RR,seval,RX,cOp,BitVec.ofInt_natCast,BitVec.ofNat_toNat,BitVec.setWidth_eq];try simp))
 ·simp only [ao,↓R1,RR,seval,RX,cOp,BitVec.ofInt_natCast,BitVec.ofNat_toNat,BitVec.setWidth_eq]
  exact ae _
 ·exact bo
def ug:List UInt8:= [114,101,103,105,115,116,101,114]
def EF:List UInt8:= [113,117,101,114,121]
def Ic:List UInt8:= [100,114,111,112]
def B0:List UInt8:= [105,110,103,101,115,116]
def EG:List UInt8:= [98,121,116,101,115]
def Ie:List UInt8:= [116,105,99,107]
def Ig:List UInt8:= [112,111,108,108]
def pJ:List UInt8:= [100,101,99,108,97,115,115,105,102,121]
def EH:List UInt8:= [97,117,100,105,116]
theorem uh {σ σ0:St} {r:Rw} {n:Nat} (hlw:St.lw σ0 σ) (hn:r.ws.length≠n):AX Tryz.prog 97 [.agg (cRw r), .int .i64 (n:Nat)] σ (oX TS (.error (3,(r.a:Int)):Except Ft Unit) (fun _=> .tup []) (fun _=>σ) σ0):=by
 have q1:((r.ws.length:Int) != (n:Int))=true:=by rw [bne_iff_ne];omega
 (refine aN c97 b97 ?_;simp only [c97,↓R1,RR,seval,RX,cRw,q1])
 repeat' ((first|(with_reducible intro β hβ;(try simp only [RB] at hβ);(repeat (obtain ⟨⟨_,_⟩,hβ⟩:=hβ));(try (have hbis:=ag (by assumption) hβ;obtain ⟨_,_⟩:=hbis)))|((refine cr (σ0:=σ0) (by decide) (by exact bo) ?_)))<;>(try simp only [↓R1,RR,seval,RX,cRw,q1]))
 exact aO rfl (St.aI _)
theorem jE {σ:St} {β γ:Nat} {c x:List AV} (h:σ.box γ=none):St.le (σ.ad β c) ((σ.ad γ x).ad β c):=by
 refine ⟨fun δ d hd=>?_,fun _ _ h=>h,fun _ _ h=>h,fun _ _ h=>h,fun _ _ h=>h⟩
 simp only [St.ad,upd] at hd ⊢
 split
 ·rename_i e;rw [if_pos e] at hd;exact hd
 ·rename_i e
  rw [if_neg e] at hd
  split
  ·rename_i e2;subst e2;rw [h] at hd;cases hd
  ·exact hd
theorem ui {σ:St} {r:Rw} {n:Nat} (hn:r.ws.length=n):AX Tryz.prog 97 [.agg (cRw r), .int .i64 (n:Nat)] σ (fun b v s=>b=false∧∃ κ,σ.box κ=none∧v= .ptr κ 0∧s=σ.ad κ (cur r 1)):=by
 have q1:((r.ws.length:Int) != (n:Int))=false:=by subst hn;simp
 refine DR c97 b97 ?_
 simp only [c97,↓R1,RR,seval,RX,cRw,q1]
 repeat' ((with_reducible intro β hβ;(try simp only [RB] at hβ);(repeat (obtain ⟨⟨_,_⟩,hβ⟩:=hβ));(try (have hbis:=ag (by assumption) hβ;obtain ⟨_,_⟩:=hbis)))<;>(try simp only [↓R1,RR,seval,RX,cRw,q1]))
 rename_i γ hγ _ _
 exact aB (e:= .ret) (r:= .ptr β 0) (σ':=σ.ad β (cur r 1)) (.inl rfl) (by simp [aj,rvS]) (af (by (simp only [ao,↓R1,RR,seval,RX,cRw,q1]))) (jE hγ) ⟨rfl,β,hβ,rfl,rfl⟩
theorem B1 {a b c:St} (h:St.lw a b) (k:St.le b c):St.lw a c:=by
 refine ⟨fun β x hx=>?_,fun τ x hx=>k.2.1 _ _ (h.2.1 _ _ hx),fun l x hx=>k.2.2.1 _ _ (h.2.2.1 _ _ hx),fun l x hx=>k.2.2.2.1 _ _ (h.2.2.2.1 _ _ hx),fun β T hx=>k.2.2.2.2 _ _ (h.2.2.2.2 _ _ hx)⟩
 obtain ⟨x',h1,h2⟩:=h.1 β x hx
 exact ⟨x',k.1 _ _ h1,h2⟩
def names9:List (List UInt8):= [ug,EF,Ic,B0,EG,Ie,Ig,pJ,EH]
def fA:List Nat:= [3,3,3,4,2,1,3,4,4]
def oz:List Nat:= [88,89,90,91,92,93,94,95,96]
def opW (k:Nat) (ws:List Wd):Except Ft OpI:=match k,ws with
 | 0,[_,w1,w2]=>fU w1 w2
 | 1,[_,w1,w2]=>mP w1 w2
 | 2,[_,w1,w2]=>rZ w1 w2
 | 3,[_,w1,w2,w3]=>iy w1 w2 w3
 | 4,[_,w1]=>pI w1
 | 5,[_]=>BZ
 | 6,[_,w1,w2]=>r4 w1 w2
 | 7,[_,w1,w2,w3]=>dW w1 w2 w3
 | 8,[_,w1,w2,w3]=>ki w1 w2 w3
 | _,_=>BZ
theorem Ih {α:Type} {l:List α} (h:l.length=1):∃ a0,l= [a0]:=by
 match l,h with
 | [a0],_=>exact ⟨a0,rfl⟩
theorem Ii {α:Type} {l:List α} (h:l.length=2):∃ a0 a1,l= [a0,a1]:=by
 match l,h with
 | [a0,a1],_=>exact ⟨a0,a1,rfl⟩
theorem uj {α:Type} {l:List α} (h:l.length=3):∃ a0 a1 a2,l= [a0,a1,a2]:=by
 match l,h with
 | [a0,a1,a2],_=>exact ⟨a0,a1,a2,rfl⟩
theorem Ij {α:Type} {l:List α} (h:l.length=4):∃ a0 a1 a2 a3,l= [a0,a1,a2,a3]:=by
 match l,h with
 | [a0,a1,a2,a3],_=>exact ⟨a0,a1,a2,a3,rfl⟩
theorem Il {σ σ0:St} {β k:Nat} {r:Rw} (h:Cu σ0 σ β r 1) (hσ:bY gl3 σ) (hk:k<9) (hn:r.ws.length=fA[k]?.getD 0):AX Tryz.prog (oz[k]?.getD 0) [.ptr β 0] σ (oX TS (opW k r.ws) (fun o=> .agg (cOp o)) (fun _=>σ.ad β (cur r (fA[k]?.getD 0))) σ0):=by
  have hc:k=0∨k=1∨k=2∨k=3∨k=4∨k=5∨k=6∨k=7∨k=8:=by omega
  rcases hc with rfl|rfl|rfl|rfl|rfl|rfl|rfl|rfl|rfl<;>simp only [fA,List.getElem?_cons_zero,List.getElem?_cons_succ,Option.getD_some] at hn
  · obtain ⟨w0,w1,w2,hws⟩:=uj hn
    rw [hws];exact x88 h hws
  · obtain ⟨w0,w1,w2,hws⟩:=uj hn
    rw [hws];exact x89 h hws
  · obtain ⟨w0,w1,w2,hws⟩:=uj hn
    rw [hws];exact x90 h hws
  · obtain ⟨w0,w1,w2,w3,hws⟩:=Ij hn
    rw [hws];exact x91 h hws
  · obtain ⟨w0,w1,hws⟩:=Ii hn
    rw [hws];exact x92 h hws
  · obtain ⟨w0,hws⟩:=Ih hn
    rw [hws]
    refine (x93 (σ:=σ) (σ0:=σ0) (β:=β) (r:=r)).wkd fun b v s hb=>?_
    cases b with
    | false =>
      obtain ⟨a,h1,h2,h3⟩:=hb
      refine ⟨v,σ.ad β (cur r 1),ae _,?_,a,h1,h2,rfl⟩
      rw [h3]
      refine ⟨fun γ d hd=>?_,fun _ _ h=>h,fun _ _ h=>h,fun _ _ h=>h,fun _ _ h=>h⟩
      simp only [St.ad,upd] at hd
      split at hd
      · rename_i e;subst e;cases hd;exact ⟨_,h.hb,aa _⟩
      · exact ⟨_,hd,aa _⟩
    | true=>exact ⟨v,s,ae _,St.aI _,hb⟩
  · obtain ⟨w0,w1,w2,hws⟩:=uj hn
    rw [hws];exact x94 h hws
  · obtain ⟨w0,w1,w2,w3,hws⟩:=Ij hn
    rw [hws];exact x95 h hws hσ
  · obtain ⟨w0,w1,w2,w3,hws⟩:=Ij hn
    rw [hws];exact x96 h hws
theorem jf {a b:St} {β:Nat} {c:List AV} (h:St.le a b) (hb:a.box β=some c):b.box β=some c:=h.1 _ _ hb
theorem le_none {a b:St} {β:Nat} (h:St.le a b) (hb:b.box β=none):a.box β=none:=by
 cases hq:a.box β with
 | none=>rfl
 | some c=>rw [h.1 _ _ hq] at hb;cases hb
theorem fC {fr:Fr} {σ:St} {i:CI} {K:Fr→St→Prop} {R:AV→St→Prop} (h:cI Tryz.prog [i] fr σ K):gV Tryz.prog (.o i) fr σ K R:=h
def V7 (δ n:Nat) (f:Nat) (r:Rw) (σb:St) (i:Nat) (v:AV) (s:St):Prop:=match i with
 | 0=>v= .ptr δ 2
 | 1=>v= .fn f []
 | 2=>v= .agg (cRw r)
 | 3=>v= .ptr δ 1
 | 4=>v= .int .i64 (n:Nat)
 | 5=>∃ κ,v= .ptr κ 0∧s.box κ=some (cur r 1)∧σb.box κ=none∧r.ws.length=n
 | _=>True
def z8:List AV:= [.int .i64 0, .int .i64 0, .int .u64 0, .str [], .int .i64 0, .int .i64 0, .int .u64 0, .int .u64 0]
set_option maxHeartbeats 4000000 in
theorem EI {σ0 σ1 σb:St} {r:Rw} {γ ρ δ k:Nat} {nm:List UInt8} {fr:Fr} {Q:Exit→Fr→St→Prop} (hσ:bY gl3 σb) (hlw:St.lw σ0 σb) (hle:St.le σ1 σb) (hk:k<9) (hn:r.ws.length≤20000) (ht:∀ w∈r.ws,w.t.length≤1000000)
  (hγ:σb.box γ=some (cRw r)) (hδ:σb.box δ=some [.str nm, .int .i64 ((fA[k]?.getD 0:Nat):Int), .fn (oz[k]?.getD 0) []]) (hρ:σb.box ρ=some z8) (hρ1:σ1.box ρ=none)
  (h1:slot 1 fr= .ptr γ 0) (h2:slot 2 fr= .ptr ρ 0) (h5:slot 5 fr= .ptr δ 0)
  (hno:r.ws.length≠fA[k]?.getD 0→Q (.panic []) [(0,ky TS (3,(r.a:Int)))] σ0)
  (her:r.ws.length=fA[k]?.getD 0→∀ e,opW k r.ws= .error e→Q (.panic []) [(0,ky TS e)] σ0)
  (hok:r.ws.length=fA[k]?.getD 0→∀ o,opW k r.ws= .ok o→∀ f s,St.lw σ1 s→slot 2 f= .ptr ρ 0→s.box ρ=some (cOp o)→Q .normal f s) :
  aX Tryz.prog (.invX [.o ⟨some 26, .fldA 2 (.t 5),none⟩, .o ⟨some 27, .ld (none) (.t 26),none⟩, .o ⟨some 28, .ld (some 2) (.t 1),none⟩, .o ⟨some 29, .fldA 1 (.t 5),none⟩, .o ⟨some 30, .ld (none) (.t 29),none⟩, .c (some 31) 97 [(.t 28),(.t 30)], .v (some 32) (.t 27) [(.t 31)], .o ⟨none, .st 8 (.t 2) (.t 32),none⟩] [[],[0],[],[],[3],[2,4],[1,5,5],[6,6,0,1,2,3,4,5,6]]) fr σb Q:=by
 refine n5 [26,27,28,29,30,31] 6 (V7 δ (fA[k]?.getD 0) (oz[k]?.getD 0) r σb) (by decide) ?_ ?_ ?_
 ·intro i v s s' h hs
  unfold V7 at h ⊢
  split at h
  all_goals first|exact h|skip
  obtain ⟨κ,q1,q2,q3⟩:=h
  exact ⟨κ,q1,hs.1 _ _ q2,q3⟩
 ·intro j x d hj hx hd f s hs hfr hv
  have h1':slot 1 f= .ptr γ 0:=by rw [hfr 1 (by decide)];exact h1
  have h5':slot 5 f= .ptr δ 0:=by rw [hfr 5 (by decide)];exact h5
  have hc:j=0∨j=1∨j=2∨j=3∨j=4∨j=5:=by omega
  haveI b1:BoxIs s γ [.int .i64 (r.a:Nat), .sl false r.ws.length (r.ws.flatMap cWd)]:=⟨jf hs hγ⟩
  haveI b2:BoxIs s δ [.str nm, .int .i64 ((fA[k]?.getD 0:Nat):Int), .fn (oz[k]?.getD 0) []]:=⟨jf hs hδ⟩
  have h1:=h1'
  have h5:=h5'
  have e0:True:=trivial
  have e1:True:=trivial
  have e2:True:=trivial
  have e3:True:=trivial
  have e4:True:=trivial
  rcases hc with rfl|rfl|rfl|rfl|rfl|rfl
  ·cases hx;cases hd
   refine fC ?_
   simp only [↓R1,RR,seval,h1,h2,h5,e0,e1,e2,e3,e4,RX]
   exact ⟨_,rfl,St.le_refl _,rfl⟩
  ·cases hx;cases hd
   have e0:slot 26 f= .ptr δ 2:=hv 0 26 (by simp) rfl
   refine fC ?_
   simp only [↓R1,RR,seval,h1,h2,h5,e0,e1,e2,e3,e4,RX]
   exact ⟨_,rfl,St.le_refl _,rfl⟩
  ·cases hx;cases hd
   refine fC ?_
   simp only [↓R1,RR,seval,h1,h2,h5,e0,e1,e2,e3,e4,RX]
   exact ⟨_,rfl,St.le_refl _,rfl⟩
  ·cases hx;cases hd
   refine fC ?_
   simp only [↓R1,RR,seval,h1,h2,h5,e0,e1,e2,e3,e4,RX]
   exact ⟨_,rfl,St.le_refl _,rfl⟩
  ·cases hx;cases hd
   have e3:slot 29 f= .ptr δ 1:=hv 3 29 (by simp) rfl
   refine fC ?_
   simp only [↓R1,RR,seval,h1,h2,h5,e0,e1,e2,e3,e4,RX]
   exact ⟨_,rfl,St.le_refl _,rfl⟩
  ·cases hx;cases hd
   have e2:slot 28 f= .agg (cRw r):=hv 2 28 (by simp) rfl
   have e4:slot 30 f= .int .i64 ((fA[k]?.getD 0:Nat):Int):=hv 4 30 (by simp) rfl
   simp only [gV,List.map_cons,List.map_nil,ev,e2,e4]
   by_cases hln:r.ws.length=fA[k]?.getD 0
   ·refine (ui hln).mono fun b v s' hb=>?_
    obtain ⟨rfl,κ,q1,rfl,rfl⟩:=hb
    exact ⟨_,rfl,St.aM (St.le_refl _) q1,κ,rfl,St.bL _ _ _,le_none hs q1,hln⟩
   ·refine (uh (σ0:=σ0) (B1 hlw hs) hln).mono fun b v s' hb=>?_
    cases b with
    | false=>obtain ⟨a,q1,_⟩:=hb;cases q1
    | true=>obtain ⟨a,q1,rfl,rfl⟩:=hb;cases q1;exact hno hln
 ·intro f s hs hfr hv
  have h2':slot 2 f= .ptr ρ 0:=by rw [hfr 2 (by decide)];exact h2
  have e1:slot 27 f= .fn (oz[k]?.getD 0) []:=hv 1 27 rfl
  obtain ⟨κ,e5,q2,q3,hln⟩:∃ κ,slot 31 f= .ptr κ 0∧s.box κ=some (cur r 1)∧σb.box κ=none∧r.ws.length=fA[k]?.getD 0:=hv 5 31 rfl
  have hne:ρ≠κ:=fun e=>by rw [e,q3] at hρ;cases hρ
  have hcu:Cu σ0 s κ r 1:=⟨q2,pG hlw q3,B1 hlw hs,hn,ht⟩
  have hsp:s.box ρ=some z8:=jf hs hρ
  have hσs:bY gl3 s:=fun k cs hk=>hs.2.2.1 _ _ (hσ k cs hk)
  haveI b3:BoxIs s ρ z8:=⟨hsp⟩
  haveI:Apart ρ κ:=⟨hne⟩
  haveI:Apart κ ρ:=⟨Ne.symm hne⟩
  show cM _ [.v (some 32) (.t 27) [(.t 31)], .o ⟨none, .st 8 (.t 2) (.t 32),none⟩] f s Q
  have e0:True:=trivial
  have e2:True:=trivial
  have e3:True:=trivial
  have e4:=e5
  have h1:True:=trivial
  have h5:True:=trivial
  have h2:=h2'
  simp only [↓R1,RR,seval,h1,h2,h5,e0,e1,e2,e3,e4,RX]
  refine bu (Il hcu hσs hk hln) (aa _) (fun o ho=>?_) (fun e ho=>her hln e ho)
  simp only [z8,↓R1,RR,seval,h1,h2,h5,e0,e1,e2,e3,e4,RX]
  refine ⟨rfl,hok hln o ho _ _ ?_ ?_ (St.bL _ _ _)⟩
  ·exact St.j5 (St.j5 (B1 (St.qI hle) hs) (le_none hle q3)) hρ1
  ·simp only [slot];rw [if_neg (by decide)];exact h2
def r5 (r:Rw):Option Nat:=match r.ws with
 | []=>none
 | w0::_=>bif w0.q then none else eT w0.t names9 0
def uk (r:Rw):Except Ft OpI:=match r5 r with
 | none=> .error (11,(r.a:Int))
 | some k=>if r.ws.length=fA[k]?.getD 0 then opW k r.ws else .error (3,(r.a:Int))
theorem Im {k:Nat} (hk:k<9):(([.str [114,101,103,105,115,116,101,114], .int .i64 3, .fn 88 [], .str [113,117,101,114,121], .int .i64 3, .fn 89 [], .str [100,114,111,112], .int .i64 3, .fn 90 [], .str [105,110,103,101,115,116], .int .i64 4, .fn 91 [], .str [98,121,116,101,115], .int .i64 2, .fn 92 [], .str [116,105,99,107], .int .i64 1, .fn 93 [], .str [112,111,108,108], .int .i64 3, .fn 94 [], .str [100,101,99,108,97,115,115,105,102,121], .int .i64 4, .fn 95 [], .str [97,117,100,105,116], .int .i64 4, .fn 96 []]:List AV).drop (k*3)).take 3= [.str (names9[k]?.getD []), .int .i64 ((fA[k]?.getD 0:Nat):Int), .fn (oz[k]?.getD 0) []]:=by
 have hc:k=0∨k=1∨k=2∨k=3∨k=4∨k=5∨k=6∨k=7∨k=8:=by omega
 rcases hc with rfl|rfl|rfl|rfl|rfl|rfl|rfl|rfl|rfl<;>rfl
theorem r6 (q:Bool) (t n:List UInt8):(mN q t [n] == 0)=(!q&&(n == t)):=by
 unfold mN eT
 cases q<;>simp only [cond_true,cond_false]
 ·cases n == t<;>rfl
 ·rfl
theorem pK (t:List UInt8) (l:List (List UInt8)) {k:Nat} (h:k<l.length) (j:Nat):eT t (l.drop k) j=bif (l[k]?.getD [] == t) then some j else eT t (l.drop (k+1)) (j+1):=by
 rw [kU t l h,List.getElem?_eq_getElem h];rfl
set_option maxHeartbeats 4000000 in
theorem x43 {σ σ0:St} {r:Rw} (hσ:bY gl3 σ) (hlw:St.lw σ0 σ) (hne:r.ws≠ []) (hn:r.ws.length≤20000) (ht:∀ w∈r.ws,w.t.length≤1000000):AX Tryz.prog 43 [.agg (cRw r)] σ (oX TS (uk r) (fun o=> .agg (cOp o)) (fun _=>σ) σ0):=by
  obtain ⟨w0,ws,hws⟩:∃ w0 ws,r.ws=w0::ws:=by
    cases h:r.ws with
    | nil=>exact (hne h).elim
    | cons w0 ws=>exact ⟨w0,ws,rfl⟩
  have hw0:r.ws[0]? =some w0:=by rw [hws];rfl
  have q1:True:=trivial
  have q2:True:=trivial
  have he:True:=trivial
  have hw:True:=trivial
  (refine aN c43 b43 ?_;simp only [c43,↓R1,RR,seval,RX,cRw,q1,q2,he,hw])
  repeat' (first|(with_reducible rw [ah])|((with_reducible intro β hβ;(try simp only [RB] at hβ);(repeat (obtain ⟨⟨_,_⟩,hβ⟩:=hβ));(try (have hbis:=ag (by assumption) hβ;obtain ⟨_,_⟩:=hbis)))<;>(try simp only [↓R1,RR,seval,RX,cRw,q1,q2,he,hw])))
  rename_i γ hγ ρ hρ p1 p2 p3 p4 p5 p6
  refine w9 9 (fun k=> [(1, .ptr γ 0),(2, .ptr ρ 0),(16, .agg [.str [114,101,103,105,115,116,101,114], .int .i64 3, .fn 88 [], .str [113,117,101,114,121], .int .i64 3, .fn 89 [], .str [100,114,111,112], .int .i64 3, .fn 90 [], .str [105,110,103,101,115,116], .int .i64 4, .fn 91 [], .str [98,121,116,101,115], .int .i64 2, .fn 92 [], .str [116,105,99,107], .int .i64 1, .fn 93 [], .str [112,111,108,108], .int .i64 3, .fn 94 [], .str [100,101,99,108,97,115,115,105,102,121], .int .i64 4, .fn 95 [], .str [97,117,100,105,116], .int .i64 4, .fn 96 []]),(17, .int .i64 (k:Nat))]) (fun _=>(σ.ad γ [.int .i64 (r.a:Nat), .sl false r.ws.length (r.ws.flatMap cWd)]).ad ρ [.int .i64 0, .int .i64 0, .int .u64 0, .str [], .int .i64 0, .int .i64 0, .int .u64 0, .int .u64 0])
    (fun k=>r5 r=(bif w0.q then none else eT w0.t (names9.drop k) k)) (by simp [aE,slot,ae]) (St.aM (St.le_refl _) (by simp only [↓R1,RR,seval,RX,cRw,q1,q2,he,hw];exact hβ)) (by simp [r5,hws]) (fun k hk hI=>?_)
  have hlen:names9.length=9:=rfl
  by_cases hlt:k<9
  · have q1:decide ((k:Int)<9)=true:=by rw [decide_eq_true_eq];omega
    have he:=Im hlt
    have hw:IntKind.i64.wrap ((k:Int)+1)=((k+1:Nat):Int):=by rw [wrap64 (by omega) (by omega)];omega
    rw [pK w0.t names9 (by omega)] at hI
    have hwh:=p83 r w0 true [names9[k]?.getD []] hw0 (by simp)
    simp only [cRw] at hwh
    have q2:=r6 w0.q w0.t (names9[k]?.getD [])
    simp only [q1,↓R1,RR,seval,RX,cRw,q1,q2,he,hw]
    repeat' (first|(with_reducible rw [ah])|(with_reducible refine And.intro ?_ ?_;exact aq)|((first|(with_reducible intro β hβ;(try simp only [RB] at hβ);(repeat (obtain ⟨⟨_,_⟩,hβ⟩:=hβ));(try (have hbis:=ag (by assumption) hβ;obtain ⟨_,_⟩:=hbis)))|(refine Pt (hwh) ?_))<;>(try simp only [↓R1,RR,seval,RX,cRw,q1,q2,he,hw])))
    all_goals first|omega|skip
    refine kx (fun hc=>?_) (fun hc=>?_)
    · have hfo:r5 r=some k:=by
        rw [hI]
        simp only [Bool.and_eq_true,Bool.not_eq_true'] at hc
        rw [hc.1,hc.2];rfl
      simp only [↓R1,RR,seval,RX,cRw,q1,q2,he,hw]
      refine EI (σ0:=σ0) (σ1:=σ) (k:=k) (nm:=names9[k]?.getD []) (γ:=γ) (ρ:=ρ) (δ:=β) hσ ?_ ?_ hlt hn ht ?_ ?_ ?_ hρ rfl rfl rfl ?_ ?_ ?_
      · exact bo
      · (repeat (first|exact St.le_refl _|(refine St.aM ?_ (by assumption))|(refine St.eI ?_ (by assumption))))
      · simp only [cRw,↓R1,RR,seval,RX,cRw,q1,q2,he,hw]
      · simp only [↓R1,RR,seval,RX,cRw,q1,q2,he,hw]
      · simp only [z8,↓R1,RR,seval,RX,cRw,q1,q2,he,hw]
      · intro hno
        simp only [↓R1,RR,seval,RX,cRw,q1,q2,he,hw]
        exact aO (by simp only [uk,hfo,if_neg hno]) (St.aI _)
      · intro hln e he
        simp only [↓R1,RR,seval,RX,cRw,q1,q2,he,hw]
        exact aO (by simp only [uk,hfo,if_pos hln,he]) (St.aI _)
      · intro hln o ho f s hs hf hsr
        haveI:BoxIs s ρ (cOp o):=⟨hsr⟩
        simp only [↓R1,RR,seval,RX,cRw,q1,q2,he,hw]
        refine o8 (a:=o) (by simp) (by simp only [uk,hfo,if_pos hln,ho]) ?_ ?_ hs
        · simp only [aj,rvS,hf,↓R1,RR,seval,RX,cRw,q1,q2,he,hw];simp [cOp]
        · simp only [ao,hf,↓R1,RR,seval,RX,cRw,q1,q2,he,hw];exact ae _
    · simp only [↓R1,RR,seval,RX,cRw,q1,q2,he,hw]
      repeat' (first|(with_reducible refine And.intro ?_ ?_;exact aq)|(with_reducible apply And.intro))
      · rw [hI]
        cases hq:w0.q with
        | true=>rfl
        | false =>
          rw [hq] at hc
          simp only [Bool.not_false,Bool.true_and] at hc
          rw [hc];rfl
      · simp [aE,slot,ae]
      · refine St.aM (St.le_refl _) ?_
        simp only [↓R1,RR,seval,RX,cRw,q1,q2,he,hw]
        assumption
  · have hke:k=9:=by omega
    subst hke
    have q1:decide (((9:Nat):Int)<9)=false:=by simp
    have hfo:r5 r=none:=by
      rw [hI,show names9.drop 9= [] from rfl]
      cases w0.q<;>rfl
    simp only [q1,↓R1,RR,seval,RX,cRw,q1,q2,he,hw]
    repeat' (((refine cr (σ0:=σ0) (by decide) (by exact bo) ?_))<;>(try simp only [↓R1,RR,seval,RX,cRw,q1,q2,he,hw]))
    exact aO (by simp only [uk,hfo]) (St.aI _)
theorem EJ (l:List Rw):(l.flatMap cRw).length=l.length*2:=aU (f:=cRw) (fun _=>rfl) l
theorem Io {l:List Rw} {k:Nat} {w:Rw} (h:l[k]? =some w):((l.flatMap cRw).drop (k*2)).take 2=cRw w:=by
  induction l generalizing k with
  | nil=>simp at h
  | cons x l ih =>
    cases k with
    | zero=>simp at h;subst h;simp [cRw]
    | succ k =>
      simp only [List.getElem?_cons_succ] at h
      have:=ih h
      rw [List.flatMap_cons,show (k+1)*2=(cRw x).length+k*2 by simp [cRw];omega,List.drop_append,List.drop_eq_nil_of_le (by omega),List.nil_append,Nat.add_sub_cancel_left]
      exact this
theorem EK (l:List OpI):(l.flatMap cOp).length=l.length*8:=aU (f:=cOp) (fun _=>rfl) l
def pL:List Rw→Nat→Except Ft (List OpI)
 | [],_=> .ok []
 | r::rs,n=>eb (uk r) fun o=>if n=400 then .error (6,(r.a:Int)) else eb (pL rs (n+1)) fun l=> .ok (o::l)
def gE (s:List UInt8):Except Ft (List OpI):=eb (kV s) fun rs=>pL rs 0
def J3 (rs:List Rw):Prop:=rs.length≤20001∧∀ r∈rs,r.ws≠ []∧r.ws.length≤20000∧∀ w∈r.ws,w.t.length≤1000000
theorem um {s:List UInt8} {rs:List Rw} (h:kV s= .ok rs):J3 rs:=by
 unfold kV at h
 split at h
 ·rename_i rs' hr
  cases h
  obtain ⟨h1,h2,h3⟩:=ub hr
  exact ⟨by omega,fun r hr=>⟨(h3 r hr).1,(h3 r hr).2.1,fun w hw=>by have:=(h3 r hr).2.2 w hw;omega⟩⟩
 ·cases h
theorem ya {x:CX} {fr:Fr} {σ:St} {Q:Exit→Fr→St→Prop} {h:Hold (x,σ,Q)} {α:Type} (t e s n:Nat) (cs:List AV) (F:Nat→α→Fr) (S:Nat→α→St) (I:α→Prop) (μ:α→Nat) (a0:α)
  (hf:fresh (slot t fr)) (hs:slv (slot t fr)=some (n,cs)) (h0:I a0) (hF:∀ τ,σ.tip τ=none→aE (F τ a0) ((t, .tsl τ n cs)::fr)) (hS:∀ τ,σ.tip τ=none→St.le (S τ a0) (σ.ai τ (e,s,n)))
  (hr:∀ τ,σ.tip τ=none→∀ a,I a→aX Tryz.prog x (F τ a) (S τ a) (gv (fun fr' σ'=>∃ b,I b∧aE (F τ b) fr'∧St.le (S τ b) σ'∧μ b<μ a) Q)):qK Tryz.prog x fr σ Q h:=by
 refine th (α:=α) [(false,t,0,e,s)] ?_
 simp only [cA]
 refine ⟨hf,?_⟩
 rw [hs]
 exact fun τ hτ=>⟨F τ,S τ,I,μ,a0,h0,hF τ hτ,hS τ hτ,hr τ hτ⟩
theorem yb {rs:List Rw} {k:Nat} {r:Rw} (h:rs[k]? =some r) (n:Nat):pL (rs.drop k) n=eb (uk r) fun o=>if n=400 then .error (6,(r.a:Int)) else eb (pL (rs.drop (k+1)) (n+1)) fun l=> .ok (o::l):=by
 obtain ⟨h1,h2⟩:=List.getElem?_eq_some_iff.1 h
 rw [List.drop_eq_getElem_cons h1,h2];rfl
theorem r7 {α β γ:Type} (o:Except Ft α) (f:α→Except Ft β) (g:β→Except Ft γ):eb (eb o f) g=eb o fun a=>eb (f a) g:=by cases o<;>rfl
theorem uo {a b:St} {τ:Nat} {x:Nat × Nat × Nat} (h:St.le a b):St.le (a.ai τ x) (b.ai τ x):=by
 refine ⟨h.1,fun υ y hy=>?_,h.2.2⟩
 simp only [St.ai,upd] at hy ⊢
 split
 ·rename_i e;rw [if_pos e] at hy;exact hy
 ·rename_i e;rw [if_neg e] at hy;exact h.2.1 _ _ hy
theorem pM (o:OpI):(cOp o).length=8:=rfl
theorem pN (o:OpI):(cOp o).take 8=cOp o:=rfl
set_option maxHeartbeats 4000000 in
theorem x41 {σ σ0:St} {ζ l:Nat} {s:List UInt8} (hσ:bY gl3 σ) (hlw:St.lw σ0 σ) (hs:s.length≤1000000) (hz:σ.box ζ=some [.str s]) (hl:σ.box l=some [.nils]) (hne:l≠ζ) :
  AX Tryz.prog 41 [.ptr ζ 0, .ptr l 0] σ (oX TS (gE s) (fun _=> .tup []) (fun os=>σ.ad l [.sl false os.length (os.flatMap cOp)]) σ0):=by
 haveI:BoxIs σ ζ [.str s]:=⟨hz⟩
 haveI:BoxIs σ l [.nils]:=⟨hl⟩
 have q1:True:=trivial
 have he:True:=trivial
 have hw:True:=trivial
 (refine aN c41 b41 ?_;simp only [c41,↓R1,RR,seval,RX,cRw,q1,he,hw,pM,pN])
 repeat' (((refine bu (x42 (σ0:=σ0) s hs ?_) (aa _) (fun rs ho1=>?_) (fun e ho1=>?_);(focus (exact bo;done))))<;>(try simp only [↓R1,RR,seval,RX,cRw,q1,he,hw,pM,pN]))
 all_goals first|(refine aO ?_ (St.aI _);focus (simp only [gE,eb,ho1];done))|skip
 obtain ⟨hz1,hz2⟩:=um ho1
 have hp:gE s=pL rs 0:=by simp only [gE,eb,ho1]
 have hml:maxLen=9223372036854775807:=rfl
 refine ya (α:=List OpI) 2 33 8 0 [] (fun τ acc=> [(1, .ptr l 0),(2, .tsl τ acc.length (acc.flatMap cOp)),(7, .sl false rs.length (rs.flatMap cRw)),(8, .int .i64 (rs.length:Nat)),(9, .int .i64 (acc.length:Nat))]) (fun τ acc=>σ.ai τ (33,8,acc.length))
  (fun acc=>acc.length≤rs.length∧acc.length≤400∧pL rs 0=eb (pL (rs.drop acc.length) acc.length) fun m=> .ok (acc++m)) (fun acc=>rs.length - acc.length) [] trivial rfl ⟨by simp,by simp,by simp only [List.length_nil,List.drop_zero,List.nil_append];cases pL rs 0<;>rfl⟩ (fun τ hτ=>by simp [aE,slot,ae]) (fun τ hτ=>St.le_refl _) ?_
 intro τ hτ acc ⟨hk,hk4,hI⟩
 have htt:(σ.ai τ (33,8,acc.length)).tip τ=some (33,8,acc.length):=by simp [St.ai,upd]
 by_cases hlt:acc.length<rs.length
 ·obtain ⟨r,hr⟩:∃ r,rs[acc.length]? =some r:=⟨_,List.getElem?_eq_getElem hlt⟩
  obtain ⟨hr1,hr2,hr3⟩:=hz2 r (List.mem_of_getElem? hr)
  have q1:decide ((acc.length:Int)<(rs.length:Int))=true:=by rw [decide_eq_true_eq];omega
  have he:=Io hr
  simp only [cRw] at he
  have hw:IntKind.i64.wrap ((acc.length:Int)+1)=((acc.length+1:Nat):Int):=by rw [wrap64 (by omega) (by omega)];omega
  rw [yb hr,r7] at hI
  have hcl:=EJ rs
  have hol:=EK acc
  simp only [q1,↓R1,RR,seval,RX,cRw,q1,he,hw,pM,pN]
  repeat' (first|(with_reducible rw [ah])|(with_reducible refine And.intro ?_ ?_;exact aq)|((first|(with_reducible intro β hβ;(try simp only [RB] at hβ);(repeat (obtain ⟨⟨_,_⟩,hβ⟩:=hβ));(try (have hbis:=ag (by assumption) hβ;obtain ⟨_,_⟩:=hbis)))|((first|(refine cD (.inr rfl) rfl ?_ ?_ ?_ ?_ ?_ ?_;(first|rfl|exact St.bm _ _ _|(simp only [↓R1,RR,seval,RX,cRw,q1,he,hw,pM,pN]));(first|omega|(simp only [RZ,List.length_nil,List.length_cons];omega)|(simp only [RZ,List.length_nil,List.length_cons]));(first|rfl|first|omega|(simp only [RZ,List.length_nil,List.length_cons];omega)|(simp only [RZ,List.length_nil,List.length_cons])))|(refine bV rfl ?_ ?_ ?_ ?_ ?_ ?_;(first|rfl|exact St.bm _ _ _|(simp only [↓R1,RR,seval,RX,cRw,q1,he,hw,pM,pN]));(first|omega|(simp only [RZ,List.length_nil,List.length_cons];omega)|(simp only [RZ,List.length_nil,List.length_cons]));(first|rfl|first|omega|(simp only [RZ,List.length_nil,List.length_cons];omega)|(simp only [RZ,List.length_nil,List.length_cons])))|(refine dr ?_ ?_ ?_ ?_;exact aU (by intro _;rfl) _)|(refine appD_own ?_ ?_ ?_ ?_ ?_;omega;exact aU (by intro _;rfl) _)|(refine ct rfl trivial rfl ?_ ?_ ?_ ?_ ?_;(first|rfl|first|omega|(simp only [RZ,List.length_nil,List.length_cons];omega)|(simp only [RZ,List.length_nil,List.length_cons]));(first|rfl|first|omega|(simp only [RZ,List.length_nil,List.length_cons];omega)|(simp only [RZ,List.length_nil,List.length_cons])))|(refine appD_fresh rfl trivial rfl ?_ ?_ ?_ ?_ ?_ ?_;omega;(first|rfl|first|omega|(simp only [RZ,List.length_nil,List.length_cons];omega)|(simp only [RZ,List.length_nil,List.length_cons]));(first|rfl|first|omega|(simp only [RZ,List.length_nil,List.length_cons];omega)|(simp only [RZ,List.length_nil,List.length_cons]))));(unfold maxLen;omega);omega)|((refine bu (x43 (σ0:=σ0) (r:=r) ?_ ?_ hr1 hr2 hr3) (aa _) (fun o ho2=>?_) (fun e ho2=>?_);(focus (intro k cs hk;exact hσ k cs hk));(focus (exact bo;done))))|((refine kx (fun hc=>?_) (fun hc=>?_)))|((refine cr (σ0:=σ0) (by decide) (by exact bo) ?_)))<;>(try simp only [↓R1,RR,seval,RX,cRw,q1,he,hw,pM,pN])))
  all_goals (try (first|omega|(simp;done)))
  ·have hc2:acc.length=400:=by simp only [beq_iff_eq] at hc;omega
   refine aO ?_ (St.aI _)
   rw [hp,hI,E9 _ ho2,if_pos hc2];rfl
  ·have hc2:acc.length≠400:=by
    intro h
    simp only [beq_eq_false_iff_ne] at hc
    exact hc (by rw [h];rfl)
   refine ⟨acc++ [o],⟨by simp;omega,by simp;omega,?_⟩,?_,?_,by simp;omega⟩
   ·rw [hI,E9 _ ho2,if_neg hc2,r7,List.length_append,List.length_singleton]
    simp only [eb,List.append_assoc,List.singleton_append]
   ·simp only [aE,slot,ae,↓R1,RR,seval,RX,cRw,q1,he,hw,pM,pN]
    simp [ae]
   ·simp only [List.length_append,List.length_singleton]
    exact uo (St.aM (St.aM (St.le_refl _) (by assumption)) (by assumption))
  ·refine aO ?_ (St.aI _)
   rw [hp,hI,J2 _ ho2]
 ·have hke:acc.length=rs.length:=by omega
  have q1:decide ((acc.length:Int)<(rs.length:Int))=false:=by rw [decide_eq_false_iff_not];omega
  have ho:gE s= .ok acc:=by
   rw [hp,hI,hke,List.drop_length];simp only [pL,eb,List.append_nil]
  simp only [q1,↓R1,RR,seval,RX,cRw,q1,he,hw,pM,pN]
  skip
  refine cJ ho ?_ ?_
  ·simp only [ao,↓R1,RR,seval,RX,cRw,q1,he,hw,pM,pN]
   exact ae _
  ·exact bo
theorem uq {α:Type} {fc:Nat} {cap:List AV} {σ:St} {o:Except Ft α} {s1:α→St} {s0:St} {a:α} (hent:∀ xs w,(callFunc fc xs).run Tryz.prog w= .ok (.enter fc xs) w)
  (h:∀ β,σ.box β=none→AX Tryz.prog fc cap (σ.ad β z2) (oX TS o (fun _=> .tup []) (fun a=>(s1 a).ad β z2) (s0.ad β z2)))
  (h1:∀ β a,σ.box β=none→(s1 a).box β=none) (h0:∀ β,σ.box β=none→s0.box β=none) (ho:o= .ok a):AC Tryz.prog 40 [.fn fc cap] σ (fun r s=>r= .agg [.int .i64 0, .int .i64 0]∧s=s1 a) :=
 (a40 hent h h1 h0).mono fun r s hr=>by
  rcases hr with ⟨b,k1,k2,k3⟩|⟨f,k1,k2,k3⟩
  ·rw [ho] at k1;cases k1;exact ⟨k2,k3⟩
  ·rw [ho] at k1;cases k1
theorem ur {α:Type} {fc:Nat} {cap:List AV} {σ:St} {o:Except Ft α} {s1:α→St} {s0:St} {e:Ft} (hent:∀ xs w,(callFunc fc xs).run Tryz.prog w= .ok (.enter fc xs) w)
  (h:∀ β,σ.box β=none→AX Tryz.prog fc cap (σ.ad β z2) (oX TS o (fun _=> .tup []) (fun a=>(s1 a).ad β z2) (s0.ad β z2)))
  (h1:∀ β a,σ.box β=none→(s1 a).box β=none) (h0:∀ β,σ.box β=none→s0.box β=none) (ho:o= .error e):AC Tryz.prog 40 [.fn fc cap] σ (fun r s=>r= .agg [.int .i64 e.1, .int .i64 e.2]∧s=s0) :=
 (a40 hent h h1 h0).mono fun r s hr=>by
  rcases hr with ⟨b,k1,k2,k3⟩|⟨f,k1,k2,k3⟩
  ·rw [ho] at k1;cases k1
  ·rw [ho] at k1;cases k1;exact ⟨k2,k3⟩
theorem J4 {f:Nat} {xs:List AV} {σ s0 s0':St} {α:Type} {T:Nat} {o:Except Ft α} {t:α→AV} {s1 s1':α→St} (h:AX Tryz.prog f xs σ (oX T o t s1 s0)) (h1:∀ a,s1 a=s1' a) (h0:s0=s0'):AX Tryz.prog f xs σ (oX T o t s1' s0'):=by
 have:s1=s1':=funext h1
 subst this;subst h0;exact h
theorem mQ {σ:St} {β γ:Nat} {c d:List AV} (h:σ.box γ=some d) (hβ:σ.box β=none):(σ.ad β c).box γ=some d:=by
 have:γ≠β:=fun e=>by rw [e,hβ] at h;cases h
 simp [St.ad,upd,this,h]
theorem kW {σ:St} {β γ:Nat} {c d:List AV} (h:σ.box γ=some d) (hβ:σ.box β=none):(σ.ad γ c).box β=none:=by
 have:β≠γ:=fun e=>by rw [←e,hβ] at h;cases h
 simp [St.ad,upd,this,hβ]
theorem B2 {σ:St} {β γ:Nat} {c d z:List AV} (h:σ.box γ=some d) (hβ:σ.box β=none):(σ.ad β z).ad γ c=(σ.ad γ c).ad β z :=
 St.set_comm _ (fun e=>by rw [e,h] at hβ;cases hβ) _ _
def pO (s:List UInt8):AV:=match gE s with
 | .ok os=> .tup [.sl false os.length (os.flatMap cOp), .agg [.int .i64 0, .int .i64 0]]
 | .error e=> .tup [.sl false 0 [], .agg [.int .i64 e.1, .int .i64 e.2]]
theorem r8 {σ:St} {ζ l:Nat} {s:List UInt8} (hσ:bY gl3 σ) (hs:s.length≤1000000) (hz:σ.box ζ=some [.str s]) (hl:σ.box l=some [.nils]) (hne:l≠ζ):∀ β,σ.box β=none→AX Tryz.prog 41 [.ptr ζ 0, .ptr l 0] (σ.ad β z2) (oX TS (gE s) (fun _=> .tup []) (fun os=>(σ.ad l [.sl false os.length (os.flatMap cOp)]).ad β z2) (σ.ad β z2)):=fun β hβ =>
 J4 (x41 (σ:=σ.ad β z2) (σ0:=σ.ad β z2) hσ (St.aI _) hs (mQ hz hβ) (mQ hl hβ) hne) (fun os=>B2 hl hβ) rfl
theorem p12 (s:List UInt8) (hs:s.length≤1000000):PuG Tryz.prog gl3 12 [.str s] (pO s):=by
  have hent:=Go.Proofs.enters_of Tryz.func41 (by kernel_rfl) rfl
  cases hp:gE s with
  | ok os =>
    rw [pO,hp]
    (refine aP c12 b12 fun σ hσ=>?_;simp only [c12,↓R1,RR,seval])
    repeat' (first|(with_reducible rw [ah])|((with_reducible intro β hβ;(try simp only [RB] at hβ);(repeat (obtain ⟨⟨_,_⟩,hβ⟩:=hβ));(try (have hbis:=ag (by assumption) hβ;obtain ⟨_,_⟩:=hbis)))<;>(try simp only [↓R1,RR,seval])))
    rename_i ζ hζ l hl p1 p2 p3 p4 p5 p6
    have hat:=r8 (s:=s) (ζ:=ζ) (l:=l) (σ:=((σ.ad ζ [AV.str s]).ad l [AV.nils]).ad β [AV.int IntKind.i64 0,AV.int IntKind.i64 0]) hσ hs (by simp only [↓R1,RR,seval]) (by simp only [↓R1,RR,seval]) p1.ne
    refine AC.mono (AC.wk (uq hent hat (fun γ a hγ=>kW (d:= [AV.nils]) (by simp only [↓R1,RR,seval]) hγ) (fun γ hγ=>hγ) hp) (aa _)) ?_
    rintro _ _ ⟨rfl,rfl⟩
    simp only [↓R1,RR,seval]
    repeat' (with_reducible apply And.intro)
    all_goals (refine ak ?_ (by first|(simp [aj,rvS];done)|(simp only [aj,rvS,↓R1,RR,seval];try simp)))
    all_goals (simp only [ao,↓R1,RR,seval];exact ae _)
  | error e =>
    rw [pO,hp]
    (refine aP c12 b12 fun σ hσ=>?_;simp only [c12,↓R1,RR,seval])
    repeat' (first|(with_reducible rw [ah])|((with_reducible intro β hβ;(try simp only [RB] at hβ);(repeat (obtain ⟨⟨_,_⟩,hβ⟩:=hβ));(try (have hbis:=ag (by assumption) hβ;obtain ⟨_,_⟩:=hbis)))<;>(try simp only [↓R1,RR,seval])))
    rename_i ζ hζ l hl p1 p2 p3 p4 p5 p6
    have hat:=r8 (s:=s) (ζ:=ζ) (l:=l) (σ:=((σ.ad ζ [AV.str s]).ad l [AV.nils]).ad β [AV.int IntKind.i64 0,AV.int IntKind.i64 0]) hσ hs (by simp only [↓R1,RR,seval]) (by simp only [↓R1,RR,seval]) p1.ne
    refine AC.mono (AC.wk (ur hent hat (fun γ a hγ=>kW (d:= [AV.nils]) (by simp only [↓R1,RR,seval]) hγ) (fun γ hγ=>hγ) hp) (aa _)) ?_
    rintro _ _ ⟨rfl,rfl⟩
    simp only [↓R1,RR,seval]
    repeat' (with_reducible apply And.intro)
    all_goals (refine ak ?_ (by first|(simp [aj,rvS];done)|(simp only [aj,rvS,↓R1,RR,seval];try simp)))
    all_goals (simp only [ao,↓R1,RR,seval];(repeat' (first|exact ae _|exact c7|exact cd _ _ _|exact bw _ _|exact wkL.nil|exact aa _|refine ez ?_|refine dC ?_|refine wkL.cons ?_ ?_)))
theorem B3 {P:Program} {f:Nat} {xs:List AV} {α:Type} {T:Nat} {a:α} {t:α→AV} {v:AV} (h:∀ σ,AX P f xs σ (oX T (.ok a) t (fun _=>σ) σ)) (hv:v=t a):Pu P f xs v:=fun σ=>by
 refine AC.Jq ((h σ).mono fun b r s hb=>?_)
 cases b with
 | false=>obtain ⟨a',h1,rfl,rfl⟩:=hb;cases h1;exact ⟨rfl,hv.symm,rfl⟩
 | true=>obtain ⟨e,h1,_⟩:=hb;cases h1
theorem St.B4 {σ:St} {L:Nat} {x:LO × Fr} (h:σ.lp L=some x):σ.av L x=σ:=by
 obtain ⟨b,t,g,l,bt⟩:=σ
 simp only [St.av,St.mk.injEq,true_and,and_true]
 funext j;simp only [upd]
 split
 ·rename_i e;subst e;exact h.symm
 ·rfl
theorem ML {c:CfgI} (hc:CfgOk c) (σ:St):AC Tryz.prog 106 [.agg (bK c)] σ (fun r s=>∃ β,σ.box β=none∧r= .fn 162 [.ptr β 0]∧s=σ.ad β (bK c)):=by
 have hcl:=eJ hc
 have hca:=ix hc
 refine aT Hj Lm ?_
 simp only [Hj,↓R1,RR,seval,hcl,hca]
 intro β hβ
 refine cq ?_
 exact ⟨β,hβ,rfl,rfl⟩
theorem MM {c:CfgI} (hc:CfgOk c) (σ:St):AC Tryz.prog 107 [.agg (bK c)] σ (fun r s=>∃ β,σ.box β=none∧r= .fn 164 [.ptr β 0]∧s=σ.ad β (bK c)):=by
 have hcl:=eJ hc
 have hca:=ix hc
 refine aT Hk Ln ?_
 simp only [Hk,↓R1,RR,seval,hcl,hca]
 intro β hβ
 refine cq ?_
 exact ⟨β,hβ,rfl,rfl⟩
theorem MN {c:CfgI} (hc:CfgOk c) (σ:St):AC Tryz.prog 108 [.agg (bK c)] σ (fun r s=>∃ β,σ.box β=none∧r= .fn 165 [.ptr β 0]∧s=σ.ad β (bK c)):=by
 have hcl:=eJ hc
 have hca:=ix hc
 refine aT Hl Lo ?_
 simp only [Hl,↓R1,RR,seval,hcl,hca]
 intro β hβ
 refine cq ?_
 exact ⟨β,hβ,rfl,rfl⟩
def V9 (c:CfgI) (i:Nat) (v:AV) (s:St):Prop:=match i with
 | 0=>v= .agg (bK c)
 | 1=>∃ β,v= .fn 162 [.ptr β 0]∧s.box β=some (bK c)
 | 2=>v= .agg (bK c)
 | 3=>∃ β,v= .fn 164 [.ptr β 0]∧s.box β=some (bK c)
 | 4=>v= .agg (bK c)
 | 5=>∃ β,v= .fn 165 [.ptr β 0]∧s.box β=some (bK c)
 | 6=>∃ β γ δ,v= .sl true 3 [.fn 162 [.ptr β 0], .fn 164 [.ptr γ 0], .fn 165 [.ptr δ 0]]∧s.box β=some (bK c)∧s.box γ=some (bK c)∧s.box δ=some (bK c)
 | 7=>v= .int .i64 3
 | _=>v= .int .i64 0
set_option maxHeartbeats 4000000 in
theorem yc {σ:St} {c:CfgI} {B:Nat} {fr:Fr} {Q:Exit→Fr→St→Prop} (hc:CfgOk c) (hB:σ.box B=some (bK c)) (h1:slot 1 fr= .ptr B 0)
  (hok:∀ f s β γ δ,St.le σ s→(∀ t,t ∉ [18,19,20,21,22,23,24,25,26]→slot t f=slot t fr)→slot 24 f= .sl true 3 [.fn 162 [.ptr β 0], .fn 164 [.ptr γ 0], .fn 165 [.ptr δ 0]]→slot 25 f= .int .i64 3→slot 26 f= .int .i64 0→s.box β=some (bK c)→s.box γ=some (bK c)→s.box δ=some (bK c)→Q .normal f s) :
  aX Tryz.prog (.invX [.o ⟨some 18, .ld (some 33) (.t 1),none⟩, .o ⟨some 19, .call 106 [(.t 18)],none⟩, .o ⟨some 20, .ld (some 33) (.t 1),none⟩, .o ⟨some 21, .call 107 [(.t 20)],none⟩, .o ⟨some 22, .ld (some 33) (.t 1),none⟩, .o ⟨some 23, .call 108 [(.t 22)],none⟩, .o ⟨some 24, .mkSl 1 3 [.nilf, .nilf, .nilf] [(0,1,(.t 19)),(1,1,(.t 21)),(2,1,(.t 23))],none⟩, .o ⟨some 25, .len (.t 24),none⟩, .o ⟨some 26, .mv (.c (.int .i64 0)),none⟩] [[],[0],[],[2,1],[],[4,3],[1,3,5],[6],[]]) fr σ Q:=by
 have hcl:=eJ hc
 have hca:=ix hc
 refine n5 [18,19,20,21,22,23,24,25,26] 9 (V9 c) (by decide) ?_ ?_ ?_
 ·intro i v s s' h hs
  unfold V9 at h ⊢
  split at h
  all_goals first|exact h|skip
  ·obtain ⟨κ,q1,q2⟩:=h;exact ⟨κ,q1,hs.1 _ _ q2⟩
  ·obtain ⟨κ,q1,q2⟩:=h;exact ⟨κ,q1,hs.1 _ _ q2⟩
  ·obtain ⟨κ,q1,q2⟩:=h;exact ⟨κ,q1,hs.1 _ _ q2⟩
  ·obtain ⟨κ,μ,ν,q1,q2,q3,q4⟩:=h;exact ⟨κ,μ,ν,q1,hs.1 _ _ q2,hs.1 _ _ q3,hs.1 _ _ q4⟩
 ·intro j x d hj hx hd f s hs hfr hv
  have h1':slot 1 f= .ptr B 0:=by rw [hfr 1 (by decide)];exact h1
  have hcs:j=0∨j=1∨j=2∨j=3∨j=4∨j=5∨j=6∨j=7∨j=8:=by omega
  have hb:s.box B=some (bK c):=jf hs hB
  have h1:=h1'
  have e0:True:=trivial
  have e1:True:=trivial
  have e2:True:=trivial
  rcases hcs with rfl|rfl|rfl|rfl|rfl|rfl|rfl|rfl|rfl
  ·cases hx;cases hd
   refine fC ?_
   simp only [↓R1,RR,seval,RX,h1,e0,e1,e2,hb,hcl,hca]
   exact ⟨_,rfl,St.le_refl _,rfl⟩
  ·cases hx;cases hd
   have e0:slot 18 f= .agg (bK c):=hv 0 18 (by simp) rfl
   refine fC ?_
   simp only [↓R1,RR,seval,RX,h1,e0,e1,e2,hb,hcl,hca]
   refine (ML hc s).mono ?_
   rintro _ _ ⟨β,hβ,rfl,rfl⟩
   simp only [↓R1,RR,seval,RX,h1,e0,e1,e2,hb,hcl,hca]
   exact ⟨_,rfl,St.aM (St.le_refl _) hβ,β,rfl,St.bL _ _ _⟩
  ·cases hx;cases hd
   refine fC ?_
   simp only [↓R1,RR,seval,RX,h1,e0,e1,e2,hb,hcl,hca]
   exact ⟨_,rfl,St.le_refl _,rfl⟩
  ·cases hx;cases hd
   have e0:slot 20 f= .agg (bK c):=hv 2 20 (by simp) rfl
   refine fC ?_
   simp only [↓R1,RR,seval,RX,h1,e0,e1,e2,hb,hcl,hca]
   refine (MM hc s).mono ?_
   rintro _ _ ⟨β,hβ,rfl,rfl⟩
   simp only [↓R1,RR,seval,RX,h1,e0,e1,e2,hb,hcl,hca]
   exact ⟨_,rfl,St.aM (St.le_refl _) hβ,β,rfl,St.bL _ _ _⟩
  ·cases hx;cases hd
   refine fC ?_
   simp only [↓R1,RR,seval,RX,h1,e0,e1,e2,hb,hcl,hca]
   exact ⟨_,rfl,St.le_refl _,rfl⟩
  ·cases hx;cases hd
   have e0:slot 22 f= .agg (bK c):=hv 4 22 (by simp) rfl
   refine fC ?_
   simp only [↓R1,RR,seval,RX,h1,e0,e1,e2,hb,hcl,hca]
   refine (MN hc s).mono ?_
   rintro _ _ ⟨β,hβ,rfl,rfl⟩
   simp only [↓R1,RR,seval,RX,h1,e0,e1,e2,hb,hcl,hca]
   exact ⟨_,rfl,St.aM (St.le_refl _) hβ,β,rfl,St.bL _ _ _⟩
  ·cases hx;cases hd
   obtain ⟨β,e0,k0⟩:∃ β,slot 19 f= .fn 162 [.ptr β 0]∧s.box β=some (bK c):=hv 1 19 (by simp) rfl
   obtain ⟨γ,e1,k1⟩:∃ β,slot 21 f= .fn 164 [.ptr β 0]∧s.box β=some (bK c):=hv 3 21 (by simp) rfl
   obtain ⟨δ,e2,k2⟩:∃ β,slot 23 f= .fn 165 [.ptr β 0]∧s.box β=some (bK c):=hv 5 23 (by simp) rfl
   refine fC ?_
   simp only [↓R1,RR,seval,RX,h1,e0,e1,e2,hb,hcl,hca]
   exact ⟨_,rfl,St.le_refl _,β,γ,δ,rfl,k0,k1,k2⟩
  ·cases hx;cases hd
   obtain ⟨β,γ,δ,e0,_⟩:∃ β γ δ,slot 24 f= .sl true 3 [.fn 162 [.ptr β 0], .fn 164 [.ptr γ 0], .fn 165 [.ptr δ 0]]∧_:=hv 6 24 (by simp) rfl
   refine fC ?_
   simp only [↓R1,RR,seval,RX,h1,e0,e1,e2,hb,hcl,hca]
   exact ⟨_,rfl,St.le_refl _,rfl⟩
  ·cases hx;cases hd
   refine fC ?_
   simp only [↓R1,RR,seval,RX,h1,e0,e1,e2,hb,hcl,hca]
   exact ⟨_,rfl,St.le_refl _,rfl⟩
 ·intro f s hs hfr hv
  obtain ⟨β,γ,δ,k1,k2,k3,k4⟩:∃ β γ δ,slot 24 f= .sl true 3 [.fn 162 [.ptr β 0], .fn 164 [.ptr γ 0], .fn 165 [.ptr δ 0]]∧s.box β=some (bK c)∧s.box γ=some (bK c)∧s.box δ=some (bK c):=hv 6 24 rfl
  exact hok f s β γ δ hs hfr k1 (hv 7 25 rfl) (hv 8 26 rfl) k2 k3 k4
theorem yd {σ:St} {L E N:Nat} {a:LO × Fr} {x y:List AV}:(((σ.av L a).ad E x).ad N y).dropLp L=((σ.dropLp L).ad E x).ad N y:=by
 obtain ⟨b1,t,g,l,bt⟩:=σ
 simp only [St.av,St.ad,St.dropLp,St.mk.injEq,true_and,and_true]
 funext j;simp only [upd];split<;>rfl
set_option maxHeartbeats 2000000 in
theorem jg {σ s:St} {E N B:Nat} {v30 v5 v24 v25 v26:AV} {Q:Exit→Fr→St→Prop} {es:List Int} (hle:St.le σ s) (hE:σ.box E=none) (hN:σ.box N=none) (hne:N≠E) (sE:s.box E=some [.int .i64 0]) (sN:s.box N=some [.int .i64 0])
  (ret:∀ e i s',firstE es 0=some (e,i)→s'.box E=some [.int .i64 e]→s'.box N=some [.int .i64 (i:Nat)]→St.le σ s'→Q .ret [(30,v30),(1, .ptr B 0),(2, .ptr E 0),(3, .ptr N 0),(5,v5),(24,v24),(25,v25),(26,v26)] s')
  (fin:firstE es 0=none→∀ s',St.le s s'→Q .normal [(30,v30),(1, .ptr B 0),(2, .ptr E 0),(3, .ptr N 0),(5,v5),(24,v24),(25,v25),(26,v26)] s') :
  Errs [31,32] (.seq (.keep [2,3,31,32] (.ops [⟨some 6, .mv (.t 31),none⟩])) (.keep [2,3,6,32] (.ops [⟨some 7, .mv (.t 32),none⟩])))
   (.block 3 (.seq (.keep [2,3,6,7] (.ops [⟨some 33, .mv (.t 7),none⟩,⟨some 34, .bin .neq (.t 33) (.c (.int .i64 0)),none⟩]))
   (.cond (.t 34)
    (.seq (.keep [2,3,6,7] (.ops [⟨some 35, .mv (.t 7),none⟩,⟨some 36, .mv (.t 6),none⟩,⟨none, .st 1 (.t 2) (.t 35),none⟩,⟨none, .st 1 (.t 3) (.t 36),none⟩]))
    .ret)
    .skip)))
   [(30,v30),(1, .ptr B 0),(2, .ptr E 0),(3, .ptr N 0),(5,v5),(24,v24),(25,v25),(26,v26)] s Q es:=by
 refine ⟨rfl,fun L r i σ1 K hat hl hs hk=>?_,fun L r i e σ1 K hat he hl hs hk=>?_,fin⟩
 ·unfold Round
  simp only [iD,putF,↓R1,RR,seval]
  refine ⟨hl,?_⟩
  rw [St.B4 hl];exact hk
 ·unfold Round
  have q1:(e != 0)=true:=by rw [bne_iff_ne];exact he
  have k1:∀ x,(σ1.av L x).box E=some [.int .i64 0]:=fun x=>hs.1 _ _ sE
  have k2:∀ x,(σ1.av L x).box N=some [.int .i64 0]:=fun x=>hs.1 _ _ sN
  haveI:Apart N E:=⟨hne⟩
  haveI:Apart E N:=⟨hne.symm⟩
  simp only [iD,putF,q1,k1,k2,↓R1,RR,seval]
  refine ⟨hl,?_⟩
  refine hk _ (St.aZ _ _ _) (fun h1=>ret e i _ h1 ?_ ?_ ?_)
  all_goals rw [yd]
  ·simp only [↓R1,RR,seval]
  ·simp only [↓R1,RR,seval]
  ·exact St.aM (St.aM (St.le_trans hle hs) hE) hN
theorem e9 {σ s:St} {E N i:Nat} {e:Int} {c:CfgI} {fr:Fr} (h2:slot 2 fr= .ptr E 0) (h3:slot 3 fr= .ptr N 0) (hc:gD c=(e,i)) (kE:s.box E=some [.int .i64 e]) (kN:s.box N=some [.int .i64 (i:Nat)]) (hl:St.le σ s) :
  oV [.cl 2 none, .cl 3 none] (oXW TS (.ok (gD c)) (fun p=> .tup [.int .i64 p.1, .int .i64 (p.2:Nat)]) (fun _=>σ) σ) .ret fr s:=by
 refine o8 (a:=(e,i)) (.inl rfl) (by rw [hc]) ?_ ?_ (St.qI hl)
 ·simp [aj,rvS,h2,h3,kE,kN,cQ,ldS]
 ·simp [eN,rvV,h2,h3,kE,kN,cQ,ldV,ae]
set_option maxHeartbeats 4000000 in
theorem EL {c:CfgI} (ck:CfgOk c) (σ:St):AX Tryz.prog 48 [.agg (bK c)] σ (oX TS (.ok (gD c)) (fun p=> .tup [.int .i64 p.1, .int .i64 (p.2:Nat)]) (fun _=>σ) σ):=by
 have hcl:=eJ ck
 have hca:=ix ck
 have hc0:=BU c
 have h31:=ud ck
 have h32:=BV ck
 (refine aN c48 b48 ?_;simp only [c48,↓R1,RR,seval,RX,hcl,hca,hc0,h31,h32])
 repeat' (first|(with_reducible rw [ah])|((first|(refine an (fun hc=>?_) (fun hc=>?_))|(with_reducible intro β hβ;(try simp only [RB] at hβ);(repeat (obtain ⟨⟨_,_⟩,hβ⟩:=hβ));(try (have hbis:=ag (by assumption) hβ;obtain ⟨_,_⟩:=hbis))))<;>(try simp only [↓R1,RR,seval,RX,hcl,hca,hc0,h31,h32])))
 ·rename_i B hB E hE a1 a2 a3 a4 a5 a6
  refine e9 rfl rfl (e:=6) (i:=0) ?_ (by first|rfl|(simp only [↓R1,RR,seval,RX,hcl,hca,hc0,h31,h32];done)) (by first|rfl|(simp only [↓R1,RR,seval,RX,hcl,hca,hc0,h31,h32];done)) ?_
  ·rw [gD,if_pos]
   rw [Bool.or_eq_true,decide_eq_true_eq,decide_eq_true_eq] at hc;omega
  ·exact St.aM (St.aM (St.aM (St.le_refl _) hB) hE) hβ
 ·rename_i B hB E hE a1 a2 a3 a4 a5 a6
  refine yc ck (B:=B) (by simp only [↓R1,RR,seval,RX,hcl,hca,hc0,h31,h32]) rfl (fun f s γ1 γ2 γ3 hs hfr f24 f25 f26 g1 g2 g3=>?_)
  have hov:¬(8<c.cls.length∨8<c.ruls.length):=by
   rw [Bool.or_eq_false_iff,decide_eq_false_iff_not,decide_eq_false_iff_not] at hc;omega
  have hσs:St.le σ s:=St.le_trans (St.aM (St.aM (St.aM (St.le_refl _) hB) hE) hβ) hs
  have f1:slot 1 f= .ptr B 0:=hfr 1 (by decide)
  have f2:slot 2 f= .ptr E 0:=hfr 2 (by decide)
  have f3:slot 3 f= .ptr β 0:=hfr 3 (by decide)
  have sB:s.box B=some (bK c):=jf hs (by simp only [↓R1,RR,seval,RX,hcl,hca,hc0,h31,h32])
  have sE:s.box E=some [.int .i64 0]:=jf hs (by simp only [↓R1,RR,seval,RX,hcl,hca,hc0,h31,h32])
  have sN:s.box β=some [.int .i64 0]:=jf hs (by simp only [↓R1,RR,seval,RX,hcl,hca,hc0,h31,h32])
  simp only [↓R1,RR,seval,RX,hcl,hca,hc0,h31,h32]
  refine bn 3 (fun k=> [(1, .ptr B 0),(2, .ptr E 0),(3, .ptr β 0),(24, .sl true 3 [.fn 162 [.ptr γ1 0], .fn 164 [.ptr γ2 0], .fn 165 [.ptr γ3 0]]),(25, .int .i64 3),(26, .int .i64 (k:Nat))]) (fun _=>s)
   (fun k=>(1≤k→firstE (clsEs [] c.cls) 0=none)∧(2≤k→firstE (c.tens.map tenE) 0=none)∧(3≤k→firstE (c.ruls.map rulE) 0=none)) (by simp [aE,ae,f1,f2,f3,f24,f25,f26]) (St.le_refl _) ⟨fun h=>by omega,fun h=>by omega,fun h=>by omega⟩ (fun k hk hI=>?_)
  rcases (show k=0∨k=1∨k=2∨k=3 by omega) with rfl|rfl|rfl|rfl
  ·simp only [↓R1,RR,seval,RX,hcl,hca,hc0,h31,h32]
   refine eQ [] ?_
   simp only [cA]
   refine ⟨_,_,rfl,ue ck g1 (jg (σ:=σ) hσs hE hβ a3.ne sE sN (fun e i s' h1 h2 h3 h4=>?_) (fun h1 s' h2=>?_))⟩
   ·simp only [↓R1,RR,seval,RX,hcl,hca,hc0,h31,h32]
    exact e9 rfl rfl (by rw [gD,if_neg hov,h1]) h2 h3 h4
   ·simp only [↓R1,RR,seval,RX,hcl,hca,hc0,h31,h32]
    exact ⟨h1,by simp [aE,slot,ae,show IntKind.i64.wrap 1=1 from rfl],h2⟩
  ·have hI1:=hI.1 (by omega)
   simp only [↓R1,RR,seval,RX,hcl,hca,hc0,h31,h32]
   refine eQ [] ?_
   simp only [cA]
   refine ⟨_,_,rfl,uf ck g2 (jg (σ:=σ) hσs hE hβ a3.ne sE sN (fun e i s' h1 h2 h3 h4=>?_) (fun h1 s' h2=>?_))⟩
   ·simp only [↓R1,RR,seval,RX,hcl,hca,hc0,h31,h32]
    exact e9 rfl rfl (by rw [gD,if_neg hov,hI1];simp only [h1]) h2 h3 h4
   ·simp only [↓R1,RR,seval,RX,hcl,hca,hc0,h31,h32]
    exact ⟨⟨hI1,h1⟩,by simp [aE,slot,ae,show IntKind.i64.wrap 2=2 from rfl],h2⟩
  ·have hI1:=hI.1 (by omega)
   have hI2:=hI.2.1 (by omega)
   simp only [↓R1,RR,seval,RX,hcl,hca,hc0,h31,h32]
   refine eQ [] ?_
   simp only [cA]
   refine ⟨_,_,rfl,BY ck g3 (jg (σ:=σ) hσs hE hβ a3.ne sE sN (fun e i s' h1 h2 h3 h4=>?_) (fun h1 s' h2=>?_))⟩
   ·simp only [↓R1,RR,seval,RX,hcl,hca,hc0,h31,h32]
    exact e9 rfl rfl (by rw [gD,if_neg hov,hI1];simp only [hI2,h1]) h2 h3 h4
   ·simp only [↓R1,RR,seval,RX,hcl,hca,hc0,h31,h32]
    exact ⟨⟨hI1,hI2,h1⟩,by simp [aE,slot,ae,show IntKind.i64.wrap 3=3 from rfl],h2⟩
  ·have hI1:=hI.1 (by omega)
   have hI2:=hI.2.1 (by omega)
   have hI3:=hI.2.2 (by omega)
   haveI:BoxIs s B (bK c):=⟨sB⟩
   haveI:BoxIs s E [.int .i64 0]:=⟨sE⟩
   haveI:BoxIs s β [.int .i64 0]:=⟨sN⟩
   have l32:32<(bK c).length:=by rw [hcl];decide
   simp only [h32,l32,↓R1,RR,seval,RX,hcl,hca,hc0,h31,h32]
   repeat' ((refine an (fun hc=>?_) (fun hc=>?_))<;>(try simp only [↓R1,RR,seval,RX,hcl,hca,hc0,h31,h32]))
   ·refine e9 rfl rfl (e:=2) (i:=0) ?_ (by first|rfl|(simp only [↓R1,RR,seval,RX,hcl,hca,hc0,h31,h32];done)) (by first|rfl|(simp only [↓R1,RR,seval,RX,hcl,hca,hc0,h31,h32];done)) ?_
    ·rw [gD,if_neg hov,hI1];simp only [hI2,hI3]
     rw [if_pos]
     rwa [Bool.or_eq_true,decide_eq_true_eq,decide_eq_true_eq] at hc
    ·exact St.aM (St.aM hσs hE) hβ
   ·refine e9 rfl rfl (e:=0) (i:=0) ?_ (by first|rfl|(simp only [↓R1,RR,seval,RX,hcl,hca,hc0,h31,h32];done)) (by first|rfl|(simp only [↓R1,RR,seval,RX,hcl,hca,hc0,h31,h32];done)) ?_
    ·rw [gD,if_neg hov,hI1];simp only [hI2,hI3]
     rw [if_neg]
     rw [Bool.or_eq_false_iff,decide_eq_false_iff_not,decide_eq_false_iff_not] at hc
     omega
    ·exact St.aM (St.aM hσs hE) hβ
def J5 (c:CfgI):AV:= .tup [.int .i64 (gD c).1, .int .i64 ((gD c).2:Nat)]
theorem p48 {c:CfgI} (hc:CfgOk c):Pu Tryz.prog 48 [.agg (bK c)] (J5 c):=B3 (EL hc) rfl
def jO (t:List UInt8):Bool:=t.all bI
theorem pP {c:UInt8} {t:List UInt8} (h:jO (c::t)=true) (hc:c≠35):bareS (c::t)=true:=by
 unfold jO at h
 simp [bareS,h,hc]
theorem fV {a b:List UInt8}:jO (a++b)=(jO a&&jO b):=by simp [jO]
theorem mR:∀ k:Fin 10,bI (UInt8.ofNat (48+k.val))=true∧UInt8.ofNat (48+k.val)≠35:=by decide
theorem r9 (n:Nat):jO (decDigits n)=true∧∃ c t,decDigits n=c::t∧c≠35:=by
  induction n using Nat.strongRecOn with
  | _ n ih =>
    rw [decDigits]
    split
    · rename_i h
      obtain ⟨h1,h2⟩:=mR ⟨n,h⟩
      exact ⟨by simp only [jO,List.all_cons,List.all_nil,Bool.and_true];exact h1,_,_,rfl,h2⟩
    · rename_i h
      obtain ⟨h1,c,t,h2,h3⟩:=ih (n / 10) (by omega)
      obtain ⟨h4,_⟩:=mR ⟨n % 10,by omega⟩
      refine ⟨?_,c,t++_,by rw [h2];rfl,h3⟩
      rw [fV,h1,Bool.true_and]
      simp only [jO,List.all_cons,List.all_nil,Bool.and_true];exact h4
theorem sa (n:Nat):bareS (decDigits n)=true:=by
 obtain ⟨h1,c,t,h2,h3⟩:=r9 n
 rw [h2] at h1 ⊢;exact pP h1 h3
theorem fb (n:Int):bareS (itoa n)=true:=by
 unfold itoa
 split
 ·refine pP ?_ (by decide)
  have:=(r9 n.natAbs).1
  simp only [jO,List.all_cons] at this ⊢
  rw [this];rfl
 ·exact sa _
theorem oA (k:Nat) (hk:k<100):jO (fp k)=true:=by
 have:∀ k:Fin 100,jO (fp k.val)=true:=by decide
 exact this ⟨k,hk⟩
theorem kX:∀ l:List Nat,(∀ k∈l,k<100)→jO (dj l)=true
  | [],_=>rfl
  | k :: l, h => by
    have h1:=oA k (h k (by simp))
    have h2:=kX l (fun j hj=>h j (by simp [hj]))
    simp only [dj]
    rw [show (44::(fp k++dj l))= [44]++(fp k++dj l) from rfl,fV,fV,h1,h2];rfl
theorem jh (a:BitVec 64):bareS (cT a)=true:=by
  refine pP ?_ (by decide)
  rw [show (123::(dF (cC a)++ [125]))= [123]++(dF (cC a)++ [125]) from rfl,fV,fV]
  have hc:∀ k∈cC a,k<100:=fun k hk=>by
    have:k<64:=List.mem_range.1 (List.mem_filter.1 hk).1
    omega
  have:jO (dF (cC a))=true:=by
    cases hq:cC a with
    | nil=>rfl
    | cons k l =>
      rw [hq] at hc
      simp only [dF]
      rw [fV,oA k (hc k (by simp)),kX l (fun j hj=>hc j (by simp [hj]))];rfl
  rw [this];rfl
theorem pQ {k:Int} (h:0≤k∧k≤25):bareS (cP k)=true:=by
 obtain ⟨n,rfl⟩:=Int.eq_ofNat_of_zero_le h.1
 have:∀ n:Fin 26,bareS (cP (n.val:Int))=true:=by decide
 exact this ⟨n,by omega⟩
def rowT (ws:List (List UInt8)):List UInt8:=Lib.join ws [32]++ [10]
theorem kY:∀ {ws:List (List UInt8)},(∀ t∈ws,bareS t=true)→cw (ws.map mkW)=some ws
  | [],_=>rfl
  | t :: ws, h => by
    have h1:=h t (by simp)
    have h2:=kY (ws:=ws) (fun x hx=>h x (by simp [hx]))
    simp only [List.map_cons,cw,mkW,h1,h2,bR,Bool.not_true]
    rfl
structure RowOk (ws:List (List UInt8)):Prop where
 ne:ws≠ []
 bare:∀ t∈ws,bareS t=true
 len:(rowT ws).length≤700
 num:ws.length≤20
 wl:∀ t∈ws,t.length≤300
theorem mS:∀ (W:List (List (List UInt8))) (out:List UInt8),(∀ ws∈W,RowOk ws)→out.length+700*W.length≤20000→fj out (W.map mkR)= .ok (out++(W.map rowT).flatten)
  | [],out,_,_=>by simp [fj]
  | ws :: W, out, h, hl => by
    have h1:=h ws (by simp)
    have h0:¬ (mkR ws).ws.length=0:=by
      simp only [mkR,List.length_map]
      intro h0;exact h1.ne (List.eq_nil_of_length_eq_zero h0)
    have h2:=h1.len
    rw [List.length_cons] at hl
    have h3:¬ (1000<(Lib.join ws [32]).length∨20000<(out++(Lib.join ws [32]++ [10])).length):=by
      rw [List.length_append]
      unfold rowT at h2
      rw [List.length_append] at h2 ⊢
      simp only [List.length_cons,List.length_nil] at h2 ⊢
      omega
    simp only [List.map_cons,fj]
    rw [if_neg h0,show cw (mkR ws).ws=some ws from kY h1.bare]
    simp only
    rw [if_neg h3,show out++(Lib.join ws [32]++ [10])=out++rowT ws from rfl,mS W (out++rowT ws) (fun x hx=>h x (by simp [hx])) (by rw [List.length_append];omega)]
    simp
theorem uu {W:List (List (List UInt8))} (h:∀ ws∈W,RowOk ws) (hl:W.length≤28):eW (W.map mkR)= .ok (W.map rowT).flatten:=by
 rw [eW,mS W [] h (by simp;omega)];rfl
theorem ye {ws:List (List UInt8)} (h:RowOk ws):eW [mkR ws]= .ok (rowT ws):=by
 have:=uu (W:= [ws]) (by simpa using h) (by simp)
 simpa using this
theorem fD:∀ {l:List Int} {i:Nat},firstE l i=none→∀ e∈l,e=0
  | [],_,_,_,h=>by simp at h
  | x :: l, i, h, e, he => by
    unfold firstE at h
    split at h
    · rename_i h0
      rcases List.mem_cons.1 he with rfl|he
      · exact h0
      · exact fD h e he
    · cases h
theorem iz:∀ {l:List Int} {i:Nat} {p:Int × Nat},firstE l i=some p→p.1≠0
  | [],_,_,h=>by cases h
  | x :: l, i, p, h => by
    unfold firstE at h
    split at h
    · exact iz h
    · rename_i h0;cases h;exact h0
structure Fine (c:CfgI):Prop where
 ncls:c.cls.length≤8
 nrul:c.ruls.length≤8
 cls:firstE (clsEs [] c.cls) 0=none
 ten:∀ x∈c.tens,tenE x=0
 rul:∀ x∈c.ruls,rulE x=0
 hor:1≤c.hor∧c.hor≤10000
theorem B5 {c:CfgI} (h:(gD c).1=0):Fine c:=by
 unfold gD at h
 split at h
 ·cases h
 ·rename_i h0
  split at h
  ·rename_i p hp;exact (iz hp h).elim
  ·rename_i h1
   split at h
   ·rename_i p hp;exact (iz hp h).elim
   ·rename_i h2
    split at h
    ·rename_i p hp;exact (iz hp h).elim
    ·rename_i h3
     split at h
     ·cases h
     ·refine ⟨by omega,by omega,h1,fun x hx=>fD h2 _ (List.mem_map.2 ⟨x,hx,rfl⟩),fun x hx=>fD h3 _ (List.mem_map.2 ⟨x,hx,rfl⟩),by omega⟩
theorem sb {l:List ClsI} {k:Nat} {x:ClsI} (h:firstE (clsEs [] l) 0=none) (hx:l[k]? =some x):(1≤x.size∧x.size≤64)∧(0≤x.rate∧x.rate≤64):=by
 have h1:=mO (seen:= []) hx
 have h2:=fD h _ (List.mem_of_getElem? h1)
 unfold pH at h2
 split at h2
 ·cases h2
 ·rename_i h3
  simp only [dI,inB,Bool.and_true,Bool.not_eq_false,Bool.and_eq_true,Bool.not_eq_true',Bool.or_eq_false_iff,decide_eq_false_iff_not] at h3
  omega
theorem sd {x:TenI} (h:tenE x=0):(1≤x.budget∧x.budget≤64)∧(0≤x.queries∧x.queries≤4)∧(0≤x.cap∧x.cap≤64)∧(0≤x.out∧x.out≤64)∧(0≤x.audit∧x.audit≤64):=by
 unfold tenE at h
 split at h
 ·cases h
 ·rename_i h3
  simp only [dI,inB,Bool.and_true,Bool.not_eq_false,Bool.and_eq_true,Bool.not_eq_true',Bool.or_eq_false_iff,decide_eq_false_iff_not] at h3
  omega
theorem se {x:RulI} (h:rulE x=0):(1≤x.owner∧x.owner≤6)∧(0≤x.kind∧x.kind≤25)∧(x.any=true→x.kind=0)∧leB (lab x.res) (lab x.auth)=true∧x.low≤x.high:=by
 unfold rulE at h
 split at h
 ·cases h
 ·rename_i h3
  split at h
  ·cases h
  ·rename_i h4
   split at h
   ·cases h
   ·rename_i h5
    simp only [Bool.or_eq_true,decide_eq_true_eq,Bool.and_eq_true,bne_iff_ne,ne_eq,not_or,not_and,Decidable.not_not] at h3
    refine ⟨by omega,by omega,h3.2,by simpa using h4,by omega⟩
theorem yf {ws:List (List UInt8)} (h:RowOk ws):ph [mkR ws]:=by
 refine ⟨by simp,fun r hr=>?_⟩
 have e:=List.mem_singleton.1 hr
 subst e
 have h1:=h.num
 refine ⟨by simp [mkR];omega,fun w hw=>?_⟩
 obtain ⟨t,ht,rfl⟩:=List.mem_map.1 hw
 have:=h.wl t ht
 show t.length≤20000
 omega
theorem jP:∀ (ws:List (List UInt8)),ws≠ []→(rowT ws).length=(ws.map (fun t=>t.length+1)).sum
  | [],h=>(h rfl).elim
  | [x],_=>by simp [rowT,Lib.join_one]
  | x :: y :: l, _ => by
    have h1:=jP (y::l) (by simp)
    simp only [rowT,List.length_append,List.length_cons,List.length_nil,List.map_cons,List.sum_cons,Lib.join,List.intercalate,List.intersperse,List.flatten_cons,List.flatten_nil] at h1 ⊢
    omega
theorem J6 (u:Nat) (h:u<18446744073709551616):PuG Tryz.prog gl3 168 [.int .u64 u, .int .i64 10] (.str (decDigits u)):=by
 intro σ hσ
 refine AC.eO (Go.Proofs.enters_of Tryz.func168 (by kernel_rfl) rfl) ?_
 intro g w vs hI hv
 obtain ⟨v1,vs,rfl,r1,hv⟩:=hv.cons_inv
 obtain ⟨v2,vs,rfl,r2,hv⟩:=hv.cons_inv
 rw [hv.bO,r1.bc,r2.bc]
 refine (Mk u h w (kz hI Ei (hσ _ _ rfl))).mono ?_
 rintro e w' ⟨rfl,k',os,rfl⟩
 refine ⟨_,rfl,⟨rfl,rfl,rfl,by simp [Go.Sort.grow,World.drewN],fun i hi=>?_⟩,fun g' _=> .str _⟩
 simp only [Go.Sort.grow,World.drewN]
 rw [Array.getElem?_append_left hi]
theorem Ip (u:Nat) (h:u<18446744073709551616):PuG Tryz.prog gl3 110 [.int .u64 u, .int .i64 10] (.str (decDigits u)):=by
 have h1:=J6 u h
 (refine aP Gb Kk fun σ hσ=>?_;simp only [Gb,↓R1,RR,seval])
 repeat' ((refine PuG.to (h1) hσ (aa _) ?_)<;>(try simp only [↓R1,RR,seval]))
 (refine ak (af ?_))
 (simp only [ao,↓R1,RR,seval])
theorem J7 (n:Int) (hn:I64 n):PuG Tryz.prog gl3 109 [.int .i64 n, .int .i64 10] (.str (itoa n)):=fun σ hσ=>JF n σ hn.1 hn.2 (hσ _ _ rfl)
theorem p50 (n:Nat) (hn:n<18446744073709551616):PuG Tryz.prog gl3 50 [.int .u64 (n:Nat)] (.str (decDigits n)):=by
 have h1:=Ip n hn
 have q1:decide ((n:Int)<0)=false:=by simp
 (refine aP c50 b50 fun σ hσ=>?_;simp only [c50,↓R1,RR,seval,q1])
 repeat' ((refine PuG.to (h1) hσ (aa _) ?_)<;>(try simp only [↓R1,RR,seval,q1]))
 (refine ak (af ?_))
 (simp only [ao,↓R1,RR,seval,q1])
theorem p52 (n:Int) (hn:I64 n):PuG Tryz.prog gl3 52 [.int .i64 n] (.str (itoa n)):=by
 have hw:True:=trivial
 by_cases h0:n<0
 ·have h1:=J7 n hn
  have q1:decide (n<0)=true:=by simpa using h0
  (refine aP c52 b52 fun σ hσ=>?_;simp only [c52,↓R1,RR,seval,q1,hw])
  repeat' ((refine PuG.to (h1) hσ (aa _) ?_)<;>(try simp only [↓R1,RR,seval,q1,hw]))
  (refine ak (af ?_))
  (simp only [ao,↓R1,RR,seval,q1,hw])
 ·obtain ⟨m,rfl⟩:=Int.eq_ofNat_of_zero_le (show 0≤n by omega)
  unfold I64 at hn
  have h1:=Ip m (by omega)
  have q1:decide ((m:Int)<0)=false:=by simp
  have hw:IntKind.u64.wrap (m:Int)=(m:Int):=uL (by omega) (by omega)
  rw [mw]
  (refine aP c52 b52 fun σ hσ=>?_;simp only [c52,↓R1,RR,seval,q1,hw])
  repeat' ((refine PuG.to (h1) hσ (aa _) ?_)<;>(try simp only [↓R1,RR,seval,q1,hw]))
  (refine ak (af ?_))
  (simp only [ao,↓R1,RR,seval,q1,hw])
theorem p54 (n:Int) (hn:I64 n):PuG Tryz.prog gl3 54 [.int .i64 n] (.str (itoa n)):=by
 have hw:True:=trivial
 by_cases h0:n<0
 ·have h1:=J7 n hn
  have q1:decide (n<0)=true:=by simpa using h0
  (refine aP c54 b54 fun σ hσ=>?_;simp only [c54,↓R1,RR,seval,q1,hw])
  repeat' ((refine PuG.to (h1) hσ (aa _) ?_)<;>(try simp only [↓R1,RR,seval,q1,hw]))
  (refine ak (af ?_))
  (simp only [ao,↓R1,RR,seval,q1,hw])
 ·obtain ⟨m,rfl⟩:=Int.eq_ofNat_of_zero_le (show 0≤n by omega)
  unfold I64 at hn
  have h1:=Ip m (by omega)
  have q1:decide ((m:Int)<0)=false:=by simp
  have hw:IntKind.u64.wrap (m:Int)=(m:Int):=uL (by omega) (by omega)
  rw [mw]
  (refine aP c54 b54 fun σ hσ=>?_;simp only [c54,↓R1,RR,seval,q1,hw])
  repeat' ((refine PuG.to (h1) hσ (aa _) ?_)<;>(try simp only [↓R1,RR,seval,q1,hw]))
  (refine ak (af ?_))
  (simp only [ao,↓R1,RR,seval,q1,hw])
theorem p74 {l:List (List UInt8)} (h:RowOk l):Pu Tryz.prog 74 [.sl true l.length (l.map AV.str)] (.tup [.str (rowT l), .int .i64 0]):=by
 have h0:=JW l (by have:=h.num;omega) (fun t ht=>by have:=h.wl t ht;omega)
 have h1:=JV [mkR l] (yf h)
 rw [ye h] at h1
 simp only [List.flatMap_cons,List.flatMap_nil,List.append_nil,List.length_cons,List.length_nil,Nat.zero_add,od] at h1
 (refine al c74 b74 fun σ=>?_;simp only [c74,↓R1,RR,seval,List.length_map])
 repeat' (first|(with_reducible apply And.intro)|((first|((refine Pu.to (h0) ?_ ?_;(focus ((repeat' (first|exact ae _|exact c7|exact cd _ _ _|exact bw _ _|exact wkL.nil|exact aa _|refine ez ?_|refine dC ?_|refine wkL.cons ?_ ?_));done))))|((refine Pu.to (h1) ?_ ?_;(focus ((repeat' (first|exact ae _|exact c7|exact cd _ _ _|exact bw _ _|exact wkL.nil|exact aa _|refine ez ?_|refine dC ?_|refine wkL.cons ?_ ?_));done)))))<;>(try simp only [↓R1,RR,seval,List.length_map])))
 ·rfl
 ·(refine ak (af ?_))
  (simp only [ao,↓R1,RR,seval,List.length_map])
theorem a49 {σ:St} {β:Nat} {out:List UInt8} {l:List (List UInt8)} (hb:σ.box β=some [.str out, .int .i64 0]) (h:RowOk l) (hl:out.length≤20000):AC Tryz.prog 49 [.ptr β 0, .sl true l.length (l.map AV.str)] σ (fun r s=>r= .tup []∧s=σ.ad β [.str (out++rowT l), .int .i64 0]):=by
 have h0:=p74 h
 have h300:=h.len
 (refine aT c49 b49 ?_;simp only [c49,↓R1,RR,seval,hb,List.length_map,h300])
 repeat' (first|(with_reducible refine And.intro ?_ ?_;exact aq)|((refine Pt (h0) ?_)<;>(try simp only [↓R1,RR,seval,hb,List.length_map,h300])))
 (refine cq ?_)
 exact ⟨rfl,rfl⟩
def ic (c:CfgI):List (List UInt8):= [[104,111,114,105,122,111,110],decDigits c.hor.toNat]
def iH (x:ClsI):List (List UInt8):= [[99,108,97,115,115],cT (lab x.l),itoa x.size,itoa x.rate]
def jQ (x:TenI):List (List UInt8):= [[116,101,110,97,110,116],itoa x.budget,itoa x.queries,itoa x.cap,itoa x.out,itoa x.audit]
def kZ (x:RulI):List UInt8:=if x.any then [97,110,121] else cP x.kind
def ji (x:RulI):List (List UInt8):= [[114,117,108,101],itoa x.owner,cT (lab x.auth),cT (lab x.res),kZ x,itoa x.low,itoa x.high]
def sf (c:CfgI):List (List (List UInt8)):=ic c::(c.cls.map iH++c.tens.map jQ++c.ruls.map ji)
theorem pR {c:CfgI} (h:Fine c):RowOk (ic c):=by
 have h1:=sa c.hor.toNat
 have h2:=dU c.hor.toNat (by have:=h.hor;omega)
 refine ⟨by simp [ic],?_,?_,by simp [ic],?_⟩
 ·intro t ht
  simp only [ic,List.mem_cons,List.not_mem_nil,or_false] at ht
  rcases ht with rfl|rfl
  ·decide
  ·exact h1
 ·rw [jP _ (by simp [ic])]
  simp only [ic,List.map_cons,List.map_nil,List.sum_cons,List.sum_nil,List.length_cons,List.length_nil];omega
 ·intro t ht
  simp only [ic,List.mem_cons,List.not_mem_nil,or_false] at ht
  rcases ht with rfl|rfl
  ·decide
  ·omega
theorem vd {x:ClsI} (h:(1≤x.size∧x.size≤64)∧(0≤x.rate∧x.rate≤64)):RowOk (iH x):=by
 have h1:=dV (lab x.l)
 have h2:=cF x.size (by unfold I64;omega)
 have h3:=cF x.rate (by unfold I64;omega)
 refine ⟨by simp [iH],?_,?_,by simp [iH],?_⟩
 ·intro t ht
  simp only [iH,List.mem_cons,List.not_mem_nil,or_false] at ht
  rcases ht with rfl|rfl|rfl|rfl
  ·decide
  ·exact jh _
  ·exact fb _
  ·exact fb _
 ·rw [jP _ (by simp [iH])]
  simp only [iH,List.map_cons,List.map_nil,List.sum_cons,List.sum_nil,List.length_cons,List.length_nil];omega
 ·intro t ht
  simp only [iH,List.mem_cons,List.not_mem_nil,or_false] at ht
  rcases ht with rfl|rfl|rfl|rfl
  ·decide
  all_goals omega
theorem ve {x:TenI} (h:(1≤x.budget∧x.budget≤64)∧(0≤x.queries∧x.queries≤4)∧(0≤x.cap∧x.cap≤64)∧(0≤x.out∧x.out≤64)∧(0≤x.audit∧x.audit≤64)):RowOk (jQ x):=by
 have h1:=cF x.budget (by unfold I64;omega)
 have h2:=cF x.queries (by unfold I64;omega)
 have h3:=cF x.cap (by unfold I64;omega)
 have h4:=cF x.out (by unfold I64;omega)
 have h5:=cF x.audit (by unfold I64;omega)
 refine ⟨by simp [jQ],?_,?_,by simp [jQ],?_⟩
 ·intro t ht
  simp only [jQ,List.mem_cons,List.not_mem_nil,or_false] at ht
  rcases ht with rfl|rfl|rfl|rfl|rfl|rfl
  ·decide
  all_goals exact fb _
 ·rw [jP _ (by simp [jQ])]
  simp only [jQ,List.map_cons,List.map_nil,List.sum_cons,List.sum_nil,List.length_cons,List.length_nil];omega
 ·intro t ht
  simp only [jQ,List.mem_cons,List.not_mem_nil,or_false] at ht
  rcases ht with rfl|rfl|rfl|rfl|rfl|rfl
  ·decide
  all_goals omega
theorem yg {x:RulI} (h:0≤x.kind∧x.kind≤25):bareS (kZ x)=true∧(kZ x).length≤3:=by
 unfold kZ
 split
 ·decide
 ·exact ⟨pQ h,by have:=kP x.kind;omega⟩
theorem vf {x:RulI} (ho:1≤x.owner∧x.owner≤6) (hk:0≤x.kind∧x.kind≤25) (hl:I64 x.low) (hh:I64 x.high):RowOk (ji x):=by
 have h1:=cF x.owner (by unfold I64;omega)
 have h2:=dV (lab x.auth)
 have h3:=dV (lab x.res)
 obtain ⟨k1,k2⟩:=yg hk
 have h5:=cF x.low hl
 have h6:=cF x.high hh
 refine ⟨by simp [ji],?_,?_,by simp [ji],?_⟩
 ·intro t ht
  simp only [ji,List.mem_cons,List.not_mem_nil,or_false] at ht
  rcases ht with rfl|rfl|rfl|rfl|rfl|rfl|rfl
  ·decide
  ·exact fb _
  ·exact jh _
  ·exact jh _
  ·exact k1
  ·exact fb _
  ·exact fb _
 ·rw [jP _ (by simp [ji])]
  simp only [ji,List.map_cons,List.map_nil,List.sum_cons,List.sum_nil,List.length_cons,List.length_nil];omega
 ·intro t ht
  simp only [ji,List.mem_cons,List.not_mem_nil,or_false] at ht
  rcases ht with rfl|rfl|rfl|rfl|rfl|rfl|rfl
  ·decide
  all_goals omega
def B6 (c:CfgI):Prop:=∀ x∈c.ruls,I64 x.low∧I64 x.high
theorem B7 {c:CfgI} (hk:CfgOk c) (h:Fine c) (h64:B6 c):(∀ ws∈sf c,RowOk ws)∧(sf c).length≤28:=by
 refine ⟨fun ws hw=>?_,?_⟩
 ·rcases List.mem_cons.1 hw with rfl|hw
  ·exact pR h
  rcases List.mem_append.1 hw with hw|hw
  ·rcases List.mem_append.1 hw with hw|hw
   ·obtain ⟨x,hx,rfl⟩:=List.mem_map.1 hw
    obtain ⟨k,hk⟩:=List.getElem?_of_mem hx
    exact vd (sb h.cls hk)
   ·obtain ⟨x,hx,rfl⟩:=List.mem_map.1 hw
    exact ve (sd (h.ten x hx))
  ·obtain ⟨x,hx,rfl⟩:=List.mem_map.1 hw
   have h1:=se (h.rul x hx)
   exact vf h1.1 h1.2.1 (h64 x hx).1 (h64 x hx).2
 ·have h1:=h.ncls
  have h2:=h.nrul
  have h3:=hk.six
  simp only [sf,List.length_cons,List.length_append,List.length_map];omega
def EM (c:CfgI):List UInt8:=((sf c).map rowT).flatten
def vg (c:CfgI):AV:=if (gD c).1=0 then .tup [.str (EM c), .int .i64 0] else .tup [.str [], .int .i64 (gD c).1]
theorem yh {W:List (List (List UInt8))} (h:∀ ws∈W,RowOk ws):(W.map rowT).flatten.length≤700*W.length:=by
  induction W with
  | nil=>simp
  | cons x W ih =>
    have h1:=(h x (by simp)).len
    have h2:=ih (fun y hy=>h y (by simp [hy]))
    simp only [List.map_cons,List.flatten_cons,List.length_append,List.length_cons];omega
theorem kj {α:Type} {f:α→List (List UInt8)} {l:List α} {k:Nat} {x:α} (A:List (List (List UInt8))) (h:l[k]? =some x):((A++(l.take k).map f).map rowT).flatten++rowT (f x)=((A++(l.take (k+1)).map f).map rowT).flatten:=by
 obtain ⟨h1,h2⟩:=List.getElem?_eq_some_iff.1 h
 rw [←List.take_append_getElem h1,h2]
 simp
theorem mT {α:Type} {f:α→List (List UInt8)} {A:List (List (List UInt8))} {l:List α} (hA:∀ ws∈A,RowOk ws) (hl:∀ x∈l,RowOk (f x)) (hn:A.length+l.length≤28) (k:Nat):((A++(l.take k).map f).map rowT).flatten.length≤20000:=by
 have h:=yh (W:=A++(l.take k).map f) (fun ws hw=>by
  rcases List.mem_append.1 hw with hw|hw
  ·exact hA ws hw
  ·obtain ⟨x,hx,rfl⟩:=List.mem_map.1 hw
   exact hl x (List.mem_of_mem_take hx))
 rw [List.length_append,List.length_map,List.length_take] at h
 omega
set_option maxHeartbeats 8000000 in
theorem p18 {c:CfgI} (ck:CfgOk c) (h64:B6 c):PuG Tryz.prog gl3 18 [.agg (bK c)] (vg c):=by
  have hcl:=eJ ck
  have hca:=ix ck
  have hc0:=BU c
  have h31:=ud ck
  have h32:=BV ck
  have q1:True:=trivial
  have he:True:=trivial
  have hw:True:=trivial
  have hln:True:=trivial
  have hany:True:=trivial
  have l32:32<(bK c).length:=by rw [hcl];decide
  have hck:=p48 ck
  unfold J5 at hck
  by_cases hz:(gD c).1=0
  · have hF:=B5 hz
    obtain ⟨hr,hrl⟩:=B7 ck hF h64
    have n1:=hF.ncls
    have n2:=hF.nrul
    have h6:=ck.six
    have hhn:((c.hor.toNat:Nat):Int)=c.hor:=by have:=hF.hor;omega
    have h50:=p50 c.hor.toNat (by have:=hF.hor;omega)
    rw [hhn] at h50
    have q1:((gD c).1 != 0)=false:=by rw [hz];rfl
    rw [vg,if_pos hz]
    (refine aP c18 b18 fun σ hσ=>?_;simp only [c18,↓R1,RR,seval,q1,he,hw,hcl,hca,hc0,h31,h32,hln,l32,hany])
    repeat' ((first|(with_reducible intro β hβ;(try simp only [RB] at hβ);(repeat (obtain ⟨⟨_,_⟩,hβ⟩:=hβ));(try (have hbis:=ag (by assumption) hβ;obtain ⟨_,_⟩:=hbis)))|(refine Pt (hck) ?_)|(refine PuG.to (h50) hσ (aa _) ?_)|((refine AC.mono (AC.wk (a49 (out:= []) (l:=ic c) ?_ (pR hF) (by decide)) (aa _)) ?_;(focus (simp only [↓R1,RR,seval,q1,he,hw,hcl,hca,hc0,h31,h32,hln,l32,hany];done));(rintro _ _ ⟨rfl,rfl⟩))))<;>(try simp only [↓R1,RR,seval,q1,he,hw,hcl,hca,hc0,h31,h32,hln,l32,hany]))
    rename_i B hB aB1 aB2
    have rc:∀ x∈c.cls,RowOk (iH x):=fun x hx=>hr _ (by simp only [sf,List.mem_cons,List.mem_append,List.mem_map];exact .inr (.inl (.inl ⟨x,hx,rfl⟩)))
    have rt:∀ x∈c.tens,RowOk (jQ x):=fun x hx=>hr _ (by simp only [sf,List.mem_cons,List.mem_append,List.mem_map];exact .inr (.inl (.inr ⟨x,hx,rfl⟩)))
    have rr:∀ x∈c.ruls,RowOk (ji x):=fun x hx=>hr _ (by simp only [sf,List.mem_cons,List.mem_append,List.mem_map];exact .inr (.inr ⟨x,hx,rfl⟩))
    have r1:∀ ws∈ [ic c],RowOk ws:=fun ws h=>by rw [List.mem_singleton.1 h];exact pR hF
    have r2:∀ ws∈ [ic c]++c.cls.map iH,RowOk ws:=fun ws h=>by
      rcases List.mem_append.1 h with h|h
      · exact r1 ws h
      · obtain ⟨x,hx,rfl⟩:=List.mem_map.1 h;exact rc x hx
    have r3:∀ ws∈([ic c]++c.cls.map iH)++c.tens.map jQ,RowOk ws:=fun ws h=>by
      rcases List.mem_append.1 h with h|h
      · exact r2 ws h
      · obtain ⟨x,hx,rfl⟩:=List.mem_map.1 h;exact rt x hx
    obtain ⟨O1,hO1⟩:∃ O1:Nat→List UInt8,O1=fun k=>(([ic c]++(c.cls.take k).map iH).map rowT).flatten:=⟨_,rfl⟩
    obtain ⟨O2,hO2⟩:∃ O2:Nat→List UInt8,O2=fun k=>((([ic c]++c.cls.map iH)++(c.tens.take k).map jQ).map rowT).flatten:=⟨_,rfl⟩
    obtain ⟨O3,hO3⟩:∃ O3:Nat→List UInt8,O3=fun k=>(((([ic c]++c.cls.map iH)++c.tens.map jQ)++(c.ruls.take k).map ji).map rowT).flatten:=⟨_,rfl⟩
    have z1:([]++rowT (ic c):List UInt8)=O1 0:=by subst hO1;simp
    have z2:O1 c.cls.length=O2 0:=by subst hO1 hO2;simp
    have z3:O2 6=O3 0:=by subst hO2 hO3;simp only;rw [List.take_of_length_le (by omega)];simp
    have z4:O3 c.ruls.length=EM c:=by subst hO3;simp [EM,sf]
    have Ih:∀ k,(O1 k).length≤20000:=fun k=>by subst hO1;exact mT r1 rc (by simp;omega) k
    have Ii:∀ k,(O2 k).length≤20000:=fun k=>by subst hO2;exact mT r2 rt (by simp;omega) k
    have uj:∀ k,(O3 k).length≤20000:=fun k=>by subst hO3;exact mT r3 rr (by simp;omega) k
    refine bn c.cls.length (fun k=> [(1, .ptr B 0),(6, .ptr β 0),(31, .sl false c.cls.length (c.cls.flatMap fq)),(32, .int .i64 (c.cls.length:Nat)),(33, .int .i64 (k:Nat))]) (fun k=>(σ.ad B (bK c)).ad β [.str (O1 k), .int .i64 0]) (fun _=>True) (by simp [aE,slot,ae]) (by rw [z1,St.set_set];exact St.le_refl _) trivial (fun k hk _=>?_)
    by_cases hlt:k<c.cls.length
    · obtain ⟨x,hx⟩:∃ x,c.cls[k]? =some x:=⟨_,List.getElem?_eq_getElem hlt⟩
      have he:=ej (f:=fq) (m:=3) (fun _=>rfl) hx
      have hln:=rX c.cls
      simp only [fq] at he
      have q1:decide ((k:Int)<(c.cls.length:Int))=true:=by rw [decide_eq_true_eq];omega
      have hw:IntKind.i64.wrap ((k:Int)+1)=((k+1:Nat):Int):=by rw [wrap64 (by omega) (by omega)];omega
      have hfx:=sb hF.cls hx
      have d1:=PuG.up3 (p51 (lab x.l))
      rw [e7 (ck.lcls x (List.mem_of_getElem? hx))] at d1
      have d2:=p52 x.size (by unfold I64;omega)
      have d3:=p52 x.rate (by unfold I64;omega)
      have o1:O1 k++rowT (iH x)=O1 (k+1):=by subst hO1;exact kj [ic c] hx
      simp only [q1,↓R1,RR,seval,q1,he,hw,hcl,hca,hc0,h31,h32,hln,l32,hany]
      repeat' (first|(with_reducible rw [ah])|(with_reducible refine And.intro ?_ ?_;exact aq)|(with_reducible apply And.intro)|((first|(with_reducible intro β hβ;(try simp only [RB] at hβ);(repeat (obtain ⟨⟨_,_⟩,hβ⟩:=hβ));(try (have hbis:=ag (by assumption) hβ;obtain ⟨_,_⟩:=hbis)))|(refine aS (d1) hσ (aa _) ?_)|(refine aS (d2) hσ (aa _) ?_)|(refine aS (d3) hσ (aa _) ?_)|(refine eF (d:= [.str (O1 k), .int .i64 0]) (by simp only [↓R1,RR,seval,q1,he,hw,hcl,hca,hc0,h31,h32,hln,l32,hany]) (a49 (out:=O1 k) (l:=iH x) (by simp only [↓R1,RR,seval,q1,he,hw,hcl,hca,hc0,h31,h32,hln,l32,hany]) (vd hfx) (Ih k)) (aa _) ?_))<;>(try simp only [↓R1,RR,seval,q1,he,hw,hcl,hca,hc0,h31,h32,hln,l32,hany])))
      · simp [aE,slot,ae]
      · rw [o1]
        (refine St.aM (St.le_refl _) ?_;simp only [St.dM];assumption)
    have hke:k=c.cls.length:=by omega
    subst hke
    have q1:decide ((c.cls.length:Int)<(c.cls.length:Int))=false:=by simp
    have hc1:=E8 ck
    have l31:1+30≤33:=by decide
    simp only [q1,hc1,l31,↓R1,RR,seval,q1,he,hw,hcl,hca,hc0,h31,h32,hln,l32,hany]
    skip
    refine bn 6 (fun k=> [(1, .ptr B 0),(6, .ptr β 0),(51, .agg (c.tens.flatMap ia)),(52, .int .i64 (k:Nat))]) (fun k=>(σ.ad B (bK c)).ad β [.str (O2 k), .int .i64 0]) (fun _=>True) (by simp [aE,slot,ae]) (by rw [z2];exact St.le_refl _) trivial (fun k hk _=>?_)
    by_cases hlt:k<6
    · obtain ⟨x,hx⟩:∃ x,c.tens[k]? =some x:=⟨_,List.getElem?_eq_getElem (by omega)⟩
      have he:=ej (f:=ia) (m:=5) (fun _=>rfl) hx
      have hln:=ei c.tens
      rw [h6] at hln
      simp only [ia] at he
      have q1:decide ((k:Int)<6)=true:=by rw [decide_eq_true_eq];omega
      have hw:IntKind.i64.wrap ((k:Int)+1)=((k+1:Nat):Int):=by rw [wrap64 (by omega) (by omega)];omega
      have hfx:=sd (hF.ten x (List.mem_of_getElem? hx))
      have d1:=p52 x.budget (by unfold I64;omega)
      have d2:=p52 x.queries (by unfold I64;omega)
      have d3:=p52 x.cap (by unfold I64;omega)
      have d4:=p52 x.out (by unfold I64;omega)
      have d5:=p52 x.audit (by unfold I64;omega)
      have o1:O2 k++rowT (jQ x)=O2 (k+1):=by subst hO2;exact kj _ hx
      simp only [q1,↓R1,RR,seval,q1,he,hw,hcl,hca,hc0,h31,h32,hln,l32,hany]
      repeat' (first|(with_reducible rw [ah])|(with_reducible refine And.intro ?_ ?_;exact aq)|(with_reducible apply And.intro)|((first|(with_reducible intro β hβ;(try simp only [RB] at hβ);(repeat (obtain ⟨⟨_,_⟩,hβ⟩:=hβ));(try (have hbis:=ag (by assumption) hβ;obtain ⟨_,_⟩:=hbis)))|(refine aS (d1) hσ (aa _) ?_)|(refine aS (d2) hσ (aa _) ?_)|(refine aS (d3) hσ (aa _) ?_)|(refine aS (d4) hσ (aa _) ?_)|(refine aS (d5) hσ (aa _) ?_)|(refine eF (d:= [.str (O2 k), .int .i64 0]) (by simp only [↓R1,RR,seval,q1,he,hw,hcl,hca,hc0,h31,h32,hln,l32,hany]) (a49 (out:=O2 k) (l:=jQ x) (by simp only [↓R1,RR,seval,q1,he,hw,hcl,hca,hc0,h31,h32,hln,l32,hany]) (ve hfx) (Ii k)) (aa _) ?_))<;>(try simp only [↓R1,RR,seval,q1,he,hw,hcl,hca,hc0,h31,h32,hln,l32,hany])))
      · simp [aE,slot,ae]
      · rw [o1]
        (refine St.aM (St.le_refl _) ?_;simp only [St.dM];assumption)
    have hke:k=6:=by omega
    subst hke
    have q1:decide (((6:Nat):Int)<6)=false:=by decide
    have l31:31<33:=by decide
    simp only [q1,l31,↓R1,RR,seval,q1,he,hw,hcl,hca,hc0,h31,h32,hln,l32,hany]
    skip
    refine bn c.ruls.length (fun k=> [(6, .ptr β 0),(75, .sl false c.ruls.length (c.ruls.flatMap gM)),(76, .int .i64 (c.ruls.length:Nat)),(77, .int .i64 (k:Nat))]) (fun k=>(σ.ad B (bK c)).ad β [.str (O3 k), .int .i64 0]) (fun _=>True) (by simp [aE,slot,ae]) (by rw [z3];exact St.le_refl _) trivial (fun k hk _=>?_)
    by_cases hlt:k<c.ruls.length
    · obtain ⟨x,hx⟩:∃ x,c.ruls[k]? =some x:=⟨_,List.getElem?_eq_getElem hlt⟩
      have he:=ej (f:=gM) (m:=7) (fun _=>rfl) hx
      have hln:=rY c.ruls
      simp only [gM] at he
      have q1:decide ((k:Int)<(c.ruls.length:Int))=true:=by rw [decide_eq_true_eq];omega
      have hw:IntKind.i64.wrap ((k:Int)+1)=((k+1:Nat):Int):=by rw [wrap64 (by omega) (by omega)];omega
      have hxm:=List.mem_of_getElem? hx
      have hfx:=se (hF.rul x hxm)
      have hxl:=ck.lrul x hxm
      have hx64:=h64 x hxm
      have d1:=p52 x.owner (by unfold I64;omega)
      have d2:=PuG.up3 (p51 (lab x.auth))
      have d3:=PuG.up3 (p51 (lab x.res))
      rw [e7 hxl.1] at d2
      rw [e7 hxl.2] at d3
      have d4:=p53 x.kind
      have d5:=p54 x.low hx64.1
      have d6:=p54 x.high hx64.2
      have o1:O3 k++rowT (ji x)=O3 (k+1):=by subst hO3;exact kj _ hx
      have hrw:=vf hfx.1 hfx.2.1 hx64.1 hx64.2
      cases hany:x.any with
      | true =>
        have hkw:kZ x= [97,110,121]:=by rw [kZ,hany];rfl
        have hrl:ji x= [[114,117,108,101],itoa x.owner,cT (lab x.auth),cT (lab x.res),[97,110,121],itoa x.low,itoa x.high]:=by rw [ji,hkw]
        rw [hrl] at hrw o1
        simp only [q1,↓R1,RR,seval,q1,he,hw,hcl,hca,hc0,h31,h32,hln,l32,hany]
        repeat' (first|(with_reducible rw [ah])|(with_reducible refine And.intro ?_ ?_;exact aq)|(with_reducible apply And.intro)|((first|(with_reducible intro β hβ;(try simp only [RB] at hβ);(repeat (obtain ⟨⟨_,_⟩,hβ⟩:=hβ));(try (have hbis:=ag (by assumption) hβ;obtain ⟨_,_⟩:=hbis)))|(refine aS (d1) hσ (aa _) ?_)|(refine aS (d2) hσ (aa _) ?_)|(refine aS (d3) hσ (aa _) ?_)|(refine aS (d5) hσ (aa _) ?_)|(refine aS (d6) hσ (aa _) ?_)|(refine eF (d:= [.str (O3 k), .int .i64 0]) (by simp only [↓R1,RR,seval,q1,he,hw,hcl,hca,hc0,h31,h32,hln,l32,hany]) (a49 (out:=O3 k) (by simp only [↓R1,RR,seval,q1,he,hw,hcl,hca,hc0,h31,h32,hln,l32,hany]) hrw (uj k)) (aa _) ?_))<;>(try simp only [↓R1,RR,seval,q1,he,hw,hcl,hca,hc0,h31,h32,hln,l32,hany])))
        · simp [aE,slot,ae]
        · rw [o1]
          (refine St.aM (St.le_refl _) ?_;simp only [St.dM];assumption)
      | false =>
        have hkw:kZ x=cP x.kind:=by rw [kZ,hany];rfl
        have hrl:ji x= [[114,117,108,101],itoa x.owner,cT (lab x.auth),cT (lab x.res),cP x.kind,itoa x.low,itoa x.high]:=by rw [ji,hkw]
        rw [hrl] at hrw o1
        simp only [q1,↓R1,RR,seval,q1,he,hw,hcl,hca,hc0,h31,h32,hln,l32,hany]
        repeat' (first|(with_reducible rw [ah])|(with_reducible refine And.intro ?_ ?_;exact aq)|(with_reducible apply And.intro)|((first|(with_reducible intro β hβ;(try simp only [RB] at hβ);(repeat (obtain ⟨⟨_,_⟩,hβ⟩:=hβ));(try (have hbis:=ag (by assumption) hβ;obtain ⟨_,_⟩:=hbis)))|(refine Pt (d4) ?_)|(refine aS (d1) hσ (aa _) ?_)|(refine aS (d2) hσ (aa _) ?_)|(refine aS (d3) hσ (aa _) ?_)|(refine aS (d5) hσ (aa _) ?_)|(refine aS (d6) hσ (aa _) ?_)|(refine eF (d:= [.str (O3 k), .int .i64 0]) (by simp only [↓R1,RR,seval,q1,he,hw,hcl,hca,hc0,h31,h32,hln,l32,hany]) (a49 (out:=O3 k) (by simp only [↓R1,RR,seval,q1,he,hw,hcl,hca,hc0,h31,h32,hln,l32,hany]) hrw (uj k)) (aa _) ?_))<;>(try simp only [↓R1,RR,seval,q1,he,hw,hcl,hca,hc0,h31,h32,hln,l32,hany])))
        · simp [aE,slot,ae]
        · rw [o1]
          (refine St.aM (St.le_refl _) ?_;simp only [St.dM];assumption)
    have hke:k=c.ruls.length:=by omega
    subst hke
    have q1:decide ((c.ruls.length:Int)<(c.ruls.length:Int))=false:=by simp
    simp only [q1,↓R1,RR,seval,q1,he,hw,hcl,hca,hc0,h31,h32,hln,l32,hany]
    skip
    rw [z4]
    refine ak ?_
    simp only [ao,↓R1,RR,seval,q1,he,hw,hcl,hca,hc0,h31,h32,hln,l32,hany]
    exact ae _
  · have q1:((gD c).1 != 0)=true:=by rw [bne_iff_ne];exact hz
    rw [vg,if_neg hz]
    (refine aP c18 b18 fun σ hσ=>?_;simp only [c18,↓R1,RR,seval,q1,he,hw,hcl,hca,hc0,h31,h32,hln,l32,hany])
    repeat' ((first|(with_reducible intro β hβ;(try simp only [RB] at hβ);(repeat (obtain ⟨⟨_,_⟩,hβ⟩:=hβ));(try (have hbis:=ag (by assumption) hβ;obtain ⟨_,_⟩:=hbis)))|(refine Pt (hck) ?_))<;>(try simp only [↓R1,RR,seval,q1,he,hw,hcl,hca,hc0,h31,h32,hln,l32,hany]))
    refine ak ?_
    simp only [ao,↓R1,RR,seval,q1,he,hw,hcl,hca,hc0,h31,h32,hln,l32,hany]
    exact ae _
theorem dh {α:Type} (a b:α):List.drop 2 [a,b]= []:=rfl
theorem pS (n:Int) (hn:I64 n):Pu Tryz.prog 57 [.int .i64 n] (.str (itoa n)):=by
 have h0:=p60 n hn
 (refine al c57 b57 fun σ=>?_;simp only [c57,↓R1,RR,seval])
 repeat' ((refine Pt (h0) ?_)<;>(try simp only [↓R1,RR,seval]))
 (refine ak (af ?_))
 (simp only [ao,↓R1,RR,seval])
end Go.Proofs.YtgephffbfiemeaaGreatDoor
