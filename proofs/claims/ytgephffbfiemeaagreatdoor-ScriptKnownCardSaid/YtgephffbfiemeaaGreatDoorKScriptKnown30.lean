/- Part 30 of the proof of ScriptKnown: an abstract semantics that is proved sound for the model, contracts of functions in it, and plain facts (ZP4 ZP5 ZP6 ZP7 ZP8 ZP9 ZP10 ZP11 X18 X19 X20 X22 X23 X24 X25 X26 X28 X29 Y11 ZP12 ZR7 Y9 W1 W2 W3). No condition. -/
import Derived.Test.YtgephffbfiemeaaGreatDoorKScriptKnown29
set_option linter.all false
namespace Go.Proofs.YtgephffbfiemeaaGreatDoor
open Go.Abs Go.Lib
set_option linter.all false
set_option maxRecDepth 100000
def C3:List UInt8:= [97,110,121]
def C4 (w:Wd):Except Ft (Bool × Int):=if w.q=false∧w.t=C3 then .ok (true,0) else eb (ss w) fun k=> .ok (false,k)
def er (w1 w2 w3 w4 w5 w6:Wd) (a:Int) (p:PlanI):Except Ft PlanI :=
 eb (db w1) fun o=>eb (fN w2) fun x=>eb (fN w3) fun y=>eb (C4 w4) fun k=>eb (cz w5) fun lo=>eb (cz w6) fun hi =>
  if p.ruls.length=8 then .error (6,a) else .ok { p with ruls:=p.ruls++ [⟨o,x,y,k.1,k.2,lo,hi⟩] }
theorem sF {p:PlanI} (κ υ:Nat) (h:p.tens.length=6) (x:RulI):(pB κ υ p).take 31++ [AV.tsl υ (p.ruls.length+1) (p.ruls.flatMap dL++ [.int .i64 x.owner, .int .u64 x.auth, .int .u64 x.res, .bool x.any, .int .i64 x.kind, .int .i64 x.low, .int .i64 x.high])]++(pB κ υ p).drop 32=pB κ υ { p with ruls:=p.ruls++ [x] }:=by
 have h1:=(vM κ υ h).1
 have h2:(pB κ υ p).drop 32= [.int .u64 p.hor, .int .i64 (p.n:Nat), .int .i64 (p.t:Nat)]:=by
  rw [show 32=31+1 from rfl,←List.drop_drop,(vM κ υ h).2];rfl
 rw [h1,h2]
 simp [pB,dL]
theorem _root_.Px {p:Prop} (h:p:=by first|assumption|(simp only [↓R1,RR,seval,RX,hln,h31p,hcur,hcur1,hcur2,hcurl,hr7,he];assumption)):p:=h
theorem _root_.O4 {p:Prop} (h:p:=by first|assumption|(simp only [RR,seval];assumption)):p:=h
theorem _root_.PG {p:Prop} (h:p:=by rw [er,aE _ ho1,aE _ ho2,aE _ ho3,aE _ hany,aE _ ho5,aE _ ho6,if_pos h8]):p:=h
theorem _root_.PH {p:Prop} (h:p:=by rw [er,aE _ ho1,aE _ ho2,aE _ ho3,aE _ hany,aE _ ho5,aE _ ho6,if_neg h8]):p:=h
theorem _root_.PV {p:Prop} (h:p:=by rw [er,aE _ ho1,aE _ ho2,aE _ ho3,aE _ hany,aE _ ho5,dz _ ho6]):p:=h
set_option maxHeartbeats 4000000 in
theorem Oi {σ σ0:St} {ζ γ κ υ:Nat} {p:PlanI} {r:Rw} {w0 w1 w2 w3 w4 w5 w6:Wd} (hp:σ.box ζ=some (pB κ υ p)) (hp0:σ0.box ζ=none) (ht:σ.tip υ=some (97,7,p.ruls.length)) (h6:p.tens.length=6) (hc8:p.ruls.length≤8) (h:Cu σ0 σ γ r 1) (hne:ζ≠γ) (hws:r.ws= [w0,w1,w2,w3,w4,w5,w6]) :
  AX Tryz.prog 126 [.ptr ζ 0, .ptr γ 0] σ (oX TS (er w1 w2 w3 w4 w5 w6 (r.a:Nat) p) (fun _=> .tup []) (fun q=>((σ.ad γ (cur r 7)).ai υ (97,7,q.ruls.length)).ad ζ (pB κ υ q)) σ0):=by
 haveI:BoxIs σ γ (cur r 1):=⟨h.hb⟩
 haveI:BoxIs σ ζ (pB κ υ p):=⟨hp⟩
 haveI:Apart ζ γ:=⟨hne⟩
 haveI:Apart γ ζ:=⟨hne.symm⟩
 have hln:=fO κ υ h6
 have h31p:=Gx κ υ h6
 have hcur:∀ k,(cur r k)[0]? =some (.int .i64 (r.a:Nat)):=fun _=>rfl
 have hcur1:∀ k,(cur r k)[1]? =some (.sl false r.ws.length (r.ws.flatMap cWd)):=fun _=>rfl
 have hcur2:∀ k,(cur r k)[2]? =some (.int .i64 (k:Nat)):=fun _=>rfl
 have hcurl:∀ k,(cur r k).length=3:=fun _=>rfl
 have hr7:r.ws.length=7:=OU
 have h0:=h.h0
 have hlw:=h.lw
 have hw1:r.ws[1]? =some w1:=OU
 have hw2:r.ws[2]? =some w2:=OU
 have hw3:r.ws[3]? =some w3:=OU
 have hw4:r.ws[4]? =some w4:=OU
 have hw5:r.ws[5]? =some w5:=OU
 have hw6:r.ws[6]? =some w6:=OU
 have he:((r.ws.flatMap cWd).drop 12).take 3= [.bool w4.q, .str w4.t, .int .i64 (w4.a:Nat)]:=uO hw4
 have hwl:=p8 r.ws
 (refine aB BJ KX ?_;simp only [BJ,↓R1,RR,seval,RX])
 repeat' (first|(with_reducible rw [ah])|(with_reducible refine And.intro ?_ ?_;exact ak)|(with_reducible apply And.intro)|((first|(with_reducible intro β hβ;(try simp only [RB] at hβ);(repeat (obtain ⟨⟨_,_⟩,hβ⟩:=hβ));(try (have hbis:=ag OB hβ;obtain ⟨_,_⟩:=hbis)))|((refine aH (CL (σ0:=σ0) (r:=r) (k:=1) ?_ hw1) (aa _) (fun a1 ho1=>?_) (fun e ho1=>?_);(focus ((repeat' (first|assumption|(refine Cu.to (k:=1) ?_)|(refine Cu.new ?_ Px)));done))))|((refine aH (CM (σ0:=σ0) (r:=r) (k:=2) ?_ hw2) (aa _) (fun a2 ho2=>?_) (fun e ho2=>?_);(focus ((repeat' (first|assumption|(refine Cu.to (k:=1) ?_)|(refine Cu.new ?_ O4)));done))))|((refine aH (CM (σ0:=σ0) (r:=r) (k:=3) ?_ hw3) (aa _) (fun a3 ho3=>?_) (fun e ho3=>?_);(focus ((repeat' (first|assumption|(refine Cu.to (k:=1) ?_)|(refine Cu.new ?_ Px)));done)))))<;>(try simp only [↓R1,RR,seval,RX,hcur1,hcur2,hcurl,hr7,he])))
 ·exact .inr trivial
 ·refine cq (fun hc=>?_) (fun hc=>?_)
  ·have hany:C4 w4= .ok (true,0):=by
    rw [C4,if_pos]
    simpa [C3] using hc
   simp only [↓R1,RR,seval,RX]
   repeat' ((first|((refine AC.mono (AC.wk (a182 (k:=4) (rw_:=r) ?_ hw4 h.n) (aa _)) ?_;(focus (simp only [RR,seval];done));(rintro _ _ ⟨rfl,rfl⟩)))|((refine aH (na (σ0:=σ0) (r:=r) (k:=5) ?_ hw5) (aa _) (fun a5 ho5=>?_) (fun e ho5=>?_);(focus ((repeat' (first|assumption|(refine Cu.to (k:=1) ?_)|(refine Cu.new ?_ O4)));done))))|((refine aH (na (σ0:=σ0) (r:=r) (k:=6) ?_ hw6) (aa _) (fun a6 ho6=>?_) (fun e ho6=>?_);(focus ((repeat' (first|assumption|(refine Cu.to (k:=1) ?_)|(refine Cu.new ?_ O4)));done))))|((refine cq (fun hc=>?_) (fun hc=>?_)))|((refine bh (σ0:=σ0) OK OC ?_)))<;>(try simp only [↓R1,RR,seval,RX,hln,h31p,hcur,hcurl]))
   ·have h8:p.ruls.length=8:=by simp only [beq_iff_eq] at hc;omega
    exact ax PG (St.an _)
   ·have h8:p.ruls.length≠8:=by
     intro h
     simp only [beq_eq_false_iff_ne] at hc
     exact hc PC
    have hcl:=il p.ruls
    refine bz (.inr rfl) rfl ?_ ?_ ?_ ?_ ?_ ?_
    ·simp only [ht,RR,seval]
    ·omega
    ·rfl
    ·unfold maxLen;omega
    ·omega
    have hq:er w1 w2 w3 w4 w5 w6 (r.a:Nat) p= .ok { p with ruls:=p.ruls++ [⟨a1,a2,a3,true,0,a5,a6⟩] }:=PH
    have hm:=sF (p:=p) κ υ h6 ⟨a1,a2,a3,true,0,a5,a6⟩
    simp only [fw ho1,↓R1,RR,seval,RX,hln]
    simp only at hm
    rw [hm]
    refine bF hq ?_ ?_
    ·simp only [ar,RR,seval]
     exact ae _
    ·simp only [List.length_append,List.length_singleton]
     (repeat' (first|assumption|exact St.an _|(refine St.dw ?_)|(refine St.eh ?_ OI)|(refine St.eC ?_ ?_)|(refine St.c7 ?_ Pf)|exact wkL.nil|exact aa _|(refine wkL.cons ?_ ?_)|exact ae _|exact dc|exact dD _ _ _|exact cQ _ _))
   ·exact ax PV (St.an _)
   ·exact ax (by rw [er,aE _ ho1,aE _ ho2,aE _ ho3,aE _ hany,dz _ ho5]) (St.an _)
  ·have hany:C4 w4=eb (ss w4) fun k=> .ok (false,k):=by
    rw [C4,if_neg]
    intro hh
    rw [hh.1,hh.2] at hc
    simp [C3] at hc
   simp only [↓R1,RR,seval,RX]
   repeat' ((first|((refine aH (Lm (σ0:=σ0) (r:=r) (k:=4) ?_ hw4) (aa _) (fun a4 ho4=>?_) (fun e ho4=>?_);(focus ((repeat' (first|assumption|(refine Cu.to (k:=1) ?_)|(refine Cu.new ?_ O4)));done))))|((refine aH (na (σ0:=σ0) (r:=r) (k:=5) ?_ hw5) (aa _) (fun a5 ho5=>?_) (fun e ho5=>?_);(focus ((repeat' (first|assumption|(refine Cu.to (k:=1) ?_)|(refine Cu.new ?_ O4)));done))))|((refine aH (na (σ0:=σ0) (r:=r) (k:=6) ?_ hw6) (aa _) (fun a6 ho6=>?_) (fun e ho6=>?_);(focus ((repeat' (first|assumption|(refine Cu.to (k:=1) ?_)|(refine Cu.new ?_ O4)));done))))|((refine cq (fun hc=>?_) (fun hc=>?_)))|((refine bh (σ0:=σ0) OK OC ?_)))<;>(try simp only [↓R1,RR,seval,RX,hln,h31p,hcur,hcurl]))
   ·have h8:p.ruls.length=8:=by simp only [beq_iff_eq] at hc;omega
    rw [aE _ ho4] at hany
    exact ax PG (St.an _)
   ·rw [aE _ ho4] at hany
    have h8:p.ruls.length≠8:=by
     intro h
     simp only [beq_eq_false_iff_ne] at hc
     exact hc PC
    have hcl:=il p.ruls
    refine bz (.inr rfl) rfl ?_ ?_ ?_ ?_ ?_ ?_
    ·simp only [ht,RR,seval]
    ·omega
    ·rfl
    ·unfold maxLen;omega
    ·omega
    have hq:er w1 w2 w3 w4 w5 w6 (r.a:Nat) p= .ok { p with ruls:=p.ruls++ [⟨a1,a2,a3,false,a4,a5,a6⟩] }:=PH
    have hm:=sF (p:=p) κ υ h6 ⟨a1,a2,a3,false,a4,a5,a6⟩
    simp only [fw ho1,↓R1,RR,seval,RX,hln]
    simp only at hm
    rw [hm]
    refine bF hq ?_ ?_
    ·simp only [ar,RR,seval]
     exact ae _
    ·simp only [List.length_append,List.length_singleton]
     (repeat' (first|assumption|exact St.an _|(refine St.dw ?_)|(refine St.eh ?_ OI)|(refine St.eC ?_ ?_)|(refine St.c7 ?_ Pf)|exact wkL.nil|exact aa _|(refine wkL.cons ?_ ?_)|exact ae _|exact dc|exact dD _ _ _|exact cQ _ _))
   ·rw [aE _ ho4] at hany
    exact ax PV (St.an _)
   ·rw [aE _ ho4] at hany
    exact ax (by rw [er,aE _ ho1,aE _ ho2,aE _ ho3,aE _ hany,dz _ ho5]) (St.an _)
   ·rw [dz _ ho4] at hany
    exact ax (by rw [er,aE _ ho1,aE _ ho2,aE _ ho3,dz _ hany]) (St.an _)
 ·exact ax (by simp only [er,aE _ ho1,aE _ ho2,dz _ ho3]) (St.an _)
 ·exact ax (by simp only [er,aE _ ho1,dz _ ho2]) (St.an _)
 ·exact ax (by simp only [er,dz _ ho1]) (St.an _)
def gH (l:List AV) (o:Nat) (xs:List AV):List AV:=l.take o++xs++l.drop (o+xs.length)
theorem C5 (l:List AV) (o:Nat):gH l o []=l:=by simp [gH]
theorem C6 {l xs:List AV} {o:Nat} (h:o+xs.length≤l.length):(gH l o xs).length=l.length:=by
 simp only [gH,List.length_append,List.length_take,List.length_drop];omega
theorem yO {l xs:List AV} {o:Nat} (x:AV) (h:o+xs.length<l.length):(gH l o xs).take (o+xs.length)++ [x]++(gH l o xs).drop (o+xs.length+1)=gH l o (xs++ [x]):=by
 have h1:(l.take o++xs).length=o+xs.length:=by simp only [List.length_append,List.length_take];omega
 have e1:(gH l o xs).take (o+xs.length)=l.take o++xs:=by rw [gH,List.take_left' h1]
 have e2:(gH l o xs).drop (o+xs.length+1)=l.drop (o+xs.length+1):=by
  rw [gH,List.drop_append,h1,List.drop_of_length_le Oz,List.nil_append,show o+xs.length+1 - (o+xs.length)=1 by omega,List.drop_drop]
 rw [e1,e2,gH]
 simp [Nat.add_assoc]
def okv (o:Except Ft Int):Int:=match o with
 | .ok a=>a
 | .error _=>0
theorem kH {o:Except Ft Int} {a:Int} (h:o= .ok a):okv o=a:=PC
def lB (ws:List Wd):List AV:=ws.map fun w=> .int .i64 (okv (db w))
def eR (w1 w2 w3 w4 w5:Wd) (p:PlanI):Except Ft PlanI :=
 eb (db w1) fun a=>eb (db w2) fun b=>eb (db w3) fun c=>eb (db w4) fun d=>eb (db w5) fun e=> .ok { p with tens:=p.tens.set p.t ⟨a,b,c,d,e⟩,t:=p.t+1 }
theorem vN:∀ (l:List TenI) (t:Nat) (x:TenI),t<l.length→gH (l.flatMap cM) (t*5) (cM x)=(l.set t x).flatMap cM
  | [],t,x,h=>by simp at h
  | y::l,0,x,_=>by simp [gH,cM]
  | y :: l, t + 1, x, h => by
    have ih:=vN l t x Py
    rw [List.set_cons_succ,List.flatMap_cons,List.flatMap_cons,←ih]
    have hy:(cM y).length=5:=rfl
    have hx:(cM x).length=5:=rfl
    simp only [gH,hx]
    rw [show (t+1)*5=5+t*5 by omega,List.take_append,List.drop_append,hy,List.take_of_length_le Oz,List.drop_of_length_le Oz,show 5+t*5 - 5=t*5 by omega,show 5+t*5+5 - 5=t*5+5 by omega]
    simp
theorem JA {p:PlanI} (κ υ:Nat) (h6:p.tens.length=6) (ht:p.t<6) (x:TenI):gH (pB κ υ p) (1+p.t*5) (cM x)=pB κ υ { p with tens:=p.tens.set p.t x }:=by
 have hl:(p.tens.flatMap cM).length=30:=by rw [bp,h6]
 have hx:(cM x).length=5:=rfl
 simp only [pB]
 rw [←vN p.tens p.t x Oz]
 simp only [gH,hx]
 rw [show 1+p.t*5+5=(p.t*5+5)+1 by omega,show 1+p.t*5=p.t*5+1 by omega,List.take_succ_cons,List.drop_succ_cons,List.take_append_of_le_length Oz,List.drop_append_of_le_length Oz]
 simp
theorem vO {σ:St} {β:Nat} {c:List AV} (h:σ.box β=some c):σ.ad β c=σ:=by
 obtain ⟨b,t,g,l,bt⟩:=σ
 simp only [St.ad,St.mk.injEq,and_true]
 funext j
 simp only [upd]
 split
 ·rename_i e;subst e;exact h.symm
 ·rfl
def C7 (wl:List Wd) (k:Nat):Prop:=∀ j w,j<k→wl[j]? =some w→∃ a,db w= .ok a
theorem C7.next {wl:List Wd} {k:Nat} {w:Wd} {a:Int} (h:C7 wl k) (hw:wl[k]? =some w) (ha:db w= .ok a):C7 wl (k+1):=by
 intro j v hj hv
 by_cases e:j=k
 ·subst e;rw [hw] at hv;cases hv;exact ⟨a,ha⟩
 ·exact h j v Oz hv
theorem F1 {w1 w2 w3 w4 w5 w:Wd} {p:PlanI} {k:Nat} {e:Ft} (hI:C7 [w1,w2,w3,w4,w5] k) (hw : [w1,w2,w3,w4,w5][k]? =some w) (he:db w= .error e):eR w1 w2 w3 w4 w5 p= .error e:=by
 have hk:k<5:=(List.getElem?_eq_some_iff.1 hw).1
 have hc:k=0∨k=1∨k=2∨k=3∨k=4:=Oz
 unfold eR
 rcases hc with rfl|rfl|rfl|rfl|rfl
 ·cases hw;rw [dz _ he]
 ·cases hw;obtain ⟨a,ha⟩:=hI 0 _ Oz rfl;rw [aE _ ha,dz _ he]
 ·cases hw;obtain ⟨a,ha⟩:=hI 0 _ Oz rfl;obtain ⟨b,hb⟩:=hI 1 _ Oz rfl;rw [aE _ ha,aE _ hb,dz _ he]
 ·cases hw;obtain ⟨a,ha⟩:=hI 0 _ Oz rfl;obtain ⟨b,hb⟩:=hI 1 _ Oz rfl;obtain ⟨c,hc⟩:=hI 2 _ Oz rfl;rw [aE _ ha,aE _ hb,aE _ hc,dz _ he]
 ·cases hw;obtain ⟨a,ha⟩:=hI 0 _ Oz rfl;obtain ⟨b,hb⟩:=hI 1 _ Oz rfl;obtain ⟨c,hc⟩:=hI 2 _ Oz rfl;obtain ⟨d,hd⟩:=hI 3 _ Oz rfl;rw [aE _ ha,aE _ hb,aE _ hc,aE _ hd,dz _ he]
set_option maxHeartbeats 4000000 in
theorem Oj {σ σ0:St} {ζ γ κ υ:Nat} {p:PlanI} {r:Rw} {w0 w1 w2 w3 w4 w5:Wd} (hp:σ.box ζ=some (pB κ υ p)) (hp0:σ0.box ζ=none) (h6:p.tens.length=6) (ht6:p.t<6) (h:Cu σ0 σ γ r 1) (hne:ζ≠γ) (hws:r.ws= [w0,w1,w2,w3,w4,w5]) :
  AX Tryz.prog 125 [.ptr ζ 0, .ptr γ 0] σ (oX TS (eR w1 w2 w3 w4 w5 p) (fun _=> .tup []) (fun q=>(σ.ad γ (cur r 6)).ad ζ (pB κ υ q)) σ0):=by
 haveI:BoxIs σ γ (cur r 1):=⟨h.hb⟩
 haveI:BoxIs σ ζ (pB κ υ p):=⟨hp⟩
 haveI:Apart ζ γ:=⟨hne⟩
 haveI:Apart γ ζ:=⟨hne.symm⟩
 have hln:=fO κ υ h6
 have h34p:=vL κ υ h6
 have i1:True:=trivial
 have hw:True:=trivial
 have he:True:=trivial
 have h0:=h.h0
 have hlw:=h.lw
 (refine aB Iz MW ?_;simp only [Iz,↓R1,RR,seval,RX,hln,h34p])
 repeat' (with_reducible refine And.intro ?_ ?_;exact ak)
 ·have hbase:1+p.t*5+5≤35:=by omega
  obtain ⟨wl,hwl⟩:∃ wl,wl= [w1,w2,w3,w4,w5]:=⟨_,rfl⟩
  have hl5:wl.length=5:=by rw [hwl];rfl
  refine oz 5 (fun k=> [(0, .ptr ζ 0),(1, .ptr γ 0),(31, .sl true 5 [.ptr ζ (1+p.t*5), .ptr ζ (1+p.t*5+1), .ptr ζ (1+p.t*5+2), .ptr ζ (1+p.t*5+3), .ptr ζ (1+p.t*5+4)]),(32, .int .i64 5),(33, .int .i64 (k:Nat))])
   (fun k=>(σ.ad γ (cur r (1+k))).ad ζ (gH (pB κ υ p) (1+p.t*5) (lB (wl.take k))))
   (C7 wl) OP (by
    simp only [List.take_zero,lB,List.map_nil,C5]
    rw [vO h.hb,vO hp];exact St.le_refl _) (by intro j w hj;omega) (fun k hk hI=>?_)
  by_cases hlt:k<5
  ·have i1:decide ((k:Int)<5)=true:=by rw [decide_eq_true_eq];omega
   obtain ⟨w,hwk⟩:∃ w,wl[k]? =some w:=⟨_,List.getElem?_eq_getElem Oz⟩
   have hrk:r.ws[1+k]? =some w:=by rw [hws,show 1+k=k+1 by omega,List.getElem?_cons_succ,←hwl];exact hwk
   have he:([AV.ptr ζ (1+p.t*5), .ptr ζ (1+p.t*5+1), .ptr ζ (1+p.t*5+2), .ptr ζ (1+p.t*5+3), .ptr ζ (1+p.t*5+4)].drop (k*1)).take 1= [.ptr ζ (1+p.t*5+k)]:=by
    have hc:k=0∨k=1∨k=2∨k=3∨k=4:=Oz
    rcases hc with rfl|rfl|rfl|rfl|rfl<;>rfl
   have hw:IntKind.i64.wrap ((k:Int)+1)=((k+1:Nat):Int):=OD
   have hcu:∀ X,Cu σ0 ((σ.ad γ (cur r (1+k))).ad ζ X) γ r (1+k):=fun X=>⟨by simp [St.ad,upd,hne.symm],h.h0,St.c7 (St.c7 h.lw h.h0) hp0,h.n,h.t⟩
   simp only [↓R1,RR,seval,RX,i1,he]
   repeat' (first|(with_reducible refine And.intro ?_ ?_;exact ak)|(with_reducible apply And.intro)|(((refine aH (CL (hcu _) hrk) (aa _) (fun a1 ho1=>?_) (fun e ho1=>?_)))<;>(try simp only [↓R1,RR,seval,RX,hw])))
   ·have htl:(lB (wl.take k)).length=k:=by simp only [lB,List.length_map,List.length_take];omega
    rw [C6 (by rw [htl,hln];omega),hln];omega
   ·exact hI.next hwk ho1
   ·simp [aK,slot,ae]
   ·have htl:(lB (wl.take k)).length=k:=by simp only [lB,List.length_map,List.length_take];omega
    have hst:=yO (l:=pB κ υ p) (xs:=lB (wl.take k)) (o:=1+p.t*5) (.int .i64 a1) (by rw [htl,hln];omega)
    rw [htl] at hst
    have hsn:lB (wl.take (k+1))=lB (wl.take k)++ [.int .i64 a1]:=by
     obtain ⟨q1,q2⟩:=List.getElem?_eq_some_iff.1 hwk
     rw [←List.take_append_getElem q1,q2,lB,List.map_append,List.map_singleton,kH ho1];rfl
    rw [fw ho1,hst,hsn]
    exact St.le_refl _
   ·rw [hwl] at hI hwk
    exact ax (F1 hI hwk ho1) (St.an _)
  ·have hk5:k=5:=by omega
   subst hk5
   have i1:decide (((5:Nat):Int)<5)=false:=OK
   rw [hwl] at hI
   obtain ⟨a,ha⟩:=hI 0 w1 Oz rfl
   obtain ⟨b,hb⟩:=hI 1 w2 Oz rfl
   obtain ⟨c,hc⟩:=hI 2 w3 Oz rfl
   obtain ⟨d,hd⟩:=hI 3 w4 Oz rfl
   obtain ⟨e,he5⟩:=hI 4 w5 Oz rfl
   have hq:eR w1 w2 w3 w4 w5 p= .ok { p with tens:=p.tens.set p.t ⟨a,b,c,d,e⟩,t:=p.t+1 }:=by
    unfold eR;rw [aE _ ha,aE _ hb,aE _ hc,aE _ hd,aE _ he5]
   have hbx:gH (pB κ υ p) (1+p.t*5) (lB (wl.take 5))=pB κ υ { p with tens:=p.tens.set p.t ⟨a,b,c,d,e⟩ }:=by
    rw [←JA κ υ h6 ht6,hwl]
    simp only [lB,List.take,List.map_cons,List.map_nil,kH ha,kH hb,kH hc,kH hd,kH he5,cM]
   have h6':({ p with tens:=p.tens.set p.t ⟨a,b,c,d,e⟩ }:PlanI).tens.length=6:=by simp [h6]
   rw [hbx]
   generalize hp':({ p with tens:=p.tens.set p.t ⟨a,b,c,d,e⟩ }:PlanI)=p' at h6'
   have htt:p'.t=p.t:=by rw [←hp']
   have hln:=fO κ υ h6'
   have h34p:=vL κ υ h6'
   have hw:IntKind.i64.wrap ((p'.t:Int)+1)=((p'.t+1:Nat):Int):=OD
   simp only [↓R1,RR,seval,RX,hln,h34p,hw]
   skip
   have hst:(pB κ υ p').take 34++ [.int .i64 ((p'.t+1:Nat):Int)]++(pB κ υ p').drop 35=pB κ υ { p' with t:=p'.t+1 }:=uX κ υ h6' 3 _
   rw [hst]
   refine bF hq ?_ ?_
   ·simp only [ar,RR,seval]
    exact ae _
   ·rw [←hp']
    exact St.an _
def oR:List UInt8:= [104,111,114,105,122,111,110]
def vP:List UInt8:= [99,108,97,115,115]
def sG:List UInt8:= [116,101,110,97,110,116]
def C8:List UInt8:= [114,117,108,101]
def kI:List (List UInt8):= [oR,vP,sG,C8]
def gS:List Nat:= [2,4,6,7]
def vQ:List Nat:= [123,124,125,126]
def iZ (k:Nat) (ws:List Wd) (a:Int) (p:PlanI):Except Ft PlanI:=match k,ws with
 | 0,[_,w1]=>eb (db w1) fun v=> .ok { p with hor:=v }
 | 1,[_,w1,w2,w3]=>fv w1 w2 w3 a p
 | 2,[_,w1,w2,w3,w4,w5]=>eR w1 w2 w3 w4 w5 p
 | 3,[_,w1,w2,w3,w4,w5,w6]=>er w1 w2 w3 w4 w5 w6 a p
 | _,_=> .ok p
def oS (r:Rw):Option Nat:=match r.ws with
 | []=>none
 | w0::_=>bif w0.q then none else dG w0.t kI 0
def ja (r:Rw) (p:PlanI):Except Ft PlanI:=match oS r with
 | none=> .error (9,(r.a:Int))
 | some k=>if sD p k=false then .error (9,(r.a:Int)) else if r.ws.length=gS[k]?.getD 0 then eb (iZ k r.ws (r.a:Nat) p) fun q=> .ok { q with n:=q.n+1 } else .error (3,(r.a:Int))
structure Pl (σ0 σ:St) (ζ κ υ:Nat) (p:PlanI):Prop where
 hb:σ.box ζ=some (pB κ υ p)
 h0:σ0.box ζ=none
 tk:σ.tip κ=some (94,3,p.cls.length)
 tu:σ.tip υ=some (97,7,p.ruls.length)
 six:p.tens.length=6
 c8:p.cls.length≤8
 r8:p.ruls.length≤8
def dQ (ζ κ υ:Nat) (q:PlanI) (σ:St):St:=((σ.ai κ (94,3,q.cls.length)).ai υ (97,7,q.ruls.length)).ad ζ (pB κ υ q)
theorem iF {σ:St} {τ:Nat} {x:Nat × Nat × Nat} (h:σ.tip τ=some x):σ.ai τ x=σ:=by
 obtain ⟨b,t,g,l,bt⟩:=σ
 simp only [St.ai,St.mk.injEq,true_and,and_true]
 funext j;simp only [upd]
 split
 ·rename_i e;subst e;exact h.symm
 ·rfl
theorem bl {α β:Type} {o:Except Ft α} {f:α→Except Ft β} {b:β} (h:eb o f= .ok b):∃ a,o= .ok a∧f a= .ok b:=by
 cases o with
 | error x=>simp only [eb] at h;cases h
 | ok a=>exact ⟨a,rfl,h⟩
theorem AX.res {f T:Nat} {xs:List AV} {σ:St} {α:Type} {o:Except Ft α} {t:α→AV} {s1 s2:α→St} {s0:St} (h:AX Tryz.prog f xs σ (oX T o t s1 s0)) (he:∀ a,o= .ok a→s1 a=s2 a):AX Tryz.prog f xs σ (oX T o t s2 s0) :=
 h.mono fun b r s hb=>by
  cases b with
  | false=>obtain ⟨a,h1,h2,h3⟩:=hb;exact ⟨a,h1,h2,by rw [h3,he a h1]⟩
  | true=>exact hb
theorem Ls {α:Type} {l:List α} (h:l.length=6):∃ a0 a1 a2 a3 a4 a5,l= [a0,a1,a2,a3,a4,a5]:=by
 match l,h with
 | [a0,a1,a2,a3,a4,a5],_=>exact ⟨a0,a1,a2,a3,a4,a5,rfl⟩
theorem Ol {α:Type} {l:List α} (h:l.length=7):∃ a0 a1 a2 a3 a4 a5 a6,l= [a0,a1,a2,a3,a4,a5,a6]:=by
 match l,h with
 | [a0,a1,a2,a3,a4,a5,a6],_=>exact ⟨a0,a1,a2,a3,a4,a5,a6,rfl⟩
theorem Lt {w1 w2 w3 w4 w5:Wd} {p q:PlanI} (h:eR w1 w2 w3 w4 w5 p= .ok q):q.cls=p.cls∧q.ruls=p.ruls∧q.tens.length=p.tens.length∧q.t=p.t+1:=by
 unfold eR at h
 obtain ⟨_,_,h⟩:=bl h
 obtain ⟨_,_,h⟩:=bl h
 obtain ⟨_,_,h⟩:=bl h
 obtain ⟨_,_,h⟩:=bl h
 obtain ⟨_,_,h⟩:=bl h
 cases h;simp
theorem Lu {w1 w2 w3:Wd} {a:Int} {p q:PlanI} (h:fv w1 w2 w3 a p= .ok q):∃ x,q={ p with cls:=p.cls++ [x] }∧p.cls.length≠8:=by
 unfold fv at h
 obtain ⟨_,_,h⟩:=bl h
 obtain ⟨_,_,h⟩:=bl h
 obtain ⟨_,_,h⟩:=bl h
 split at h
 ·cases h
 ·rename_i h8;cases h;exact ⟨_,rfl,h8⟩
theorem Lx {w1 w2 w3 w4 w5 w6:Wd} {a:Int} {p q:PlanI} (h:er w1 w2 w3 w4 w5 w6 a p= .ok q):∃ x,q={ p with ruls:=p.ruls++ [x] }∧p.ruls.length≠8:=by
 unfold er at h
 obtain ⟨_,_,h⟩:=bl h
 obtain ⟨_,_,h⟩:=bl h
 obtain ⟨_,_,h⟩:=bl h
 obtain ⟨_,_,h⟩:=bl h
 obtain ⟨_,_,h⟩:=bl h
 obtain ⟨_,_,h⟩:=bl h
 split at h
 ·cases h
 ·rename_i h8;cases h;exact ⟨_,rfl,h8⟩
theorem Gy {p:PlanI} (h:sD p 2=true):p.t<6:=by
 simp only [sD,Bool.and_eq_true,decide_eq_true_eq] at h;omega
theorem oT {σ:St} {ζ κ υ:Nat} {q:PlanI} (hk:σ.tip κ=some (94,3,q.cls.length)) (hu:σ.tip υ=some (97,7,q.ruls.length)):dQ ζ κ υ q σ=σ.ad ζ (pB κ υ q):=by
 rw [dQ,iF hk,iF hu]
theorem JB {σ σ0:St} {ζ β κ υ k:Nat} {p:PlanI} {r:Rw} (h:Cu σ0 σ β r 1) (hp:Pl σ0 σ ζ κ υ p) (hne:ζ≠β) (hk:k<4) (hm:sD p k=true) (hn:r.ws.length=gS[k]?.getD 0) :
    AX Tryz.prog (vQ[k]?.getD 0) [.ptr ζ 0, .ptr β 0] σ (oX TS (iZ k r.ws (r.a:Nat) p) (fun _=> .tup []) (fun q=>dQ ζ κ υ q (σ.ad β (cur r (gS[k]?.getD 0)))) σ0):=by
  have hc:k=0∨k=1∨k=2∨k=3:=Oz
  rcases hc with rfl|rfl|rfl|rfl<;>simp only [gS,List.getElem?_cons_zero,List.getElem?_cons_succ,Option.getD_some] at hn
  · obtain ⟨w0,w1,hws⟩:=FV hn
    rw [hws]
    refine ((Og hp.hb hp.h0 hp.six h hne hws).mono ?_:AX Tryz.prog 123 _ _ _)
    intro b v s hb
    cases b with
    | false =>
      obtain ⟨a,h1,h2,h3⟩:=hb
      refine ⟨{ p with hor:=a },by simp only [iZ,aE _ h1],h2,?_⟩
      rw [h3]
      exact (oT (σ:=σ.ad β (cur r 2)) (q:={ p with hor:=a }) hp.tk hp.tu).symm
    | true=>obtain ⟨e,h1,h2,h3⟩:=hb;exact ⟨e,by simp only [iZ,dz _ h1],h2,h3⟩
  · obtain ⟨w0,w1,w2,w3,hws⟩:=FW hn
    rw [hws]
    refine AX.res (Oh hp.hb hp.h0 hp.tk hp.six hp.c8 h hne hws) fun q hq=>?_
    obtain ⟨x,rfl,h8⟩:=Lu hq
    have hku:υ≠κ:=fun e=>by have h1:=hp.tk;rw [←e,hp.tu] at h1;cases h1
    show _=St.ad (St.ai (St.ai _ _ _) _ _) _ _
    rw [iF (τ:=υ) (by simp only [St.ai,upd,if_neg hku];exact hp.tu)];rfl
  · obtain ⟨w0,w1,w2,w3,w4,w5,hws⟩:=Ls hn
    rw [hws]
    refine AX.res (Oj hp.hb hp.h0 hp.six (Gy hm) h hne hws) fun q hq=>?_
    obtain ⟨h1,h2,_⟩:=Lt hq
    exact (oT (by rw [h1];exact hp.tk) (by rw [h2];exact hp.tu)).symm
  · obtain ⟨w0,w1,w2,w3,w4,w5,w6,hws⟩:=Ol hn
    rw [hws]
    refine AX.res (Oi hp.hb hp.h0 hp.tu hp.six hp.r8 h hne hws) fun q hq=>?_
    obtain ⟨x,rfl,h8⟩:=Lx hq
    show _=St.ad (St.ai (St.ai _ _ _) _ _) _ _
    rw [iF (τ:=κ) (by exact hp.tk)];rfl
def uY:List AV:= [.str [104,111,114,105,122,111,110], .int .i64 2, .fn 123 [], .str [99,108,97,115,115], .int .i64 4, .fn 124 [], .str [116,101,110,97,110,116], .int .i64 6, .fn 125 [], .str [114,117,108,101], .int .i64 7, .fn 126 []]
def VP (ζ δ k n f:Nat) (r:Rw) (σb:St) (i:Nat) (v:AV) (s:St):Prop:=match i with
 | 0=>v= .int .i64 (k:Nat)
 | 1=>v= .ptr δ (k*3)
 | 2=>v= .ptr δ (k*3+2)
 | 3=>v= .fn f []
 | 4=>v= .ptr ζ 0
 | 5=>v= .agg (cRw r)
 | 6=>v= .int .i64 (k:Nat)
 | 7=>v= .ptr δ (k*3)
 | 8=>v= .ptr δ (k*3+1)
 | 9=>v= .int .i64 (n:Nat)
 | 10=>∃ κ,v= .ptr κ 0∧s.box κ=some (cur r 1)∧σb.box κ=none∧r.ws.length=n
 | _=>True
theorem Pl.le {σ0 σ s:St} {ζ κ υ:Nat} {p:PlanI} (h:Pl σ0 σ ζ κ υ p) (hs:St.le σ s):Pl σ0 s ζ κ υ p:=⟨hs.1 _ _ h.hb,h.h0,hs.2.1 _ _ h.tk,hs.2.1 _ _ h.tu,h.six,h.c8,h.r8⟩
theorem Ly {k:Nat} (hk:k<4):uY[k*3+2]? =some (.fn (vQ[k]?.getD 0) []):=by
 have hc:k=0∨k=1∨k=2∨k=3:=Oz
 rcases hc with rfl|rfl|rfl|rfl<;>rfl
theorem Lz {k:Nat} (hk:k<4):uY[k*3+1]? =some (.int .i64 ((gS[k]?.getD 0:Nat):Int)):=by
 have hc:k=0∨k=1∨k=2∨k=3:=Oz
 rcases hc with rfl|rfl|rfl|rfl<;>rfl
set_option maxHeartbeats 4000000 in
theorem C9 {σ0 σb:St} {r:Rw} {γ δ ζ κ υ k:Nat} {p:PlanI} {fr:Fr} {Q:Exit→Fr→St→Prop} (hlw:St.lw σ0 σb) (hp:Pl σ0 σb ζ κ υ p) (hm:sD p k=true) (hk:k<4) (hn:r.ws.length≤20000) (ht:∀ w∈r.ws,w.t.length≤1000000)
  (hγ:σb.box γ=some (cRw r)) (hδ:σb.box δ=some uY)
  (h0:slot 0 fr= .ptr ζ 0) (h3:slot 3 fr= .ptr γ 0) (h4:slot 4 fr= .ptr δ 0) (h5:slot 5 fr= .int .i64 (k:Nat))
  (hno:r.ws.length≠gS[k]?.getD 0→Q (.panic []) [(0,iT TS (3,(r.a:Int)))] σ0)
  (her:r.ws.length=gS[k]?.getD 0→∀ e,iZ k r.ws (r.a:Nat) p= .error e→Q (.panic []) [(0,iT TS e)] σ0)
  (hok:r.ws.length=gS[k]?.getD 0→∀ q,iZ k r.ws (r.a:Nat) p= .ok q→∀ f s β c,St.le σb s→σb.box β=none→slot 0 f= .ptr ζ 0→Q .normal f (dQ ζ κ υ q (s.ad β c))) :
  aX Tryz.prog (.invX [.o ⟨some 37, .mv (.t 5),none⟩, .o ⟨some 38, .ixP 4 3 (.t 4) (.t 37),none⟩, .o ⟨some 39, .fldA 2 (.t 38),none⟩, .o ⟨some 40, .ld (none) (.t 39),none⟩, .o ⟨some 41, .mv (.t 0),none⟩, .o ⟨some 42, .ld (some 2) (.t 3),none⟩, .o ⟨some 43, .mv (.t 5),none⟩, .o ⟨some 44, .ixP 4 3 (.t 4) (.t 43),none⟩, .o ⟨some 45, .fldA 1 (.t 44),none⟩, .o ⟨some 46, .ld (none) (.t 45),none⟩, .c (some 47) 97 [(.t 42),(.t 46)], .v (some 48) (.t 40) [(.t 41),(.t 47)]] [[],[0],[1],[2],[],[],[],[6],[7],[8],[5,9],[3,4,10,10]]) fr σb Q:=by
 have tf:=Ly hk
 have tn:=Lz hk
 have hln12:uY.length=12:=rfl
 refine kv [37,38,39,40,41,42,43,44,45,46,47] 11 (VP ζ δ k (gS[k]?.getD 0) (vQ[k]?.getD 0) r σb) OK ?_ ?_ ?_
 ·intro i v s s' h hs
  unfold VP at h ⊢
  split at h
  all_goals first|exact h|skip
  obtain ⟨κ,q1,q2,q3⟩:=h
  exact ⟨κ,q1,hs.1 _ _ q2,q3⟩
 ·intro j x d hj hx hd f s hs hfr hv
  have h0':slot 0 f= .ptr ζ 0:=by rw [hfr 0 OK];exact h0
  have h3':slot 3 f= .ptr γ 0:=by rw [hfr 3 OK];exact h3
  have h4':slot 4 f= .ptr δ 0:=by rw [hfr 4 OK];exact h4
  have h5':slot 5 f= .int .i64 (k:Nat):=by rw [hfr 5 OK];exact h5
  have hc:j=0∨j=1∨j=2∨j=3∨j=4∨j=5∨j=6∨j=7∨j=8∨j=9∨j=10:=Oz
  haveI b1:BoxIs s γ [.int .i64 (r.a:Nat), .sl false r.ws.length (r.ws.flatMap cWd)]:=⟨gG hs hγ⟩
  haveI b2:BoxIs s δ uY:=⟨gG hs hδ⟩
  have h0:=h0'
  have h3:=h3'
  have h4:=h4'
  have h5:=h5'
  have e0:True:=trivial
  have e1:True:=trivial
  have e2:True:=trivial
  have e4:True:=trivial
  rcases hc with rfl|rfl|rfl|rfl|rfl|rfl|rfl|rfl|rfl|rfl|rfl
  ·cases hx;cases hd
   refine dh ?_
   simp only [↓R1,RR,seval,h5]
   exact ⟨_,rfl,St.le_refl _,rfl⟩
  ·cases hx;cases hd
   have e0:slot 37 f= .int .i64 (k:Nat):=hv 0 37 OF rfl
   refine dh ?_
   simp only [↓R1,RR,seval,h4,e0]
   exact ⟨by omega,_,rfl,St.le_refl _,rfl⟩
  ·cases hx;cases hd
   have e1:slot 38 f= .ptr δ (k*3):=hv 1 38 OF rfl
   refine dh ?_
   simp only [↓R1,RR,seval,e1]
   exact ⟨_,rfl,St.le_refl _,rfl⟩
  ·cases hx;cases hd
   have e1:slot 39 f= .ptr δ (k*3+2):=hv 2 39 OF rfl
   refine dh ?_
   simp only [↓R1,RR,seval,e1,tf]
   exact ⟨by omega,_,rfl,St.le_refl _,rfl⟩
  ·cases hx;cases hd
   refine dh ?_
   simp only [↓R1,RR,seval,h0]
   exact ⟨_,rfl,St.le_refl _,rfl⟩
  ·cases hx;cases hd
   refine dh ?_
   simp only [↓R1,RR,seval,h3]
   exact ⟨_,rfl,St.le_refl _,rfl⟩
  ·cases hx;cases hd
   refine dh ?_
   simp only [↓R1,RR,seval,h5]
   exact ⟨_,rfl,St.le_refl _,rfl⟩
  ·cases hx;cases hd
   have e0:slot 43 f= .int .i64 (k:Nat):=hv 6 43 OF rfl
   refine dh ?_
   simp only [↓R1,RR,seval,h4,e0]
   exact ⟨by omega,_,rfl,St.le_refl _,rfl⟩
  ·cases hx;cases hd
   have e1:slot 44 f= .ptr δ (k*3):=hv 7 44 OF rfl
   refine dh ?_
   simp only [↓R1,RR,seval,e1]
   exact ⟨_,rfl,St.le_refl _,rfl⟩
  ·cases hx;cases hd
   have e1:slot 45 f= .ptr δ (k*3+1):=hv 8 45 OF rfl
   refine dh ?_
   simp only [↓R1,RR,seval,e1,tn]
   exact ⟨by omega,_,rfl,St.le_refl _,rfl⟩
  ·cases hx;cases hd
   have e2:slot 42 f= .agg (cRw r):=hv 5 42 OF rfl
   have e4:slot 46 f= .int .i64 ((gS[k]?.getD 0:Nat):Int):=hv 9 46 OF rfl
   simp only [fT,List.map_cons,List.map_nil,ev,e2,e4]
   by_cases hln:r.ws.length=gS[k]?.getD 0
   ·refine (nh hln).mono fun b v s' hb=>?_
    obtain ⟨rfl,κ,q1,rfl,rfl⟩:=hb
    exact ⟨_,rfl,St.aR (St.le_refl _) q1,κ,rfl,St.bo _ _ _,le_none hs q1,hln⟩
   ·refine (ng (σ0:=σ0) (iY hlw hs) hln).mono fun b v s' hb=>?_
    cases b with
    | false=>obtain ⟨a,q1,_⟩:=hb;cases q1
    | true=>obtain ⟨a,q1,rfl,rfl⟩:=hb;cases q1;exact hno hln
 ·intro f s hs hfr hv
  have h0':slot 0 f= .ptr ζ 0:=by rw [hfr 0 OK];exact h0
  have e1:slot 40 f= .fn (vQ[k]?.getD 0) []:=hv 3 40 rfl
  have e2:slot 41 f= .ptr ζ 0:=hv 4 41 rfl
  obtain ⟨β,e5,q2,q3,hln⟩:∃ κ,slot 47 f= .ptr κ 0∧s.box κ=some (cur r 1)∧σb.box κ=none∧r.ws.length=gS[k]?.getD 0:=hv 10 47 rfl
  have hne:ζ≠β:=fun e=>by have:=hp.hb;rw [e,q3] at this;cases this
  have hcu:Cu σ0 s β r 1:=⟨q2,df hlw q3,iY hlw hs,hn,ht⟩
  show cm _ [.v (some 48) (.t 40) [(.t 41),(.t 47)]] f s Q
  have e0:True:=trivial
  have e4:=e5
  have h3:True:=trivial
  have h4:True:=trivial
  have h5:True:=trivial
  simp only [RR,seval,e1,e2,e4,RX]
  refine aH (JB hcu (hp.le hs) hne hk hm hln) (aa _) (fun q hq=>?_) (fun e he=>her hln e he)
  simp only [RR,seval,RX]
  refine hok hln q hq _ _ _ _ hs q3 ?_
  simp only [slot];rw [if_neg OK];exact h0'
theorem Da {r:Rw} {k:Nat} (h:oS r=some k):k<4:=by
 unfold oS at h
 split at h
 ·cases h
 ·rename_i w0 _ _
  cases hq:w0.q with
  | true=>rw [hq] at h;cases h
  | false=>rw [hq] at h;have:=kG _ _ _ _ h;simpa [kI] using this
theorem F2 {r:Rw} {w0:Wd} {ws:List Wd} (h:r.ws=w0::ws):js w0.q w0.t kI=match oS r with
  | some k=>((k:Nat):Int)
  | none=> -1:=by
 unfold js oS
 rw [h]
 try (split<;>rename_i h1<;>simp only [h1])
theorem oU {k:Nat} {ws:List Wd} {a:Int} {p q:PlanI} (h:iZ k ws a p= .ok q):q.tens.length=p.tens.length∧q.n=p.n:=by
 unfold iZ at h
 split at h
 ·obtain ⟨_,_,h⟩:=bl h;cases h;exact ⟨rfl,rfl⟩
 ·obtain ⟨x,rfl,_⟩:=Lu h;exact ⟨rfl,rfl⟩
 ·unfold eR at h
  obtain ⟨_,_,h⟩:=bl h
  obtain ⟨_,_,h⟩:=bl h
  obtain ⟨_,_,h⟩:=bl h
  obtain ⟨_,_,h⟩:=bl h
  obtain ⟨_,_,h⟩:=bl h
  cases h;simp
 ·obtain ⟨x,rfl,_⟩:=Lx h;exact ⟨rfl,rfl⟩
 ·cases h;exact ⟨rfl,rfl⟩
theorem JC {ζ κ υ:Nat} {q:PlanI} {s:St} (n:Nat):(dQ ζ κ υ q s).ad ζ (pB κ υ { q with n:=n })=dQ ζ κ υ { q with n:=n } s:=by
 simp only [dQ,St.set_set]
set_option maxHeartbeats 4000000 in
theorem x63 {σ σ0:St} {ζ κ υ:Nat} {p:PlanI} {r:Rw} (hlw:St.lw σ0 σ) (hp:Pl σ0 σ ζ κ υ p) (hpn:p.n≤1000000) (hne:r.ws≠ []) (hn:r.ws.length≤20000) (ht:∀ w∈r.ws,w.t.length≤1000000) :
    AX Tryz.prog 63 [.ptr ζ 0, .agg (cRw r)] σ (oX TS (ja r p) (fun _=> .tup []) (fun q=>dQ ζ κ υ q σ) σ0):=by
  obtain ⟨w0,ws,hws⟩:∃ w0 ws,r.ws=w0::ws:=by
    cases h:r.ws with
    | nil=>exact (hne h).elim
    | cons w0 ws=>exact ⟨w0,ws,rfl⟩
  have hw0:r.ws[0]? =some w0:=OU
  haveI:BoxIs σ ζ (pB κ υ p):=⟨hp.hb⟩
  have hln:=fO κ υ hp.six
  have q1:True:=trivial
  have q2:True:=trivial
  have q3:True:=trivial
  have h33:True:=trivial
  have hst:True:=trivial
  have hwr:True:=trivial
  have hwh:=p83 r w0 true kI hw0 (by simp [kI])
  rw [F2 hws] at hwh
  simp only [cRw,kI,oR,vP,sG,C8,List.map_cons,List.map_nil,List.length_cons,List.length_nil] at hwh
  cases hf:oS r with
  | none =>
    rw [hf] at hwh
    simp only at hwh
    (refine aB c63 b63 ?_;simp only [c63,↓R1,RR,seval,RX,cRw])
    repeat' (first|(with_reducible rw [ah])|((first|(with_reducible intro β hβ;(try simp only [RB] at hβ);(repeat (obtain ⟨⟨_,_⟩,hβ⟩:=hβ));(try (have hbis:=ag OB hβ;obtain ⟨_,_⟩:=hbis)))|(refine Pt (hwh) ?_)|((refine bh (σ0:=σ0) OK OC ?_)))<;>(try simp only [↓R1,RR,seval,RX])))
    all_goals first|omega|skip
    exact ax (by simp only [ja,hf]) (St.an _)
  | some k =>
    rw [hf] at hwh
    simp only at hwh
    have hk:=Da hf
    have q1:decide ((k:Int)<0)=false:=Pe
    cases hm:sD p k with
    | false =>
      (refine aB c63 b63 ?_;simp only [c63,↓R1,RR,seval,RX,cRw])
      repeat' (first|(with_reducible rw [ah])|((first|(with_reducible intro β hβ;(try simp only [RB] at hβ);(repeat (obtain ⟨⟨_,_⟩,hβ⟩:=hβ));(try (have hbis:=ag OB hβ;obtain ⟨_,_⟩:=hbis)))|(refine Pt (hwh) ?_))<;>(try simp only [↓R1,RR,seval,RX,q1])))
      refine AC.mono (AC.wk (Lr (p:=p) (τ:=κ) (υ:=υ) (β:=ζ) ?_ hp.six hk) (aa _)) ?_
      (focus (simp only [RR,seval];done))
      rintro _ _ ⟨rfl,rfl⟩
      simp only [hm,↓R1,RR,seval,RX]
      repeat' (((refine bh (σ0:=σ0) OK OC ?_))<;>(try simp only [seval,RX]))
      exact ax (by simp only [ja,hf,hm,if_true]) (St.an _)
    | true =>
      (refine aB c63 b63 ?_;simp only [c63,↓R1,RR,seval,RX,cRw])
      repeat' (first|(with_reducible rw [ah])|((first|(with_reducible intro β hβ;(try simp only [RB] at hβ);(repeat (obtain ⟨⟨_,_⟩,hβ⟩:=hβ));(try (have hbis:=ag OB hβ;obtain ⟨_,_⟩:=hbis)))|(refine Pt (hwh) ?_))<;>(try simp only [↓R1,RR,seval,RX,q1])))
      rename_i γ hγ a1 a2 b1 b2 b3 b4
      refine AC.mono (AC.wk (Lr (p:=p) (τ:=κ) (υ:=υ) (β:=ζ) ?_ hp.six hk) (aa _)) ?_
      (focus (simp only [RR,seval];done))
      rintro _ _ ⟨rfl,rfl⟩
      simp only [hm,↓R1,RR,seval,RX]
      have hle:St.le σ ((σ.ad γ [AV.int IntKind.i64 ↑r.a,AV.sl false r.ws.length (List.flatMap cWd r.ws)]).ad β uY):=St.aR (St.aR (St.le_refl _) hγ) hβ
      refine C9 (σ0:=σ0) (k:=k) (γ:=γ) (δ:=β) (iY hlw hle) (hp.le hle) hm hk hn ht ?_ ?_ rfl rfl rfl rfl ?_ ?_ ?_
      · simp only [cRw,RR,seval,cRw]
      · simp only [uY,RR,seval]
      · intro hno
        simp only [seval,RX]
        exact ax (by simp only [ja,hf,hm,Bool.true_eq_false,if_false,if_neg hno]) (St.an _)
      · intro hl e he
        simp only [seval,RX]
        exact ax (by simp only [ja,hf,hm,Bool.true_eq_false,if_false,if_pos hl,dz _ he]) (St.an _)
      · intro hl q hq f s δ c hs hδ hf0
        obtain ⟨h6',hqn⟩:=oU hq
        have h6:q.tens.length=6:=by rw [h6',hp.six]
        have hln:=fO κ υ h6
        have h33:=C0 κ υ h6
        have hwr:IntKind.i64.wrap ((q.n:Int)+1)=((q.n+1:Nat):Int):=OD
        have hst:(pB κ υ q).take 33++ [.int .i64 ((q.n+1:Nat):Int)]++(pB κ υ q).drop 34=pB κ υ { q with n:=q.n+1 }:=uX κ υ h6 2 _
        haveI:BoxIs (dQ ζ κ υ q (s.ad δ c)) ζ (pB κ υ q):=⟨St.bo _ _ _⟩
        have q2:=hf0
        have q3:= @JC ζ κ υ q
        simp only [↓R1,RR,seval,RX,q2,q3,hln,h33,hst,hwr]
        skip
        refine lP (a:={ q with n:=q.n+1 }) OF (by simp only [ja,hf,hm,Bool.true_eq_false,if_false,if_pos hl,aE _ hq]) Pj ?_ ?_
        · simp only [ar,RR,seval]
          exact ae _
        · exact St.eC (St.dw (St.dw (St.c7 (St.jM (St.le_trans hle hs)) (le_none hle hδ)))) (aa _)
def lC:TenI:=⟨0,0,0,0,0⟩
def fx:PlanI:=⟨[],[lC,lC,lC,lC,lC,lC],[],0,0,0⟩
def lj (p:PlanI):CfgI:=⟨p.cls,p.tens,p.ruls,p.hor⟩
def gI:List Rw→PlanI→Except Ft PlanI
 | [],p=> .ok p
 | r::rs,p=>eb (ja r p) fun q=>gI rs q
def gJ (n:Nat) (p:PlanI):Except Ft CfgI :=
 if p.n=0∨p.t<6 then .error (7,(n:Int)) else if (fz (lj p)).1≠0 then .error ((fz (lj p)).1,0) else .ok (lj p)
def bY (s:List UInt8):Except Ft CfgI:=eb (fu s) fun rs=>eb (gI rs fx) (gJ s.length)
theorem sH {rs:List Rw} {k:Nat} {r:Rw} (h:rs[k]? =some r) (p:PlanI):gI (rs.drop k) p=eb (ja r p) fun q=>gI (rs.drop (k+1)) q:=by
 obtain ⟨h1,h2⟩:=List.getElem?_eq_some_iff.1 h
 rw [List.drop_eq_getElem_cons h1,h2];rfl
structure PlanOk (p:PlanI):Prop where
 six:p.tens.length=6
 c8:p.cls.length≤8
 r8:p.ruls.length≤8
 lcls:∀ x∈p.cls,U64 x.l
 lrul:∀ x∈p.ruls,U64 x.auth∧U64 x.res
 lt:p.t≤6
theorem sI:PlanOk fx:=⟨rfl,by simp [fx],by simp [fx],by simp [fx],by simp [fx],by simp [fx]⟩
theorem JD (x:BitVec 64):U64 ((x.toNat:Nat):Int):=by
 have:=x.isLt
 exact ⟨by omega,by omega⟩
theorem qf {w:Wd} {a:Int} (h:fN w= .ok a):U64 a:=by
 obtain ⟨x,rfl⟩:=oQ h;exact JD x
theorem Db {k:Nat} {ws:List Wd} {a:Int} {p q:PlanI} (hp:PlanOk p) (hm:sD p k=true) (h:iZ k ws a p= .ok q):PlanOk q:=by
 obtain ⟨p1,p2,p3,p4,p5,p6⟩:=hp
 unfold iZ at h
 split at h
 ·obtain ⟨_,_,h⟩:=bl h;cases h;exact ⟨p1,p2,p3,p4,p5,p6⟩
 ·unfold fv at h
  obtain ⟨x,hx,h⟩:=bl h
  obtain ⟨_,_,h⟩:=bl h
  obtain ⟨_,_,h⟩:=bl h
  split at h
  ·cases h
  ·cases h
   refine ⟨p1,?_,p3,?_,p5,p6⟩
   ·simp;omega
   ·intro y hy
    rcases List.mem_append.1 hy with hy|hy
    ·exact p4 y hy
    ·simp at hy;subst hy;exact qf hx
 ·have ht:=Gy hm
  unfold eR at h
  obtain ⟨_,_,h⟩:=bl h
  obtain ⟨_,_,h⟩:=bl h
  obtain ⟨_,_,h⟩:=bl h
  obtain ⟨_,_,h⟩:=bl h
  obtain ⟨_,_,h⟩:=bl h
  cases h;exact ⟨by simp [p1],p2,p3,p4,p5,by simp;omega⟩
 ·unfold er at h
  obtain ⟨_,_,h⟩:=bl h
  obtain ⟨x,hx,h⟩:=bl h
  obtain ⟨y,hy,h⟩:=bl h
  obtain ⟨_,_,h⟩:=bl h
  obtain ⟨_,_,h⟩:=bl h
  obtain ⟨_,_,h⟩:=bl h
  split at h
  ·cases h
  ·cases h
   refine ⟨p1,p2,?_,p4,?_,p6⟩
   ·simp;omega
   ·intro z hz
    rcases List.mem_append.1 hz with hz|hz
    ·exact p5 z hz
    ·simp at hz;subst hz;exact ⟨qf hx,qf hy⟩
 ·cases h;exact ⟨p1,p2,p3,p4,p5,p6⟩
theorem sJ {r:Rw} {p q:PlanI} (hp:PlanOk p) (h:ja r p= .ok q):PlanOk q∧q.n=p.n+1:=by
 unfold ja at h
 split at h
 ·cases h
 ·rename_i k hk
  split at h
  ·cases h
  ·rename_i hm
   split at h
   ·obtain ⟨q',hq,h⟩:=bl h
    cases h
    have h1:=Db hp (by simpa using hm) hq
    exact ⟨⟨h1.six,h1.c8,h1.r8,h1.lcls,h1.lrul,h1.lt⟩,by rw [(oU hq).2]⟩
   ·cases h
theorem PlanOk.cfg {p:PlanI} (h:PlanOk p):CfgOk (lj p):=⟨h.six,by have:=h.c8;simp only [lj];omega,by have:=h.r8;simp only [lj];omega,h.lcls,h.lrul⟩
theorem JE (κ υ:Nat) {p:PlanI} (h:p.tens.length=6):∃ l,(pB κ υ p).take 33=l∧l.length=33∧wkL l (a7 (lj p)):=by
 refine ⟨_,rfl,by rw [List.length_take,fO κ υ h];decide,?_⟩
 have hl:(p.tens.flatMap cM).length=30:=by rw [bp,h]
 have e:(pB κ υ p).take 33= .tsl κ p.cls.length (p.cls.flatMap dr)::(p.tens.flatMap cM++ [.tsl υ p.ruls.length (p.ruls.flatMap dL), .int .u64 p.hor]):=by
  rw [pB,List.take_succ_cons,List.take_append,hl,List.take_of_length_le Oz];rfl
 rw [e,a7]
 refine wkL.cons (dD _ _ _) ?_
 refine pE (aa _) ?_
 exact wkL.cons (dD _ _ _) (aa _)
def nk:List AV:=iO++ [.int .i64 0, .int .i64 0]
theorem F3 {ζ κ υ:Nat} {p:PlanI} {σ:St} (hn:κ≠υ) (h0:σ.box ζ=none) (hok:PlanOk p):Pl σ (dQ ζ κ υ p σ) ζ κ υ p :=
 ⟨St.bo _ _ _,h0,by simp [dQ,St.ad,St.ai,upd,hn],by simp [dQ,St.ad,St.ai,upd],hok.six,hok.c8,hok.r8⟩
theorem Dc {ζ κ υ:Nat} {p q:PlanI} {σ:St} (hn:κ≠υ):dQ ζ κ υ q (dQ ζ κ υ p σ)=dQ ζ κ υ q σ:=by
 obtain ⟨b,t,g,l,bt⟩:=σ
 simp only [dQ,St.ad,St.ai,St.mk.injEq,and_true]
 constructor
 ·funext j;simp only [upd];split<;>rfl
 ·funext j;simp only [upd];split
  ·rfl
  ·split<;>rfl
theorem F4 {ζ κ υ:Nat} {q:PlanI} {σ s:St} (h:St.le σ s):St.le (dQ ζ κ υ q σ) (dQ ζ κ υ q s):=St.EB _ _ (St.jN (St.jN h))
theorem uZ {x:CX} {fr:Fr} {σ:St} {Q:Exit→Fr→St→Prop} {ζ:Nat} {h:Hold (x,σ.ad ζ nk,Q)} (hf:slot 2 fr= .ptr ζ 0) (F:PlanI→Fr) (I:PlanI→Prop) (μ:PlanI→Nat) (h0:I fx) (hF:aK (F fx) fr)
  (hr:∀ κ υ,κ≠υ→σ.tip κ=none→σ.tip υ=none→∀ p,I p→aX Tryz.prog x (F p) (dQ ζ κ υ p σ) (fM (fun fr' σ'=>∃ q,I q∧aK (F q) fr'∧St.le (dQ ζ κ υ q σ) σ'∧μ q<μ p) Q)):oy Tryz.prog x fr (σ.ad ζ nk) Q h:=by
 refine mA (α:=PlanI) [(true,2,0,94,3),(true,2,31,97,7)] ?_
 have e0:nk[0+0]? =some .nils:=rfl
 have e1:∀ κ,(nk.set (0+0) (.tsl κ 0 []))[0+31]? =some .nils:=fun _=>rfl
 simp only [cb,hf,St.bo,e0]
 refine ⟨trivial,fun κ hκ=>?_⟩
 simp only [e1]
 refine ⟨trivial,fun υ hυ=>?_⟩
 have hne:κ≠υ:=fun e=>by subst e;simp [St.ad,St.ai,upd] at hυ
 have hu2:σ.tip υ=none:=by simpa [St.ad,St.ai,upd,hne.symm] using hυ
 have he:((((σ.ad ζ nk).ai κ (94,3,0)).ad ζ (nk.set (0+0) (.tsl κ 0 []))).ai υ (97,7,0)).ad ζ ((nk.set (0+0) (.tsl κ 0 [])).set (0+31) (.tsl υ 0 []))=dQ ζ κ υ fx σ:=by
  obtain ⟨b,t,g,l,bt⟩:=σ
  simp only [dQ,St.ad,St.ai,St.mk.injEq,and_true]
  constructor
  ·funext j;simp only [upd];split<;>rfl
  ·rfl
 refine ⟨F,fun p=>dQ ζ κ υ p σ,I,μ,fx,h0,hF,by rw [he];exact St.le_refl _,fun p hp=>hr κ υ hne hκ hu2 p hp⟩
set_option maxHeartbeats 4000000 in
theorem x62 {σ σ0:St} {z l:Nat} {s:List UInt8} (hlw:St.lw σ0 σ) (hs:s.length≤1000000) (hz:σ.box z=some [.str s]) (hl:σ.box l=some iO) (hne:l≠z) :
  AX Tryz.prog 62 [.ptr z 0, .ptr l 0] σ (oX TS (bY s) (fun _=> .tup []) (fun c=>σ.ad l (a7 c)) σ0):=by
 haveI:BoxIs σ z [.str s]:=⟨hz⟩
 haveI:BoxIs σ l iO:=⟨hl⟩
 have q1:True:=trivial
 have q2:True:=trivial
 have he:True:=trivial
 have hw:True:=trivial
 have hln:True:=trivial
 have h33:True:=trivial
 have h34:True:=trivial
 have e1:True:=trivial
 have e2:True:=trivial
 have zl:iO.length=33:=rfl
 (refine aB c62 b62 ?_;simp only [c62,↓R1,RR,seval,RX])
 first|(intro ζ hζ)|(rw [ah];intro ζ hζ)
 have n1:l≠ζ:=fun e=>by rw [←e,hl] at hζ;cases hζ
 have n2:z≠ζ:=fun e=>by rw [←e,hz] at hζ;cases hζ
 haveI:Apart l ζ:=⟨n1⟩
 haveI:Apart ζ l:=⟨n1.symm⟩
 haveI:Apart z ζ:=⟨n2⟩
 haveI:Apart ζ z:=⟨n2.symm⟩
 simp only [RR,seval]
 repeat' (((refine aH (x42 (σ0:=σ0) s hs ?_) (aa _) (fun rs ho1=>?_) (fun e ho1=>?_);(focus ((repeat' (first|assumption|exact St.an _|(refine St.dw ?_)|(refine St.eh ?_ OI)|(refine St.eC ?_ ?_)|(refine St.c7 ?_ ON)|exact wkL.nil|exact aa _|(refine wkL.cons ?_ ?_)|exact ae _|exact dc|exact dD _ _ _|exact cQ _ _));done))))<;>(try simp only [↓R1,RR,seval,RX]))
 case refine_3=>exact ax (by simp only [bY,dz _ ho1]) (St.an _)
 obtain ⟨hz1,hz2⟩:=ju ho1
 have hp:bY s=eb (gI rs fx) (gJ s.length):=by simp only [bY,aE _ ho1]
 refine uZ (ζ:=ζ) rfl (fun p=> [(0, .ptr z 0),(1, .ptr l 0),(2, .ptr ζ 0),(10, .sl false rs.length (rs.flatMap cRw)),(11, .int .i64 (rs.length:Nat)),(12, .int .i64 (p.n:Nat))]) (fun p=>PlanOk p∧p.n≤rs.length∧gI rs fx=gI (rs.drop p.n) p) (fun p=>rs.length - p.n)
  ⟨sI,Nat.zero_le _,rfl⟩ (by simp [aK,slot,ae,fx]) ?_
 intro κ υ hku hk0 hu0 p ⟨hok,hk,hI⟩
 have hlb:∀ p,St.le σ (dQ ζ κ υ p σ):=fun p=>by
  rw [dQ];exact St.aR (St.iB (St.iB (St.le_refl _) hk0) hu0) hζ
 have hpl:=F3 (ζ:=ζ) (p:=p) hku hζ hok
 haveI:BoxIs (dQ ζ κ υ p σ) z [.str s]:=⟨(hlb p).1 _ _ hz⟩
 haveI:BoxIs (dQ ζ κ υ p σ) l iO:=⟨(hlb p).1 _ _ hl⟩
 haveI:BoxIs (dQ ζ κ υ p σ) ζ (pB κ υ p):=⟨hpl.hb⟩
 by_cases hlt:p.n<rs.length
 ·obtain ⟨r,hr⟩:∃ r,rs[p.n]? =some r:=⟨_,List.getElem?_eq_getElem hlt⟩
  obtain ⟨hr1,hr2,hr3⟩:=hz2 r (List.mem_of_getElem? hr)
  have q1:decide ((p.n:Int)<(rs.length:Int))=true:=OQ
  have he:=CV hr
  simp only [cRw] at he
  have hw:IntKind.i64.wrap ((p.n:Int)+1)=((p.n+1:Nat):Int):=OD
  rw [sH hr] at hI
  have hcl:=lW rs
  simp only [↓R1,RR,seval,RX,q1,he]
  repeat' (first|(with_reducible rw [ah])|(with_reducible refine And.intro ?_ ?_;exact ak)|((with_reducible intro β hβ;(try simp only [RB] at hβ);(repeat (obtain ⟨⟨_,_⟩,hβ⟩:=hβ));(try (have hbis:=ag OB hβ;obtain ⟨_,_⟩:=hbis)))<;>(try simp only [↓R1,RR,seval,RX])))
  all_goals (try (focus (omega;done)))
  ·skip
   have hlx:St.le (dQ ζ κ υ p σ) ((dQ ζ κ υ p σ).ad β [.int .i64 (r.a:Nat), .sl false r.ws.length (r.ws.flatMap cWd)]):=St.aR (St.le_refl _) OB
   have hp2:Pl σ0 ((dQ ζ κ υ p σ).ad β [.int .i64 (r.a:Nat), .sl false r.ws.length (r.ws.flatMap cWd)]) ζ κ υ p :=
    ⟨hlx.1 _ _ hpl.hb,df hlw hζ,hlx.2.1 _ _ hpl.tk,hlx.2.1 _ _ hpl.tu,hpl.six,hpl.c8,hpl.r8⟩
   refine aH (x63 (r:=r) (iY (iY hlw (hlb p)) hlx) hp2 Oz hr1 hr2 hr3) (aa _) (fun q hq=>?_) (fun e he=>?_)
   ·obtain ⟨hqo,hqn⟩:=sJ hok hq
    simp only [↓R1,RR,seval,RX,hw]
    skip
    refine ⟨q,⟨hqo,by omega,by rw [hI,aE _ hq,hqn]⟩,by simp [aK,slot,ae,hqn],?_,by omega⟩
    have h9:=F4 (ζ:=ζ) (κ:=κ) (υ:=υ) (q:=q) hlx
    rwa [Dc hku] at h9
   ·simp only [seval,RX]
    exact ax (by rw [hp,hI,ni,dz _ he]) (St.an _)
 ·have hke:p.n=rs.length:=by omega
  have q1:decide ((p.n:Int)<(rs.length:Int))=false:=Pe
  have hpe:bY s=gJ s.length p:=by rw [hp,hI,hke,List.drop_length,gI,eb]
  have hln:=fO κ υ hok.six
  have h33:=C0 κ υ hok.six
  have h34:=vL κ υ hok.six
  simp only [↓R1,RR,seval,RX,q1,hln,h33,h34]
  by_cases h1:p.n=0∨p.t<6
  ·have q2:(((p.n:Int) == 0)||decide ((p.t:Int)<6))=true:=by
    rw [Bool.or_eq_true,beq_iff_eq,decide_eq_true_eq];omega
   rw [q2]
   simp only [↓R1,RR,seval,RX]
   repeat' (((refine bh (σ0:=σ0) OK (by exact iY hlw (hlb p)) ?_))<;>(try simp only [seval,RX]))
   exact ax (by rw [hpe,gJ,if_pos h1]) (St.an _)
  ·have q2:(((p.n:Int) == 0)||decide ((p.t:Int)<6))=false:=by
    rw [Bool.or_eq_false_iff,beq_eq_false_iff_ne,decide_eq_false_iff_not];omega
   rw [q2]
   obtain ⟨cl,e1,e2,e3⟩:=JE κ υ hok.six
   have pc:=p48 hok.cfg
   simp only [Jy] at pc
   simp only [↓R1,RR,seval,RX,hln,e1]
   repeat' (((refine Pu.to pc (wkL.cons (mi e3) wkL.nil) ?_))<;>(try simp only [↓R1,RR,seval,RX]))
   by_cases he0:(fz (lj p)).1=0
   ·repeat' (((refine eL he0 ?_))<;>(try simp only [↓R1,RR,seval,RX,hln,zl,e1,e2]))
    all_goals (try (first|omega|(simp only [e2,zl];done)))
    refine bF (by rw [hpe,gJ,if_neg h1,if_neg (by simp [he0])]) ?_ ?_
    ·simp only [ar,RR,seval]
     exact ae _
    ·rw [show iO.drop 33= [] from rfl,List.append_nil]
     exact St.eC (St.jM (hlb p)) e3
   ·repeat' (((refine bh (σ0:=σ0) he0 (by exact iY hlw (hlb p)) ?_))<;>(try simp only [seval,RX]))
    exact ax (by rw [hpe,gJ,if_neg h1,if_pos he0]) (St.an _)
def j8 (t:List UInt8):Bool:=t.all cd
theorem qg {c:UInt8} {t:List UInt8} (h:j8 (c::t)=true) (hc:c≠35):bareS (c::t)=true:=by
 unfold j8 at h
 simp [bareS,h,hc]
theorem gj {a b:List UInt8}:j8 (a++b)=(j8 a&&j8 b):=by simp [j8]
theorem np:∀ k:Fin 10,cd (UInt8.ofNat (48+k.val))=true∧UInt8.ofNat (48+k.val)≠35:=OK
theorem sK (n:Nat):j8 (decDigits n)=true∧∃ c t,decDigits n=c::t∧c≠35:=by
  induction n using Nat.strongRecOn with
  | _ n ih =>
    rw [decDigits]
    split
    · rename_i h
      obtain ⟨h1,h2⟩:=np ⟨n,h⟩
      exact ⟨by simp only [j8,List.all_cons,List.all_nil,Bool.and_true];exact h1,_,_,rfl,h2⟩
    · rename_i h
      obtain ⟨h1,c,t,h2,h3⟩:=ih (n / 10) Oz
      obtain ⟨h4,_⟩:=np ⟨n % 10,by omega⟩
      refine ⟨?_,c,t++_,by rw [h2];rfl,h3⟩
      rw [gj,h1,Bool.true_and]
      simp only [j8,List.all_cons,List.all_nil,Bool.and_true];exact h4
theorem sL (n:Nat):bareS (decDigits n)=true:=by
 obtain ⟨h1,c,t,h2,h3⟩:=sK n
 rw [h2] at h1 ⊢;exact qg h1 h3
theorem fj (n:Int):bareS (itoa n)=true:=by
 unfold itoa
 split
 ·refine qg ?_ OK
  have:=(sK n.natAbs).1
  simp only [j8,List.all_cons] at this ⊢
  rw [this];rfl
 ·exact sL _
theorem oV (k:Nat) (hk:k<100):j8 (jk k)=true:=by
 have:∀ k:Fin 100,j8 (jk k.val)=true:=OK
 exact this ⟨k,hk⟩
theorem lk:∀ l:List Nat,(∀ k∈l,k<100)→j8 (eB l)=true
  | [],_=>rfl
  | k :: l, h => by
    have h1:=oV k (h k OF)
    have h2:=lk l (fun j hj=>h j (by simp [hj]))
    simp only [eB]
    rw [show (44::(jk k++eB l))= [44]++(jk k++eB l) from rfl,gj,gj,h1,h2];rfl
theorem jz (a:BitVec 64):bareS (dI a)=true:=by
  refine qg ?_ OK
  rw [show (123::(gO (eW a)++ [125]))= [123]++(gO (eW a)++ [125]) from rfl,gj,gj]
  have hc:∀ k∈eW a,k<100:=fun k hk=>by
    have:k<64:=List.mem_range.1 (List.mem_filter.1 hk).1
    omega
  have:j8 (gO (eW a))=true:=by
    cases hq:eW a with
    | nil=>rfl
    | cons k l =>
      rw [hq] at hc
      simp only [gO]
      rw [gj,oV k (hc k OF),lk l (fun j hj=>hc j (by simp [hj]))];rfl
  rw [this];rfl
theorem qh {k:Int} (h:0≤k∧k≤25):bareS (dM k)=true:=by
 obtain ⟨n,rfl⟩:=Int.eq_ofNat_of_zero_le h.1
 have:∀ n:Fin 26,bareS (dM (n.val:Int))=true:=OK
 exact this ⟨n,by omega⟩
def rowT (ws:List (List UInt8)):List UInt8:=Lib.join ws [32]++ [10]
theorem lq:∀ {ws:List (List UInt8)},(∀ t∈ws,bareS t=true)→cD (ws.map mkW)=some ws
  | [],_=>rfl
  | t :: ws, h => by
    have h1:=h t OF
    have h2:=lq (ws:=ws) (fun x hx=>h x Pv)
    simp only [List.map_cons,cD,mkW,h1,h2,dq,Bool.not_true]
    rfl
structure RowOk (ws:List (List UInt8)):Prop where
 ne:ws≠ []
 bare:∀ t∈ws,bareS t=true
 len:(rowT ws).length≤700
 num:ws.length≤20
 wl:∀ t∈ws,t.length≤300
theorem nq:∀ (W:List (List (List UInt8))) (out:List UInt8),(∀ ws∈W,RowOk ws)→out.length+700*W.length≤20000→fF out (W.map mkR)= .ok (out++(W.map rowT).flatten)
  | [],out,_,_=>by simp [fF]
  | ws :: W, out, h, hl => by
    have h1:=h ws OF
    have h0:¬ (mkR ws).ws.length=0:=by
      simp only [mkR,List.length_map]
      intro h0;exact h1.ne (List.eq_nil_of_length_eq_zero h0)
    have h2:=h1.len
    rw [List.length_cons] at hl
    have h3:¬ (1000<(Lib.join ws [32]).length∨20000<(out++(Lib.join ws [32]++ [10])).length):=by
      rw [List.length_append]
      unfold rowT at h2
      rw [List.length_append] at h2 ⊢
      simp only [List.length_cons,List.length_nil] at h2 ⊢
      omega
    simp only [List.map_cons,fF]
    rw [if_neg h0,show cD (mkR ws).ws=some ws from lq h1.bare]
    simp only
    rw [if_neg h3,show out++(Lib.join ws [32]++ [10])=out++rowT ws from rfl,nq W (out++rowT ws) (fun x hx=>h x Pv) (by rw [List.length_append];omega)]
    simp
theorem u0 {W:List (List (List UInt8))} (h:∀ ws∈W,RowOk ws) (hl:W.length≤28):fW (W.map mkR)= .ok (W.map rowT).flatten:=by
 rw [fW,nq W [] h OS];rfl
theorem yP {ws:List (List UInt8)} (h:RowOk ws):fW [mkR ws]= .ok (rowT ws):=by
 have:=u0 (W:= [ws]) Py OF
 simpa using this
theorem fJ:∀ {l:List Int} {i:Nat},firstE l i=none→∀ e∈l,e=0
  | [],_,_,_,h=>by simp at h
  | x :: l, i, h, e, he => by
    unfold firstE at h
    split at h
    · rename_i h0
      rcases List.mem_cons.1 he with rfl|he
      · exact h0
      · exact fJ h e he
    · cases h
theorem iG:∀ {l:List Int} {i:Nat} {p:Int × Nat},firstE l i=some p→p.1≠0
  | [],_,_,h=>by cases h
  | x :: l, i, p, h => by
    unfold firstE at h
    split at h
    · exact iG h
    · rename_i h0;cases h;exact h0
structure Fine (c:CfgI):Prop where
 ncls:c.cls.length≤8
 nrul:c.ruls.length≤8
 cls:firstE (clsEs [] c.cls) 0=none
 ten:∀ x∈c.tens,tenE x=0
 rul:∀ x∈c.ruls,rulE x=0
 hor:1≤c.hor∧c.hor≤10000
theorem Dd {c:CfgI} (h:(fz c).1=0):Fine c:=by
 unfold fz at h
 split at h
 ·cases h
 ·rename_i h0
  split at h
  ·rename_i p hp;exact (iG hp h).elim
  ·rename_i h1
   split at h
   ·rename_i p hp;exact (iG hp h).elim
   ·rename_i h2
    split at h
    ·rename_i p hp;exact (iG hp h).elim
    ·rename_i h3
     split at h
     ·cases h
     ·refine ⟨by omega,by omega,h1,fun x hx=>fJ h2 _ (List.mem_map.2 ⟨x,hx,rfl⟩),fun x hx=>fJ h3 _ (List.mem_map.2 ⟨x,hx,rfl⟩),by omega⟩
theorem sM {l:List ClsI} {k:Nat} {x:ClsI} (h:firstE (clsEs [] l) 0=none) (hx:l[k]? =some x):(1≤x.size∧x.size≤64)∧(0≤x.rate∧x.rate≤64):=by
 have h1:=nc (seen:= []) hx
 have h2:=fJ h _ (List.mem_of_getElem? h1)
 unfold p9 at h2
 split at h2
 ·cases h2
 ·rename_i h3
  simp only [dN,inB,Bool.and_true,Bool.not_eq_false,Bool.and_eq_true,Bool.not_eq_true',Bool.or_eq_false_iff,decide_eq_false_iff_not] at h3
  omega
theorem sO {x:TenI} (h:tenE x=0):(1≤x.budget∧x.budget≤64)∧(0≤x.queries∧x.queries≤4)∧(0≤x.cap∧x.cap≤64)∧(0≤x.out∧x.out≤64)∧(0≤x.audit∧x.audit≤64):=by
 unfold tenE at h
 split at h
 ·cases h
 ·rename_i h3
  simp only [dN,inB,Bool.and_true,Bool.not_eq_false,Bool.and_eq_true,Bool.not_eq_true',Bool.or_eq_false_iff,decide_eq_false_iff_not] at h3
  omega
theorem sP {x:RulI} (h:rulE x=0):(1≤x.owner∧x.owner≤6)∧(0≤x.kind∧x.kind≤25)∧(x.any=true→x.kind=0)∧leB (lab x.res) (lab x.auth)=true∧x.low≤x.high:=by
 unfold rulE at h
 split at h
 ·cases h
 ·rename_i h3
  split at h
  ·cases h
  ·rename_i h4
   split at h
   ·cases h
   ·rename_i h5
    simp only [Bool.or_eq_true,decide_eq_true_eq,Bool.and_eq_true,bne_iff_ne,ne_eq,not_or,not_and,Decidable.not_not] at h3
    refine ⟨by omega,by omega,h3.2,by simpa using h4,by omega⟩
theorem yQ {ws:List (List UInt8)} (h:RowOk ws):uu [mkR ws]:=by
 refine ⟨by simp,fun r hr=>?_⟩
 have e:=List.mem_singleton.1 hr
 subst e
 have h1:=h.num
 refine ⟨by simp [mkR];omega,fun w hw=>?_⟩
 obtain ⟨t,ht,rfl⟩:=List.mem_map.1 hw
 have:=h.wl t ht
 show t.length≤20000
 omega
theorem j9:∀ (ws:List (List UInt8)),ws≠ []→(rowT ws).length=(ws.map (fun t=>t.length+1)).sum
  | [],h=>(h rfl).elim
  | [x],_=>by simp [rowT,Lib.join_one]
  | x :: y :: l, _ => by
    have h1:=j9 (y::l) OF
    simp only [rowT,List.length_append,List.length_cons,List.length_nil,List.map_cons,List.sum_cons,Lib.join,List.intercalate,List.intersperse,List.flatten_cons,List.flatten_nil] at h1 ⊢
    omega
theorem LA (u:Nat) (h:u<18446744073709551616):PuG Tryz.prog gl3 168 [.int .u64 u, .int .i64 10] (.str (decDigits u)):=by
 intro σ hσ
 refine AC.eX (Go.Proofs.enters_of Tryz.func168 OA rfl) ?_
 intro g w vs hI hv
 obtain ⟨v1,vs,rfl,r1,hv⟩:=hv.cons_inv
 obtain ⟨v2,vs,rfl,r2,hv⟩:=hv.cons_inv
 rw [hv.bK,r1.a8,r2.a8]
 refine (NQ u h w (kT hI Fp (hσ _ _ rfl))).mono ?_
 rintro e w' ⟨rfl,k',os,rfl⟩
 refine ⟨_,rfl,⟨rfl,rfl,rfl,by simp [Go.Sort.grow,World.drewN],fun i hi=>?_⟩,fun g' _=> .str _⟩
 simp only [Go.Sort.grow,World.drewN]
 rw [Array.getElem?_append_left hi]
theorem JF (u:Nat) (h:u<18446744073709551616):PuG Tryz.prog gl3 110 [.int .u64 u, .int .i64 10] (.str (decDigits u)):=by
 have h1:=LA u h
 (refine aO Hx LY fun σ hσ=>?_;simp only [Hx,↓R1,RR,seval])
 repeat' ((refine PuG.to (h1) hσ (aa _) ?_)<;>(try simp only [↓R1,RR,seval]))
 (refine aq (af ?_))
 (simp only [ar,↓R1,RR,seval])
theorem LB (n:Int) (hn:I64 n):PuG Tryz.prog gl3 109 [.int .i64 n, .int .i64 10] (.str (itoa n)):=fun σ hσ=>K4 n σ hn.1 hn.2 (hσ _ _ rfl)
theorem p50 (n:Nat) (hn:n<18446744073709551616):PuG Tryz.prog gl3 50 [.int .u64 (n:Nat)] (.str (decDigits n)):=by
 have h1:=JF n hn
 have q1:decide ((n:Int)<0)=false:=OF
 (refine aO c50 b50 fun σ hσ=>?_;simp only [c50,↓R1,RR,seval,q1])
 repeat' ((refine PuG.to (h1) hσ (aa _) ?_)<;>(try simp only [↓R1,RR,seval,q1]))
 (refine aq (af ?_))
 (simp only [ar,↓R1,RR,seval,q1])
theorem p52 (n:Int) (hn:I64 n):PuG Tryz.prog gl3 52 [.int .i64 n] (.str (itoa n)):=by
 have hw:True:=trivial
 by_cases h0:n<0
 ·have h1:=LB n hn
  have q1:decide (n<0)=true:=PE
  (refine aO c52 b52 fun σ hσ=>?_;simp only [c52,↓R1,RR,seval,q1,hw])
  repeat' ((refine PuG.to (h1) hσ (aa _) ?_)<;>(try simp only [↓R1,RR,seval,q1,hw]))
  (refine aq (af ?_))
  (simp only [ar,↓R1,RR,seval,q1,hw])
 ·obtain ⟨m,rfl⟩:=Int.eq_ofNat_of_zero_le (show 0≤n by omega)
  unfold I64 at hn
  have h1:=JF m Oz
  have q1:decide ((m:Int)<0)=false:=OF
  have hw:IntKind.u64.wrap (m:Int)=(m:Int):=vl Oz Oz
  rw [mO]
  (refine aO c52 b52 fun σ hσ=>?_;simp only [c52,↓R1,RR,seval,q1,hw])
  repeat' ((refine PuG.to (h1) hσ (aa _) ?_)<;>(try simp only [↓R1,RR,seval,q1,hw]))
  (refine aq (af ?_))
  (simp only [ar,↓R1,RR,seval,q1,hw])
theorem p54 (n:Int) (hn:I64 n):PuG Tryz.prog gl3 54 [.int .i64 n] (.str (itoa n)):=by
 have hw:True:=trivial
 by_cases h0:n<0
 ·have h1:=LB n hn
  have q1:decide (n<0)=true:=PE
  (refine aO c54 b54 fun σ hσ=>?_;simp only [c54,↓R1,RR,seval,q1,hw])
  repeat' ((refine PuG.to (h1) hσ (aa _) ?_)<;>(try simp only [↓R1,RR,seval,q1,hw]))
  (refine aq (af ?_))
  (simp only [ar,↓R1,RR,seval,q1,hw])
 ·obtain ⟨m,rfl⟩:=Int.eq_ofNat_of_zero_le (show 0≤n by omega)
  unfold I64 at hn
  have h1:=JF m Oz
  have q1:decide ((m:Int)<0)=false:=OF
  have hw:IntKind.u64.wrap (m:Int)=(m:Int):=vl Oz Oz
  rw [mO]
  (refine aO c54 b54 fun σ hσ=>?_;simp only [c54,↓R1,RR,seval,q1,hw])
  repeat' ((refine PuG.to (h1) hσ (aa _) ?_)<;>(try simp only [↓R1,RR,seval,q1,hw]))
  (refine aq (af ?_))
  (simp only [ar,↓R1,RR,seval,q1,hw])
theorem p74 {l:List (List UInt8)} (h:RowOk l):Pu Tryz.prog 74 [.sl true l.length (l.map AV.str)] (.tup [.str (rowT l), .int .i64 0]):=by
 have h0:=Lg l (by have:=h.num;omega) (fun t ht=>by have:=h.wl t ht;omega)
 have h1:=Lf [mkR l] (yQ h)
 rw [yP h] at h1
 simp only [List.flatMap_cons,List.flatMap_nil,List.append_nil,List.length_cons,List.length_nil,Nat.zero_add,rJ] at h1
 (refine av c74 b74 fun σ=>?_;simp only [c74,↓R1,RR,seval,List.length_map])
 repeat' (first|(with_reducible apply And.intro)|((first|((refine Pu.to (h0) ?_ ?_;(focus exact fo)))|((refine Pu.to (h1) ?_ ?_;(focus exact fo))))<;>(try simp only [↓R1,RR,seval,List.length_map])))
 ·rfl
 ·(refine aq (af ?_))
  (simp only [ar,↓R1,RR,seval,List.length_map])
theorem a49 {σ:St} {β:Nat} {out:List UInt8} {l:List (List UInt8)} (hb:σ.box β=some [.str out, .int .i64 0]) (h:RowOk l) (hl:out.length≤20000):AC Tryz.prog 49 [.ptr β 0, .sl true l.length (l.map AV.str)] σ (fun r s=>r= .tup []∧s=σ.ad β [.str (out++rowT l), .int .i64 0]):=by
 have h0:=p74 h
 have h300:=h.len
 (refine aT c49 b49 ?_;simp only [c49,↓R1,RR,seval,hb,List.length_map,h300])
 repeat' (first|(with_reducible refine And.intro ?_ ?_;exact ak)|((refine Pt (h0) ?_)<;>(try simp only [↓R1,RR,seval,hb,List.length_map,h300])))
 (refine b7 ?_)
 exact ⟨rfl,rfl⟩
def iq (c:CfgI):List (List UInt8):= [[104,111,114,105,122,111,110],decDigits c.hor.toNat]
def iP (x:ClsI):List (List UInt8):= [[99,108,97,115,115],dI (lab x.l),itoa x.size,itoa x.rate]
def ka (x:TenI):List (List UInt8):= [[116,101,110,97,110,116],itoa x.budget,itoa x.queries,itoa x.cap,itoa x.out,itoa x.audit]
def lr (x:RulI):List UInt8:=if x.any then [97,110,121] else dM x.kind
def jA (x:RulI):List (List UInt8):= [[114,117,108,101],itoa x.owner,dI (lab x.auth),dI (lab x.res),lr x,itoa x.low,itoa x.high]
def sQ (c:CfgI):List (List (List UInt8)):=iq c::(c.cls.map iP++c.tens.map ka++c.ruls.map jA)
theorem qi {c:CfgI} (h:Fine c):RowOk (iq c):=by
 have h1:=sL c.hor.toNat
 have h2:=fh c.hor.toNat (by have:=h.hor;omega)
 refine ⟨by simp [iq],?_,?_,by simp [iq],?_⟩
 ·intro t ht
  simp only [iq,List.mem_cons,List.not_mem_nil,or_false] at ht
  rcases ht with rfl|rfl
  ·decide
  ·exact h1
 ·rw [j9 _ (by simp [iq])]
  simp only [iq,List.map_cons,List.map_nil,List.sum_cons,List.sum_nil,List.length_cons,List.length_nil];omega
 ·intro t ht
  simp only [iq,List.mem_cons,List.not_mem_nil,or_false] at ht
  rcases ht with rfl|rfl
  ·decide
  ·omega
theorem vR {x:ClsI} (h:(1≤x.size∧x.size≤64)∧(0≤x.rate∧x.rate≤64)):RowOk (iP x):=by
 have h1:=eF (lab x.l)
 have h2:=cu x.size OZ
 have h3:=cu x.rate OZ
 refine ⟨by simp [iP],?_,?_,by simp [iP],?_⟩
 ·intro t ht
  simp only [iP,List.mem_cons,List.not_mem_nil,or_false] at ht
  rcases ht with rfl|rfl|rfl|rfl
  ·decide
  ·exact jz _
  ·exact fj _
  ·exact fj _
 ·rw [j9 _ (by simp [iP])]
  simp only [iP,List.map_cons,List.map_nil,List.sum_cons,List.sum_nil,List.length_cons,List.length_nil];omega
 ·intro t ht
  simp only [iP,List.mem_cons,List.not_mem_nil,or_false] at ht
  rcases ht with rfl|rfl|rfl|rfl
  ·decide
  all_goals omega
theorem vS {x:TenI} (h:(1≤x.budget∧x.budget≤64)∧(0≤x.queries∧x.queries≤4)∧(0≤x.cap∧x.cap≤64)∧(0≤x.out∧x.out≤64)∧(0≤x.audit∧x.audit≤64)):RowOk (ka x):=by
 have h1:=cu x.budget OZ
 have h2:=cu x.queries OZ
 have h3:=cu x.cap OZ
 have h4:=cu x.out OZ
 have h5:=cu x.audit OZ
 refine ⟨by simp [ka],?_,?_,by simp [ka],?_⟩
 ·intro t ht
  simp only [ka,List.mem_cons,List.not_mem_nil,or_false] at ht
  rcases ht with rfl|rfl|rfl|rfl|rfl|rfl
  ·decide
  all_goals exact fj _
 ·rw [j9 _ (by simp [ka])]
  simp only [ka,List.map_cons,List.map_nil,List.sum_cons,List.sum_nil,List.length_cons,List.length_nil];omega
 ·intro t ht
  simp only [ka,List.mem_cons,List.not_mem_nil,or_false] at ht
  rcases ht with rfl|rfl|rfl|rfl|rfl|rfl
  ·decide
  all_goals omega
theorem yR {x:RulI} (h:0≤x.kind∧x.kind≤25):bareS (lr x)=true∧(lr x).length≤3:=by
 unfold lr
 split
 ·decide
 ·exact ⟨qh h,by have:=la x.kind;omega⟩
theorem vT {x:RulI} (ho:1≤x.owner∧x.owner≤6) (hk:0≤x.kind∧x.kind≤25) (hl:I64 x.low) (hh:I64 x.high):RowOk (jA x):=by
 have h1:=cu x.owner OZ
 have h2:=eF (lab x.auth)
 have h3:=eF (lab x.res)
 obtain ⟨k1,k2⟩:=yR hk
 have h5:=cu x.low hl
 have h6:=cu x.high hh
 refine ⟨by simp [jA],?_,?_,by simp [jA],?_⟩
 ·intro t ht
  simp only [jA,List.mem_cons,List.not_mem_nil,or_false] at ht
  rcases ht with rfl|rfl|rfl|rfl|rfl|rfl|rfl
  ·decide
  ·exact fj _
  ·exact jz _
  ·exact jz _
  ·exact k1
  ·exact fj _
  ·exact fj _
 ·rw [j9 _ (by simp [jA])]
  simp only [jA,List.map_cons,List.map_nil,List.sum_cons,List.sum_nil,List.length_cons,List.length_nil];omega
 ·intro t ht
  simp only [jA,List.mem_cons,List.not_mem_nil,or_false] at ht
  rcases ht with rfl|rfl|rfl|rfl|rfl|rfl|rfl
  ·decide
  all_goals omega
def De (c:CfgI):Prop:=∀ x∈c.ruls,I64 x.low∧I64 x.high
theorem Df {c:CfgI} (hk:CfgOk c) (h:Fine c) (h64:De c):(∀ ws∈sQ c,RowOk ws)∧(sQ c).length≤28:=by
 refine ⟨fun ws hw=>?_,?_⟩
 ·rcases List.mem_cons.1 hw with rfl|hw
  ·exact qi h
  rcases List.mem_append.1 hw with hw|hw
  ·rcases List.mem_append.1 hw with hw|hw
   ·obtain ⟨x,hx,rfl⟩:=List.mem_map.1 hw
    obtain ⟨k,hk⟩:=List.getElem?_of_mem hx
    exact vR (sM h.cls hk)
   ·obtain ⟨x,hx,rfl⟩:=List.mem_map.1 hw
    exact vS (sO (h.ten x hx))
  ·obtain ⟨x,hx,rfl⟩:=List.mem_map.1 hw
   have h1:=sP (h.rul x hx)
   exact vT h1.1 h1.2.1 (h64 x hx).1 (h64 x hx).2
 ·have h1:=h.ncls
  have h2:=h.nrul
  have h3:=hk.six
  simp only [sQ,List.length_cons,List.length_append,List.length_map];omega
def F5 (c:CfgI):List UInt8:=((sQ c).map rowT).flatten
def vU (c:CfgI):AV:=if (fz c).1=0 then .tup [.str (F5 c), .int .i64 0] else .tup [.str [], .int .i64 (fz c).1]
theorem yS {W:List (List (List UInt8))} (h:∀ ws∈W,RowOk ws):(W.map rowT).flatten.length≤700*W.length:=by
  induction W with
  | nil=>simp
  | cons x W ih =>
    have h1:=(h x OF).len
    have h2:=ih (fun y hy=>h y (by simp [hy]))
    simp only [List.map_cons,List.flatten_cons,List.length_append,List.length_cons];omega
theorem kK {α:Type} {f:α→List (List UInt8)} {l:List α} {k:Nat} {x:α} (A:List (List (List UInt8))) (h:l[k]? =some x):((A++(l.take k).map f).map rowT).flatten++rowT (f x)=((A++(l.take (k+1)).map f).map rowT).flatten:=by
 obtain ⟨h1,h2⟩:=List.getElem?_eq_some_iff.1 h
 rw [←List.take_append_getElem h1,h2]
 simp
theorem nr {α:Type} {f:α→List (List UInt8)} {A:List (List (List UInt8))} {l:List α} (hA:∀ ws∈A,RowOk ws) (hl:∀ x∈l,RowOk (f x)) (hn:A.length+l.length≤28) (k:Nat):((A++(l.take k).map f).map rowT).flatten.length≤20000:=by
 have h:=yS (W:=A++(l.take k).map f) (fun ws hw=>by
  rcases List.mem_append.1 hw with hw|hw
  ·exact hA ws hw
  ·obtain ⟨x,hx,rfl⟩:=List.mem_map.1 hw
   exact hl x (List.mem_of_mem_take hx))
 rw [List.length_append,List.length_map,List.length_take] at h
 omega
theorem _root_.OR {p:Prop} (h:p:=by simp only [↓R1,RR,seval,q1,he,hw,hcl,hca,hc0,h31,h32,hln,l32,hany]):p:=h
set_option maxHeartbeats 8000000 in
theorem p18 {c:CfgI} (ck:CfgOk c) (h64:De c):PuG Tryz.prog gl3 18 [.agg (a7 c)] (vU c):=by
  have hcl:=eQ ck
  have hca:=iD ck
  have hc0:=vG c
  have h31:=uR ck
  have h32:=CN ck
  have q1:True:=trivial
  have he:True:=trivial
  have hw:True:=trivial
  have hln:True:=trivial
  have hany:True:=trivial
  have l32:32<(a7 c).length:=PM
  have hck:=p48 ck
  unfold Jy at hck
  by_cases hz:(fz c).1=0
  · have hF:=Dd hz
    obtain ⟨hr,hrl⟩:=Df ck hF h64
    have n1:=hF.ncls
    have n2:=hF.nrul
    have h6:=ck.six
    have hhn:((c.hor.toNat:Nat):Int)=c.hor:=by have:=hF.hor;omega
    have h50:=p50 c.hor.toNat (by have:=hF.hor;omega)
    rw [hhn] at h50
    have q1:((fz c).1 != 0)=false:=by rw [hz];rfl
    rw [vU,if_pos hz]
    (refine aO c18 b18 fun σ hσ=>?_;simp only [c18,↓R1,RR,seval,q1,he,hw,hcl,hca,hc0,h31,h32,hln,l32,hany])
    repeat' ((first|(with_reducible intro β hβ;(try simp only [RB] at hβ);(repeat (obtain ⟨⟨_,_⟩,hβ⟩:=hβ));(try (have hbis:=ag OB hβ;obtain ⟨_,_⟩:=hbis)))|(refine Pt (hck) ?_)|(refine PuG.to (h50) hσ (aa _) ?_)|((refine AC.mono (AC.wk (a49 (out:= []) (l:=iq c) ?_ (qi hF) OK) (aa _)) ?_;(focus (simp only [↓R1,RR,seval,q1,he,hw,hcl,hca,hc0,h31,h32,hln,l32,hany];done));(rintro _ _ ⟨rfl,rfl⟩))))<;>(try simp only [↓R1,RR,seval,q1,he,hw,hcl,hca,hc0,h31,h32,hln,l32,hany]))
    rename_i B hB aB1 aB2
    have rc:∀ x∈c.cls,RowOk (iP x):=fun x hx=>hr _ (by simp only [sQ,List.mem_cons,List.mem_append,List.mem_map];exact .inr (.inl (.inl ⟨x,hx,rfl⟩)))
    have rt:∀ x∈c.tens,RowOk (ka x):=fun x hx=>hr _ (by simp only [sQ,List.mem_cons,List.mem_append,List.mem_map];exact .inr (.inl (.inr ⟨x,hx,rfl⟩)))
    have rr:∀ x∈c.ruls,RowOk (jA x):=fun x hx=>hr _ (by simp only [sQ,List.mem_cons,List.mem_append,List.mem_map];exact .inr (.inr ⟨x,hx,rfl⟩))
    have r1:∀ ws∈ [iq c],RowOk ws:=fun ws h=>by rw [List.mem_singleton.1 h];exact qi hF
    have r2:∀ ws∈ [iq c]++c.cls.map iP,RowOk ws:=fun ws h=>by
      rcases List.mem_append.1 h with h|h
      · exact r1 ws h
      · obtain ⟨x,hx,rfl⟩:=List.mem_map.1 h;exact rc x hx
    have r3:∀ ws∈([iq c]++c.cls.map iP)++c.tens.map ka,RowOk ws:=fun ws h=>by
      rcases List.mem_append.1 h with h|h
      · exact r2 ws h
      · obtain ⟨x,hx,rfl⟩:=List.mem_map.1 h;exact rt x hx
    obtain ⟨O1,hO1⟩:∃ O1:Nat→List UInt8,O1=fun k=>(([iq c]++(c.cls.take k).map iP).map rowT).flatten:=⟨_,rfl⟩
    obtain ⟨O2,hO2⟩:∃ O2:Nat→List UInt8,O2=fun k=>((([iq c]++c.cls.map iP)++(c.tens.take k).map ka).map rowT).flatten:=⟨_,rfl⟩
    obtain ⟨O3,hO3⟩:∃ O3:Nat→List UInt8,O3=fun k=>(((([iq c]++c.cls.map iP)++c.tens.map ka)++(c.ruls.take k).map jA).map rowT).flatten:=⟨_,rfl⟩
    have z1:([]++rowT (iq c):List UInt8)=O1 0:=by subst hO1;simp
    have z2:O1 c.cls.length=O2 0:=by subst hO1 hO2;simp
    have z3:O2 6=O3 0:=by subst hO2 hO3;simp only;rw [List.take_of_length_le Oz];simp
    have z4:O3 c.ruls.length=F5 c:=by subst hO3;simp [F5,sQ]
    have Jv:∀ k,(O1 k).length≤20000:=fun k=>by subst hO1;exact nr r1 rc OS k
    have FV:∀ k,(O2 k).length≤20000:=fun k=>by subst hO2;exact nr r2 rt OS k
    have uV:∀ k,(O3 k).length≤20000:=fun k=>by subst hO3;exact nr r3 rr OS k
    refine bq c.cls.length (fun k=> [(1, .ptr B 0),(6, .ptr β 0),(31, .sl false c.cls.length (c.cls.flatMap dr)),(32, .int .i64 (c.cls.length:Nat)),(33, .int .i64 (k:Nat))]) (fun k=>(σ.ad B (a7 c)).ad β [.str (O1 k), .int .i64 0]) (fun _=>True) OP (by rw [z1,St.set_set];exact St.le_refl _) trivial (fun k hk _=>?_)
    by_cases hlt:k<c.cls.length
    · obtain ⟨x,hx⟩:∃ x,c.cls[k]? =some x:=⟨_,List.getElem?_eq_getElem hlt⟩
      have he:=en (f:=dr) (m:=3) (fun _=>rfl) hx
      have hln:=j6 c.cls
      simp only [dr] at he
      have q1:decide ((k:Int)<(c.cls.length:Int))=true:=OQ
      have hw:IntKind.i64.wrap ((k:Int)+1)=((k+1:Nat):Int):=OD
      have hfx:=sM hF.cls hx
      have d1:=PuG.up3 (p51 (lab x.l))
      rw [gF (ck.lcls x (List.mem_of_getElem? hx))] at d1
      have d2:=p52 x.size OZ
      have d3:=p52 x.rate OZ
      have o1:O1 k++rowT (iP x)=O1 (k+1):=by subst hO1;exact kK [iq c] hx
      simp only [q1,↓R1,RR,seval,q1,he,hw,hcl,hca,hc0,h31,h32,hln,l32,hany]
      repeat' (first|(with_reducible rw [ah])|(with_reducible refine And.intro ?_ ?_;exact ak)|(with_reducible apply And.intro)|((first|(with_reducible intro β hβ;(try simp only [RB] at hβ);(repeat (obtain ⟨⟨_,_⟩,hβ⟩:=hβ));(try (have hbis:=ag OB hβ;obtain ⟨_,_⟩:=hbis)))|(refine aS (d1) hσ (aa _) ?_)|(refine aS (d2) hσ (aa _) ?_)|(refine aS (d3) hσ (aa _) ?_)|(refine eK (d:= [.str (O1 k), .int .i64 0]) OR (a49 (out:=O1 k) (l:=iP x) OR (vR hfx) (Jv k)) (aa _) ?_))<;>(try simp only [↓R1,RR,seval,q1,he,hw,hcl,hca,hc0,h31,h32,hln,l32,hany])))
      · simp [aK,slot,ae]
      · rw [o1]
        (refine St.aR (St.le_refl _) ?_;simp only [St.br];assumption)
    have hke:k=c.cls.length:=Oz
    subst hke
    have q1:decide ((c.cls.length:Int)<(c.cls.length:Int))=false:=OF
    have hc1:=Gv ck
    have l31:1+30≤33:=OK
    simp only [q1,hc1,l31,↓R1,RR,seval,q1,he,hw,hcl,hca,hc0,h31,h32,hln,l32,hany]
    skip
    refine bq 6 (fun k=> [(1, .ptr B 0),(6, .ptr β 0),(51, .agg (c.tens.flatMap cM)),(52, .int .i64 (k:Nat))]) (fun k=>(σ.ad B (a7 c)).ad β [.str (O2 k), .int .i64 0]) (fun _=>True) OP (by rw [z2];exact St.le_refl _) trivial (fun k hk _=>?_)
    by_cases hlt:k<6
    · obtain ⟨x,hx⟩:∃ x,c.tens[k]? =some x:=⟨_,List.getElem?_eq_getElem Oz⟩
      have he:=en (f:=cM) (m:=5) (fun _=>rfl) hx
      have hln:=bp c.tens
      rw [h6] at hln
      simp only [cM] at he
      have q1:decide ((k:Int)<6)=true:=OQ
      have hw:IntKind.i64.wrap ((k:Int)+1)=((k+1:Nat):Int):=OD
      have hfx:=sO (hF.ten x (List.mem_of_getElem? hx))
      have d1:=p52 x.budget OZ
      have d2:=p52 x.queries OZ
      have d3:=p52 x.cap OZ
      have d4:=p52 x.out OZ
      have d5:=p52 x.audit OZ
      have o1:O2 k++rowT (ka x)=O2 (k+1):=by subst hO2;exact kK _ hx
      simp only [q1,↓R1,RR,seval,q1,he,hw,hcl,hca,hc0,h31,h32,hln,l32,hany]
      repeat' (first|(with_reducible rw [ah])|(with_reducible refine And.intro ?_ ?_;exact ak)|(with_reducible apply And.intro)|((first|(with_reducible intro β hβ;(try simp only [RB] at hβ);(repeat (obtain ⟨⟨_,_⟩,hβ⟩:=hβ));(try (have hbis:=ag OB hβ;obtain ⟨_,_⟩:=hbis)))|(refine aS (d1) hσ (aa _) ?_)|(refine aS (d2) hσ (aa _) ?_)|(refine aS (d3) hσ (aa _) ?_)|(refine aS (d4) hσ (aa _) ?_)|(refine aS (d5) hσ (aa _) ?_)|(refine eK (d:= [.str (O2 k), .int .i64 0]) OR (a49 (out:=O2 k) (l:=ka x) OR (vS hfx) (FV k)) (aa _) ?_))<;>(try simp only [↓R1,RR,seval,q1,he,hw,hcl,hca,hc0,h31,h32,hln,l32,hany])))
      · simp [aK,slot,ae]
      · rw [o1]
        (refine St.aR (St.le_refl _) ?_;simp only [St.br];assumption)
    have hke:k=6:=Oz
    subst hke
    have q1:decide (((6:Nat):Int)<6)=false:=OK
    have l31:31<33:=OK
    simp only [q1,l31,↓R1,RR,seval,q1,he,hw,hcl,hca,hc0,h31,h32,hln,l32,hany]
    skip
    refine bq c.ruls.length (fun k=> [(6, .ptr β 0),(75, .sl false c.ruls.length (c.ruls.flatMap dL)),(76, .int .i64 (c.ruls.length:Nat)),(77, .int .i64 (k:Nat))]) (fun k=>(σ.ad B (a7 c)).ad β [.str (O3 k), .int .i64 0]) (fun _=>True) OP (by rw [z3];exact St.le_refl _) trivial (fun k hk _=>?_)
    by_cases hlt:k<c.ruls.length
    · obtain ⟨x,hx⟩:∃ x,c.ruls[k]? =some x:=⟨_,List.getElem?_eq_getElem hlt⟩
      have he:=en (f:=dL) (m:=7) (fun _=>rfl) hx
      have hln:=il c.ruls
      simp only [dL] at he
      have q1:decide ((k:Int)<(c.ruls.length:Int))=true:=OQ
      have hw:IntKind.i64.wrap ((k:Int)+1)=((k+1:Nat):Int):=OD
      have hxm:=List.mem_of_getElem? hx
      have hfx:=sP (hF.rul x hxm)
      have hxl:=ck.lrul x hxm
      have hx64:=h64 x hxm
      have d1:=p52 x.owner OZ
      have d2:=PuG.up3 (p51 (lab x.auth))
      have d3:=PuG.up3 (p51 (lab x.res))
      rw [gF hxl.1] at d2
      rw [gF hxl.2] at d3
      have d4:=p53 x.kind
      have d5:=p54 x.low hx64.1
      have d6:=p54 x.high hx64.2
      have o1:O3 k++rowT (jA x)=O3 (k+1):=by subst hO3;exact kK _ hx
      have hrw:=vT hfx.1 hfx.2.1 hx64.1 hx64.2
      cases hany:x.any with
      | true =>
        have hkw:lr x= [97,110,121]:=by rw [lr,hany];rfl
        have hrl:jA x= [[114,117,108,101],itoa x.owner,dI (lab x.auth),dI (lab x.res),[97,110,121],itoa x.low,itoa x.high]:=by rw [jA,hkw]
        rw [hrl] at hrw o1
        simp only [q1,↓R1,RR,seval,q1,he,hw,hcl,hca,hc0,h31,h32,hln,l32,hany]
        repeat' (first|(with_reducible rw [ah])|(with_reducible refine And.intro ?_ ?_;exact ak)|(with_reducible apply And.intro)|((first|(with_reducible intro β hβ;(try simp only [RB] at hβ);(repeat (obtain ⟨⟨_,_⟩,hβ⟩:=hβ));(try (have hbis:=ag OB hβ;obtain ⟨_,_⟩:=hbis)))|(refine aS (d1) hσ (aa _) ?_)|(refine aS (d2) hσ (aa _) ?_)|(refine aS (d3) hσ (aa _) ?_)|(refine aS (d5) hσ (aa _) ?_)|(refine aS (d6) hσ (aa _) ?_)|(refine eK (d:= [.str (O3 k), .int .i64 0]) OR (a49 (out:=O3 k) OR hrw (uV k)) (aa _) ?_))<;>(try simp only [↓R1,RR,seval,q1,he,hw,hcl,hca,hc0,h31,h32,hln,l32,hany])))
        · simp [aK,slot,ae]
        · rw [o1]
          (refine St.aR (St.le_refl _) ?_;simp only [St.br];assumption)
      | false =>
        have hkw:lr x=dM x.kind:=by rw [lr,hany];rfl
        have hrl:jA x= [[114,117,108,101],itoa x.owner,dI (lab x.auth),dI (lab x.res),dM x.kind,itoa x.low,itoa x.high]:=by rw [jA,hkw]
        rw [hrl] at hrw o1
        simp only [q1,↓R1,RR,seval,q1,he,hw,hcl,hca,hc0,h31,h32,hln,l32,hany]
        repeat' (first|(with_reducible rw [ah])|(with_reducible refine And.intro ?_ ?_;exact ak)|(with_reducible apply And.intro)|((first|(with_reducible intro β hβ;(try simp only [RB] at hβ);(repeat (obtain ⟨⟨_,_⟩,hβ⟩:=hβ));(try (have hbis:=ag OB hβ;obtain ⟨_,_⟩:=hbis)))|(refine Pt (d4) ?_)|(refine aS (d1) hσ (aa _) ?_)|(refine aS (d2) hσ (aa _) ?_)|(refine aS (d3) hσ (aa _) ?_)|(refine aS (d5) hσ (aa _) ?_)|(refine aS (d6) hσ (aa _) ?_)|(refine eK (d:= [.str (O3 k), .int .i64 0]) OR (a49 (out:=O3 k) OR hrw (uV k)) (aa _) ?_))<;>(try simp only [↓R1,RR,seval,q1,he,hw,hcl,hca,hc0,h31,h32,hln,l32,hany])))
        · simp [aK,slot,ae]
        · rw [o1]
          (refine St.aR (St.le_refl _) ?_;simp only [St.br];assumption)
    have hke:k=c.ruls.length:=Oz
    subst hke
    have q1:decide ((c.ruls.length:Int)<(c.ruls.length:Int))=false:=OF
    simp only [q1,↓R1,RR,seval,q1,he,hw,hcl,hca,hc0,h31,h32,hln,l32,hany]
    skip
    rw [z4]
    refine aq ?_
    simp only [ar,↓R1,RR,seval,q1,he,hw,hcl,hca,hc0,h31,h32,hln,l32,hany]
    exact ae _
  · have q1:((fz c).1 != 0)=true:=by rw [bne_iff_ne];exact hz
    rw [vU,if_neg hz]
    (refine aO c18 b18 fun σ hσ=>?_;simp only [c18,↓R1,RR,seval,q1,he,hw,hcl,hca,hc0,h31,h32,hln,l32,hany])
    repeat' ((first|(with_reducible intro β hβ;(try simp only [RB] at hβ);(repeat (obtain ⟨⟨_,_⟩,hβ⟩:=hβ));(try (have hbis:=ag OB hβ;obtain ⟨_,_⟩:=hbis)))|(refine Pt (hck) ?_))<;>(try simp only [↓R1,RR,seval,q1,he,hw,hcl,hca,hc0,h31,h32,hln,l32,hany]))
    refine aq ?_
    simp only [ar,↓R1,RR,seval,q1,he,hw,hcl,hca,hc0,h31,h32,hln,l32,hany]
    exact ae _
theorem Dg (x:OpI):(cOp x).length=8:=rfl
theorem sR (l:List OpI):(l.flatMap cOp).length=l.length*8:=aD Dg l
set_option maxHeartbeats 2000000 in
theorem Dh (f g:Bool) (l:List OpI) (hl:l.length≤1000000):Pu Tryz.prog 16 [.sl f l.length (l.flatMap cOp), .sl g l.length (l.flatMap cOp)] (.bool true):=by
 have q1:True:=trivial
 have he:True:=trivial
 have hw:True:=trivial
 have h1:=sR l
 (refine av c16 b16 fun σ=>?_;simp only [c16,↓R1,RR,seval,q1,he,hw,cOp,h1,List.cons_append,List.nil_append,List.drop_nil])
 skip
 refine bq l.length (fun k=> [(0, .sl f l.length (l.flatMap cOp)),(1, .sl g l.length (l.flatMap cOp)),(5, .int .i64 (k:Nat))]) (fun _=>σ) (fun _=>True) OP (St.le_refl _) trivial (fun k hk _=>?_)
 by_cases hlt:k<l.length
 ·obtain ⟨x,hx⟩:∃ x,l[k]? =some x:=⟨_,List.getElem?_eq_getElem hlt⟩
  have he:=en (f:=cOp) (m:=8) Dg hx
  simp only [cOp] at he
  have q1:decide ((k:Int)<(l.length:Int))=true:=OQ
  have hw:IntKind.i64.wrap ((k:Int)+1)=((k+1:Nat):Int):=OD
  simp only [q1,↓R1,RR,seval,q1,he,hw,cOp,h1,List.cons_append,List.nil_append,List.drop_nil]
  repeat' (first|(with_reducible refine And.intro ?_ ?_;exact ak)|(with_reducible apply And.intro))
  ·simp [aK,slot,ae]
  ·exact St.le_refl _
 ·have hke:k=l.length:=by omega
  subst hke
  have q1:decide ((l.length:Int)<(l.length:Int))=false:=OF
  simp only [q1,↓R1,RR,seval,q1,he,hw,cOp,h1,List.cons_append,List.nil_append,List.drop_nil]
  skip
  (refine aq (af ?_))
  (simp only [ar,↓R1,RR,seval,q1,he,hw,cOp,h1,List.cons_append,List.nil_append,List.drop_nil])
def exC:CfgI:=⟨[⟨0,2,2⟩,⟨1,2,2⟩],List.replicate 6 ⟨2,1,4,2,1⟩,[⟨2,1,0,true,0,0,9⟩],3⟩
def exK (k:Nat):List AV:= .sl true 2 [.int .u64 0, .int .i64 2, .int .i64 2, .int .u64 1, .int .i64 2, .int .i64 2]::((List.replicate k [AV.int .i64 2, .int .i64 1, .int .i64 4, .int .i64 2, .int .i64 1]++List.replicate (6 - k) [AV.int .i64 0, .int .i64 0, .int .i64 0, .int .i64 0, .int .i64 0]).flatten++ [.sl true 1 [.int .i64 2, .int .u64 1, .int .u64 0, .bool true, .int .i64 0, .int .i64 0, .int .i64 9], .int .u64 3])
theorem Di:wk (.agg (exK 6)) (.agg (a7 exC)):=mi (by
 show wkL (_::(_++ [_,_])) (_::(_++ [_,_]))
 refine .cons (cQ _ _) (pE (aa _) (.cons (cQ _ _) (aa _))))
set_option maxHeartbeats 8000000 in
theorem p36:Pu Tryz.prog 36 [] (.agg (exK 6)):=by
 (refine av c36 b36 fun σ=>?_;simp only [c36,↓R1,RR,seval,exK,List.replicate,List.flatten_cons,List.flatten_nil,List.cons_append,List.nil_append])
 repeat' (first|(with_reducible rw [ah])|((with_reducible intro β hβ;(try simp only [RB] at hβ);(repeat (obtain ⟨⟨_,_⟩,hβ⟩:=hβ));(try (have hbis:=ag OB hβ;obtain ⟨_,_⟩:=hbis)))<;>(try simp only [↓R1,RR,seval,exK,List.replicate,List.flatten_cons,List.flatten_nil,List.cons_append,List.nil_append])))
 rename_i A hA a1 a2
 obtain ⟨z,hz⟩:∃ z,z=(AV.nils::(List.replicate 30 (AV.int .i64 0)++ [.nils, .int .u64 0])):=⟨_,rfl⟩
 refine bq 6 (fun k=> [(0, .ptr A 0),(1, .ptr β 0),(2, .int .i64 (k:Nat))]) (fun k=>(σ.ad A z).ad β (exK k)) (fun _=>True) OP (by subst hz;rw [St.set_set];exact St.le_refl _) trivial (fun k hk _=>?_)
 rcases (show k=0∨k=1∨k=2∨k=3∨k=4∨k=5∨k=6 by omega) with rfl|rfl|rfl|rfl|rfl|rfl|rfl
 ·simp only [↓R1,RR,seval,exK,List.replicate,List.flatten_cons,List.flatten_nil,List.cons_append,List.nil_append]
  repeat' (with_reducible apply And.intro)
  ·simp only [show IntKind.i64.wrap 1=1 from rfl];simp [aK,slot,ae]
  ·exact St.le_refl _
 ·simp only [↓R1,RR,seval,exK,List.replicate,List.flatten_cons,List.flatten_nil,List.cons_append,List.nil_append]
  repeat' (with_reducible apply And.intro)
  ·simp only [show IntKind.i64.wrap 2=2 from rfl];simp [aK,slot,ae]
  ·exact St.le_refl _
 ·simp only [↓R1,RR,seval,exK,List.replicate,List.flatten_cons,List.flatten_nil,List.cons_append,List.nil_append]
  repeat' (with_reducible apply And.intro)
  ·simp only [show IntKind.i64.wrap 3=3 from rfl];simp [aK,slot,ae]
  ·exact St.le_refl _
 ·simp only [↓R1,RR,seval,exK,List.replicate,List.flatten_cons,List.flatten_nil,List.cons_append,List.nil_append]
  repeat' (with_reducible apply And.intro)
  ·simp only [show IntKind.i64.wrap 4=4 from rfl];simp [aK,slot,ae]
  ·exact St.le_refl _
 ·simp only [↓R1,RR,seval,exK,List.replicate,List.flatten_cons,List.flatten_nil,List.cons_append,List.nil_append]
  repeat' (with_reducible apply And.intro)
  ·simp only [show IntKind.i64.wrap 5=5 from rfl];simp [aK,slot,ae]
  ·exact St.le_refl _
 ·simp only [↓R1,RR,seval,exK,List.replicate,List.flatten_cons,List.flatten_nil,List.cons_append,List.nil_append]
  repeat' (with_reducible apply And.intro)
  ·simp only [show IntKind.i64.wrap 6=6 from rfl];simp [aK,slot,ae]
  ·exact St.le_refl _
 ·subst hz
  simp only [↓R1,RR,seval,exK,List.replicate,List.flatten_cons,List.flatten_nil,List.cons_append,List.nil_append]
  skip
  refine aq ?_ (by first|(simp [aw,rvS];done)|(simp only [aw,rvS,↓R1,RR,seval,exK,List.replicate,List.flatten_cons,List.flatten_nil,List.cons_append,List.nil_append];try simp))
  simp only [ar,↓R1,RR,seval,exK,List.replicate,List.flatten_cons,List.flatten_nil,List.cons_append,List.nil_append]
  exact ae _
def exU:List UInt8:= [104,111,114,105,122,111,110,32,51,10,99,108,97,115,115,32,123,125,32,50,32,50,10,99,108,97,115,115,32,123,48,125,32,50,32,50,10,116,101,110,97,110,116,32,50,32,49,32,52,32,50,32,49,10,116,101,110,97,110,116,32,50,32,49,32,52,32,50,32,49,10,116,101,110,97,110,116,32,50,32,49,32,52,32,50,32,49,10,116,101,110,97,110,116,32,50,32,49,32,52,32,50,32,49,10,116,101,110,97,110,116,32,50,32,49,32,52,32,50,32,49,10,116,101,110,97,110,116,32,50,32,49,32,52,32,50,32,49,10,114,117,108,101,32,50,32,123,48,125,32,123,125,32,97,110,121,32,48,32,57,10]
theorem JG:CfgOk exC:=⟨rfl,by decide,by decide,fun x h=>by (rcases List.mem_cons.1 (show x∈([⟨0,2,2⟩,⟨1,2,2⟩]:List ClsI) from h) with rfl|h;· exact ⟨by decide,by decide⟩);rw [List.mem_singleton.1 h];exact ⟨by decide,by decide⟩,fun x h=>by rw [List.mem_singleton.1 (show x∈ [(⟨2,1,0,true,0,0,9⟩:RulI)] from h)];exact ⟨⟨by decide,by decide⟩,by decide,by decide⟩⟩
theorem JH:De exC:=by
 intro x hx
 rw [List.mem_singleton.1 (show x∈ [(⟨2,1,0,true,0,0,9⟩:RulI)] from hx)]
 exact ⟨by unfold I64;decide,by unfold I64;decide⟩
theorem LC:fz exC=(0,0):=OK
theorem LD:F5 exC=exU:=by
 decide +kernel
theorem exP:bX [112,111,108,108,32,49,32,53]= .ok [⟨6,1,0,[],0,5,0,0⟩]:=by
 kernel_rfl
def Dj:Rw:=⟨0,[⟨false,[112,111,108,108],0⟩,⟨false,[49],5⟩,⟨false,[53],7⟩]⟩
theorem JI:fu [112,111,108,108,32,49,32,53]= .ok [Dj]:=OA
theorem JJ:j7 Dj=some 6:=OA
theorem JK:∀ rs,fu [112,111,108,108,32,49,32,53]= .ok rs→∀ r∈rs,jt r:=by
 intro rs h r hr
 rw [JI] at h
 cases h
 rw [List.mem_singleton] at hr
 subst hr
 intro σ σ0 β k hf hc hσ hn
 rw [JJ] at hf
 cases hf
 exact x94 hc rfl
set_option maxHeartbeats 2000000 in
theorem Dk:PuG Tryz.prog gl3 11 [] (.bool true):=by
 have h1:=p18 JG JH
 rw [vU,LC,LD] at h1
 simp only [if_true] at h1
 have h1:PuG Tryz.prog gl3 18 [.agg (exK 6)] (.tup [.str exU, .int .i64 0]):=fun σ hσ=>AC.wk (h1 σ hσ) (.cons Di .nil)
 have h2:=vI [112,111,108,108,32,49,32,53] JK OK
 rw [jx,exP] at h2
 simp only [List.flatMap_cons,List.flatMap_nil,List.append_nil,List.length_cons,List.length_nil,Nat.zero_add,cOp] at h2
 have h3:=Dh false true [⟨6,1,0,[],0,5,0,0⟩] OK
 simp only [List.flatMap_cons,List.flatMap_nil,List.append_nil,List.length_cons,List.length_nil,Nat.zero_add,cOp] at h3
 have q1:(exU == exU)=true:=OF
 unfold exU at h1
 (refine aO c11 b11 fun σ hσ=>?_;simp only [c11,↓R1,RR,seval,q1,cOp])
 repeat' (first|(with_reducible rw [ah])|((first|(with_reducible intro β hβ;(try simp only [RB] at hβ);(repeat (obtain ⟨⟨_,_⟩,hβ⟩:=hβ));(try (have hbis:=ag OB hβ;obtain ⟨_,_⟩:=hbis)))|(refine Pt (p36) ?_)|(refine PuG.to (h1) hσ (aa _) ?_)|(refine PuG.to (h2) hσ (aa _) ?_)|(refine Pt (h3) ?_))<;>(try simp only [↓R1,RR,seval,q1,cOp])))
 refine aq ?_
 simp only [ar,↓R1,RR,seval,q1,cOp]
 exact ae _
def nm (k:Nat):List UInt8:=match k with
 | 1=> [114,101,103,105,115,116,101,114]
 | 2=> [113,117,101,114,121]
 | 3=> [100,114,111,112]
 | 4=> [105,110,103,101,115,116]
 | 5=> [116,105,99,107]
 | 6=> [112,111,108,108]
 | 7=> [100,101,99,108,97,115,115,105,102,121]
 | 8=> [97,117,100,105,116]
 | _=> []
def u4:List AV:=(List.range 9).map fun k=> .str (nm k)
def gl4:List (Nat × List AV):= [(1,rD),(2,Bn),(0,u4)]
theorem F6 {σ:St} (h:bw gl4 σ):bw gl3 σ:=fun k cs hk=>by
  refine h k cs ?_
  simp only [gl3,gl4,Go.Abs.look] at hk ⊢
  cases h1:Nat.beq k 1 with
  | true=>rw [h1] at hk;exact hk
  | false =>
    rw [h1] at hk
    cases h2:Nat.beq k 2 with
    | true=>rw [h2] at hk;exact hk
    | false=>rw [h2] at hk;cases hk
theorem yT {σ:St} (h:bw gl4 σ):σ.glob 0=some u4:=h _ _ rfl
theorem PuG.up4 {f:Nat} {xs:List AV} {v:AV} (h:PuG Tryz.prog gl3 f xs v):PuG Tryz.prog gl4 f xs v:=fun σ hσ=>h σ (F6 hσ)
def kL (k:Int):Bool:=decide (1≤k)&&decide (k≤8)
def u5 (k:Int):Bool:=k == 2||k == 4
def opE (o:OpI):Int:=if kL o.kind=false then 11 else if u5 o.kind=true∧1000<o.text.length then 4 else 0
theorem LF (k:Int):Pu Tryz.prog 131 [.int .i64 k] (.bool (kL k)):=by
 (refine av IB MY fun σ=>?_;simp only [IB,↓R1,RR,seval])
 skip
 (refine aq (af ?_))
 (simp only [ar,↓R1,RR,seval])
 rfl
theorem Om (k:Int):Pu Tryz.prog 132 [.int .i64 k] (.bool (u5 k)):=by
 (refine av IC MZ fun σ=>?_;simp only [IC,↓R1,RR,seval])
 skip
 (refine aq (af ?_))
 (simp only [ar,↓R1,RR,seval])
 rfl
theorem p72 (o:OpI):Pu Tryz.prog 72 [.agg (cOp o)] (.int .i64 (opE o)):=by
  have hk:=LF o.kind
  have ht:=Om o.kind
  have tt:True:=trivial
  have ll:True:=trivial
  have hne:∀ b:Bool,b≠false→b=true:=OK
  simp only [cOp]
  cases kk:kL o.kind with
  | false =>
    have ho:opE o=11:=by rw [opE,if_pos kk]
    rw [kk] at hk
    rw [ho]
    (refine av c72 b72 fun σ=>?_;simp only [c72,↓R1,RR,seval,kk,tt,ll])
    repeat' ((first|(with_reducible intro β hβ;(try simp only [RB] at hβ);(repeat (obtain ⟨⟨_,_⟩,hβ⟩:=hβ));(try (have hbis:=ag OB hβ;obtain ⟨_,_⟩:=hbis)))|(refine Pt (hk) ?_))<;>(try simp only [↓R1,RR,seval,kk,tt,ll]))
    (refine aq ?_)
    simp only [ar,↓R1,RR,seval,kk,tt,ll]
    exact ae _
  | true =>
    rw [kk] at hk
    cases tt:u5 o.kind with
    | false =>
      have ho:opE o=0:=by rw [opE,if_neg (by rw [kk];decide),if_neg (by rw [tt];simp)]
      rw [tt] at ht
      rw [ho]
      (refine av c72 b72 fun σ=>?_;simp only [c72,↓R1,RR,seval,kk,tt,ll])
      repeat' ((first|(with_reducible intro β hβ;(try simp only [RB] at hβ);(repeat (obtain ⟨⟨_,_⟩,hβ⟩:=hβ));(try (have hbis:=ag OB hβ;obtain ⟨_,_⟩:=hbis)))|(refine Pt (hk) ?_)|(refine Pt (ht) ?_))<;>(try simp only [↓R1,RR,seval,kk,tt,ll]))
      (refine aq ?_)
      simp only [ar,↓R1,RR,seval,kk,tt,ll]
      exact ae _
    | true =>
      rw [tt] at ht
      by_cases hl:1000<o.text.length
      · have ho:opE o=4:=by rw [opE,if_neg (by rw [kk];decide),if_pos ⟨tt,hl⟩]
        have ll:decide ((1000:Int)<(o.text.length:Int))=true:=OQ
        rw [ho]
        (refine av c72 b72 fun σ=>?_;simp only [c72,↓R1,RR,seval,kk,tt,ll])
        repeat' ((first|(with_reducible intro β hβ;(try simp only [RB] at hβ);(repeat (obtain ⟨⟨_,_⟩,hβ⟩:=hβ));(try (have hbis:=ag OB hβ;obtain ⟨_,_⟩:=hbis)))|(refine Pt (hk) ?_)|(refine Pt (ht) ?_))<;>(try simp only [↓R1,RR,seval,kk,tt,ll]))
        (refine aq ?_)
        simp only [ar,↓R1,RR,seval,kk,tt,ll]
        exact ae _
      · have ho:opE o=0:=by rw [opE,if_neg (by rw [kk];decide),if_neg (fun h=>hl h.2)]
        have ll:decide ((1000:Int)<(o.text.length:Int))=false:=Pe
        rw [ho]
        (refine av c72 b72 fun σ=>?_;simp only [c72,↓R1,RR,seval,kk,tt,ll])
        repeat' ((first|(with_reducible intro β hβ;(try simp only [RB] at hβ);(repeat (obtain ⟨⟨_,_⟩,hβ⟩:=hβ));(try (have hbis:=ag OB hβ;obtain ⟨_,_⟩:=hbis)))|(refine Pt (hk) ?_)|(refine Pt (ht) ?_))<;>(try simp only [↓R1,RR,seval,kk,tt,ll]))
        (refine aq ?_)
        simp only [ar,↓R1,RR,seval,kk,tt,ll]
        exact ae _
theorem p73 {k:Nat} (h:1≤k∧k≤8):PuG Tryz.prog gl4 73 [.int .i64 (k:Nat)] (.tup [.str (nm k), .int .i64 0]):=by
 have hk:kL (k:Int)=true:=by simp only [kL,Bool.and_eq_true,decide_eq_true_eq];omega
 have h0:=LF k
 rw [hk] at h0
 have q1:(u4.drop (k*1))[0]? =some (.str (nm k)):=by
  have:∀ n:Fin 9,(u4.drop (n.val*1))[0]? =some (.str (nm n.val)):=by
   intro n
   rcases n with ⟨n,hn⟩
   rcases (show n=0∨n=1∨n=2∨n=3∨n=4∨n=5∨n=6∨n=7∨n=8 by omega) with rfl|rfl|rfl|rfl|rfl|rfl|rfl|rfl|rfl<;>rfl
  exact this ⟨k,by omega⟩
 have q2:u4.length=9:=rfl
 have q3:True:=trivial
 (refine aO c73 b73 fun σ hσ=>?_;simp only [c73,↓R1,RR,seval,q1,q2,q3])
 have q3:=yT hσ
 repeat' (first|(with_reducible refine And.intro ?_ ?_;exact ak)|((refine Pt (h0) ?_)<;>(try simp only [↓R1,RR,seval,q1,q2,q3])))
 (refine aq (af ?_))
 (simp only [ar,↓R1,RR,seval,q1,q2,q3])
def yU (s:List UInt8):Bool:=s.length == 17&&decide ((s[8]?.getD 0).toNat<26)
def evL (s:List UInt8):BitVec 64:=jo (s.take 8)
def evK (s:List UInt8):Nat:=(s[8]?.getD 0).toNat
def evV (s:List UInt8):Int:=IntKind.i64.wrap ((jo (s.drop 9)).toNat:Int)
theorem vV {s:List UInt8} (h:yU s=true):gR s= [.int .u64 (evL s).toNat, .int .i64 (evK s), .int .i64 (evV s)]∧ig s= [.int .i64 0, .int .i64 0]:=by
 unfold yU at h
 refine ⟨by unfold gR;rw [h];rfl,?_⟩
 simp only [Bool.and_eq_true,beq_iff_eq,decide_eq_true_eq] at h
 unfold ig
 have h1:decide (s.length<8)=false:=OS
 have h2:decide (s.length<9)=false:=OS
 have h3:decide (26≤(s[8]?.getD 0).toNat)=false:=OS
 have h4:decide (s.length<17)=false:=OS
 have h5:decide (17<s.length)=false:=OS
 simp only [h1,h2,h3,h4,h5,cond_false]
theorem JL {s:List UInt8} (h:yU s=false):∃ e a:Int,e≠0∧gR s= [.int .u64 0, .int .i64 0, .int .i64 0]∧ig s= [.int .i64 e, .int .i64 a]:=by
  unfold yU at h
  have hE:gR s= [.int .u64 0, .int .i64 0, .int .i64 0]:=by unfold gR;rw [h];rfl
  unfold ig
  cases h1:decide (s.length<8) with
  | true=>exact ⟨_,_,by decide,hE,rfl⟩
  | false =>
    cases h2:decide (s.length<9) with
    | true=>exact ⟨_,_,by decide,hE,rfl⟩
    | false =>
      cases h3:decide (26≤(s[8]?.getD 0).toNat) with
      | true=>exact ⟨_,_,by decide,hE,rfl⟩
      | false =>
        cases h4:decide (s.length<17) with
        | true=>exact ⟨_,_,by decide,hE,rfl⟩
        | false =>
          cases h5:decide (17<s.length) with
          | true=>exact ⟨_,_,by decide,hE,rfl⟩
          | false =>
            exfalso
            simp only [decide_eq_false_iff_not] at h1 h2 h3 h4 h5
            rw [show s.length=17 by omega,decide_eq_true Oz] at h
            cases h
structure OpOk (o:OpI):Prop where
 tenant:I64 o.tenant
 number:I64 o.number
 most:I64 o.most
 label:U64 o.label
 idl:U64 o.idl
def u6:List UInt8:= [98,121,116,101,115]
def cY (o:OpI):List (List UInt8) :=
 if o.kind=1 then [nm 1,itoa o.tenant,dI (lab o.label)] else if o.kind=2 then [nm 2,itoa o.tenant,o.text] else if o.kind=3 then [nm 3,itoa o.tenant,itoa o.number]
 else if o.kind=4 then (if yU o.text=true then [nm 4,dM (evK o.text),dI (evL o.text),itoa (evV o.text)] else [u6,o.text]) else if o.kind=6 then [nm 6,itoa o.tenant,itoa o.most]
 else if o.kind=7 then [nm 7,itoa o.tenant,itoa o.number,eG (lab o.idl) o.idn] else if o.kind=8 then [nm 8,itoa o.tenant,itoa o.number,itoa o.most] else [nm 5]
def jb (o:OpI):AV:=if opE o≠0 then .tup [.str [], .int .i64 (opE o)] else if o.kind=7∧idE o.idn≠0 then .tup [.str [], .int .i64 (idE o.idn)] else rJ (fW [mkR (cY o)])
def WOk (ws:List (List UInt8)):Prop:=ws.length≤20∧∀ t∈ws,t.length≤1100
theorem yV {ws:List (List UInt8)} (h:WOk ws):uu [mkR ws]:=by
 refine ⟨by simp,fun r hr=>?_⟩
 have e:=List.mem_singleton.1 hr
 subst e
 have h1:=h.1
 refine ⟨by simp [mkR];omega,fun w hw=>?_⟩
 obtain ⟨t,ht,rfl⟩:=List.mem_map.1 hw
 have:=h.2 t ht
 show t.length≤20000
 omega
theorem oW (ws:List (List UInt8)):∃ (t:List UInt8) (e:Int),rJ (fW [mkR ws])= .tup [.str t, .int .i64 e]:=by
 cases fW [mkR ws] with
 | error e=>exact ⟨_,_,rfl⟩
 | ok t=>exact ⟨_,_,rfl⟩
theorem Dl {l:List (List UInt8)} (h:WOk l):Pu Tryz.prog 74 [.sl true l.length (l.map AV.str)] (rJ (fW [mkR l])):=by
 have h0:=Lg l (by have:=h.1;omega) (fun t ht=>by have:=h.2 t ht;omega)
 have h1:=Lf [mkR l] (yV h)
 obtain ⟨t,e,hv⟩:=oW l
 rw [hv] at h1 ⊢
 simp only [List.flatMap_cons,List.flatMap_nil,List.append_nil,List.length_cons,List.length_nil,Nat.zero_add] at h1
 (refine av c74 b74 fun σ=>?_;simp only [c74,↓R1,RR,seval,List.length_map,hv])
 repeat' (first|(with_reducible apply And.intro)|((first|((refine Pu.to (h0) ?_ ?_;(focus exact fo)))|((refine Pu.to (h1) ?_ ?_;(focus exact fo))))<;>(try simp only [↓R1,RR,seval,List.length_map,hv])))
 ·rfl
 ·(refine aq (af ?_))
  (simp only [ar,↓R1,RR,seval,List.length_map,hv])
theorem sS (l:BitVec 64) (n:Int):(eG l n).length≤1100:=by have:=uF l n;omega
theorem Dm (s:List UInt8):I64 (evV s):=by
 unfold evV I64
 rw [wI];split<;>omega
theorem Dn (o:OpI) (ho:OpOk o) (ht:o.text.length≤1100):WOk (cY o):=by
 have h1:=cu o.tenant ho.tenant
 have h2:=cu o.number ho.number
 have h3:=cu o.most ho.most
 have h4:=eF (lab o.label)
 have h5:=eF (evL o.text)
 have h6:=cu (evV o.text) (Dm _)
 have h7:=la (evK o.text)
 have h8:=sS (lab o.idl) o.idn
 have hn:∀ k:Nat,(nm k).length≤1100:=by
  intro k;unfold nm;split<;>decide
 unfold cY
 (repeat' split)<;>refine ⟨by simp,fun t h=>?_⟩<;>simp only [List.mem_cons,List.not_mem_nil,or_false] at h
 ·rcases h with rfl|rfl|rfl<;>first|exact hn _|omega
 ·rcases h with rfl|rfl|rfl<;>first|exact hn _|omega
 ·rcases h with rfl|rfl|rfl<;>first|exact hn _|omega
 ·rcases h with rfl|rfl|rfl|rfl<;>first|exact hn _|omega
 ·rcases h with rfl|rfl<;>first|decide|omega
 ·rcases h with rfl|rfl|rfl<;>first|exact hn _|omega
 ·rcases h with rfl|rfl|rfl|rfl<;>first|exact hn _|omega
 ·rcases h with rfl|rfl|rfl|rfl<;>first|exact hn _|omega
 ·subst h;exact hn _
theorem yW {o:OpI} (h:opE o=0):(o.kind=1∨o.kind=2∨o.kind=3∨o.kind=4∨o.kind=5∨o.kind=6∨o.kind=7∨o.kind=8)∧(o.kind=2∨o.kind=4→o.text.length≤1000):=by
 unfold opE at h
 split at h
 ·cases h
 ·rename_i h1
  split at h
  ·cases h
  ·rename_i h2
   simp only [Bool.not_eq_false,kL,Bool.and_eq_true,decide_eq_true_eq] at h1
   refine ⟨by omega,fun hk=>?_⟩
   refine Classical.byContradiction fun hc=>h2 ⟨?_,by omega⟩
   rcases hk with hk|hk<;>rw [hk]<;>rfl
set_option maxHeartbeats 8000000 in
theorem p27 (o:OpI) (ho:OpOk o) (ht:o.text.length≤1100):PuG Tryz.prog gl4 27 [.agg (cOp o)] (jb o):=by
  have hck:=p72 o
  have h74:=Dl (Dn o ho ht)
  obtain ⟨t,e,hv⟩:=oW (cY o)
  have hten:=PuG.up4 (p52 o.tenant ho.tenant)
  have hnum:=PuG.up4 (p52 o.number ho.number)
  have hmost:=PuG.up4 (p52 o.most ho.most)
  have hlab:=PuG.up4 (PuG.up3 (p51 (lab o.label)))
  rw [gF ho.label] at hlab
  have q1:True:=trivial
  have hkd:True:=trivial
  by_cases hz:opE o=0
  · obtain ⟨hkk,htk⟩:=yW hz
    have hz2:=hz
    rw [hv] at h74
    have hL:(o.kind=7→idE o.idn=0)→jb o= .tup [.str t, .int .i64 e]:=fun h=>by
      rw [jb,if_neg (fun h=>h hz),if_neg (fun hh=>hh.2 (h hh.1)),hv]
    rw [hz] at hck
    have hz:True:=trivial
    simp only [cOp] at hck ⊢
    rcases hkk with hkd|hkd|hkd|hkd|hkd|hkd|hkd|hkd
    · have hw:cY o= [nm 1,itoa o.tenant,dI (lab o.label)]:=by rw [cY,if_pos hkd]
      have hname:=p73 (k:=1) OK
      rw [hw] at h74
      rw [hL (fun h=>by omega)]
      rw [hkd] at hck ⊢
      (refine aO c27 b27 fun σ hσ=>?_;simp only [c27,↓R1,RR,seval,hkd,q1,hz])
      repeat' ((first|(with_reducible intro β hβ;(try simp only [RB] at hβ);(repeat (obtain ⟨⟨_,_⟩,hβ⟩:=hβ));(try (have hbis:=ag OB hβ;obtain ⟨_,_⟩:=hbis)))|(refine Pt (hck) ?_)|(refine PuG.to (hname) hσ (aa _) ?_)|(refine PuG.to (hten) hσ (aa _) ?_)|(refine PuG.to (hlab) hσ (aa _) ?_)|(refine Pt (h74) ?_))<;>(try simp only [↓R1,RR,seval,hkd,q1,hz]))
      (refine aq ?_);(simp only [ar,↓R1,RR,seval,hkd,q1,hz];exact ae _)
    · have hw:cY o= [nm 2,itoa o.tenant,o.text]:=by rw [cY,if_neg Oz,if_pos hkd]
      have hname:=p73 (k:=2) OK
      rw [hw] at h74
      rw [hL (fun h=>by omega)]
      rw [hkd] at hck ⊢
      (refine aO c27 b27 fun σ hσ=>?_;simp only [c27,↓R1,RR,seval,hkd,q1,hz])
      repeat' ((first|(with_reducible intro β hβ;(try simp only [RB] at hβ);(repeat (obtain ⟨⟨_,_⟩,hβ⟩:=hβ));(try (have hbis:=ag OB hβ;obtain ⟨_,_⟩:=hbis)))|(refine Pt (hck) ?_)|(refine PuG.to (hname) hσ (aa _) ?_)|(refine PuG.to (hten) hσ (aa _) ?_)|(refine Pt (h74) ?_))<;>(try simp only [↓R1,RR,seval,hkd,q1,hz]))
      (refine aq ?_);(simp only [ar,↓R1,RR,seval,hkd,q1,hz];exact ae _)
    · have hw:cY o= [nm 3,itoa o.tenant,itoa o.number]:=by rw [cY,if_neg Oz,if_neg Oz,if_pos hkd]
      have hname:=p73 (k:=3) OK
      rw [hw] at h74
      rw [hL (fun h=>by omega)]
      rw [hkd] at hck ⊢
      (refine aO c27 b27 fun σ hσ=>?_;simp only [c27,↓R1,RR,seval,hkd,q1,hz])
      repeat' ((first|(with_reducible intro β hβ;(try simp only [RB] at hβ);(repeat (obtain ⟨⟨_,_⟩,hβ⟩:=hβ));(try (have hbis:=ag OB hβ;obtain ⟨_,_⟩:=hbis)))|(refine Pt (hck) ?_)|(refine PuG.to (hname) hσ (aa _) ?_)|(refine PuG.to (hten) hσ (aa _) ?_)|(refine PuG.to (hnum) hσ (aa _) ?_)|(refine Pt (h74) ?_))<;>(try simp only [↓R1,RR,seval,hkd,q1,hz]))
      (refine aq ?_);(simp only [ar,↓R1,RR,seval,hkd,q1,hz];exact ae _)
    · have hname:=p73 (k:=4) OK
      have hpar:=p75 o.text (htk (.inr hkd))
      rw [(Cj o.text).1,(Cj o.text).2] at hpar
      rw [hL (fun h=>by omega)]
      cases hev:yU o.text with
      | true =>
        have hw:cY o= [nm 4,dM (evK o.text),dI (evL o.text),itoa (evV o.text)]:=by rw [cY,if_neg Oz,if_neg Oz,if_neg Oz,if_pos hkd,if_pos hev]
        rw [hw] at h74
        rw [hkd] at hck ⊢
        rw [(vV hev).1,(vV hev).2] at hpar
        have hlet:=p53 (evK o.text)
        have hl2:=PuG.up4 (PuG.up3 (p51 (evL o.text)))
        have hn2:=PuG.up4 (p54 (evV o.text) (Dm _))
        (refine aO c27 b27 fun σ hσ=>?_;simp only [c27,↓R1,RR,seval,hkd,q1,hz])
        repeat' (first|(with_reducible rw [ah])|((first|(with_reducible intro β hβ;(try simp only [RB] at hβ);(repeat (obtain ⟨⟨_,_⟩,hβ⟩:=hβ));(try (have hbis:=ag OB hβ;obtain ⟨_,_⟩:=hbis)))|(refine Pt (hck) ?_)|(refine PuG.to (hname) hσ (aa _) ?_)|(refine PuG.to (hten) hσ (aa _) ?_)|(refine Pt (hpar) ?_)|(refine Pt (hlet) ?_)|(refine aS (hl2) hσ (aa _) ?_)|(refine aS (hn2) hσ (aa _) ?_)|(refine Ct (h74) ?_))<;>(try simp only [↓R1,RR,seval,hkd,q1,hz])))
        (refine aq ?_);(simp only [ar,↓R1,RR,seval,hkd,q1,hz];exact ae _)
      | false =>
        have hw:cY o= [u6,o.text]:=by rw [cY,if_neg Oz,if_neg Oz,if_neg Oz,if_pos hkd,if_neg (by rw [hev];decide)]
        rw [hw] at h74
        rw [hkd] at hck ⊢
        obtain ⟨f,a,hf,hE,hF⟩:=JL hev
        rw [hE,hF] at hpar
        have q1:(f != 0)=true:=by rw [bne_iff_ne];exact hf
        unfold u6 at h74
        (refine aO c27 b27 fun σ hσ=>?_;simp only [c27,↓R1,RR,seval,hkd,q1,hz])
        repeat' (first|(with_reducible rw [ah])|((first|(with_reducible intro β hβ;(try simp only [RB] at hβ);(repeat (obtain ⟨⟨_,_⟩,hβ⟩:=hβ));(try (have hbis:=ag OB hβ;obtain ⟨_,_⟩:=hbis)))|(refine Pt (hck) ?_)|(refine PuG.to (hname) hσ (aa _) ?_)|(refine PuG.to (hten) hσ (aa _) ?_)|(refine Pt (hpar) ?_)|(refine Pt (h74) ?_))<;>(try simp only [↓R1,RR,seval,hkd,q1,hz])))
        (refine aq ?_);(simp only [ar,↓R1,RR,seval,hkd,q1,hz];exact ae _)
    · have hw:cY o= [nm 5]:=by rw [cY,if_neg Oz,if_neg Oz,if_neg Oz,if_neg Oz,if_neg Oz,if_neg Oz,if_neg Oz]
      have hname:=p73 (k:=5) OK
      rw [hw] at h74
      rw [hL (fun h=>by omega)]
      rw [hkd] at hck ⊢
      (refine aO c27 b27 fun σ hσ=>?_;simp only [c27,↓R1,RR,seval,hkd,q1,hz])
      repeat' ((first|(with_reducible intro β hβ;(try simp only [RB] at hβ);(repeat (obtain ⟨⟨_,_⟩,hβ⟩:=hβ));(try (have hbis:=ag OB hβ;obtain ⟨_,_⟩:=hbis)))|(refine Pt (hck) ?_)|(refine PuG.to (hname) hσ (aa _) ?_)|(refine PuG.to (hten) hσ (aa _) ?_)|(refine Pt (h74) ?_))<;>(try simp only [↓R1,RR,seval,hkd,q1,hz]))
      (refine aq ?_);(simp only [ar,↓R1,RR,seval,hkd,q1,hz];exact ae _)
    · have hw:cY o= [nm 6,itoa o.tenant,itoa o.most]:=by rw [cY,if_neg Oz,if_neg Oz,if_neg Oz,if_neg Oz,if_pos hkd]
      have hname:=p73 (k:=6) OK
      rw [hw] at h74
      rw [hL (fun h=>by omega)]
      rw [hkd] at hck ⊢
      (refine aO c27 b27 fun σ hσ=>?_;simp only [c27,↓R1,RR,seval,hkd,q1,hz])
      repeat' ((first|(with_reducible intro β hβ;(try simp only [RB] at hβ);(repeat (obtain ⟨⟨_,_⟩,hβ⟩:=hβ));(try (have hbis:=ag OB hβ;obtain ⟨_,_⟩:=hbis)))|(refine Pt (hck) ?_)|(refine PuG.to (hname) hσ (aa _) ?_)|(refine PuG.to (hten) hσ (aa _) ?_)|(refine PuG.to (hmost) hσ (aa _) ?_)|(refine Pt (h74) ?_))<;>(try simp only [↓R1,RR,seval,hkd,q1,hz]))
      (refine aq ?_);(simp only [ar,↓R1,RR,seval,hkd,q1,hz];exact ae _)
    · have hname:=p73 (k:=7) OK
      have hid:=PuG.up4 (p76 (lab o.idl) o.idn)
      rw [gF ho.idl] at hid
      by_cases hi:idE o.idn=0
      · have hw:cY o= [nm 7,itoa o.tenant,itoa o.number,eG (lab o.idl) o.idn]:=by rw [cY,if_neg Oz,if_neg Oz,if_neg Oz,if_neg Oz,if_neg Oz,if_pos hkd]
        rw [hw] at h74
        rw [hL (fun h=>hi)]
        rw [hkd] at hck ⊢
        rw [hi] at hid
        (refine aO c27 b27 fun σ hσ=>?_;simp only [c27,↓R1,RR,seval,hkd,q1,hz])
        repeat' ((first|(with_reducible intro β hβ;(try simp only [RB] at hβ);(repeat (obtain ⟨⟨_,_⟩,hβ⟩:=hβ));(try (have hbis:=ag OB hβ;obtain ⟨_,_⟩:=hbis)))|(refine Pt (hck) ?_)|(refine PuG.to (hname) hσ (aa _) ?_)|(refine PuG.to (hten) hσ (aa _) ?_)|(refine PuG.to (hid) hσ (aa _) ?_)|(refine PuG.to (hnum) hσ (aa _) ?_)|(refine Pt (h74) ?_))<;>(try simp only [↓R1,RR,seval,hkd,q1,hz]))
        (refine aq ?_);(simp only [ar,↓R1,RR,seval,hkd,q1,hz];exact ae _)
      · have hL2:jb o= .tup [.str [], .int .i64 (idE o.idn)]:=by rw [jb,if_neg (fun h=>h hz2),if_pos ⟨hkd,hi⟩]
        have q1:(idE o.idn != 0)=true:=by rw [bne_iff_ne];exact hi
        rw [hL2]
        rw [hkd] at hck ⊢
        (refine aO c27 b27 fun σ hσ=>?_;simp only [c27,↓R1,RR,seval,hkd,q1,hz])
        repeat' ((first|(with_reducible intro β hβ;(try simp only [RB] at hβ);(repeat (obtain ⟨⟨_,_⟩,hβ⟩:=hβ));(try (have hbis:=ag OB hβ;obtain ⟨_,_⟩:=hbis)))|(refine Pt (hck) ?_)|(refine PuG.to (hname) hσ (aa _) ?_)|(refine PuG.to (hten) hσ (aa _) ?_)|(refine PuG.to (hid) hσ (aa _) ?_))<;>(try simp only [↓R1,RR,seval,hkd,q1,hz]))
        (refine aq ?_);(simp only [ar,↓R1,RR,seval,hkd,q1,hz];exact ae _)
    · have hw:cY o= [nm 8,itoa o.tenant,itoa o.number,itoa o.most]:=by rw [cY,if_neg Oz,if_neg Oz,if_neg Oz,if_neg Oz,if_neg Oz,if_neg Oz,if_pos hkd]
      have hname:=p73 (k:=8) OK
      rw [hw] at h74
      rw [hL (fun h=>by omega)]
      rw [hkd] at hck ⊢
      (refine aO c27 b27 fun σ hσ=>?_;simp only [c27,↓R1,RR,seval,hkd,q1,hz])
      repeat' ((first|(with_reducible intro β hβ;(try simp only [RB] at hβ);(repeat (obtain ⟨⟨_,_⟩,hβ⟩:=hβ));(try (have hbis:=ag OB hβ;obtain ⟨_,_⟩:=hbis)))|(refine Pt (hck) ?_)|(refine PuG.to (hname) hσ (aa _) ?_)|(refine PuG.to (hten) hσ (aa _) ?_)|(refine aS (hnum) hσ (aa _) ?_)|(refine aS (hmost) hσ (aa _) ?_)|(refine Ct (h74) ?_))<;>(try simp only [↓R1,RR,seval,hkd,q1,hz]))
      (refine aq ?_);(simp only [ar,↓R1,RR,seval,hkd,q1,hz];exact ae _)
  · have q1:(opE o != 0)=true:=by rw [bne_iff_ne];exact hz
    have hL:jb o= .tup [.str [], .int .i64 (opE o)]:=by rw [jb,if_pos hz]
    rw [hL]
    have hz:True:=trivial
    simp only [cOp] at hck ⊢
    (refine aO c27 b27 fun σ hσ=>?_;simp only [c27,↓R1,RR,seval,hkd,q1,hz])
    repeat' ((first|(with_reducible intro β hβ;(try simp only [RB] at hβ);(repeat (obtain ⟨⟨_,_⟩,hβ⟩:=hβ));(try (have hbis:=ag OB hβ;obtain ⟨_,_⟩:=hbis)))|(refine Pt (hck) ?_))<;>(try simp only [↓R1,RR,seval,hkd,q1,hz]))
    (refine aq ?_);(simp only [ar,↓R1,RR,seval,hkd,q1,hz];exact ae _)
def gT (o:OpI):List UInt8 × Int:=if opE o≠0 then ([],opE o) else if o.kind=7∧idE o.idn≠0 then ([],idE o.idn) else match fW [mkR (cY o)] with
 | .ok t=>(t,0)
 | .error e=>([],(e:Nat))
theorem Dp (o:OpI):jb o= .tup [.str (gT o).1, .int .i64 (gT o).2]:=by
 unfold jb gT
 split
 ·rfl
 ·split
  ·rfl
  ·cases fW [mkR (cY o)]<;>rfl
theorem Dq (o:OpI):(gT o).1.length≤1001:=by
  unfold gT
  split
  · simp
  · split
    · simp
    · cases h:fW [mkR (cY o)] with
      | error e=>simp
      | ok t =>
        simp only [fW,fF] at h
        split at h
        · cases h
        · split at h
          · cases h
          · split at h
            · cases h
            · rename_i h2
              cases h
              simp only [not_or,Nat.not_lt,List.nil_append,List.length_append,List.length_cons,List.length_nil] at h2 ⊢
              omega
def qj (out:List UInt8):List OpI→List UInt8 × Int
 | []=>if 20000<out.length then ([],4) else (out,0)
 | o::l=>if (gT o).2≠0 then ([],(gT o).2) else qj (out++(gT o).1) l
def sU (l:List OpI):List UInt8 × Int:=if 400<l.length then ([],6) else qj [] l
def sW (l:List OpI):AV:= .tup [.str (sU l).1, .int .i64 (sU l).2]
theorem yX {out:List UInt8} {l:List OpI} {k:Nat} {x:OpI} (h:l[k]? =some x):qj out (l.drop k)=if (gT x).2≠0 then ([],(gT x).2) else qj (out++(gT x).1) (l.drop (k+1)):=by
 obtain ⟨h1,h2⟩:=List.getElem?_eq_some_iff.1 h
 rw [List.drop_eq_getElem_cons h1,h2];rfl
structure OpsOk (l:List OpI):Prop where
 len:l.length≤403
 ok:∀ x∈l,OpOk x
 text:∀ x∈l,x.text.length≤1100
set_option maxHeartbeats 4000000 in
theorem p25 (f:Bool) (l:List OpI) (hl:OpsOk l):PuG Tryz.prog gl4 25 [.sl f l.length (l.flatMap cOp)] (sW l):=by
 have q1:True:=trivial
 have he:True:=trivial
 have hw:True:=trivial
 have h1:=sR l
 have hn:=hl.len
 by_cases hbig:400<l.length
 ·have q1:decide ((400:Int)<(l.length:Int))=true:=by rw [decide_eq_true_eq];omega
  have ho:sU l=([],6):=by rw [sU,if_pos hbig]
  rw [sW,ho]
  (refine aO c25 b25 fun σ hσ=>?_;simp only [c25,↓R1,RR,seval,q1,he,hw,cOp,h1])
  skip
  (refine aq (af ?_))
  (simp only [ar,↓R1,RR,seval,q1,he,hw,cOp,h1])
 ·have q1:decide ((400:Int)<(l.length:Int))=false:=by rw [decide_eq_false_iff_not];omega
  have ho:sU l=qj [] l:=by rw [sU,if_neg hbig]
  rw [sW,ho]
  (refine aO c25 b25 fun σ hσ=>?_;simp only [c25,↓R1,RR,seval,q1,he,hw,cOp,h1])
  skip
  refine cn (α:=Nat × List UInt8) (fun a=> [(4, .str a.2),(12, .sl f l.length (l.flatMap cOp)),(13, .int .i64 (l.length:Nat)),(14, .int .i64 (a.1:Nat))]) (fun _=>σ) (fun a=>a.1≤l.length∧a.2.length≤1001*a.1∧qj [] l=qj a.2 (l.drop a.1)) (fun a=>l.length - a.1) (0,[]) OP (St.le_refl _) ⟨Nat.zero_le _,Nat.le_refl _,rfl⟩ ?_
  rintro ⟨k,out⟩ ⟨hk,hlen,hI⟩
  simp only at hk hlen hI ⊢
  by_cases hlt:k<l.length
  ·obtain ⟨x,hx⟩:∃ x,l[k]? =some x:=⟨_,List.getElem?_eq_getElem hlt⟩
   have hxm:=List.mem_of_getElem? hx
   rw [yX hx] at hI
   have he:=en (f:=cOp) (m:=8) Dg hx
   have hline:=p27 x (hl.ok x hxm) (hl.text x hxm)
   rw [Dp] at hline
   have hll:=Dq x
   simp only [cOp] at he hline
   have q1:decide ((k:Int)<(l.length:Int))=true:=OQ
   have hw:IntKind.i64.wrap ((k:Int)+1)=((k+1:Nat):Int):=OD
   simp only [q1,↓R1,RR,seval,q1,he,hw,cOp,h1]
   repeat' (first|(with_reducible rw [ah])|(with_reducible refine And.intro ?_ ?_;exact ak)|((first|(refine aj (fun hc=>?_) (fun hc=>?_))|(with_reducible intro β hβ;(try simp only [RB] at hβ);(repeat (obtain ⟨⟨_,_⟩,hβ⟩:=hβ));(try (have hbis:=ag OB hβ;obtain ⟨_,_⟩:=hbis)))|(refine PuG.to (hline) hσ (aa _) ?_))<;>(try simp only [↓R1,RR,seval,q1,he,hw,cOp,h1])))
   ·rw [if_pos Pg] at hI
    rw [hI]
    (refine aq ?_);(simp only [ar,↓R1,RR,seval,q1,he,hw,cOp,h1];exact ae _)
   ·rw [if_neg Pg] at hI
    refine ⟨(k+1,out++(gT x).1),⟨hlt,?_,hI⟩,by simp [aK,slot,ae],by (repeat (first|exact St.le_refl _|(refine St.aR ?_ OB)|(refine St.iB ?_ OB))),by simp only;omega⟩
    rw [List.length_append];omega
  ·have hke:k=l.length:=by omega
   subst hke
   have q1:decide ((l.length:Int)<(l.length:Int))=false:=OF
   rw [List.drop_length] at hI
   simp only [q1,↓R1,RR,seval,q1,he,hw,cOp,h1]
   repeat' ((refine aj (fun hc=>?_) (fun hc=>?_))<;>(try simp only [↓R1,RR,seval,q1,he,hw,cOp,h1]))
   ·rw [decide_eq_true_eq] at hc
    rw [hI,qj,if_pos Oz]
    (refine aq ?_);(simp only [ar,↓R1,RR,seval,q1,he,hw,cOp,h1];exact ae _)
   ·rw [decide_eq_false_iff_not] at hc
    rw [hI,qj,if_neg Oz]
    (refine aq ?_);(simp only [ar,↓R1,RR,seval,q1,he,hw,cOp,h1];exact ae _)
theorem JM:PuG Tryz.prog gl4 11 [] (.bool true):=PuG.up4 Dk
theorem kc {c:CfgI} (h:c.tens.length=6):(a7 c).length=33:=by
 simp only [a7,List.length_cons,List.length_append,List.length_nil,bp,h]
theorem F7 {c:CfgI} (h:c.tens.length=6):(a7 c)[31]? =some (.sl false c.ruls.length (c.ruls.flatMap dL)):=by
 simp only [a7,List.getElem?_cons_succ]
 rw [List.getElem?_append_right (by rw [bp,h];decide),bp,h];rfl
theorem nu {c:CfgI} (h:c.tens.length=6):(a7 c).take 33=a7 c:=List.take_of_length_le (by rw [kc h];decide)
def u7:CfgI:=⟨[],[lC,lC,lC,lC,lC,lC],[],0⟩
theorem F8:wkL iO (a7 u7):= .cons dc (pE (a:= [.int .i64 0, .int .i64 0, .int .i64 0, .int .i64 0, .int .i64 0, .int .i64 0, .int .i64 0, .int .i64 0, .int .i64 0, .int .i64 0, .int .i64 0, .int .i64 0, .int .i64 0, .int .i64 0, .int .i64 0, .int .i64 0, .int .i64 0, .int .i64 0, .int .i64 0, .int .i64 0, .int .i64 0, .int .i64 0, .int .i64 0, .int .i64 0, .int .i64 0, .int .i64 0, .int .i64 0, .int .i64 0, .int .i64 0, .int .i64 0]) (aa _) (.cons dc (aa _)))
def eu (s:List UInt8):CfgI × Ft:=match bY s with
 | .ok c=>(c,(0,0))
 | .error e=>(u7,e)
def iH (s:List UInt8):AV:= .tup [.agg (a7 (eu s).1), .agg [.int .i64 (eu s).2.1, .int .i64 (eu s).2.2]]
theorem oY {s:List UInt8} {c:CfgI} (h:bY s= .ok c):iH s= .tup [.agg (a7 c), .agg [.int .i64 0, .int .i64 0]]:=by rw [iH,eu,h]
theorem oZ {s:List UInt8} {e:Ft} (h:bY s= .error e):iH s= .tup [.agg (a7 u7), .agg [.int .i64 e.1, .int .i64 e.2]]:=by rw [iH,eu,h]
theorem o5 {σ:St} {ζ l:Nat} {s:List UInt8} (hs:s.length≤1000000) (hz:σ.box ζ=some [.str s]) (hl:σ.box l=some iO) (hne:l≠ζ):∀ β,σ.box β=none→AX Tryz.prog 62 [.ptr ζ 0, .ptr l 0] (σ.ad β z2) (oX TS (bY s) (fun _=> .tup []) (fun c=>(σ.ad l (a7 c)).ad β z2) (σ.ad β z2)):=fun β hβ =>
 CW (x62 (σ:=σ.ad β z2) (σ0:=σ.ad β z2) (St.an _) hs (eM hz hβ) (eM hl hβ) hne) (fun os=>nj hl hβ) rfl
theorem u9 {s:List UInt8} {c:CfgI} (h:bY s= .ok c):c.tens.length=6:=by
  unfold bY at h
  obtain ⟨rs,_,h⟩:=bl h
  obtain ⟨p,hp,h⟩:=bl h
  have hk:∀ (rs:List Rw) (p q:PlanI),PlanOk p→gI rs p= .ok q→PlanOk q:=by
    intro rs
    induction rs with
    | nil=>intro p q h1 h2;cases h2;exact h1
    | cons r rs ih =>
      intro p q h1 h2
      obtain ⟨p',h3,h4⟩:=bl h2
      exact ih p' q (sJ h1 h3).1 h4
  have:=hk rs fx p sI hp
  unfold gJ at h
  split at h
  · cases h
  · split at h
    · cases h
    · cases h;exact this.six
theorem p20 (s:List UInt8) (hs:s.length≤1000000):Pu Tryz.prog 20 [.str s] (iH s):=by
  have hent:=Go.Proofs.enters_of Tryz.func62 OA rfl
  have hcl:True:=trivial
  have hca:True:=trivial
  have hcd:True:=trivial
  have zd:iO.drop 33= []:=rfl
  have zl:iO.length=33:=rfl
  have za:iO.take 33=iO:=rfl
  cases hp:bY s with
  | ok c =>
    rw [oY hp]
    have h6:=u9 hp
    have hcl:=kc h6
    have hca:=nu h6
    have hcd:(a7 c).drop 33= []:=List.drop_of_length_le Oz
    (refine av c20 b20 fun σ=>?_;simp only [c20,↓R1,RR,seval])
    repeat' (first|(with_reducible rw [ah])|((with_reducible intro β hβ;(try simp only [RB] at hβ);(repeat (obtain ⟨⟨_,_⟩,hβ⟩:=hβ));(try (have hbis:=ag OB hβ;obtain ⟨_,_⟩:=hbis)))<;>(try simp only [↓R1,RR,seval])))
    rename_i ζ hζ l hl p1 p2 p3 p4 p5 p6
    have hat:=o5 (s:=s) (ζ:=ζ) (l:=l) (σ:=((σ.ad ζ [AV.str s]).ad l iO).ad β [AV.int IntKind.i64 0,AV.int IntKind.i64 0]) hs OL OL p1.ne
    refine AC.mono (AC.wk (jv hent hat (fun γ a hγ=>dY (d:=iO) OL hγ) (fun γ hγ=>hγ) hp) (aa _)) ?_
    rintro _ _ ⟨rfl,rfl⟩
    simp only [↓R1,RR,seval,hcl,hca,hcd]
    repeat' (with_reducible apply And.intro)
    all_goals (refine aq ?_ (by first|(simp [aw,rvS];done)|(simp only [aw,rvS,RR,seval,hcl];try simp)))
    all_goals (simp only [ar,RR,seval,hca];exact ae _)
  | error e =>
    rw [oZ hp]
    (refine av c20 b20 fun σ=>?_;simp only [c20,↓R1,RR,seval])
    repeat' (first|(with_reducible rw [ah])|((with_reducible intro β hβ;(try simp only [RB] at hβ);(repeat (obtain ⟨⟨_,_⟩,hβ⟩:=hβ));(try (have hbis:=ag OB hβ;obtain ⟨_,_⟩:=hbis)))<;>(try simp only [↓R1,RR,seval])))
    rename_i ζ hζ l hl p1 p2 p3 p4 p5 p6
    have hat:=o5 (s:=s) (ζ:=ζ) (l:=l) (σ:=((σ.ad ζ [AV.str s]).ad l iO).ad β [AV.int IntKind.i64 0,AV.int IntKind.i64 0]) hs OL OL p1.ne
    refine AC.mono (AC.wk (jw hent hat (fun γ a hγ=>dY (d:=iO) OL hγ) (fun γ hγ=>hγ) hp) (aa _)) ?_
    rintro _ _ ⟨rfl,rfl⟩
    simp only [↓R1,RR,seval,zl,za,zd]
    repeat' (with_reducible apply And.intro)
    all_goals (refine aq ?_ (by first|(simp [aw,rvS];done)|(simp only [aw,rvS,RR,seval,zl];try simp)))
    all_goals (simp only [ar,RR,seval,za];exact zt (wkL.cons (mi F8) (aa _)))
theorem JN (x:ClsI):(dr x).length=3:=rfl
theorem JO (x:RulI):(dL x).length=7:=rfl
theorem JP {l:List TenI} (h:l.length=6):sqL [0,0,0,0,0,0,0,0,0,0,0,0,0,0,0,0,0,0,0,0,0,0,0,0,0,0,0,0,0,0] (l.flatMap cM) (l.flatMap cM)=some true:=by
 obtain ⟨a,b,c,d,e,f,rfl⟩:=Ls h
 simp [sqL,sqV,cM]
set_option maxHeartbeats 4000000 in
theorem Dr {c:CfgI} (h6:c.tens.length=6) (hn:c.cls.length≤1000000) (hr:c.ruls.length≤1000000):Pu Tryz.prog 22 [.agg (a7 c), .agg (a7 c)] (.bool true):=by
 have q1:True:=trivial
 have he:True:=trivial
 have hw:True:=trivial
 have hcl:=kc h6
 have hca:=nu h6
 have hc0:=vG c
 have h31:=F7 h6
 have h32:(a7 c)[32]? =some (.int .u64 c.hor):=by
  simp only [a7,List.getElem?_cons_succ]
  rw [List.getElem?_append_right (by rw [bp,h6];decide),bp,h6];rfl
 have h1:((a7 c).drop 1).take 30=c.tens.flatMap cM:=by
  simp only [a7,List.drop_succ_cons,List.drop_zero]
  rw [List.take_append_of_le_length (by rw [bp,h6];decide),List.take_of_length_le (by rw [bp,h6];decide)]
 have hsx:=JP h6
 (refine av IY Ni fun σ=>?_;simp only [IY,↓R1,RR,seval,hcl,hc0])
 repeat' ((with_reducible intro β hβ;(try simp only [RB] at hβ);(repeat (obtain ⟨⟨_,_⟩,hβ⟩:=hβ));(try (have hbis:=ag OB hβ;obtain ⟨_,_⟩:=hbis)))<;>(try simp only [↓R1,RR,seval,hcl,hc0,h31,h32,h1,hsx]))
 rename_i A hA a1 a2
 refine bq c.cls.length (fun k=> [(2, .ptr A 0),(3, .ptr β 0),(5, .int .i64 (k:Nat))]) (fun _=>(σ.ad A (a7 c)).ad β (a7 c)) (fun _=>True) OP (St.le_refl _) trivial (fun k hk _=>?_)
 by_cases hlt:k<c.cls.length
 ·obtain ⟨x,hx⟩:∃ x,c.cls[k]? =some x:=⟨_,List.getElem?_eq_getElem hlt⟩
  have he:=en (f:=dr) (m:=3) JN hx
  have hfl:=j6 c.cls
  simp only [dr] at he
  have q1:decide ((k:Int)<(c.cls.length:Int))=true:=OQ
  have hw:IntKind.i64.wrap ((k:Int)+1)=((k+1:Nat):Int):=OD
  simp only [↓R1,RR,seval,q1,he,hw,hcl,hc0]
  repeat' (first|(with_reducible refine And.intro ?_ ?_;exact ak)|(with_reducible apply And.intro))
  all_goals first|(simp [aK,slot,ae];done)|exact St.le_refl _|omega|skip
 ·have hke:k=c.cls.length:=by omega
  subst hke
  have q1:decide ((c.cls.length:Int)<(c.cls.length:Int))=false:=OF
  simp only [↓R1,RR,seval,q1,hcl,hc0]
  skip
  refine bq c.ruls.length (fun k=> [(2, .ptr A 0),(3, .ptr β 0),(6, .int .i64 (k:Nat))]) (fun _=>(σ.ad A (a7 c)).ad β (a7 c)) (fun _=>True) OP (St.le_refl _) trivial (fun k hk _=>?_)
  by_cases hlt:k<c.ruls.length
  ·obtain ⟨x,hx⟩:∃ x,c.ruls[k]? =some x:=⟨_,List.getElem?_eq_getElem hlt⟩
   have he:=en (f:=dL) (m:=7) JO hx
   have hfl:=il c.ruls
   simp only [dL] at he
   have q1:decide ((k:Int)<(c.ruls.length:Int))=true:=OQ
   have hw:IntKind.i64.wrap ((k:Int)+1)=((k+1:Nat):Int):=OD
   simp only [↓R1,RR,seval,q1,he,hw,hcl,h31]
   repeat' (first|(with_reducible refine And.intro ?_ ?_;exact ak)|(with_reducible apply And.intro))
   all_goals first|(simp [aK,slot,ae];done)|exact St.le_refl _|omega|skip
  ·have hke:k=c.ruls.length:=by omega
   subst hke
   have q1:decide ((c.ruls.length:Int)<(c.ruls.length:Int))=false:=OF
   simp only [↓R1,RR,seval,q1,hcl,h31]
   skip
   (refine aq (af ?_))
   (simp only [ar,RR,seval])
def nQ (o:Except Ft (List OpI)):List OpI × Ft:=match o with
 | .ok l=>(l,(0,0))
 | .error e=>([],e)
theorem yY (s:List UInt8):jx s= .tup [.sl false (nQ (bX s)).1.length ((nQ (bX s)).1.flatMap cOp), .agg [.int .i64 (nQ (bX s)).2.1, .int .i64 (nQ (bX s)).2.2]]:=by
 unfold jx nQ
 cases bX s<;>rfl
theorem p37 (s:List UInt8) (e a:Int) (hs:s.length≤1000000) (h6:(eu s).1.tens.length=6):Pu Tryz.prog 37 [.str s, .int .i64 e, .int .i64 a] (.bool (((eu s).2.1 == e)&&((eu s).2.2 == a))):=by
 have h1:=p20 s hs
 unfold iH at h1
 have hcl:=kc h6
 have hca:=nu h6
 generalize eu s=y at *
 (refine av c37 b37 fun σ=>?_;simp only [c37,↓R1,RR,seval,hcl,hca])
 repeat' (first|(with_reducible rw [ah])|(with_reducible refine And.intro ?_ ?_;exact ak)|(with_reducible apply And.intro)|((first|(refine b8 (fun hc=>?_) (fun hc=>?_)<;>(try simp only [hc,↓R1,RR,seval,hcl,hca]))|refine aj (fun hc=>?_) (fun hc=>?_)|(with_reducible intro β hβ;(try simp only [RB] at hβ);(repeat (obtain ⟨⟨_,_⟩,hβ⟩:=hβ));(try (have hbis:=ag OB hβ;obtain ⟨_,_⟩:=hbis)))|refine Pt (h1) ?_|refine Ct (h1) ?_)<;>(try simp only [↓R1,RR,seval,hcl,hca])))
 (refine aq (af ?_) (by first|(simp [aw,rvS];done)|(simp only [aw,rvS,↓R1,RR,seval,hcl,hca];try simp)))
 (simp only [ar,↓R1,RR,seval,hcl,hca])
theorem p39 (s:List UInt8) (e a:Int) (hs:s.length≤1000000):PuG Tryz.prog gl3 39 [.str s, .int .i64 e, .int .i64 a] (.bool ((((nQ (bX s)).1.length:Int) == 0)&&(((nQ (bX s)).2.1 == e)&&((nQ (bX s)).2.2 == a)))):=by
 have h1:=p12 s hs
 rw [yY] at h1
 generalize nQ (bX s)=y at *
 (refine aO c39 b39 fun σ hσ=>?_;simp only [c39,↓R1,RR,seval])
 repeat' (first|(with_reducible rw [ah])|(with_reducible refine And.intro ?_ ?_;exact ak)|(with_reducible apply And.intro)|((first|(refine b8 (fun hc=>?_) (fun hc=>?_)<;>(try simp only [hc,↓R1,RR,seval]))|refine aj (fun hc=>?_) (fun hc=>?_)|(with_reducible intro β hβ;(try simp only [RB] at hβ);(repeat (obtain ⟨⟨_,_⟩,hβ⟩:=hβ));(try (have hbis:=ag OB hβ;obtain ⟨_,_⟩:=hbis)))|refine PuG.to (h1) hσ (aa _) ?_)<;>(try simp only [↓R1,RR,seval])))
 (refine aq (af ?_) O7)
 (simp only [ar,↓R1,RR,seval])
def kn1:List UInt8:=exU.drop 10
def kn2:List UInt8:= [104,111,114,105,122,111,110,32,51,10,116,101,110,97,110,116,32,50,32,49,32,52,32,50,32,49,10,116,101,110,97,110,116,32,50,32,49,32,52,32,50,32,49,10,116,101,110,97,110,116,32,50,32,49,32,52,32,50,32,49,10,116,101,110,97,110,116,32,50,32,49,32,52,32,50,32,49,10,116,101,110,97,110,116,32,50,32,49,32,52,32,50,32,49,10,116,101,110,97,110,116,32,50,32,49,32,52,32,50,32,49,10,116,101,110,97,110,116,32,50,32,49,32,52,32,50,32,49]
def kn3:List UInt8:= [104,111,114,105,122,111,110,32,51,10,116,101,110,97,110,116,32,50,32,49,32,52,32,50,32,49,10,116,101,110,97,110,116,32,50,32,49,32,52,32,50,32,49,10,116,101,110,97,110,116,32,50,32,49,32,52,32,50,32,49,10,116,101,110,97,110,116,32,50,32,49,32,52,32,50,32,49,10,116,101,110,97,110,116,32,50,32,49,32,52,32,50,32,49,10]
def kn4:List UInt8:= [104,111,114,105,122,111,110,32,51,10,99,108,97,115,115,32,123,48,44,48,125,32,50,32,50,10,116,101,110,97,110,116,32,50,32,49,32,52,32,50,32,49,10,116,101,110,97,110,116,32,50,32,49,32,52,32,50,32,49,10,116,101,110,97,110,116,32,50,32,49,32,52,32,50,32,49,10,116,101,110,97,110,116,32,50,32,49,32,52,32,50,32,49,10,116,101,110,97,110,116,32,50,32,49,32,52,32,50,32,49,10,116,101,110,97,110,116,32,50,32,49,32,52,32,50,32,49,10]
def knA:List OpI:= [⟨1,1,0,[],0,0,0,0⟩,⟨2,1,0,[65,32,119,105,116,104,105,110,32,57],0,0,0,0⟩,⟨4,0,0,fH 0 0 5,0,0,0,0⟩,⟨5,0,0,[],0,0,0,0⟩,⟨6,1,0,[],0,5,0,0⟩]
def knB:List OpI:= [⟨4,0,0,[97,98],0,0,0,0⟩,⟨7,2,0,[],0,0,1,1⟩,⟨8,1,0,[],0,9,0,0⟩]
theorem On:bY exU= .ok exC:=OA
theorem Oo:bY kn1= .error (9,0):=OA
theorem Oq:bY kn2= .error (9,112):=OA
theorem Ov:bY kn3= .error (7,95):=OA
theorem Ow:∃ e,bY kn4= .error (e,16)∧e≠0:=⟨9,by kernel_rfl,by decide⟩
theorem Ox:sU knA=([114,101,103,105,115,116,101,114,32,49,32,123,125,10,113,117,101,114,121,32,49,32,34,65,32,119,105,116,104,105,110,32,57,34,10,105,110,103,101,115,116,32,65,32,123,125,32,53,10,116,105,99,107,10,112,111,108,108,32,49,32,53,10],0):=OA
theorem Oy:sU knB=([98,121,116,101,115,32,97,98,10,100,101,99,108,97,115,115,105,102,121,32,50,32,48,32,123,48,125,35,49,10,97,117,100,105,116,32,49,32,48,32,57,10],0):=OA
theorem LG:bX [112,111,108,108,32,49]= .error (3,0):=OA
theorem LH:bX [112,111,108,108,32,49,32,120]= .error (3,7):=OA
theorem LI:bX [106,117,109,112]= .error (11,0):=OA
theorem LJ:bX [105,110,103,101,115,116,32,97,32,123,125,32,53]= .error (11,7):=OA
theorem LK:bX [100,101,99,108,97,115,115,105,102,121,32,49,32,48,32,123,48,125,35,48]= .error (3,15):=OA
theorem LL:gf []= .error (7,0):=OA
theorem LM:gf [116,105,99,107,10,116,105,99,107,10]= .error (4,5):=OA
theorem Gz {s:List UInt8} {e:Ft} (h:bY s= .error e):eu s=(u7,e):=by rw [eu,h]
theorem nv {s:List UInt8} {e a:Int} (h:bY s= .error (e,a)) (hs:s.length≤1000000):Pu Tryz.prog 37 [.str s, .int .i64 e, .int .i64 a] (.bool true):=by
 have:=p37 s e a hs (by rw [Gz h];rfl)
 rw [Gz h] at this
 simpa using this
theorem ir {s:List UInt8} {e a:Int} (h:bX s= .error (e,a)) (hs:s.length≤1000000):PuG Tryz.prog gl4 39 [.str s, .int .i64 e, .int .i64 a] (.bool true):=by
 have:=p39 s e a hs
 rw [h] at this
 exact PuG.up4 (by simpa [nQ] using this)
theorem Ds:OpsOk knA:=⟨by decide,fun x hx=>by
 simp only [knA,List.mem_cons,List.not_mem_nil,or_false] at hx
 rcases hx with rfl|rfl|rfl|rfl|rfl<;>exact ⟨by simp [I64],by simp [I64],by simp [I64],by simp [U64],by simp [U64],by simp [U64]⟩,fun x hx=>by
 simp only [knA,List.mem_cons,List.not_mem_nil,or_false] at hx
 rcases hx with rfl|rfl|rfl|rfl|rfl<;>decide⟩
theorem Dt:OpsOk knB:=⟨by decide,fun x hx=>by
 simp only [knB,List.mem_cons,List.not_mem_nil,or_false] at hx
 rcases hx with rfl|rfl|rfl<;>exact ⟨by simp [I64],by simp [I64],by simp [I64],by simp [U64],by simp [U64],by simp [U64]⟩,fun x hx=>by
 simp only [knB,List.mem_cons,List.not_mem_nil,or_false] at hx
 rcases hx with rfl|rfl|rfl<;>decide⟩
theorem vW {s:List UInt8} {e a:Int} (h:gf s= .error (e,a)) (hs:s.length≤1000000):PuG Tryz.prog gl4 14 [.str s] (.tup [.agg z8, .agg [.int .i64 e, .int .i64 a]]):=by
 have:=p14 s hs
 rw [vJ,h] at this
 exact PuG.up4 this
set_option maxHeartbeats 8000000 in
theorem lD:PuG Tryz.prog gl4 9 [] (.bool true):=by
 have q1:True:=trivial
 have hcl:(a7 exC).length=33:=rfl
 have hca:(a7 exC).take 33=a7 exC:=rfl
 have hcy:(a7 u7).length=33:=rfl
 have hcz:(a7 u7).take 33=a7 u7:=rfl
 have k0:=p20 exU OK
 rw [oY On] at k0
 obtain ⟨e4,h4,h4n⟩:=Ow
 have q1:(e4 == 0)=false:=by rw [beq_eq_false_iff_ne];exact h4n
 have k4:=p20 kn4 OK
 rw [oZ h4] at k4
 have f1:=nv Oo OK
 have f2:=nv Oq OK
 have f3:=nv Ov OK
 have kb:=p38 0 0 5
 have tA:=p25 true knA Ds
 rw [sW,Ox] at tA
 have tB:=p25 true knB Dt
 rw [sW,Oy] at tB
 have w0:=ir LG OK
 have w1:=ir LH OK
 have w2:=ir LI OK
 have w3:=ir LJ OK
 have w4:=ir LK OK
 have r0:=vW LL OK
 have r1:=vW LM OK
 have ln:=p27 ⟨7,0,0,[],0,0,0,0⟩ ⟨by simp [I64],by simp [I64],by simp [I64],by simp [U64],by simp [U64],by simp [U64]⟩ OK
 rw [show jb ⟨7,0,0,[],0,0,0,0⟩= .tup [.str [], .int .i64 2] by kernel_rfl] at ln
 have sm:=Dr (c:=exC) rfl OK OK
 (refine aO c9 b9 fun σ hσ=>?_;simp only [c9,↓R1,RR,seval,q1,hcl,hca,hcy,hcz,z8])
 repeat' (first|(with_reducible rw [ah])|(with_reducible refine And.intro ?_ ?_;exact ak)|(with_reducible apply And.intro)|((first|(refine b8 (fun hc=>?_) (fun hc=>?_)<;>(try simp only [hc,↓R1,RR,seval,q1,hcl,hca,hcy,hcz,z8]))|refine aj (fun hc=>?_) (fun hc=>?_)|(with_reducible intro β hβ;(try simp only [RB] at hβ);(repeat (obtain ⟨⟨_,_⟩,hβ⟩:=hβ));(try (have hbis:=ag OB hβ;obtain ⟨_,_⟩:=hbis)))|refine Pt (k0) ?_|refine Ct (k0) ?_|refine Pt (p36) ?_|refine Ct (p36) ?_|(refine bd sm (wkL.cons (ae _) (wkL.cons Di wkL.nil)) ?_)|refine Pt (f1) ?_|refine Ct (f1) ?_|refine Pt (f2) ?_|refine Ct (f2) ?_|refine Pt (f3) ?_|refine Ct (f3) ?_|refine Pt (k4) ?_|refine Ct (k4) ?_|refine Pt (kb) ?_|refine Ct (kb) ?_|refine PuG.to (tA) hσ (aa _) ?_|refine PuG.to (tB) hσ (aa _) ?_|refine PuG.to (w0) hσ (aa _) ?_|refine PuG.to (w1) hσ (aa _) ?_|refine PuG.to (w2) hσ (aa _) ?_|refine PuG.to (w3) hσ (aa _) ?_|refine PuG.to (w4) hσ (aa _) ?_|refine PuG.to (ln) hσ (aa _) ?_|refine PuG.to (r0) hσ (aa _) ?_|refine PuG.to (r1) hσ (aa _) ?_|refine PuG.to (JM) hσ (aa _) ?_)<;>(try simp only [↓R1,RR,seval,q1,hcl,hca,hcy,hcz,z8])))
 (refine aq ?_ (by first|(simp [aw,rvS];done)|(simp only [aw,rvS,↓R1,RR,seval,q1,hcl,hca,hcy,hcz,z8];try simp)));(simp only [ar,↓R1,RR,seval,q1,hcl,hca,hcy,hcz,z8];exact ae _)
end Go.Proofs.YtgephffbfiemeaaGreatDoor
