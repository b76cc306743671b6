/- Part 30 of the proof of ScriptConfigs: an abstract semantics that is proved sound for the model, contracts of functions in it, and plain facts (ZP11 X17 X18 X19 X20 X21 X22 X23 Y11 ZP12 Y6 Y7 ZR1 ZR2 ZR3 ZR4 ZR5). No condition. -/
import Derived.Test.YtgephffbfiemeaaGreatDoorKScriptConfigs29
set_option linter.all false
namespace Go.Proofs.YtgephffbfiemeaaGreatDoor
open Go.Abs Go.Lib
set_option linter.all false
set_option maxRecDepth 100000
def oB:List AV:=cz++ [.int .i64 0, .int .i64 0]
theorem Hd {ζ κ υ:Nat} {p:PlanI} {σ:St} (hn:κ≠υ) (h0:σ.box ζ=none) (hok:PlanOk p):Pl σ (eD ζ κ υ p σ) ζ κ υ p :=
 ⟨St.cA _ _ _,h0,by simp [eD,St.aa,St.ai,upd,hn],by simp [eD,St.aa,St.ai,upd],hok.six,hok.c8,hok.r8⟩
theorem Eb {ζ κ υ:Nat} {p q:PlanI} {σ:St} (hn:κ≠υ):eD ζ κ υ q (eD ζ κ υ p σ)=eD ζ κ υ q σ:=by
 obtain ⟨b,t,g,l,bt⟩:=σ
 simp only [eD,St.aa,St.ai,St.mk.injEq,and_true]
 constructor
 ·funext j;simp only [upd];split<;>rfl
 ·funext j;simp only [upd];split
  ·rfl
  ·split<;>rfl
theorem He {ζ κ υ:Nat} {q:PlanI} {σ s:St} (h:St.le σ s):St.le (eD ζ κ υ q σ) (eD ζ κ υ q s):=St.wO _ _ (St.gU (St.gU h))
theorem wq {x:CX} {fr:Fr} {σ:St} {Q:Exit→Fr→St→Prop} {ζ:Nat} {h:Hold (x,σ.aa ζ oB,Q)} (hf:slot 2 fr= .ptr ζ 0) (F:PlanI→Fr) (I:PlanI→Prop) (μ:PlanI→Nat) (h0:I dR) (hF:aq (F dR) fr)
  (hr:∀ κ υ,κ≠υ→σ.tip κ=none→σ.tip υ=none→∀ p,I p→aX Tryz.prog x (F p) (eD ζ κ υ p σ) (fV (fun fr' σ'=>∃ q,I q∧aq (F q) fr'∧St.le (eD ζ κ υ q σ) σ'∧μ q<μ p) Q)):nO Tryz.prog x fr (σ.aa ζ oB) Q h:=by
 refine j7 (α:=PlanI) [(true,2,0,94,3),(true,2,31,97,7)] ?_
 have e0:oB[0+0]? =some .nils:=rfl
 have e1:∀ κ,(oB.set (0+0) (.tsl κ 0 []))[0+31]? =some .nils:=fun _=>rfl
 simp only [cH,hf,St.cA,e0]
 refine ⟨trivial,fun κ hκ=>?_⟩
 simp only [e1]
 refine ⟨trivial,fun υ hυ=>?_⟩
 have hne:κ≠υ:=fun e=>by subst e;simp [St.aa,St.ai,upd] at hυ
 have hu2:σ.tip υ=none:=by simpa [St.aa,St.ai,upd,hne.symm] using hυ
 have he:((((σ.aa ζ oB).ai κ (94,3,0)).aa ζ (oB.set (0+0) (.tsl κ 0 []))).ai υ (97,7,0)).aa ζ ((oB.set (0+0) (.tsl κ 0 [])).set (0+31) (.tsl υ 0 []))=eD ζ κ υ dR σ:=by
  obtain ⟨b,t,g,l,bt⟩:=σ
  simp only [eD,St.aa,St.ai,St.mk.injEq,and_true]
  constructor
  ·funext j;simp only [upd];split<;>rfl
  ·rfl
 refine ⟨F,fun p=>eD ζ κ υ p σ,I,μ,dR,h0,hF,by rw [he];exact St.le_refl _,fun p hp=>hr κ υ hne hκ hu2 p hp⟩
set_option maxHeartbeats 4000000 in
theorem x62 {σ σ0:St} {z l:Nat} {s:List UInt8} (hlw:St.lw σ0 σ) (hs:s.length≤1000000) (hz:σ.box z=some [.str s]) (hl:σ.box l=some cz) (hne:l≠z) :
  AX Tryz.prog 62 [.ptr z 0, .ptr l 0] σ (oX TS (bH s) (fun _=> .tup []) (fun c=>σ.aa l (aR c)) σ0):=by
 haveI:BoxIs σ z [.str s]:=⟨hz⟩
 haveI:BoxIs σ l cz:=⟨hl⟩
 have q1:True:=trivial
 have q2:True:=trivial
 have he:True:=trivial
 have hw:True:=trivial
 have hln:True:=trivial
 have h33:True:=trivial
 have h34:True:=trivial
 have e1:True:=trivial
 have e2:True:=trivial
 have zl:cz.length=33:=rfl
 (refine bd c62 b62 ?_;simp only [c62,↓R1,RR,seval,RX])
 first|(intro ζ hζ)|(rw [ah];intro ζ hζ)
 have n1:l≠ζ:=fun e=>by rw [←e,hl] at hζ;cases hζ
 have n2:z≠ζ:=fun e=>by rw [←e,hz] at hζ;cases hζ
 haveI:Apart l ζ:=⟨n1⟩
 haveI:Apart ζ l:=⟨n1.symm⟩
 haveI:Apart z ζ:=⟨n2⟩
 haveI:Apart ζ z:=⟨n2.symm⟩
 simp only [RR,seval]
 repeat' (((refine bF (x42 (σ0:=σ0) s hs ?_) (ad _) (fun rs ho1=>?_) (fun e ho1=>?_);(focus ((repeat' (first|assumption|exact St.ax _|(refine St.cJ ?_)|(refine St.cX ?_ Qh)|(refine St.dw ?_ ?_)|(refine St.cI ?_ Ql)|exact wkL.nil|exact ad _|(refine wkL.cons ?_ ?_)|exact ae _|exact cu|exact cw _ _ _|exact bU _ _));done))))<;>(try simp only [↓R1,RR,seval,RX]))
 case refine_3=>exact aO (by simp only [bH,cS _ ho1]) (St.ax _)
 obtain ⟨hz1,hz2⟩:=kg ho1
 have hp:bH s=eb (eZ rs dR) (dX s.length):=by simp only [bH,aJ _ ho1]
 refine wq (ζ:=ζ) rfl (fun p=> [(0, .ptr z 0),(1, .ptr l 0),(2, .ptr ζ 0),(10, .sl false rs.length (rs.flatMap cRw)),(11, .int .i64 (rs.length:Nat)),(12, .int .i64 (p.n:Nat))]) (fun p=>PlanOk p∧p.n≤rs.length∧eZ rs dR=eZ (rs.drop p.n) p) (fun p=>rs.length - p.n)
  ⟨lb,Nat.zero_le _,rfl⟩ (by simp [aq,slot,ae,dR]) ?_
 intro κ υ hku hk0 hu0 p ⟨hok,hk,hI⟩
 have hlb:∀ p,St.le σ (eD ζ κ υ p σ):=fun p=>by
  rw [eD];exact St.aD (St.cW (St.cW (St.le_refl _) hk0) hu0) hζ
 have hpl:=Hd (ζ:=ζ) (p:=p) hku hζ hok
 haveI:BoxIs (eD ζ κ υ p σ) z [.str s]:=⟨(hlb p).1 _ _ hz⟩
 haveI:BoxIs (eD ζ κ υ p σ) l cz:=⟨(hlb p).1 _ _ hl⟩
 haveI:BoxIs (eD ζ κ υ p σ) ζ (pB κ υ p):=⟨hpl.hb⟩
 by_cases hlt:p.n<rs.length
 ·obtain ⟨r,hr⟩:∃ r,rs[p.n]? =some r:=⟨_,List.getElem?_eq_getElem hlt⟩
  obtain ⟨hr1,hr2,hr3⟩:=hz2 r (List.mem_of_getElem? hr)
  have q1:decide ((p.n:Int)<(rs.length:Int))=true:=Qf
  have he:=wh hr
  simp only [cRw] at he
  have hw:IntKind.i64.wrap ((p.n:Int)+1)=((p.n+1:Nat):Int):=P9
  rw [mJ hr] at hI
  have hcl:=rI rs
  simp only [↓R1,RR,seval,RX,q1,he]
  repeat' (first|(with_reducible rw [ah])|(with_reducible refine And.intro ?_ ?_;exact af)|((with_reducible intro β hβ;(try simp only [RB] at hβ);(repeat (obtain ⟨⟨_,_⟩,hβ⟩:=hβ));(try (have hbis:=aj Qa hβ;obtain ⟨_,_⟩:=hbis)))<;>(try simp only [↓R1,RR,seval,RX])))
  all_goals (try (focus (omega;done)))
  ·skip
   have hlx:St.le (eD ζ κ υ p σ) ((eD ζ κ υ p σ).aa β [.int .i64 (r.a:Nat), .sl false r.ws.length (r.ws.flatMap cWd)]):=St.aD (St.le_refl _) Qa
   have hp2:Pl σ0 ((eD ζ κ υ p σ).aa β [.int .i64 (r.a:Nat), .sl false r.ws.length (r.ws.flatMap cWd)]) ζ κ υ p :=
    ⟨hlx.1 _ _ hpl.hb,dJ hlw hζ,hlx.2.1 _ _ hpl.tk,hlx.2.1 _ _ hpl.tu,hpl.six,hpl.c8,hpl.r8⟩
   refine bF (x63 (r:=r) (jU (jU hlw (hlb p)) hlx) hp2 P6 hr1 hr2 hr3) (ad _) (fun q hq=>?_) (fun e he=>?_)
   ·obtain ⟨hqo,hqn⟩:=lf hok hq
    simp only [↓R1,RR,seval,RX,hw]
    skip
    refine ⟨q,⟨hqo,by omega,by rw [hI,aJ _ hq,hqn]⟩,by simp [aq,slot,ae,hqn],?_,by omega⟩
    have h9:=He (ζ:=ζ) (κ:=κ) (υ:=υ) (q:=q) hlx
    rwa [Eb hku] at h9
   ·simp only [seval,RX]
    exact aO (by rw [hp,hI,jm,cS _ he]) (St.ax _)
 ·have hke:p.n=rs.length:=by omega
  have q1:decide ((p.n:Int)<(rs.length:Int))=false:=Qs
  have hpe:bH s=dX s.length p:=by rw [hp,hI,hke,List.drop_length,eZ,eb]
  have hln:=gL κ υ hok.six
  have h33:=D1 κ υ hok.six
  have h34:=xD κ υ hok.six
  simp only [↓R1,RR,seval,RX,q1,hln,h33,h34]
  by_cases h1:p.n=0∨p.t<6
  ·have q2:(((p.n:Int) == 0)||decide ((p.t:Int)<6))=true:=by
    rw [Bool.or_eq_true,beq_iff_eq,decide_eq_true_eq];omega
   rw [q2]
   simp only [↓R1,RR,seval,RX]
   repeat' (((refine bR (σ0:=σ0) Qg (by exact jU hlw (hlb p)) ?_))<;>(try simp only [seval,RX]))
   exact aO (by rw [hpe,dX,if_pos h1]) (St.ax _)
  ·have q2:(((p.n:Int) == 0)||decide ((p.t:Int)<6))=false:=by
    rw [Bool.or_eq_false_iff,beq_eq_false_iff_ne,decide_eq_false_iff_not];omega
   rw [q2]
   obtain ⟨cl,e1,e2,e3⟩:=K0 κ υ hok.six
   have pc:=p48 hok.cfg
   simp only [mR] at pc
   simp only [↓R1,RR,seval,RX,hln,e1]
   repeat' (((refine Pu.to pc (wkL.cons (gJ e3) wkL.nil) ?_))<;>(try simp only [↓R1,RR,seval,RX]))
   by_cases he0:(de (fE p)).1=0
   ·repeat' (((refine gj he0 ?_))<;>(try simp only [↓R1,RR,seval,RX,hln,zl,e1,e2]))
    all_goals (try (first|omega|(simp only [e2,zl];done)))
    refine dM (by rw [hpe,dX,if_neg h1,if_neg (by simp [he0])]) ?_ ?_
    ·simp only [an,RR,seval]
     exact ae _
    ·rw [show cz.drop 33= [] from rfl,List.append_nil]
     exact St.dw (St.gT (hlb p)) e3
   ·repeat' (((refine bR (σ0:=σ0) he0 (by exact jU hlw (hlb p)) ?_))<;>(try simp only [seval,RX]))
    exact aO (by rw [hpe,dX,if_neg h1,if_pos he0]) (St.ax _)
theorem fF (n a b:Int):Pu Tryz.prog 175 [.int .i64 n, .int .i64 a, .int .i64 b] (.bool (inB n (a,b))):=by
 (refine al J4 OK fun σ=>?_;simp only [J4,↓R1,RR,seval])
 repeat' (first|(with_reducible rw [ah])|(with_reducible refine And.intro ?_ ?_;exact af)|(with_reducible apply And.intro)|((first|(refine bL (fun hc=>?_) (fun hc=>?_)<;>(try simp only [hc,↓R1,RR,seval]))|refine ar (fun hc=>?_) (fun hc=>?_)|(with_reducible intro β hβ;(try simp only [RB] at hβ);(repeat (obtain ⟨⟨_,_⟩,hβ⟩:=hβ));(try (have hbis:=aj Qa hβ;obtain ⟨_,_⟩:=hbis))))<;>(try simp only [↓R1,RR,seval])))
 all_goals ((refine ak (ag ?_));(simp only [an,↓R1,RR,seval]))
 simp only [inB,Bool.not_or,AV.bool.injEq]
 rw [Bool.eq_iff_iff]
 simp
theorem PY (a b:BitVec 64):Pu Tryz.prog 176 [.int .u64 a.toNat, .int .u64 b.toNat] (.bool (leB a b)):=by
 (refine al J5 OL fun σ=>?_;simp only [J5,↓R1,RR,seval])
 (refine ak (ag ?_))
 (simp only [an,↓R1,RR,seval])
 rw [gK,eq0];rfl
set_option maxHeartbeats 2000000 in
theorem M8 {l:List ClsI} {k:Nat} {x:ClsI} (h:l[k]? =some x) (hl:l.length≤1000):Pu Tryz.prog 114 [.sl false l.length (l.flatMap bE), .int .i64 (k:Nat)] (.int .i64 (jN ((l.take k).map ClsI.l) x)):=by
  have q1:True:=trivial
  have hw:True:=trivial
  have he2:True:=trivial
  have he:=di (f:=bE) (m:=3) (fun _=>rfl) h
  have hln:=fD l
  have hk:k<l.length:=(List.getElem?_eq_some_iff.1 h).1
  simp only [bE] at he
  have hwi:dz [x.size,x.rate] [(1,64),(0,64)]=(inB x.size (1,64)&&inB x.rate (0,64)):=by simp only [dz,Bool.and_true]
  cases h1:inB x.size (1,64) with
  | false =>
    have h2:True:=trivial
    have ho:jN ((l.take k).map ClsI.l) x=2:=by rw [h1,Bool.false_and] at hwi;rw [jN,if_pos hwi]
    (refine al vu JP fun σ=>?_;simp only [vu,↓R1,RR,seval,q1,he,hw,bE,hln,he2,h1,h2])
    repeat' (first|(with_reducible rw [ah])|(with_reducible refine And.intro ?_ ?_;exact af)|(with_reducible apply And.intro)|((first|(refine bL (fun hc=>?_) (fun hc=>?_)<;>(try simp only [hc,↓R1,RR,seval,q1,he,hw,bE,hln,he2,h1,h2]))|refine ar (fun hc=>?_) (fun hc=>?_)|(with_reducible intro β hβ;(try simp only [RB] at hβ);(repeat (obtain ⟨⟨_,_⟩,hβ⟩:=hβ));(try (have hbis:=aj Qa hβ;obtain ⟨_,_⟩:=hbis)))|refine Pt (fF x.size 1 64) ?_|refine Ct (fF x.size 1 64) ?_|refine Pt (fF x.rate 0 64) ?_|refine Ct (fF x.rate 0 64) ?_)<;>(try simp only [↓R1,RR,seval,q1,he,hw,bE,hln,he2,h1,h2])))
    (refine ak (ag ?_))
    (simp only [an,↓R1,RR,seval,q1,he,hw,bE,hln,he2,h1,h2])
    rw [ho]
  | true =>
    cases h2:inB x.rate (0,64) with
    | false =>
      have ho:jN ((l.take k).map ClsI.l) x=2:=by rw [h1,h2] at hwi;rw [jN,if_pos (by rw [hwi];rfl)]
      (refine al vu JP fun σ=>?_;simp only [vu,↓R1,RR,seval,q1,he,hw,bE,hln,he2,h1,h2])
      repeat' (first|(with_reducible rw [ah])|(with_reducible refine And.intro ?_ ?_;exact af)|(with_reducible apply And.intro)|((first|(refine bL (fun hc=>?_) (fun hc=>?_)<;>(try simp only [hc,↓R1,RR,seval,q1,he,hw,bE,hln,he2,h1,h2]))|refine ar (fun hc=>?_) (fun hc=>?_)|(with_reducible intro β hβ;(try simp only [RB] at hβ);(repeat (obtain ⟨⟨_,_⟩,hβ⟩:=hβ));(try (have hbis:=aj Qa hβ;obtain ⟨_,_⟩:=hbis)))|refine Pt (fF x.size 1 64) ?_|refine Ct (fF x.size 1 64) ?_|refine Pt (fF x.rate 0 64) ?_|refine Ct (fF x.rate 0 64) ?_)<;>(try simp only [↓R1,RR,seval,q1,he,hw,bE,hln,he2,h1,h2])))
      (refine ak (ag ?_))
      (simp only [an,↓R1,RR,seval,q1,he,hw,bE,hln,he2,h1,h2])
      rw [ho]
    | true =>
      have ho:jN ((l.take k).map ClsI.l) x=if x.l∈(l.take k).map ClsI.l then 8 else 0:=by rw [h1,h2] at hwi;rw [jN,if_neg (by rw [hwi];decide)]
      (refine al vu JP fun σ=>?_;simp only [vu,↓R1,RR,seval,q1,he,hw,bE,hln,he2,h1,h2])
      repeat' (first|(with_reducible rw [ah])|(with_reducible refine And.intro ?_ ?_;exact af)|(with_reducible apply And.intro)|((first|(refine bL (fun hc=>?_) (fun hc=>?_)<;>(try simp only [hc,↓R1,RR,seval,q1,he,hw,bE,hln,he2,h1,h2]))|refine ar (fun hc=>?_) (fun hc=>?_)|(with_reducible intro β hβ;(try simp only [RB] at hβ);(repeat (obtain ⟨⟨_,_⟩,hβ⟩:=hβ));(try (have hbis:=aj Qa hβ;obtain ⟨_,_⟩:=hbis)))|refine Pt (fF x.size 1 64) ?_|refine Ct (fF x.size 1 64) ?_|refine Pt (fF x.rate 0 64) ?_|refine Ct (fF x.rate 0 64) ?_)<;>(try simp only [↓R1,RR,seval,q1,he,hw,bE,hln,he2,h1,h2])))
      refine aS k (fun i=> [(0, .sl false l.length (l.flatMap bE)),(1, .int .i64 (k:Nat)),(5, .int .i64 (i:Nat))]) (fun _=>σ) (fun i=>x.l∈(l.take k).map ClsI.l↔x.l∈((l.drop i).take (k - i)).map ClsI.l) Qi (St.le_refl _) Qd (fun i hi hI=>?_)
      by_cases hlt:i<k
      · obtain ⟨y,hy⟩:∃ y,l[i]? =some y:=⟨_,List.getElem?_eq_getElem P6⟩
        have he2:=di (f:=bE) (m:=3) (fun _=>rfl) hy
        simp only [bE] at he2
        have q1:decide ((i:Int)<(k:Int))=true:=Qf
        have hw:IntKind.i64.wrap ((i:Int)+1)=((i+1:Nat):Int):=P9
        simp only [q1,↓R1,RR,seval,q1,he,hw,bE,hln,he2,h1,h2]
        repeat' (first|(with_reducible rw [ah])|(with_reducible refine And.intro ?_ ?_;exact af)|(with_reducible apply And.intro)|((first|(refine bL (fun hc=>?_) (fun hc=>?_)<;>(try simp only [hc,↓R1,RR,seval,q1,he,hw,bE,hln,he2,h1,h2]))|refine ar (fun hc=>?_) (fun hc=>?_)|(with_reducible intro β hβ;(try simp only [RB] at hβ);(repeat (obtain ⟨⟨_,_⟩,hβ⟩:=hβ));(try (have hbis:=aj Qa hβ;obtain ⟨_,_⟩:=hbis))))<;>(try simp only [↓R1,RR,seval,q1,he,hw,bE,hln,he2,h1,h2])))
        · (refine ak (ag ?_))
          (simp only [an,↓R1,RR,seval,q1,he,hw,bE,hln,he2,h1,h2])
          rw [ho,if_pos]
          rw [hI,List.drop_eq_getElem_cons P6,show k - i=(k - (i+1))+1 by omega,List.take_succ_cons,List.map_cons]
          refine List.mem_cons.2 (.inl ?_)
          obtain ⟨_,h5⟩:=List.getElem?_eq_some_iff.1 hy
          rw [h5];exact (eq_of_beq hc).symm
        · rw [hI,List.drop_eq_getElem_cons P6,show k - i=(k - (i+1))+1 by omega,List.take_succ_cons,List.map_cons,List.mem_cons]
          obtain ⟨_,h5⟩:=List.getElem?_eq_some_iff.1 hy
          rw [h5]
          have hne:¬ x.l=y.l:=fun e=>by rw [e,beq_self_eq_true] at hc;cases hc
          simp [hne]
        · simp [aq,slot,ae]
        · exact St.le_refl _
      · have hke:i=k:=by omega
        subst hke
        have q1:decide ((i:Int)<(i:Int))=false:=Qd
        simp only [q1,↓R1,RR,seval,q1,he,hw,bE,hln,he2,h1,h2]
        repeat' (first|(with_reducible rw [ah])|(with_reducible refine And.intro ?_ ?_;exact af)|(with_reducible apply And.intro)|((first|(refine bL (fun hc=>?_) (fun hc=>?_)<;>(try simp only [hc,↓R1,RR,seval,q1,he,hw,bE,hln,he2,h1,h2]))|refine ar (fun hc=>?_) (fun hc=>?_)|(with_reducible intro β hβ;(try simp only [RB] at hβ);(repeat (obtain ⟨⟨_,_⟩,hβ⟩:=hβ));(try (have hbis:=aj Qa hβ;obtain ⟨_,_⟩:=hbis))))<;>(try simp only [↓R1,RR,seval,q1,he,hw,bE,hln,he2,h1,h2])))
        (refine ak (ag ?_))
        (simp only [an,↓R1,RR,seval,q1,he,hw,bE,hln,he2,h1,h2])
        rw [ho,if_neg]
        rw [hI];simp
set_option maxHeartbeats 2000000 in
theorem M9 (x:TenI):Pu Tryz.prog 115 [.agg (b7 x)] (.bool (tenE x == 0)):=by
 have hca:(b7 x).take 5=b7 x:=rfl
 have hwi:(tenE x == 0)=(inB x.budget (1,64)&&inB x.queries (0,4)&&inB x.cap (0,64)&&inB x.out (0,64)&&inB x.audit (0,64)):=by
  simp only [tenE,dz,Bool.and_true]
  cases inB x.budget (1,64)<;>cases inB x.queries (0,4)<;>cases inB x.cap (0,64)<;>cases inB x.out (0,64)<;>cases inB x.audit (0,64)<;>rfl
 simp only [b7]
 (refine al JQ Ow fun σ=>?_;simp only [JQ,↓R1,RR,seval,hca])
 repeat' (first|(with_reducible rw [ah])|(with_reducible refine And.intro ?_ ?_;exact af)|(with_reducible apply And.intro)|((first|(refine bL (fun hc=>?_) (fun hc=>?_)<;>(try simp only [hc,↓R1,RR,seval,hca]))|refine ar (fun hc=>?_) (fun hc=>?_)|(with_reducible intro β hβ;(try simp only [RB] at hβ);(repeat (obtain ⟨⟨_,_⟩,hβ⟩:=hβ));(try (have hbis:=aj Qa hβ;obtain ⟨_,_⟩:=hbis)))|refine Pt (fF x.budget 1 64) ?_|refine Ct (fF x.budget 1 64) ?_|refine Pt (fF x.queries 0 4) ?_|refine Ct (fF x.queries 0 4) ?_|refine Pt (fF x.cap 0 64) ?_|refine Ct (fF x.cap 0 64) ?_|refine Pt (fF x.out 0 64) ?_|refine Ct (fF x.out 0 64) ?_|refine Pt (fF x.audit 0 64) ?_|refine Ct (fF x.audit 0 64) ?_)<;>(try simp only [↓R1,RR,seval,hca])))
 all_goals (refine ak ?_)
 all_goals rw [hwi]
 all_goals simp only [an,↓R1,RR,seval,hca]
 all_goals first|exact ae _|(simp_all [ae];done)
set_option maxHeartbeats 2000000 in
theorem Na (x:RulI) (h1:U64 x.auth) (h2:U64 x.res):Pu Tryz.prog 116 [.agg (cg x)] (.int .i64 (rulE x)):=by
 have hca:(cg x).take 7=cg x:=rfl
 have hpw:=PY (lab x.res) (lab x.auth)
 rw [fu h1,fu h2] at hpw
 have hr:rulE x=if (!inB x.owner (1,6)|| !inB x.kind (0,25)||(x.any&&x.kind != 0))=true then 2 else if leB (lab x.res) (lab x.auth)=false then 13 else if x.high<x.low then 9 else 0:=by
  simp only [rulE,inB,Bool.not_not,Bool.or_assoc]
 simp only [cg]
 (refine al JR Ox fun σ=>?_;simp only [JR,↓R1,RR,seval,hca])
 repeat' (first|(with_reducible rw [ah])|(with_reducible refine And.intro ?_ ?_;exact af)|(with_reducible apply And.intro)|((first|(refine bL (fun hc=>?_) (fun hc=>?_)<;>(try simp only [hc,↓R1,RR,seval,hca]))|refine ar (fun hc=>?_) (fun hc=>?_)|(with_reducible intro β hβ;(try simp only [RB] at hβ);(repeat (obtain ⟨⟨_,_⟩,hβ⟩:=hβ));(try (have hbis:=aj Qa hβ;obtain ⟨_,_⟩:=hbis)))|refine Pt (fF x.owner 1 6) ?_|refine Ct (fF x.owner 1 6) ?_|refine Pt (fF x.kind 0 25) ?_|refine Ct (fF x.kind 0 25) ?_|refine Pt (hpw) ?_|refine Ct (hpw) ?_)<;>(try simp only [↓R1,RR,seval,hca])))
 all_goals first|(refine ak ?_)|skip
 all_goals first|(intro h;simp_all;done)|(rw [hr];simp only [an,↓R1,RR,seval,hca];simp_all [ae];done)|(simp_all;done)|skip
 all_goals (rw [hr];simp only [an,↓R1,RR,seval,hca])
 all_goals simp_all [ae]
 all_goals (rw [if_neg (by rintro ⟨a,b⟩;simp_all)];first|exact ae _|(rw [if_neg P6];exact ae _))
theorem qj {a b:AV} (h:a=b):Go.Abs.wk a b:=h ▸ ae _
theorem At {e i:Int} {p:Int × Nat} (h:p=(e,i.toNat)) (hi:(i.toNat:Int)=i):AV.tup [.int .i64 e, .int .i64 i]= .tup [.int .i64 p.1, .int .i64 (p.2:Nat)]:=by rw [h,hi]
theorem Ec {c:CfgI} (h:8<c.cls.length∨8<c.ruls.length):de c=(6,0):=by rw [de,if_pos h]
theorem Ed {c:CfgI} {p:Int × Nat} (h:¬(8<c.cls.length∨8<c.ruls.length)) (h1:firstE (clsEs [] c.cls) 0=some p):de c=p:=by rw [de,if_neg h,h1]
theorem Ee {c:CfgI} {p:Int × Nat} (h:¬(8<c.cls.length∨8<c.ruls.length)) (h1:firstE (clsEs [] c.cls) 0=none) (h2:firstE (c.tens.map tenE) 0=some p):de c=p:=by rw [de,if_neg h,h1];simp only [h2]
theorem Ef {c:CfgI} {p:Int × Nat} (h:¬(8<c.cls.length∨8<c.ruls.length)) (h1:firstE (clsEs [] c.cls) 0=none) (h2:firstE (c.tens.map tenE) 0=none) (h3:firstE (c.ruls.map rulE) 0=some p):de c=p:=by rw [de,if_neg h,h1];simp only [h2,h3]
theorem Eg {c:CfgI} (h:¬(8<c.cls.length∨8<c.ruls.length)) (h1:firstE (clsEs [] c.cls) 0=none) (h2:firstE (c.tens.map tenE) 0=none) (h3:firstE (c.ruls.map rulE) 0=none) (h4:c.hor<1∨10000<c.hor):de c=(2,0):=by rw [de,if_neg h,h1];simp only [h2,h3,if_pos h4]
theorem Hf {c:CfgI} (h:¬(8<c.cls.length∨8<c.ruls.length)) (h1:firstE (clsEs [] c.cls) 0=none) (h2:firstE (c.tens.map tenE) 0=none) (h3:firstE (c.ruls.map rulE) 0=none) (h4:¬(c.hor<1∨10000<c.hor)):de c=(0,0):=by rw [de,if_neg h,h1];simp only [h2,h3,if_neg h4]
theorem xJ {c:CfgI} (h:CfgOk c) {k:Nat} {x:TenI} (hx:c.tens[k]? =some x):((aR c).drop (1+k*5)).take 5=b7 x:=by
 have hk:k<6:=by rw [←h.six];exact (List.getElem?_eq_some_iff.1 hx).1
 have h1:=di (f:=b7) (m:=5) (fun _=>rfl) hx
 have h2:=bl c.tens
 rw [h.six] at h2
 rw [aR,Nat.add_comm,List.drop_succ_cons,List.drop_append_of_le_length P6,List.take_append_of_le_length (by rw [List.length_drop];omega),h1]
theorem Hg (x:TenI) (h:(tenE x == 0)=false):tenE x=2:=by
 unfold tenE at *
 split
 ·rfl
 ·rename_i h1;rw [if_neg h1] at h;cases h
set_option maxHeartbeats 8000000 in
theorem p55 {c:CfgI} (ck:CfgOk c):Pu Tryz.prog 55 [.agg (aR c)] (mR c):=by
 have hcl:=eA ck
 have hca:=gD ck
 have hc0:=oq c
 have h31:=ot ck
 have h32:=rE ck
 have q1:True:=trivial
 have he:True:=trivial
 have hw:True:=trivial
 have hln:True:=trivial
 have hv:True:=trivial
 have l32:32<(aR c).length:=QX
 have n1:=ck.ncls
 have n2:=ck.nrul
 have h6:=ck.six
 have len1:=l5 c.cls []
 (refine al c55 b55 fun σ=>?_;simp only [c55,↓R1,RR,seval,q1,he,hw,hcl,hca,hc0,h31,h32,hln,l32,hv])
 repeat' (first|(with_reducible rw [ah])|(with_reducible refine And.intro ?_ ?_;exact af)|(with_reducible apply And.intro)|((first|(refine bL (fun hc=>?_) (fun hc=>?_)<;>(try simp only [hc,↓R1,RR,seval,q1,he,hw,hcl,hca,hc0,h31,h32,hln,l32,hv]))|refine ar (fun hc=>?_) (fun hc=>?_)|(with_reducible intro β hβ;(try simp only [RB] at hβ);(repeat (obtain ⟨⟨_,_⟩,hβ⟩:=hβ));(try (have hbis:=aj Qa hβ;obtain ⟨_,_⟩:=hbis))))<;>(try simp only [↓R1,RR,seval,q1,he,hw,hcl,hca,hc0,h31,h32,hln,l32,hv])))
 ·(refine ak ?_);(simp only [an,↓R1,RR,seval,q1,he,hw,hcl,hca,hc0,h31,h32,hln,l32,hv];rw [mR];(refine qj ?_);(refine At ?_ Qd);simp only [Int.toNat_natCast,Int.toNat_zero])
  refine Ec ?_
  rw [Bool.or_eq_true,decide_eq_true_eq,decide_eq_true_eq] at hc;omega
 have hov:¬(8<c.cls.length∨8<c.ruls.length):=by
  rw [Bool.or_eq_false_iff,decide_eq_false_iff_not,decide_eq_false_iff_not] at hc;omega
 refine aS c.cls.length (fun k=> [(1, .ptr β 0),(4, .int .i64 (k:Nat))]) (fun _=>σ.aa β (aR c)) (fun k=>firstE (clsEs [] c.cls) 0=firstE ((clsEs [] c.cls).drop k) k) Qi (St.le_refl _) rfl (fun k hk hI=>?_)
 by_cases hlt:k<c.cls.length
 ·obtain ⟨x,hx⟩:∃ x,c.cls[k]? =some x:=⟨_,List.getElem?_eq_getElem P6⟩
  have hat:=k9 (seen:= []) hx
  rw [List.nil_append] at hat
  rw [eL hat] at hI
  have q1:decide ((k:Int)<(c.cls.length:Int))=true:=Qf
  have hw:IntKind.i64.wrap ((k:Int)+1)=((k+1:Nat):Int):=P9
  simp only [q1,↓R1,RR,seval,q1,he,hw,hcl,hca,hc0,h31,h32,hln,l32,hv]
  repeat' (first|(with_reducible rw [ah])|(with_reducible refine And.intro ?_ ?_;exact af)|(with_reducible apply And.intro)|((first|(refine bL (fun hc=>?_) (fun hc=>?_)<;>(try simp only [hc,↓R1,RR,seval,q1,he,hw,hcl,hca,hc0,h31,h32,hln,l32,hv]))|refine ar (fun hc=>?_) (fun hc=>?_)|(with_reducible intro β hβ;(try simp only [RB] at hβ);(repeat (obtain ⟨⟨_,_⟩,hβ⟩:=hβ));(try (have hbis:=aj Qa hβ;obtain ⟨_,_⟩:=hbis)))|refine Pt (M8 hx n1) ?_|refine Ct (M8 hx n1) ?_)<;>(try simp only [↓R1,RR,seval,q1,he,hw,hcl,hca,hc0,h31,h32,hln,l32,hv])))
  ·(refine ak ?_);(simp only [an,↓R1,RR,seval,q1,he,hw,hcl,hca,hc0,h31,h32,hln,l32,hv];rw [mR];(refine qj ?_);(refine At ?_ Qd);simp only [Int.toNat_natCast,Int.toNat_zero])
   rw [if_neg QC] at hI
   exact Ed hov hI
  ·rw [if_pos QC] at hI;exact hI
  ·simp [aq,slot,ae]
  ·exact St.le_refl _
 have hke:k=c.cls.length:=P6
 subst hke
 have hI1:firstE (clsEs [] c.cls) 0=none:=by rw [hI,List.drop_eq_nil_of_le P6];rfl
 have q1:decide ((c.cls.length:Int)<(c.cls.length:Int))=false:=Qd
 simp only [q1,↓R1,RR,seval,q1,he,hw,hcl,hca,hc0,h31,h32,hln,l32,hv]
 repeat' (first|(with_reducible rw [ah])|(with_reducible refine And.intro ?_ ?_;exact af)|(with_reducible apply And.intro)|((first|(refine bL (fun hc=>?_) (fun hc=>?_)<;>(try simp only [hc,↓R1,RR,seval,q1,he,hw,hcl,hca,hc0,h31,h32,hln,l32,hv]))|refine ar (fun hc=>?_) (fun hc=>?_)|(with_reducible intro β hβ;(try simp only [RB] at hβ);(repeat (obtain ⟨⟨_,_⟩,hβ⟩:=hβ));(try (have hbis:=aj Qa hβ;obtain ⟨_,_⟩:=hbis))))<;>(try simp only [↓R1,RR,seval,q1,he,hw,hcl,hca,hc0,h31,h32,hln,l32,hv])))
 refine aS 6 (fun k=> [(1, .ptr β 0),(6, .int .i64 (k:Nat))]) (fun _=>σ.aa β (aR c)) (fun k=>firstE (c.tens.map tenE) 0=firstE ((c.tens.map tenE).drop k) k) Qi (St.le_refl _) rfl (fun k hk hI=>?_)
 by_cases hlt:k<6
 ·obtain ⟨x,hx⟩:∃ x,c.tens[k]? =some x:=⟨_,List.getElem?_eq_getElem P6⟩
  have hat:=rF (f:=tenE) hx
  rw [eL hat] at hI
  have q1:decide ((k:Int)<6)=true:=Qf
  have hw:IntKind.i64.wrap ((k:Int)+1)=((k+1:Nat):Int):=P9
  simp only [q1,↓R1,RR,seval,q1,he,hw,hcl,hca,hc0,h31,h32,hln,l32,hv]
  have hv:=xJ ck hx
  have l1:1+k*5+5≤33:=P6
  simp only [q1,l1,↓R1,RR,seval,q1,he,hw,hcl,hca,hc0,h31,h32,hln,l32,hv]
  repeat' (first|(with_reducible rw [ah])|(with_reducible refine And.intro ?_ ?_;exact af)|(with_reducible apply And.intro)|((first|(refine bL (fun hc=>?_) (fun hc=>?_)<;>(try simp only [hc,↓R1,RR,seval,q1,he,hw,hcl,hca,hc0,h31,h32,hln,l32,hv]))|refine ar (fun hc=>?_) (fun hc=>?_)|(with_reducible intro β hβ;(try simp only [RB] at hβ);(repeat (obtain ⟨⟨_,_⟩,hβ⟩:=hβ));(try (have hbis:=aj Qa hβ;obtain ⟨_,_⟩:=hbis)))|refine Pt (M9 x) ?_|refine Ct (M9 x) ?_)<;>(try simp only [↓R1,RR,seval,q1,he,hw,hcl,hca,hc0,h31,h32,hln,l32,hv])))
  ·(refine ak ?_);(simp only [an,↓R1,RR,seval,q1,he,hw,hcl,hca,hc0,h31,h32,hln,l32,hv];rw [mR];(refine qj ?_);(refine At ?_ Qd);simp only [Int.toNat_natCast,Int.toNat_zero])
   have e2:=Hg x QC
   rw [e2] at hI
   exact Ee hov hI1 hI
  ·rw [if_pos QC] at hI;exact hI
  ·simp [aq,slot,ae]
  ·exact St.le_refl _
 have hke:k=6:=P6
 subst hke
 have hI2:firstE (c.tens.map tenE) 0=none:=by rw [hI,List.drop_eq_nil_of_le (by simp [h6])];rfl
 have q1:decide (((6:Nat):Int)<6)=false:=Qg
 simp only [q1,↓R1,RR,seval,q1,he,hw,hcl,hca,hc0,h31,h32,hln,l32,hv]
 repeat' (first|(with_reducible rw [ah])|(with_reducible refine And.intro ?_ ?_;exact af)|(with_reducible apply And.intro)|((first|(refine bL (fun hc=>?_) (fun hc=>?_)<;>(try simp only [hc,↓R1,RR,seval,q1,he,hw,hcl,hca,hc0,h31,h32,hln,l32,hv]))|refine ar (fun hc=>?_) (fun hc=>?_)|(with_reducible intro β hβ;(try simp only [RB] at hβ);(repeat (obtain ⟨⟨_,_⟩,hβ⟩:=hβ));(try (have hbis:=aj Qa hβ;obtain ⟨_,_⟩:=hbis))))<;>(try simp only [↓R1,RR,seval,q1,he,hw,hcl,hca,hc0,h31,h32,hln,l32,hv])))
 refine aS c.ruls.length (fun k=> [(1, .ptr β 0),(7, .int .i64 (k:Nat))]) (fun _=>σ.aa β (aR c)) (fun k=>firstE (c.ruls.map rulE) 0=firstE ((c.ruls.map rulE).drop k) k) Qi (St.le_refl _) rfl (fun k hk hI=>?_)
 by_cases hlt:k<c.ruls.length
 ·obtain ⟨x,hx⟩:∃ x,c.ruls[k]? =some x:=⟨_,List.getElem?_eq_getElem hlt⟩
  have hat:=rF (f:=rulE) hx
  rw [eL hat] at hI
  have he:=di (f:=cg) (m:=7) (fun _=>rfl) hx
  have hln:=eX c.ruls
  have hxm:=ck.lrul x (List.mem_of_getElem? hx)
  have q1:decide ((k:Int)<(c.ruls.length:Int))=true:=Qf
  have hw:IntKind.i64.wrap ((k:Int)+1)=((k+1:Nat):Int):=P9
  have l31:31<33:=Qg
  simp only [q1,l31,↓R1,RR,seval,q1,he,hw,hcl,hca,hc0,h31,h32,hln,l32,hv]
  repeat' (first|(with_reducible rw [ah])|(with_reducible refine And.intro ?_ ?_;exact af)|(with_reducible apply And.intro)|((first|(refine bL (fun hc=>?_) (fun hc=>?_)<;>(try simp only [hc,↓R1,RR,seval,q1,he,hw,hcl,hca,hc0,h31,h32,hln,l32,hv]))|refine ar (fun hc=>?_) (fun hc=>?_)|(with_reducible intro β hβ;(try simp only [RB] at hβ);(repeat (obtain ⟨⟨_,_⟩,hβ⟩:=hβ));(try (have hbis:=aj Qa hβ;obtain ⟨_,_⟩:=hbis)))|refine Pt (Na x hxm.1 hxm.2) ?_|refine Ct (Na x hxm.1 hxm.2) ?_)<;>(try simp only [↓R1,RR,seval,q1,he,hw,hcl,hca,hc0,h31,h32,hln,l32,hv])))
  ·exact Nat.le_refl 7
  ·(refine ak ?_);(simp only [an,↓R1,RR,seval,q1,he,hw,hcl,hca,hc0,h31,h32,hln,l32,hv];rw [mR];(refine qj ?_);(refine At ?_ Qd);simp only [Int.toNat_natCast,Int.toNat_zero])
   rw [if_neg QC] at hI
   exact Ef hov hI1 hI2 hI
  ·rw [if_pos QC] at hI;exact hI
  ·simp [aq,slot,ae]
  ·exact St.le_refl _
 have hke:k=c.ruls.length:=P6
 subst hke
 have hI3:firstE (c.ruls.map rulE) 0=none:=by rw [hI,List.drop_eq_nil_of_le Qd];rfl
 have q1:decide ((c.ruls.length:Int)<(c.ruls.length:Int))=false:=Qd
 have l31:31<33:=Qg
 simp only [q1,l31,↓R1,RR,seval,q1,he,hw,hcl,hca,hc0,h31,h32,hln,l32,hv]
 repeat' (first|(with_reducible rw [ah])|(with_reducible refine And.intro ?_ ?_;exact af)|(with_reducible apply And.intro)|((first|(refine bL (fun hc=>?_) (fun hc=>?_)<;>(try simp only [hc,↓R1,RR,seval,q1,he,hw,hcl,hca,hc0,h31,h32,hln,l32,hv]))|refine ar (fun hc=>?_) (fun hc=>?_)|(with_reducible intro β hβ;(try simp only [RB] at hβ);(repeat (obtain ⟨⟨_,_⟩,hβ⟩:=hβ));(try (have hbis:=aj Qa hβ;obtain ⟨_,_⟩:=hbis))))<;>(try simp only [↓R1,RR,seval,q1,he,hw,hcl,hca,hc0,h31,h32,hln,l32,hv])))
 ·(refine ak ?_);(simp only [an,↓R1,RR,seval,q1,he,hw,hcl,hca,hc0,h31,h32,hln,l32,hv];rw [mR];(refine qj ?_);(refine At ?_ Qd);simp only [Int.toNat_natCast,Int.toNat_zero])
  refine Eg hov hI1 hI2 hI3 ?_
  rwa [Bool.or_eq_true,decide_eq_true_eq,decide_eq_true_eq] at hc
 ·(refine ak ?_);(simp only [an,↓R1,RR,seval,q1,he,hw,hcl,hca,hc0,h31,h32,hln,l32,hv];rw [mR];(refine qj ?_);(refine At ?_ Qd);simp only [Int.toNat_natCast,Int.toNat_zero])
  refine Hf hov hI1 hI2 hI3 ?_
  rw [Bool.or_eq_false_iff,decide_eq_false_iff_not,decide_eq_false_iff_not] at hc;omega
def lg (t:List UInt8):Bool:=t.all aG
theorem rP {c:UInt8} {t:List UInt8} (h:lg (c::t)=true) (hc:c≠35):bareS (c::t)=true:=by
 unfold lg at h
 simp [bareS,h,hc]
theorem hZ {a b:List UInt8}:lg (a++b)=(lg a&&lg b):=by simp [lg]
theorem oC:∀ k:Fin 10,aG (UInt8.ofNat (48+k.val))=true∧UInt8.ofNat (48+k.val)≠35:=Qg
theorem um (n:Nat):lg (decDigits n)=true∧∃ c t,decDigits n=c::t∧c≠35:=by
  induction n using Nat.strongRecOn with
  | _ n ih =>
    rw [decDigits]
    split
    · rename_i h
      obtain ⟨h1,h2⟩:=oC ⟨n,h⟩
      exact ⟨by simp only [lg,List.all_cons,List.all_nil,Bool.and_true];exact h1,_,_,rfl,h2⟩
    · rename_i h
      obtain ⟨h1,c,t,h2,h3⟩:=ih (n / 10) P6
      obtain ⟨h4,_⟩:=oC ⟨n % 10,by omega⟩
      refine ⟨?_,c,t++_,by rw [h2];rfl,h3⟩
      rw [hZ,h1,Bool.true_and]
      simp only [lg,List.all_cons,List.all_nil,Bool.and_true];exact h4
theorem uo (n:Nat):bareS (decDigits n)=true:=by
 obtain ⟨h1,c,t,h2,h3⟩:=um n
 rw [h2] at h1 ⊢;exact rP h1 h3
theorem fS (n:Int):bareS (itoa n)=true:=by
 unfold itoa
 split
 ·refine rP ?_ Qg
  have:=(um n.natAbs).1
  simp only [lg,List.all_cons] at this ⊢
  rw [this];rfl
 ·exact uo _
theorem qk (k:Nat) (hk:k<100):lg (iR k)=true:=by
 have:∀ k:Fin 100,lg (iR k.val)=true:=Qg
 exact this ⟨k,hk⟩
theorem mK:∀ l:List Nat,(∀ k∈l,k<100)→lg (ei l)=true
  | [],_=>rfl
  | k :: l, h => by
    have h1:=qk k (h k Qd)
    have h2:=mK l (fun j hj=>h j (by simp [hj]))
    simp only [ei]
    rw [show (44::(iR k++ei l))= [44]++(iR k++ei l) from rfl,hZ,hZ,h1,h2];rfl
theorem kj (a:BitVec 64):bareS (e8 a)=true:=by
  refine rP ?_ Qg
  rw [show (123::(eT (db a)++ [125]))= [123]++(eT (db a)++ [125]) from rfl,hZ,hZ]
  have hc:∀ k∈db a,k<100:=fun k hk=>by
    have:k<64:=List.mem_range.1 (List.mem_filter.1 hk).1
    omega
  have:lg (eT (db a))=true:=by
    cases hq:db a with
    | nil=>rfl
    | cons k l =>
      rw [hq] at hc
      simp only [eT]
      rw [hZ,qk k (hc k Qd),mK l (fun j hj=>hc j (by simp [hj]))];rfl
  rw [this];rfl
theorem rQ {k:Int} (h:0≤k∧k≤25):bareS (dy k)=true:=by
 obtain ⟨n,rfl⟩:=Int.eq_ofNat_of_zero_le h.1
 have:∀ n:Fin 26,bareS (dy (n.val:Int))=true:=Qg
 exact this ⟨n,by omega⟩
def rowT (ws:List (List UInt8)):List UInt8:=Lib.join ws [32]++ [10]
theorem mL:∀ {ws:List (List UInt8)},(∀ t∈ws,bareS t=true)→cQ (ws.map mkW)=some ws
  | [],_=>rfl
  | t :: ws, h => by
    have h1:=h t Qd
    have h2:=mL (ws:=ws) (fun x hx=>h x QT)
    simp only [List.map_cons,cQ,mkW,h1,h2,cd,Bool.not_true]
    rfl
structure RowOk (ws:List (List UInt8)):Prop where
 ne:ws≠ []
 bare:∀ t∈ws,bareS t=true
 len:(rowT ws).length≤700
 num:ws.length≤20
 wl:∀ t∈ws,t.length≤300
theorem oD:∀ (W:List (List (List UInt8))) (out:List UInt8),(∀ ws∈W,RowOk ws)→out.length+700*W.length≤20000→gA out (W.map mkR)= .ok (out++(W.map rowT).flatten)
  | [],out,_,_=>by simp [gA]
  | ws :: W, out, h, hl => by
    have h1:=h ws Qd
    have h0:¬ (mkR ws).ws.length=0:=by
      simp only [mkR,List.length_map]
      intro h0;exact h1.ne (List.eq_nil_of_length_eq_zero h0)
    have h2:=h1.len
    rw [List.length_cons] at hl
    have h3:¬ (1000<(Lib.join ws [32]).length∨20000<(out++(Lib.join ws [32]++ [10])).length):=by
      rw [List.length_append]
      unfold rowT at h2
      rw [List.length_append] at h2 ⊢
      simp only [List.length_cons,List.length_nil] at h2 ⊢
      omega
    simp only [List.map_cons,gA]
    rw [if_neg h0,show cQ (mkR ws).ws=some ws from mL h1.bare]
    simp only
    rw [if_neg h3,show out++(Lib.join ws [32]++ [10])=out++rowT ws from rfl,oD W (out++rowT ws) (fun x hx=>h x QT) (by rw [List.length_append];omega)]
    simp
theorem oE {W:List (List (List UInt8))} (h:∀ ws∈W,RowOk ws) (hl:W.length≤28):mq (W.map mkR)= .ok (W.map rowT).flatten:=by
 rw [mq,oD W [] h Qr];rfl
theorem Au {ws:List (List UInt8)} (h:RowOk ws):mq [mkR ws]= .ok (rowT ws):=by
 have:=oE (W:= [ws]) Rf Qd
 simpa using this
theorem gF:∀ {l:List Int} {i:Nat},firstE l i=none→∀ e∈l,e=0
  | [],_,_,_,h=>by simp at h
  | x :: l, i, h, e, he => by
    unfold firstE at h
    split at h
    · rename_i h0
      rcases List.mem_cons.1 he with rfl|he
      · exact h0
      · exact gF h e he
    · cases h
theorem jG:∀ {l:List Int} {i:Nat} {p:Int × Nat},firstE l i=some p→p.1≠0
  | [],_,_,h=>by cases h
  | x :: l, i, p, h => by
    unfold firstE at h
    split at h
    · exact jG h
    · rename_i h0;cases h;exact h0
structure Fine (c:CfgI):Prop where
 ncls:c.cls.length≤8
 nrul:c.ruls.length≤8
 cls:firstE (clsEs [] c.cls) 0=none
 ten:∀ x∈c.tens,tenE x=0
 rul:∀ x∈c.ruls,rulE x=0
 hor:1≤c.hor∧c.hor≤10000
theorem uq {c:CfgI} (h:(de c).1=0):Fine c:=by
 unfold de at h
 split at h
 ·cases h
 ·rename_i h0
  split at h
  ·rename_i p hp;exact (jG hp h).elim
  ·rename_i h1
   split at h
   ·rename_i p hp;exact (jG hp h).elim
   ·rename_i h2
    split at h
    ·rename_i p hp;exact (jG hp h).elim
    ·rename_i h3
     split at h
     ·cases h
     ·refine ⟨by omega,by omega,h1,fun x hx=>gF h2 _ (List.mem_map.2 ⟨x,hx,rfl⟩),fun x hx=>gF h3 _ (List.mem_map.2 ⟨x,hx,rfl⟩),by omega⟩
theorem oF {l:List ClsI} {k:Nat} {x:ClsI} (h:firstE (clsEs [] l) 0=none) (hx:l[k]? =some x):(1≤x.size∧x.size≤64)∧(0≤x.rate∧x.rate≤64):=by
 have h1:=k9 (seen:= []) hx
 have h2:=gF h _ (List.mem_of_getElem? h1)
 unfold jN at h2
 split at h2
 ·cases h2
 ·rename_i h3
  simp only [dz,inB,Bool.and_true,Bool.not_eq_false,Bool.and_eq_true,Bool.not_eq_true',Bool.or_eq_false_iff,decide_eq_false_iff_not] at h3
  omega
theorem oG {x:TenI} (h:tenE x=0):(1≤x.budget∧x.budget≤64)∧(0≤x.queries∧x.queries≤4)∧(0≤x.cap∧x.cap≤64)∧(0≤x.out∧x.out≤64)∧(0≤x.audit∧x.audit≤64):=by
 unfold tenE at h
 split at h
 ·cases h
 ·rename_i h3
  simp only [dz,inB,Bool.and_true,Bool.not_eq_false,Bool.and_eq_true,Bool.not_eq_true',Bool.or_eq_false_iff,decide_eq_false_iff_not] at h3
  omega
theorem oH {x:RulI} (h:rulE x=0):(1≤x.owner∧x.owner≤6)∧(0≤x.kind∧x.kind≤25)∧(x.any=true→x.kind=0)∧leB (lab x.res) (lab x.auth)=true∧x.low≤x.high:=by
 unfold rulE at h
 split at h
 ·cases h
 ·rename_i h3
  split at h
  ·cases h
  ·rename_i h4
   split at h
   ·cases h
   ·rename_i h5
    simp only [Bool.or_eq_true,decide_eq_true_eq,Bool.and_eq_true,bne_iff_ne,ne_eq,not_or,not_and,Decidable.not_not] at h3
    refine ⟨by omega,by omega,h3.2,by simpa using h4,by omega⟩
theorem ql {ws:List (List UInt8)} (h:RowOk ws):qU [mkR ws]:=by
 refine ⟨by simp,fun r hr=>?_⟩
 have e:=List.mem_singleton.1 hr
 subst e
 have h1:=h.num
 refine ⟨by simp [mkR];omega,fun w hw=>?_⟩
 obtain ⟨t,ht,rfl⟩:=List.mem_map.1 hw
 have:=h.wl t ht
 show t.length≤20000
 omega
theorem wu {W:List (List (List UInt8))} (h:∀ ws∈W,RowOk ws) (hl:W.length≤28):qU (W.map mkR):=by
 refine ⟨by simp;omega,fun r hr=>?_⟩
 obtain ⟨ws,hws,rfl⟩:=List.mem_map.1 hr
 exact (ql (h ws hws)).2 _ Qd
theorem lh:∀ (ws:List (List UInt8)),ws≠ []→(rowT ws).length=(ws.map (fun t=>t.length+1)).sum
  | [],h=>(h rfl).elim
  | [x],_=>by simp [rowT,Lib.join_one]
  | x :: y :: l, _ => by
    have h1:=lh (y::l) Qd
    simp only [rowT,List.length_append,List.length_cons,List.length_nil,List.map_cons,List.sum_cons,Lib.join,List.intercalate,List.intersperse,List.flatten_cons,List.flatten_nil] at h1 ⊢
    omega
theorem Nb (u:Nat) (h:u<18446744073709551616):PuG Tryz.prog gl3 168 [.int .u64 u, .int .i64 10] (.str (decDigits u)):=by
 intro σ hσ
 refine AC.gV (Go.Proofs.enters_of Tryz.func168 P7 rfl) ?_
 intro g w vs hI hv
 obtain ⟨v1,vs,rfl,r1,hv⟩:=hv.cons_inv
 obtain ⟨v2,vs,rfl,r2,hv⟩:=hv.cons_inv
 rw [hv.cG,r1.bx,r2.bx]
 refine (Pg u h w (mh hI GG (hσ _ _ rfl))).mono ?_
 rintro e w' ⟨rfl,k',os,rfl⟩
 refine ⟨_,rfl,⟨rfl,rfl,rfl,by simp [Go.Sort.grow,World.drewN],fun i hi=>?_⟩,fun g' _=> .str _⟩
 simp only [Go.Sort.grow,World.drewN]
 rw [Array.getElem?_append_left hi]
theorem K1 (u:Nat) (h:u<18446744073709551616):PuG Tryz.prog gl3 110 [.int .u64 u, .int .i64 10] (.str (decDigits u)):=by
 have h1:=Nb u h
 (refine cP IW Ny fun σ hσ=>?_;simp only [IW,↓R1,RR,seval])
 repeat' ((refine PuG.to (h1) hσ (ad _) ?_)<;>(try simp only [↓R1,RR,seval]))
 (refine ak (ag ?_))
 (simp only [an,↓R1,RR,seval])
theorem Nd (n:Int) (hn:I64 n):PuG Tryz.prog gl3 109 [.int .i64 n, .int .i64 10] (.str (itoa n)):=fun σ hσ=>O8 n σ hn.1 hn.2 (hσ _ _ rfl)
theorem p50 (n:Nat) (hn:n<18446744073709551616):PuG Tryz.prog gl3 50 [.int .u64 (n:Nat)] (.str (decDigits n)):=by
 have h1:=K1 n hn
 have q1:decide ((n:Int)<0)=false:=Qd
 (refine cP c50 b50 fun σ hσ=>?_;simp only [c50,↓R1,RR,seval,q1])
 repeat' ((refine PuG.to (h1) hσ (ad _) ?_)<;>(try simp only [↓R1,RR,seval,q1]))
 (refine ak (ag ?_))
 (simp only [an,↓R1,RR,seval,q1])
theorem p52 (n:Int) (hn:I64 n):PuG Tryz.prog gl3 52 [.int .i64 n] (.str (itoa n)):=by
 have hw:True:=trivial
 by_cases h0:n<0
 ·have h1:=Nd n hn
  have q1:decide (n<0)=true:=Q9
  (refine cP c52 b52 fun σ hσ=>?_;simp only [c52,↓R1,RR,seval,q1,hw])
  repeat' ((refine PuG.to (h1) hσ (ad _) ?_)<;>(try simp only [↓R1,RR,seval,q1,hw]))
  (refine ak (ag ?_))
  (simp only [an,↓R1,RR,seval,q1,hw])
 ·obtain ⟨m,rfl⟩:=Int.eq_ofNat_of_zero_le (show 0≤n by omega)
  unfold I64 at hn
  have h1:=K1 m P6
  have q1:decide ((m:Int)<0)=false:=Qd
  have hw:IntKind.u64.wrap (m:Int)=(m:Int):=wP P6 P6
  rw [n5]
  (refine cP c52 b52 fun σ hσ=>?_;simp only [c52,↓R1,RR,seval,q1,hw])
  repeat' ((refine PuG.to (h1) hσ (ad _) ?_)<;>(try simp only [↓R1,RR,seval,q1,hw]))
  (refine ak (ag ?_))
  (simp only [an,↓R1,RR,seval,q1,hw])
theorem p54 (n:Int) (hn:I64 n):PuG Tryz.prog gl3 54 [.int .i64 n] (.str (itoa n)):=by
 have hw:True:=trivial
 by_cases h0:n<0
 ·have h1:=Nd n hn
  have q1:decide (n<0)=true:=Q9
  (refine cP c54 b54 fun σ hσ=>?_;simp only [c54,↓R1,RR,seval,q1,hw])
  repeat' ((refine PuG.to (h1) hσ (ad _) ?_)<;>(try simp only [↓R1,RR,seval,q1,hw]))
  (refine ak (ag ?_))
  (simp only [an,↓R1,RR,seval,q1,hw])
 ·obtain ⟨m,rfl⟩:=Int.eq_ofNat_of_zero_le (show 0≤n by omega)
  unfold I64 at hn
  have h1:=K1 m P6
  have q1:decide ((m:Int)<0)=false:=Qd
  have hw:IntKind.u64.wrap (m:Int)=(m:Int):=wP P6 P6
  rw [n5]
  (refine cP c54 b54 fun σ hσ=>?_;simp only [c54,↓R1,RR,seval,q1,hw])
  repeat' ((refine PuG.to (h1) hσ (ad _) ?_)<;>(try simp only [↓R1,RR,seval,q1,hw]))
  (refine ak (ag ?_))
  (simp only [an,↓R1,RR,seval,q1,hw])
theorem p74 {l:List (List UInt8)} (h:RowOk l):Pu Tryz.prog 74 [.sl true l.length (l.map AV.str)] (.tup [.str (rowT l), .int .i64 0]):=by
 have h0:=Pp l (by have:=h.num;omega) (fun t ht=>by have:=h.wl t ht;omega)
 have h1:=Pn [mkR l] (ql h)
 rw [Au h] at h1
 simp only [List.flatMap_cons,List.flatMap_nil,List.append_nil,List.length_cons,List.length_nil,Nat.zero_add,wX] at h1
 (refine al c74 b74 fun σ=>?_;simp only [c74,↓R1,RR,seval,List.length_map])
 repeat' (first|(with_reducible apply And.intro)|((first|((refine Pu.to (h0) ?_ ?_;(focus exact dN)))|((refine Pu.to (h1) ?_ ?_;(focus exact dN))))<;>(try simp only [↓R1,RR,seval,List.length_map])))
 ·rfl
 ·(refine ak (ag ?_))
  (simp only [an,↓R1,RR,seval,List.length_map])
theorem a49 {σ:St} {β:Nat} {out:List UInt8} {l:List (List UInt8)} (hb:σ.box β=some [.str out, .int .i64 0]) (h:RowOk l) (hl:out.length≤20000):AC Tryz.prog 49 [.ptr β 0, .sl true l.length (l.map AV.str)] σ (fun r s=>r= .tup []∧s=σ.aa β [.str (out++rowT l), .int .i64 0]):=by
 have h0:=p74 h
 have h300:=h.len
 (refine bg c49 b49 ?_;simp only [c49,↓R1,RR,seval,hb,List.length_map,h300])
 repeat' (first|(with_reducible refine And.intro ?_ ?_;exact af)|((refine Pt (h0) ?_)<;>(try simp only [↓R1,RR,seval,hb,List.length_map,h300])))
 (refine cb ?_)
 exact ⟨rfl,rfl⟩
def gp (c:CfgI):List (List UInt8):= [[104,111,114,105,122,111,110],decDigits c.hor.toNat]
def gM (x:ClsI):List (List UInt8):= [[99,108,97,115,115],e8 (lab x.l),itoa x.size,itoa x.rate]
def iT (x:TenI):List (List UInt8):= [[116,101,110,97,110,116],itoa x.budget,itoa x.queries,itoa x.cap,itoa x.out,itoa x.audit]
def iQ (x:RulI):List UInt8:=if x.any then [97,110,121] else dy x.kind
def gr (x:RulI):List (List UInt8):= [[114,117,108,101],itoa x.owner,e8 (lab x.auth),e8 (lab x.res),iQ x,itoa x.low,itoa x.high]
def kn (c:CfgI):List (List (List UInt8)):=gp c::(c.cls.map gM++c.tens.map iT++c.ruls.map gr)
theorem nj {c:CfgI} (h:Fine c):RowOk (gp c):=by
 have h1:=uo c.hor.toNat
 have h2:=lX c.hor.toNat (by have:=h.hor;omega)
 refine ⟨by simp [gp],?_,?_,by simp [gp],?_⟩
 ·intro t ht
  simp only [gp,List.mem_cons,List.not_mem_nil,or_false] at ht
  rcases ht with rfl|rfl
  ·decide
  ·exact h1
 ·rw [lh _ (by simp [gp])]
  simp only [gp,List.map_cons,List.map_nil,List.sum_cons,List.sum_nil,List.length_cons,List.length_nil];omega
 ·intro t ht
  simp only [gp,List.mem_cons,List.not_mem_nil,or_false] at ht
  rcases ht with rfl|rfl
  ·decide
  ·omega
theorem _root_.Qq {p:Prop} (h:p:=by unfold I64;omega):p:=h
theorem rR {x:ClsI} (h:(1≤x.size∧x.size≤64)∧(0≤x.rate∧x.rate≤64)):RowOk (gM x):=by
 have h1:=lY (lab x.l)
 have h2:=er x.size Qq
 have h3:=er x.rate Qq
 refine ⟨by simp [gM],?_,?_,by simp [gM],?_⟩
 ·intro t ht
  simp only [gM,List.mem_cons,List.not_mem_nil,or_false] at ht
  rcases ht with rfl|rfl|rfl|rfl
  ·decide
  ·exact kj _
  ·exact fS _
  ·exact fS _
 ·rw [lh _ (by simp [gM])]
  simp only [gM,List.map_cons,List.map_nil,List.sum_cons,List.sum_nil,List.length_cons,List.length_nil];omega
 ·intro t ht
  simp only [gM,List.mem_cons,List.not_mem_nil,or_false] at ht
  rcases ht with rfl|rfl|rfl|rfl
  ·decide
  all_goals omega
theorem rS {x:TenI} (h:(1≤x.budget∧x.budget≤64)∧(0≤x.queries∧x.queries≤4)∧(0≤x.cap∧x.cap≤64)∧(0≤x.out∧x.out≤64)∧(0≤x.audit∧x.audit≤64)):RowOk (iT x):=by
 have h1:=er x.budget Qq
 have h2:=er x.queries Qq
 have h3:=er x.cap Qq
 have h4:=er x.out Qq
 have h5:=er x.audit Qq
 refine ⟨by simp [iT],?_,?_,by simp [iT],?_⟩
 ·intro t ht
  simp only [iT,List.mem_cons,List.not_mem_nil,or_false] at ht
  rcases ht with rfl|rfl|rfl|rfl|rfl|rfl
  ·decide
  all_goals exact fS _
 ·rw [lh _ (by simp [iT])]
  simp only [iT,List.map_cons,List.map_nil,List.sum_cons,List.sum_nil,List.length_cons,List.length_nil];omega
 ·intro t ht
  simp only [iT,List.mem_cons,List.not_mem_nil,or_false] at ht
  rcases ht with rfl|rfl|rfl|rfl|rfl|rfl
  ·decide
  all_goals omega
theorem Av {x:RulI} (h:0≤x.kind∧x.kind≤25):bareS (iQ x)=true∧(iQ x).length≤3:=by
 unfold iQ
 split
 ·decide
 ·exact ⟨rQ h,by have:=tA x.kind;omega⟩
theorem rT {x:RulI} (ho:1≤x.owner∧x.owner≤6) (hk:0≤x.kind∧x.kind≤25) (hl:I64 x.low) (hh:I64 x.high):RowOk (gr x):=by
 have h1:=er x.owner Qq
 have h2:=lY (lab x.auth)
 have h3:=lY (lab x.res)
 obtain ⟨k1,k2⟩:=Av hk
 have h5:=er x.low hl
 have h6:=er x.high hh
 refine ⟨by simp [gr],?_,?_,by simp [gr],?_⟩
 ·intro t ht
  simp only [gr,List.mem_cons,List.not_mem_nil,or_false] at ht
  rcases ht with rfl|rfl|rfl|rfl|rfl|rfl|rfl
  ·decide
  ·exact fS _
  ·exact kj _
  ·exact kj _
  ·exact k1
  ·exact fS _
  ·exact fS _
 ·rw [lh _ (by simp [gr])]
  simp only [gr,List.map_cons,List.map_nil,List.sum_cons,List.sum_nil,List.length_cons,List.length_nil];omega
 ·intro t ht
  simp only [gr,List.mem_cons,List.not_mem_nil,or_false] at ht
  rcases ht with rfl|rfl|rfl|rfl|rfl|rfl|rfl
  ·decide
  all_goals omega
def Cfg64 (c:CfgI):Prop:=∀ x∈c.ruls,I64 x.low∧I64 x.high
theorem ur {c:CfgI} (hk:CfgOk c) (h:Fine c) (h64:Cfg64 c):(∀ ws∈kn c,RowOk ws)∧(kn c).length≤28:=by
 refine ⟨fun ws hw=>?_,?_⟩
 ·rcases List.mem_cons.1 hw with rfl|hw
  ·exact nj h
  rcases List.mem_append.1 hw with hw|hw
  ·rcases List.mem_append.1 hw with hw|hw
   ·obtain ⟨x,hx,rfl⟩:=List.mem_map.1 hw
    obtain ⟨k,hk⟩:=List.getElem?_of_mem hx
    exact rR (oF h.cls hk)
   ·obtain ⟨x,hx,rfl⟩:=List.mem_map.1 hw
    exact rS (oG (h.ten x hx))
  ·obtain ⟨x,hx,rfl⟩:=List.mem_map.1 hw
   have h1:=oH (h.rul x hx)
   exact rT h1.1 h1.2.1 (h64 x hx).1 (h64 x hx).2
 ·have h1:=h.ncls
  have h2:=h.nrul
  have h3:=hk.six
  simp only [kn,List.length_cons,List.length_append,List.length_map];omega
def Eh (c:CfgI):List UInt8:=((kn c).map rowT).flatten
def lj (c:CfgI):AV:=if (de c).1=0 then .tup [.str (Eh c), .int .i64 0] else .tup [.str [], .int .i64 (de c).1]
theorem Aw {W:List (List (List UInt8))} (h:∀ ws∈W,RowOk ws):(W.map rowT).flatten.length≤700*W.length:=by
  induction W with
  | nil=>simp
  | cons x W ih =>
    have h1:=(h x Qd).len
    have h2:=ih (fun y hy=>h y (by simp [hy]))
    simp only [List.map_cons,List.flatten_cons,List.length_append,List.length_cons];omega
theorem l8 {α:Type} {f:α→List (List UInt8)} {l:List α} {k:Nat} {x:α} (A:List (List (List UInt8))) (h:l[k]? =some x):((A++(l.take k).map f).map rowT).flatten++rowT (f x)=((A++(l.take (k+1)).map f).map rowT).flatten:=by
 obtain ⟨h1,h2⟩:=List.getElem?_eq_some_iff.1 h
 rw [←List.take_append_getElem h1,h2]
 simp
theorem oI {α:Type} {f:α→List (List UInt8)} {A:List (List (List UInt8))} {l:List α} (hA:∀ ws∈A,RowOk ws) (hl:∀ x∈l,RowOk (f x)) (hn:A.length+l.length≤28) (k:Nat):((A++(l.take k).map f).map rowT).flatten.length≤20000:=by
 have h:=Aw (W:=A++(l.take k).map f) (fun ws hw=>by
  rcases List.mem_append.1 hw with hw|hw
  ·exact hA ws hw
  ·obtain ⟨x,hx,rfl⟩:=List.mem_map.1 hw
   exact hl x (List.mem_of_mem_take hx))
 rw [List.length_append,List.length_map,List.length_take] at h
 omega
theorem _root_.Ra {p:Prop} (h:p:=by have:=hF.hor;omega):p:=h
theorem _root_.Q0 {p:Prop} (h:p:=by simp only [kn,List.mem_cons,List.mem_append,List.mem_map];exact .inr (.inl (.inl ⟨x,hx,rfl⟩))):p:=h
theorem _root_.QZ {p:Prop} (h:p:=by simp only [kn,List.mem_cons,List.mem_append,List.mem_map];exact .inr (.inl (.inr ⟨x,hx,rfl⟩))):p:=h
theorem _root_.Q2 {p:Prop} (h:p:=by simp only [kn,List.mem_cons,List.mem_append,List.mem_map];exact .inr (.inr ⟨x,hx,rfl⟩)):p:=h
theorem _root_.Rm {p:Prop} (h:p:=by subst hO2 hO3;simp only;rw [List.take_of_length_le (by omega)];simp):p:=h
theorem _root_.Qn {p:Prop} (h:p:=by simp only [↓R1,RR,seval,q1,he,hw,hcl,hca,hc0,h31,h32,hln,l32,hany]):p:=h
set_option maxHeartbeats 8000000 in
theorem p18 {c:CfgI} (ck:CfgOk c) (h64:Cfg64 c):PuG Tryz.prog gl3 18 [.agg (aR c)] (lj c):=by
  have hcl:=eA ck
  have hca:=gD ck
  have hc0:=oq c
  have h31:=ot ck
  have h32:=rE ck
  have q1:True:=trivial
  have he:True:=trivial
  have hw:True:=trivial
  have hln:True:=trivial
  have hany:True:=trivial
  have l32:32<(aR c).length:=QX
  have hck:=p48 ck
  unfold mR at hck
  by_cases hz:(de c).1=0
  · have hF:=uq hz
    obtain ⟨hr,hrl⟩:=ur ck hF h64
    have n1:=hF.ncls
    have n2:=hF.nrul
    have h6:=ck.six
    have hhn:((c.hor.toNat:Nat):Int)=c.hor:=Ra
    have h50:=p50 c.hor.toNat Ra
    rw [hhn] at h50
    have q1:((de c).1 != 0)=false:=by rw [hz];rfl
    rw [lj,if_pos hz]
    (refine cP c18 b18 fun σ hσ=>?_;simp only [c18,↓R1,RR,seval,q1,he,hw,hcl,hca,hc0,h31,h32,hln,l32,hany])
    repeat' ((first|(with_reducible intro β hβ;(try simp only [RB] at hβ);(repeat (obtain ⟨⟨_,_⟩,hβ⟩:=hβ));(try (have hbis:=aj Qa hβ;obtain ⟨_,_⟩:=hbis)))|(refine Pt (hck) ?_)|(refine PuG.to (h50) hσ (ad _) ?_)|((refine AC.mono (AC.wk (a49 (out:= []) (l:=gp c) ?_ (nj hF) Qg) (ad _)) ?_;(focus (simp only [↓R1,RR,seval,q1,he,hw,hcl,hca,hc0,h31,h32,hln,l32,hany];done));(rintro _ _ ⟨rfl,rfl⟩))))<;>(try simp only [↓R1,RR,seval,q1,he,hw,hcl,hca,hc0,h31,h32,hln,l32,hany]))
    rename_i B hB aB1 aB2
    have rc:∀ x∈c.cls,RowOk (gM x):=fun x hx=>hr _ Q0
    have rt:∀ x∈c.tens,RowOk (iT x):=fun x hx=>hr _ QZ
    have rr:∀ x∈c.ruls,RowOk (gr x):=fun x hx=>hr _ Q2
    have r1:∀ ws∈ [gp c],RowOk ws:=fun ws h=>by rw [List.mem_singleton.1 h];exact nj hF
    have r2:∀ ws∈ [gp c]++c.cls.map gM,RowOk ws:=fun ws h=>by
      rcases List.mem_append.1 h with h|h
      · exact r1 ws h
      · obtain ⟨x,hx,rfl⟩:=List.mem_map.1 h;exact rc x hx
    have r3:∀ ws∈([gp c]++c.cls.map gM)++c.tens.map iT,RowOk ws:=fun ws h=>by
      rcases List.mem_append.1 h with h|h
      · exact r2 ws h
      · obtain ⟨x,hx,rfl⟩:=List.mem_map.1 h;exact rt x hx
    obtain ⟨O1,hO1⟩:∃ O1:Nat→List UInt8,O1=fun k=>(([gp c]++(c.cls.take k).map gM).map rowT).flatten:=⟨_,rfl⟩
    obtain ⟨O2,hO2⟩:∃ O2:Nat→List UInt8,O2=fun k=>((([gp c]++c.cls.map gM)++(c.tens.take k).map iT).map rowT).flatten:=⟨_,rfl⟩
    obtain ⟨O3,hO3⟩:∃ O3:Nat→List UInt8,O3=fun k=>(((([gp c]++c.cls.map gM)++c.tens.map iT)++(c.ruls.take k).map gr).map rowT).flatten:=⟨_,rfl⟩
    have z1:([]++rowT (gp c):List UInt8)=O1 0:=by subst hO1;simp
    have z2:O1 c.cls.length=O2 0:=by subst hO1 hO2;simp
    have z3:O2 6=O3 0:=Rm
    have z4:O3 c.ruls.length=Eh c:=by subst hO3;simp [Eh,kn]
    have len1:∀ k,(O1 k).length≤20000:=fun k=>by subst hO1;exact oI r1 rc Qr k
    have An:∀ k,(O2 k).length≤20000:=fun k=>by subst hO2;exact oI r2 rt Qr k
    have len3:∀ k,(O3 k).length≤20000:=fun k=>by subst hO3;exact oI r3 rr Qr k
    refine aS c.cls.length (fun k=> [(1, .ptr B 0),(6, .ptr β 0),(31, .sl false c.cls.length (c.cls.flatMap bE)),(32, .int .i64 (c.cls.length:Nat)),(33, .int .i64 (k:Nat))]) (fun k=>(σ.aa B (aR c)).aa β [.str (O1 k), .int .i64 0]) (fun _=>True) Qi (by rw [z1,St.set_set];exact St.le_refl _) trivial (fun k hk _=>?_)
    by_cases hlt:k<c.cls.length
    · obtain ⟨x,hx⟩:∃ x,c.cls[k]? =some x:=⟨_,List.getElem?_eq_getElem hlt⟩
      have he:=di (f:=bE) (m:=3) (fun _=>rfl) hx
      have hln:=fD c.cls
      simp only [bE] at he
      have q1:decide ((k:Int)<(c.cls.length:Int))=true:=Qf
      have hw:IntKind.i64.wrap ((k:Int)+1)=((k+1:Nat):Int):=P9
      have hfx:=oF hF.cls hx
      have d1:=PuG.up3 (p51 (lab x.l))
      rw [fu (ck.lcls x (List.mem_of_getElem? hx))] at d1
      have d2:=p52 x.size Qq
      have d3:=p52 x.rate Qq
      have o1:O1 k++rowT (gM x)=O1 (k+1):=by subst hO1;exact l8 [gp c] hx
      simp only [q1,↓R1,RR,seval,q1,he,hw,hcl,hca,hc0,h31,h32,hln,l32,hany]
      repeat' (first|(with_reducible rw [ah])|(with_reducible refine And.intro ?_ ?_;exact af)|(with_reducible apply And.intro)|((first|(with_reducible intro β hβ;(try simp only [RB] at hβ);(repeat (obtain ⟨⟨_,_⟩,hβ⟩:=hβ));(try (have hbis:=aj Qa hβ;obtain ⟨_,_⟩:=hbis)))|(refine bC (d1) hσ (ad _) ?_)|(refine bC (d2) hσ (ad _) ?_)|(refine bC (d3) hσ (ad _) ?_)|(refine fm (d:= [.str (O1 k), .int .i64 0]) Qn (a49 (out:=O1 k) (l:=gM x) Qn (rR hfx) (len1 k)) (ad _) ?_))<;>(try simp only [↓R1,RR,seval,q1,he,hw,hcl,hca,hc0,h31,h32,hln,l32,hany])))
      · simp [aq,slot,ae]
      · rw [o1]
        (refine St.aD (St.le_refl _) ?_;simp only [St.aU];assumption)
    have hke:k=c.cls.length:=P6
    subst hke
    have q1:decide ((c.cls.length:Int)<(c.cls.length:Int))=false:=Qd
    have hc1:=HL ck
    have l31:1+30≤33:=Qg
    simp only [q1,hc1,l31,↓R1,RR,seval,q1,he,hw,hcl,hca,hc0,h31,h32,hln,l32,hany]
    skip
    refine aS 6 (fun k=> [(1, .ptr B 0),(6, .ptr β 0),(51, .agg (c.tens.flatMap b7)),(52, .int .i64 (k:Nat))]) (fun k=>(σ.aa B (aR c)).aa β [.str (O2 k), .int .i64 0]) (fun _=>True) Qi (by rw [z2];exact St.le_refl _) trivial (fun k hk _=>?_)
    by_cases hlt:k<6
    · obtain ⟨x,hx⟩:∃ x,c.tens[k]? =some x:=⟨_,List.getElem?_eq_getElem P6⟩
      have he:=di (f:=b7) (m:=5) (fun _=>rfl) hx
      have hln:=bl c.tens
      rw [h6] at hln
      simp only [b7] at he
      have q1:decide ((k:Int)<6)=true:=Qf
      have hw:IntKind.i64.wrap ((k:Int)+1)=((k+1:Nat):Int):=P9
      have hfx:=oG (hF.ten x (List.mem_of_getElem? hx))
      have d1:=p52 x.budget Qq
      have d2:=p52 x.queries Qq
      have d3:=p52 x.cap Qq
      have d4:=p52 x.out Qq
      have d5:=p52 x.audit Qq
      have o1:O2 k++rowT (iT x)=O2 (k+1):=by subst hO2;exact l8 _ hx
      simp only [q1,↓R1,RR,seval,q1,he,hw,hcl,hca,hc0,h31,h32,hln,l32,hany]
      repeat' (first|(with_reducible rw [ah])|(with_reducible refine And.intro ?_ ?_;exact af)|(with_reducible apply And.intro)|((first|(with_reducible intro β hβ;(try simp only [RB] at hβ);(repeat (obtain ⟨⟨_,_⟩,hβ⟩:=hβ));(try (have hbis:=aj Qa hβ;obtain ⟨_,_⟩:=hbis)))|(refine bC (d1) hσ (ad _) ?_)|(refine bC (d2) hσ (ad _) ?_)|(refine bC (d3) hσ (ad _) ?_)|(refine bC (d4) hσ (ad _) ?_)|(refine bC (d5) hσ (ad _) ?_)|(refine fm (d:= [.str (O2 k), .int .i64 0]) Qn (a49 (out:=O2 k) (l:=iT x) Qn (rS hfx) (An k)) (ad _) ?_))<;>(try simp only [↓R1,RR,seval,q1,he,hw,hcl,hca,hc0,h31,h32,hln,l32,hany])))
      · simp [aq,slot,ae]
      · rw [o1]
        (refine St.aD (St.le_refl _) ?_;simp only [St.aU];assumption)
    have hke:k=6:=P6
    subst hke
    have q1:decide (((6:Nat):Int)<6)=false:=Qg
    have l31:31<33:=Qg
    simp only [q1,l31,↓R1,RR,seval,q1,he,hw,hcl,hca,hc0,h31,h32,hln,l32,hany]
    skip
    refine aS c.ruls.length (fun k=> [(6, .ptr β 0),(75, .sl false c.ruls.length (c.ruls.flatMap cg)),(76, .int .i64 (c.ruls.length:Nat)),(77, .int .i64 (k:Nat))]) (fun k=>(σ.aa B (aR c)).aa β [.str (O3 k), .int .i64 0]) (fun _=>True) Qi (by rw [z3];exact St.le_refl _) trivial (fun k hk _=>?_)
    by_cases hlt:k<c.ruls.length
    · obtain ⟨x,hx⟩:∃ x,c.ruls[k]? =some x:=⟨_,List.getElem?_eq_getElem hlt⟩
      have he:=di (f:=cg) (m:=7) (fun _=>rfl) hx
      have hln:=eX c.ruls
      simp only [cg] at he
      have q1:decide ((k:Int)<(c.ruls.length:Int))=true:=Qf
      have hw:IntKind.i64.wrap ((k:Int)+1)=((k+1:Nat):Int):=P9
      have hxm:=List.mem_of_getElem? hx
      have hfx:=oH (hF.rul x hxm)
      have hxl:=ck.lrul x hxm
      have hx64:=h64 x hxm
      have d1:=p52 x.owner Qq
      have d2:=PuG.up3 (p51 (lab x.auth))
      have d3:=PuG.up3 (p51 (lab x.res))
      rw [fu hxl.1] at d2
      rw [fu hxl.2] at d3
      have d4:=p53 x.kind
      have d5:=p54 x.low hx64.1
      have d6:=p54 x.high hx64.2
      have o1:O3 k++rowT (gr x)=O3 (k+1):=by subst hO3;exact l8 _ hx
      have hrw:=rT hfx.1 hfx.2.1 hx64.1 hx64.2
      cases hany:x.any with
      | true =>
        have hkw:iQ x= [97,110,121]:=by rw [iQ,hany];rfl
        have hrl:gr x= [[114,117,108,101],itoa x.owner,e8 (lab x.auth),e8 (lab x.res),[97,110,121],itoa x.low,itoa x.high]:=by rw [gr,hkw]
        rw [hrl] at hrw o1
        simp only [q1,↓R1,RR,seval,q1,he,hw,hcl,hca,hc0,h31,h32,hln,l32,hany]
        repeat' (first|(with_reducible rw [ah])|(with_reducible refine And.intro ?_ ?_;exact af)|(with_reducible apply And.intro)|((first|(with_reducible intro β hβ;(try simp only [RB] at hβ);(repeat (obtain ⟨⟨_,_⟩,hβ⟩:=hβ));(try (have hbis:=aj Qa hβ;obtain ⟨_,_⟩:=hbis)))|(refine bC (d1) hσ (ad _) ?_)|(refine bC (d2) hσ (ad _) ?_)|(refine bC (d3) hσ (ad _) ?_)|(refine bC (d5) hσ (ad _) ?_)|(refine bC (d6) hσ (ad _) ?_)|(refine fm (d:= [.str (O3 k), .int .i64 0]) Qn (a49 (out:=O3 k) Qn hrw (len3 k)) (ad _) ?_))<;>(try simp only [↓R1,RR,seval,q1,he,hw,hcl,hca,hc0,h31,h32,hln,l32,hany])))
        · simp [aq,slot,ae]
        · rw [o1]
          (refine St.aD (St.le_refl _) ?_;simp only [St.aU];assumption)
      | false =>
        have hkw:iQ x=dy x.kind:=by rw [iQ,hany];rfl
        have hrl:gr x= [[114,117,108,101],itoa x.owner,e8 (lab x.auth),e8 (lab x.res),dy x.kind,itoa x.low,itoa x.high]:=by rw [gr,hkw]
        rw [hrl] at hrw o1
        simp only [q1,↓R1,RR,seval,q1,he,hw,hcl,hca,hc0,h31,h32,hln,l32,hany]
        repeat' (first|(with_reducible rw [ah])|(with_reducible refine And.intro ?_ ?_;exact af)|(with_reducible apply And.intro)|((first|(with_reducible intro β hβ;(try simp only [RB] at hβ);(repeat (obtain ⟨⟨_,_⟩,hβ⟩:=hβ));(try (have hbis:=aj Qa hβ;obtain ⟨_,_⟩:=hbis)))|(refine Pt (d4) ?_)|(refine bC (d1) hσ (ad _) ?_)|(refine bC (d2) hσ (ad _) ?_)|(refine bC (d3) hσ (ad _) ?_)|(refine bC (d5) hσ (ad _) ?_)|(refine bC (d6) hσ (ad _) ?_)|(refine fm (d:= [.str (O3 k), .int .i64 0]) Qn (a49 (out:=O3 k) Qn hrw (len3 k)) (ad _) ?_))<;>(try simp only [↓R1,RR,seval,q1,he,hw,hcl,hca,hc0,h31,h32,hln,l32,hany])))
        · simp [aq,slot,ae]
        · rw [o1]
          (refine St.aD (St.le_refl _) ?_;simp only [St.aU];assumption)
    have hke:k=c.ruls.length:=P6
    subst hke
    have q1:decide ((c.ruls.length:Int)<(c.ruls.length:Int))=false:=Qd
    simp only [q1,↓R1,RR,seval,q1,he,hw,hcl,hca,hc0,h31,h32,hln,l32,hany]
    skip
    rw [z4]
    refine ak ?_
    simp only [an,↓R1,RR,seval,q1,he,hw,hcl,hca,hc0,h31,h32,hln,l32,hany]
    exact ae _
  · have q1:((de c).1 != 0)=true:=by rw [bne_iff_ne];exact hz
    rw [lj,if_neg hz]
    (refine cP c18 b18 fun σ hσ=>?_;simp only [c18,↓R1,RR,seval,q1,he,hw,hcl,hca,hc0,h31,h32,hln,l32,hany])
    repeat' ((first|(with_reducible intro β hβ;(try simp only [RB] at hβ);(repeat (obtain ⟨⟨_,_⟩,hβ⟩:=hβ));(try (have hbis:=aj Qa hβ;obtain ⟨_,_⟩:=hbis)))|(refine Pt (hck) ?_))<;>(try simp only [↓R1,RR,seval,q1,he,hw,hcl,hca,hc0,h31,h32,hln,l32,hany]))
    refine ak ?_
    simp only [an,↓R1,RR,seval,q1,he,hw,hcl,hca,hc0,h31,h32,hln,l32,hany]
    exact ae _
theorem bK (r:RI):(cRI r).length=2:=rfl
theorem bu {α:Type} (a b:α):List.drop 2 [a,b]= []:=rfl
theorem fP (n:Int) (hn:I64 n):Pu Tryz.prog 57 [.int .i64 n] (.str (itoa n)):=by
 have h0:=p60 n hn
 (refine al c57 b57 fun σ=>?_;simp only [c57,↓R1,RR,seval])
 repeat' ((refine Pt (h0) ?_)<;>(try simp only [↓R1,RR,seval]))
 (refine ak (ag ?_))
 (simp only [an,↓R1,RR,seval])
def fL (W:List (List (List UInt8))):List AV:=(W.map mkR).flatMap cRI
theorem ko (W:List (List (List UInt8))) (x:List (List UInt8)):fL W++cRI (mkR x)=fL (W++ [x]):=by simp [fL]
theorem l9 (W:List (List (List UInt8))):(fL W).length=W.length*2:=by rw [fL,bo,List.length_map]
theorem ma {α β:Type} {f:α→β} {l:List α} {k:Nat} {x:α} (A:List β) (h:l[k]? =some x):(A++(l.take k).map f)++ [f x]=A++(l.take (k+1)).map f:=by
 obtain ⟨h1,h2⟩:=List.getElem?_eq_some_iff.1 h
 rw [←List.take_append_getElem h1,h2]
 simp
set_option maxHeartbeats 8000000 in
theorem p19 {c:CfgI} (ck:CfgOk c) (h64:Cfg64 c):Pu Tryz.prog 19 [.agg (aR c)] (lj c):=by
  have hcl:=eA ck
  have hca:=gD ck
  have hc0:=oq c
  have h31:=ot ck
  have h32:=rE ck
  have q1:True:=trivial
  have he:True:=trivial
  have hw:True:=trivial
  have hln:True:=trivial
  have hlt6:True:=trivial
  have hv:True:=trivial
  have hany:True:=trivial
  have l32:32<(aR c).length:=QX
  have hck:=p55 ck
  unfold mR at hck
  by_cases hz:(de c).1=0
  · have hF:=uq hz
    obtain ⟨hr,hrl⟩:=ur ck hF h64
    have n1:=hF.ncls
    have n2:=hF.nrul
    have h6:=ck.six
    have hhw:IntKind.i64.wrap c.hor=c.hor:=wrap64 Ra Ra
    have h50:=fP c.hor (by have:=hF.hor;unfold I64;omega)
    have hhi:itoa c.hor=decDigits c.hor.toNat:=by
      have:c.hor=((c.hor.toNat:Nat):Int):=Ra
      rw [this,n5,Int.toNat_natCast]
    rw [hhi] at h50
    have hmk:=p56 (gp c) (by simp [gp]) (fun t ht=>by have:=(nj hF).wl t ht;omega)
    have q1:((de c).1 != 0)=false:=by rw [hz];rfl
    have hw:=hhw
    rw [lj,if_pos hz]
    (refine al C8 Mr fun σ=>?_;simp only [C8,↓R1,RR,seval,q1,he,hw,hcl,hca,hc0,h31,h32,hln,hlt6,l32,hv,hany,bK,bu,List.append_nil])
    repeat' ((first|(with_reducible intro β hβ;(try simp only [RB] at hβ);(repeat (obtain ⟨⟨_,_⟩,hβ⟩:=hβ));(try (have hbis:=aj Qa hβ;obtain ⟨_,_⟩:=hbis)))|(refine Pt (hck) ?_)|(refine Pt (h50) ?_)|((refine Pu.to (hmk) ?_ ?_;(focus exact dN))))<;>(try simp only [↓R1,RR,seval,q1,he,hw,hcl,hca,hc0,h31,h32,hln,hlt6,l32,hv,hany,bK,bu,List.append_nil]))
    obtain ⟨β,hβ⟩:∃ β:Nat,True:=⟨0,trivial⟩
    rename_i B hB τ hτ
    clear hβ β
    have rc:∀ x∈c.cls,RowOk (gM x):=fun x hx=>hr _ Q0
    have rt:∀ x∈c.tens,RowOk (iT x):=fun x hx=>hr _ QZ
    have rr:∀ x∈c.ruls,RowOk (gr x):=fun x hx=>hr _ Q2
    have mk:∀ ws,RowOk ws→Pu Tryz.prog 56 [.sl true ws.length (ws.map AV.str)] (.agg (cRI (mkR ws))):=fun ws h σ=>AC.wk (p56 ws (by have:=h.num;omega) (fun t ht=>by have:=h.wl t ht;omega) σ) (by simp [ad,wkL.cons,wkL.nil,bU])
    obtain ⟨O1,hO1⟩:∃ O1:Nat→List (List (List UInt8)),O1=fun k=> [gp c]++(c.cls.take k).map gM:=⟨_,rfl⟩
    obtain ⟨O2,hO2⟩:∃ O2:Nat→List (List (List UInt8)),O2=fun k=>([gp c]++c.cls.map gM)++(c.tens.take k).map iT:=⟨_,rfl⟩
    obtain ⟨O3,hO3⟩:∃ O3:Nat→List (List (List UInt8)),O3=fun k=>(([gp c]++c.cls.map gM)++c.tens.map iT)++(c.ruls.take k).map gr:=⟨_,rfl⟩
    have z1:cRI (mkR (gp c))=fL (O1 0):=by subst hO1;simp [fL]
    have z2:O1 c.cls.length=O2 0:=by subst hO1 hO2;simp
    have z3:O2 6=O3 0:=Rm
    have z4:O3 c.ruls.length=kn c:=by subst hO3;simp [kn]
    have len1:∀ k,k≤c.cls.length→(O1 k).length=1+k:=fun k hk=>by subst hO1;simp;omega
    have An:∀ k,k≤6→(O2 k).length=1+c.cls.length+k:=fun k hk=>by subst hO2;simp;omega
    have len3:∀ k,k≤c.ruls.length→(O3 k).length=1+c.cls.length+6+k:=fun k hk=>by subst hO3;simp;omega
    refine aS c.cls.length (fun k=> [(1, .ptr B 0),(6, .tsl τ (1+k) (fL (O1 k))),(7, .int .i64 (k:Nat))]) (fun k=>(σ.aa B (aR c)).ai τ (80,2,1+k)) (fun _=>True) (by rw [←z1];simp [aq,slot,ae]) (St.le_refl _) trivial (fun k hk _=>?_)
    by_cases hlt:k<c.cls.length
    · obtain ⟨x,hx⟩:∃ x,c.cls[k]? =some x:=⟨_,List.getElem?_eq_getElem hlt⟩
      have he:=di (f:=bE) (m:=3) (fun _=>rfl) hx
      have hln:=fD c.cls
      simp only [bE] at he
      have q1:decide ((k:Int)<(c.cls.length:Int))=true:=Qf
      have hw:IntKind.i64.wrap ((k:Int)+1)=((k+1:Nat):Int):=P9
      have hfx:=oF hF.cls hx
      have d1:=p58 (lab x.l)
      rw [fu (ck.lcls x (List.mem_of_getElem? hx))] at d1
      have d2:=fP x.size Qq
      have d3:=fP x.rate Qq
      have d4:=mk _ (rR hfx)
      have o1:fL (O1 k)++cRI (mkR (gM x))=fL (O1 (k+1)):=by rw [ko];subst hO1;rw [ma _ hx]
      have l1:=l9 (O1 k)
      rw [len1 k hk] at l1
      simp only [q1,↓R1,RR,seval,q1,he,hw,hcl,hca,hc0,h31,h32,hln,hlt6,l32,hv,hany,bK,bu,List.append_nil]
      repeat' (first|(with_reducible rw [ah])|(with_reducible refine And.intro ?_ ?_;exact af)|(with_reducible apply And.intro)|((first|(with_reducible intro β hβ;(try simp only [RB] at hβ);(repeat (obtain ⟨⟨_,_⟩,hβ⟩:=hβ));(try (have hbis:=aj Qa hβ;obtain ⟨_,_⟩:=hbis)))|((first|(refine bI (.inr rfl) rfl ?_ ?_ ?_ ?_ ?_ ?_;(first|rfl|exact St.bn _ _ _|(simp only [↓R1,RR,seval,q1,he,hw,hcl,hca,hc0,h31,h32,hln,hlt6,l32,hv,hany,bK,bu,List.append_nil]));(first|omega|(exact aE)|(simp only [RZ]));(first|rfl|first|omega|(exact aE)|(simp only [RZ])))|(refine br rfl ?_ ?_ ?_ ?_ ?_ ?_;(first|rfl|exact St.bn _ _ _|(simp only [↓R1,RR,seval,q1,he,hw,hcl,hca,hc0,h31,h32,hln,hlt6,l32,hv,hany,bK,bu,List.append_nil]));(first|omega|(exact aE)|(simp only [RZ]));(first|rfl|first|omega|(exact aE)|(simp only [RZ])))|(refine appV_own ?_ ?_ ?_ ?_;exact a8 QB _)|(refine appD_own ?_ ?_ ?_ ?_ ?_;omega;exact a8 QB _)|(refine appV_fresh rfl trivial rfl ?_ ?_ ?_ ?_ ?_;(first|rfl|first|omega|(exact aE)|(simp only [RZ]));(first|rfl|first|omega|(exact aE)|(simp only [RZ])))|(refine appD_fresh rfl trivial rfl ?_ ?_ ?_ ?_ ?_ ?_;omega;(first|rfl|first|omega|(exact aE)|(simp only [RZ]));(first|rfl|first|omega|(exact aE)|(simp only [RZ]))));(unfold maxLen;omega);omega)|(refine Ct (d1) ?_)|(refine Ct (d2) ?_)|(refine Ct (d3) ?_)|(refine Ct (d4) ?_))<;>(try simp only [↓R1,RR,seval,q1,he,hw,hcl,hca,hc0,h31,h32,hln,hlt6,l32,hv,hany,bK,bu,List.append_nil])))
      · rw [o1,Nat.add_assoc];simp [aq,slot,ae]
      · rw [Nat.add_assoc]
        refine (St.aD (σ':=(σ.aa B (aR c)).ai τ (80,2,1+(k+1))) (St.le_refl _) ?_:St.le _ _)
        show (σ.aa B (aR c)).box _=none
        simp only [St.aU];assumption
    have hke:k=c.cls.length:=P6
    subst hke
    have q1:decide ((c.cls.length:Int)<(c.cls.length:Int))=false:=Qd
    simp only [q1,↓R1,RR,seval,q1,he,hw,hcl,hca,hc0,h31,h32,hln,hlt6,l32,hv,hany,bK,bu,List.append_nil]
    skip
    refine aS 6 (fun k=> [(1, .ptr B 0),(6, .tsl τ (1+c.cls.length+k) (fL (O2 k))),(9, .int .i64 (k:Nat))]) (fun k=>(σ.aa B (aR c)).ai τ (80,2,1+c.cls.length+k)) (fun _=>True) (by rw [z2];simp [aq,slot,ae]) (St.le_refl _) trivial (fun k hk _=>?_)
    by_cases hlt:k<6
    · obtain ⟨x,hx⟩:∃ x,c.tens[k]? =some x:=⟨_,List.getElem?_eq_getElem P6⟩
      have hv:=xJ ck hx
      have hlt6:1+k*5+5≤33:=P6
      have q1:decide ((k:Int)<6)=true:=Qf
      have hw:IntKind.i64.wrap ((k:Int)+1)=((k+1:Nat):Int):=P9
      have hfx:=oG (hF.ten x (List.mem_of_getElem? hx))
      simp only [b7] at hv
      have d1:=fP x.budget Qq
      have d2:=fP x.queries Qq
      have d3:=fP x.cap Qq
      have d4:=fP x.out Qq
      have d5:=fP x.audit Qq
      have d6:=mk _ (rS hfx)
      have o1:fL (O2 k)++cRI (mkR (iT x))=fL (O2 (k+1)):=by rw [ko];subst hO2;rw [ma _ hx]
      have l1:=l9 (O2 k)
      rw [An k hk] at l1
      simp only [q1,↓R1,RR,seval,q1,he,hw,hcl,hca,hc0,h31,h32,hln,hlt6,l32,hv,hany,bK,bu,List.append_nil]
      repeat' (first|(with_reducible rw [ah])|(with_reducible refine And.intro ?_ ?_;exact af)|(with_reducible apply And.intro)|((first|(with_reducible intro β hβ;(try simp only [RB] at hβ);(repeat (obtain ⟨⟨_,_⟩,hβ⟩:=hβ));(try (have hbis:=aj Qa hβ;obtain ⟨_,_⟩:=hbis)))|((first|(refine bI (.inr rfl) rfl ?_ ?_ ?_ ?_ ?_ ?_;(first|rfl|exact St.bn _ _ _|(simp only [↓R1,RR,seval,q1,he,hw,hcl,hca,hc0,h31,h32,hln,hlt6,l32,hv,hany,bK,bu,List.append_nil]));(first|omega|(exact aE)|(simp only [RZ]));(first|rfl|first|omega|(exact aE)|(simp only [RZ])))|(refine br rfl ?_ ?_ ?_ ?_ ?_ ?_;(first|rfl|exact St.bn _ _ _|(simp only [↓R1,RR,seval,q1,he,hw,hcl,hca,hc0,h31,h32,hln,hlt6,l32,hv,hany,bK,bu,List.append_nil]));(first|omega|(exact aE)|(simp only [RZ]));(first|rfl|first|omega|(exact aE)|(simp only [RZ])))|(refine appV_own ?_ ?_ ?_ ?_;exact a8 QB _)|(refine appD_own ?_ ?_ ?_ ?_ ?_;omega;exact a8 QB _)|(refine appV_fresh rfl trivial rfl ?_ ?_ ?_ ?_ ?_;(first|rfl|first|omega|(exact aE)|(simp only [RZ]));(first|rfl|first|omega|(exact aE)|(simp only [RZ])))|(refine appD_fresh rfl trivial rfl ?_ ?_ ?_ ?_ ?_ ?_;omega;(first|rfl|first|omega|(exact aE)|(simp only [RZ]));(first|rfl|first|omega|(exact aE)|(simp only [RZ]))));(unfold maxLen;omega);omega)|(refine Ct (d1) ?_)|(refine Ct (d2) ?_)|(refine Ct (d3) ?_)|(refine Ct (d4) ?_)|(refine Ct (d5) ?_)|(refine Ct (d6) ?_))<;>(try simp only [↓R1,RR,seval,q1,he,hw,hcl,hca,hc0,h31,h32,hln,hlt6,l32,hv,hany,bK,bu,List.append_nil])))
      · rw [o1,Nat.add_assoc _ k 1];simp [aq,slot,ae]
      · rw [Nat.add_assoc _ k 1]
        refine (St.aD (σ':=(σ.aa B (aR c)).ai τ (80,2,1+c.cls.length+(k+1))) (St.le_refl _) ?_:St.le _ _)
        show (σ.aa B (aR c)).box _=none
        simp only [St.aU];assumption
    have hke:k=6:=P6
    subst hke
    have q1:decide (((6:Nat):Int)<6)=false:=Qg
    simp only [q1,↓R1,RR,seval,q1,he,hw,hcl,hca,hc0,h31,h32,hln,hlt6,l32,hv,hany,bK,bu,List.append_nil]
    skip
    refine aS c.ruls.length (fun k=> [(1, .ptr B 0),(6, .tsl τ (1+c.cls.length+6+k) (fL (O3 k))),(11, .int .i64 (k:Nat))]) (fun k=>(σ.aa B (aR c)).ai τ (80,2,1+c.cls.length+6+k)) (fun _=>True) (by rw [z3];simp [aq,slot,ae]) (St.le_refl _) trivial (fun k hk _=>?_)
    have l31:31<33:=Qg
    by_cases hlt:k<c.ruls.length
    · obtain ⟨x,hx⟩:∃ x,c.ruls[k]? =some x:=⟨_,List.getElem?_eq_getElem hlt⟩
      have he:=di (f:=cg) (m:=7) (fun _=>rfl) hx
      have hln:=eX c.ruls
      simp only [cg] at he
      have q1:decide ((k:Int)<(c.ruls.length:Int))=true:=Qf
      have hw:IntKind.i64.wrap ((k:Int)+1)=((k+1:Nat):Int):=P9
      have hxm:=List.mem_of_getElem? hx
      have hfx:=oH (hF.rul x hxm)
      have hxl:=ck.lrul x hxm
      have hx64:=h64 x hxm
      have d1:=fP x.owner Qq
      have d2:=p58 (lab x.auth)
      have d3:=p58 (lab x.res)
      rw [fu hxl.1] at d2
      rw [fu hxl.2] at d3
      have d4:=p59 x.kind
      have d5:=p60 x.low hx64.1
      have d6:=p60 x.high hx64.2
      have hrw:=rT hfx.1 hfx.2.1 hx64.1 hx64.2
      have d7:=mk _ hrw
      have o1:fL (O3 k)++cRI (mkR (gr x))=fL (O3 (k+1)):=by rw [ko];subst hO3;rw [ma _ hx]
      have l1:=l9 (O3 k)
      rw [len3 k hk] at l1
      cases hany:x.any with
      | true =>
        have hkw:iQ x= [97,110,121]:=by rw [iQ,hany];rfl
        have hrl:gr x= [[114,117,108,101],itoa x.owner,e8 (lab x.auth),e8 (lab x.res),[97,110,121],itoa x.low,itoa x.high]:=by rw [gr,hkw]
        rw [hrl] at d7 o1
        simp only [q1,l31,↓R1,RR,seval,q1,he,hw,hcl,hca,hc0,h31,h32,hln,hlt6,l32,hv,hany,bK,bu,List.append_nil]
        repeat' (first|(with_reducible rw [ah])|(with_reducible refine And.intro ?_ ?_;exact af)|(with_reducible apply And.intro)|((first|(with_reducible intro β hβ;(try simp only [RB] at hβ);(repeat (obtain ⟨⟨_,_⟩,hβ⟩:=hβ));(try (have hbis:=aj Qa hβ;obtain ⟨_,_⟩:=hbis)))|((first|(refine bI (.inr rfl) rfl ?_ ?_ ?_ ?_ ?_ ?_;(first|rfl|exact St.bn _ _ _|(simp only [↓R1,RR,seval,q1,he,hw,hcl,hca,hc0,h31,h32,hln,hlt6,l32,hv,hany,bK,bu,List.append_nil]));(first|omega|(exact aE)|(simp only [RZ]));(first|rfl|first|omega|(exact aE)|(simp only [RZ])))|(refine br rfl ?_ ?_ ?_ ?_ ?_ ?_;(first|rfl|exact St.bn _ _ _|(simp only [↓R1,RR,seval,q1,he,hw,hcl,hca,hc0,h31,h32,hln,hlt6,l32,hv,hany,bK,bu,List.append_nil]));(first|omega|(exact aE)|(simp only [RZ]));(first|rfl|first|omega|(exact aE)|(simp only [RZ])))|(refine appV_own ?_ ?_ ?_ ?_;exact a8 QB _)|(refine appD_own ?_ ?_ ?_ ?_ ?_;omega;exact a8 QB _)|(refine appV_fresh rfl trivial rfl ?_ ?_ ?_ ?_ ?_;(first|rfl|first|omega|(exact aE)|(simp only [RZ]));(first|rfl|first|omega|(exact aE)|(simp only [RZ])))|(refine appD_fresh rfl trivial rfl ?_ ?_ ?_ ?_ ?_ ?_;omega;(first|rfl|first|omega|(exact aE)|(simp only [RZ]));(first|rfl|first|omega|(exact aE)|(simp only [RZ]))));(unfold maxLen;omega);omega)|(refine Ct (d1) ?_)|(refine Ct (d2) ?_)|(refine Ct (d3) ?_)|(refine Ct (d5) ?_)|(refine Ct (d6) ?_)|(refine Ct (d7) ?_))<;>(try simp only [↓R1,RR,seval,q1,he,hw,hcl,hca,hc0,h31,h32,hln,hlt6,l32,hv,hany,bK,bu,List.append_nil])))
        · rw [o1,Nat.add_assoc _ k 1];simp [aq,slot,ae]
        · rw [Nat.add_assoc _ k 1]
          refine (St.aD (σ':=(σ.aa B (aR c)).ai τ (80,2,1+c.cls.length+6+(k+1))) (St.le_refl _) ?_:St.le _ _)
          show (σ.aa B (aR c)).box _=none
          simp only [St.aU];assumption
      | false =>
        have hkw:iQ x=dy x.kind:=by rw [iQ,hany];rfl
        have hrl:gr x= [[114,117,108,101],itoa x.owner,e8 (lab x.auth),e8 (lab x.res),dy x.kind,itoa x.low,itoa x.high]:=by rw [gr,hkw]
        rw [hrl] at d7 o1
        simp only [q1,l31,↓R1,RR,seval,q1,he,hw,hcl,hca,hc0,h31,h32,hln,hlt6,l32,hv,hany,bK,bu,List.append_nil]
        repeat' (first|(with_reducible rw [ah])|(with_reducible refine And.intro ?_ ?_;exact af)|(with_reducible apply And.intro)|((first|(with_reducible intro β hβ;(try simp only [RB] at hβ);(repeat (obtain ⟨⟨_,_⟩,hβ⟩:=hβ));(try (have hbis:=aj Qa hβ;obtain ⟨_,_⟩:=hbis)))|((first|(refine bI (.inr rfl) rfl ?_ ?_ ?_ ?_ ?_ ?_;(first|rfl|exact St.bn _ _ _|(simp only [↓R1,RR,seval,q1,he,hw,hcl,hca,hc0,h31,h32,hln,hlt6,l32,hv,hany,bK,bu,List.append_nil]));(first|omega|(exact aE)|(simp only [RZ]));(first|rfl|first|omega|(exact aE)|(simp only [RZ])))|(refine br rfl ?_ ?_ ?_ ?_ ?_ ?_;(first|rfl|exact St.bn _ _ _|(simp only [↓R1,RR,seval,q1,he,hw,hcl,hca,hc0,h31,h32,hln,hlt6,l32,hv,hany,bK,bu,List.append_nil]));(first|omega|(exact aE)|(simp only [RZ]));(first|rfl|first|omega|(exact aE)|(simp only [RZ])))|(refine appV_own ?_ ?_ ?_ ?_;exact a8 QB _)|(refine appD_own ?_ ?_ ?_ ?_ ?_;omega;exact a8 QB _)|(refine appV_fresh rfl trivial rfl ?_ ?_ ?_ ?_ ?_;(first|rfl|first|omega|(exact aE)|(simp only [RZ]));(first|rfl|first|omega|(exact aE)|(simp only [RZ])))|(refine appD_fresh rfl trivial rfl ?_ ?_ ?_ ?_ ?_ ?_;omega;(first|rfl|first|omega|(exact aE)|(simp only [RZ]));(first|rfl|first|omega|(exact aE)|(simp only [RZ]))));(unfold maxLen;omega);omega)|(refine Pt (d4) ?_)|(refine Ct (d1) ?_)|(refine Ct (d2) ?_)|(refine Ct (d3) ?_)|(refine Ct (d5) ?_)|(refine Ct (d6) ?_)|(refine Ct (d7) ?_))<;>(try simp only [↓R1,RR,seval,q1,he,hw,hcl,hca,hc0,h31,h32,hln,hlt6,l32,hv,hany,bK,bu,List.append_nil])))
        · rw [o1,Nat.add_assoc _ k 1];simp [aq,slot,ae]
        · rw [Nat.add_assoc _ k 1]
          refine (St.aD (σ':=(σ.aa B (aR c)).ai τ (80,2,1+c.cls.length+6+(k+1))) (St.le_refl _) ?_:St.le _ _)
          show (σ.aa B (aR c)).box _=none
          simp only [St.aU];assumption
    have hke:k=c.ruls.length:=P6
    subst hke
    have q1:decide ((c.ruls.length:Int)<(c.ruls.length:Int))=false:=Qd
    have ht:=p61 ((kn c).map mkR) (wu hr hrl)
    rw [oE hr hrl] at ht
    simp only [wX] at ht
    have hlw:(kn c).length=1+c.cls.length+6+c.ruls.length:=by rw [←z4,len3 _ (Nat.le_refl _)]
    simp only [List.length_map,hlw] at ht
    rw [z4]
    simp only [q1,l31,↓R1,RR,seval,q1,he,hw,hcl,hca,hc0,h31,h32,hln,hlt6,l32,hv,hany,bK,bu,List.append_nil]
    repeat' (((refine Pu.to (ht) ?_ ?_;(focus exact dN)))<;>(try simp only [↓R1,RR,seval,q1,he,hw,hcl,hca,hc0,h31,h32,hln,hlt6,l32,hv,hany,bK,bu,List.append_nil]))
    refine ak ?_ Qp (St.cW (St.aD (St.le_refl _) hB) hτ)
    simp only [an,↓R1,RR,seval,q1,he,hw,hcl,hca,hc0,h31,h32,hln,hlt6,l32,hv,hany,bK,bu,List.append_nil]
    exact ae _
  · have q1:((de c).1 != 0)=true:=by rw [bne_iff_ne];exact hz
    rw [lj,if_neg hz]
    (refine al C8 Mr fun σ=>?_;simp only [C8,↓R1,RR,seval,q1,he,hw,hcl,hca,hc0,h31,h32,hln,hlt6,l32,hv,hany,bK,bu,List.append_nil])
    repeat' ((first|(with_reducible intro β hβ;(try simp only [RB] at hβ);(repeat (obtain ⟨⟨_,_⟩,hβ⟩:=hβ));(try (have hbis:=aj Qa hβ;obtain ⟨_,_⟩:=hbis)))|(refine Pt (hck) ?_))<;>(try simp only [↓R1,RR,seval,q1,he,hw,hcl,hca,hc0,h31,h32,hln,hlt6,l32,hv,hany,bK,bu,List.append_nil]))
    refine ak ?_
    simp only [an,↓R1,RR,seval,q1,he,hw,hcl,hca,hc0,h31,h32,hln,hlt6,l32,hv,hany,bK,bu,List.append_nil]
    exact ae _
theorem HQ (x:OpI):(cOp x).length=8:=rfl
theorem Ei (l:List OpI):(l.flatMap cOp).length=l.length*8:=a8 HQ l
set_option maxHeartbeats 2000000 in
theorem Ej (f g:Bool) (l:List OpI) (hl:l.length≤1000000):Pu Tryz.prog 16 [.sl f l.length (l.flatMap cOp), .sl g l.length (l.flatMap cOp)] (.bool true):=by
 have q1:True:=trivial
 have he:True:=trivial
 have hw:True:=trivial
 have h1:=Ei l
 (refine al c16 b16 fun σ=>?_;simp only [c16,↓R1,RR,seval,q1,he,hw,cOp,h1,List.cons_append,List.nil_append,List.drop_nil])
 skip
 refine aS l.length (fun k=> [(0, .sl f l.length (l.flatMap cOp)),(1, .sl g l.length (l.flatMap cOp)),(5, .int .i64 (k:Nat))]) (fun _=>σ) (fun _=>True) Qi (St.le_refl _) trivial (fun k hk _=>?_)
 by_cases hlt:k<l.length
 ·obtain ⟨x,hx⟩:∃ x,l[k]? =some x:=⟨_,List.getElem?_eq_getElem hlt⟩
  have he:=di (f:=cOp) (m:=8) HQ hx
  simp only [cOp] at he
  have q1:decide ((k:Int)<(l.length:Int))=true:=Qf
  have hw:IntKind.i64.wrap ((k:Int)+1)=((k+1:Nat):Int):=P9
  simp only [q1,↓R1,RR,seval,q1,he,hw,cOp,h1,List.cons_append,List.nil_append,List.drop_nil]
  repeat' (first|(with_reducible refine And.intro ?_ ?_;exact af)|(with_reducible apply And.intro))
  ·simp [aq,slot,ae]
  ·exact St.le_refl _
 ·have hke:k=l.length:=by omega
  subst hke
  have q1:decide ((l.length:Int)<(l.length:Int))=false:=Qd
  simp only [q1,↓R1,RR,seval,q1,he,hw,cOp,h1,List.cons_append,List.nil_append,List.drop_nil]
  skip
  (refine ak (ag ?_))
  (simp only [an,↓R1,RR,seval,q1,he,hw,cOp,h1,List.cons_append,List.nil_append,List.drop_nil])
def exC:CfgI:=⟨[⟨0,2,2⟩,⟨1,2,2⟩],List.replicate 6 ⟨2,1,4,2,1⟩,[⟨2,1,0,true,0,0,9⟩],3⟩
def exK (k:Nat):List AV:= .sl true 2 [.int .u64 0, .int .i64 2, .int .i64 2, .int .u64 1, .int .i64 2, .int .i64 2]::((List.replicate k [AV.int .i64 2, .int .i64 1, .int .i64 4, .int .i64 2, .int .i64 1]++List.replicate (6 - k) [AV.int .i64 0, .int .i64 0, .int .i64 0, .int .i64 0, .int .i64 0]).flatten++ [.sl true 1 [.int .i64 2, .int .u64 1, .int .u64 0, .bool true, .int .i64 0, .int .i64 0, .int .i64 9], .int .u64 3])
theorem K2:wk (.agg (exK 6)) (.agg (aR exC)):=gJ (by
 show wkL (_::(_++ [_,_])) (_::(_++ [_,_]))
 refine .cons (bU _ _) (na (ad _) (.cons (bU _ _) (ad _))))
set_option maxHeartbeats 8000000 in
theorem p36:Pu Tryz.prog 36 [] (.agg (exK 6)):=by
 (refine al c36 b36 fun σ=>?_;simp only [c36,↓R1,RR,seval,exK,List.replicate,List.flatten_cons,List.flatten_nil,List.cons_append,List.nil_append])
 repeat' (first|(with_reducible rw [ah])|((with_reducible intro β hβ;(try simp only [RB] at hβ);(repeat (obtain ⟨⟨_,_⟩,hβ⟩:=hβ));(try (have hbis:=aj Qa hβ;obtain ⟨_,_⟩:=hbis)))<;>(try simp only [↓R1,RR,seval,exK,List.replicate,List.flatten_cons,List.flatten_nil,List.cons_append,List.nil_append])))
 rename_i A hA a1 a2
 obtain ⟨z,hz⟩:∃ z,z=(AV.nils::(List.replicate 30 (AV.int .i64 0)++ [.nils, .int .u64 0])):=⟨_,rfl⟩
 refine aS 6 (fun k=> [(0, .ptr A 0),(1, .ptr β 0),(2, .int .i64 (k:Nat))]) (fun k=>(σ.aa A z).aa β (exK k)) (fun _=>True) Qi (by subst hz;rw [St.set_set];exact St.le_refl _) trivial (fun k hk _=>?_)
 rcases (show k=0∨k=1∨k=2∨k=3∨k=4∨k=5∨k=6 by omega) with rfl|rfl|rfl|rfl|rfl|rfl|rfl
 ·simp only [↓R1,RR,seval,exK,List.replicate,List.flatten_cons,List.flatten_nil,List.cons_append,List.nil_append]
  repeat' (with_reducible apply And.intro)
  ·simp only [show IntKind.i64.wrap 1=1 from rfl];simp [aq,slot,ae]
  ·exact St.le_refl _
 ·simp only [↓R1,RR,seval,exK,List.replicate,List.flatten_cons,List.flatten_nil,List.cons_append,List.nil_append]
  repeat' (with_reducible apply And.intro)
  ·simp only [show IntKind.i64.wrap 2=2 from rfl];simp [aq,slot,ae]
  ·exact St.le_refl _
 ·simp only [↓R1,RR,seval,exK,List.replicate,List.flatten_cons,List.flatten_nil,List.cons_append,List.nil_append]
  repeat' (with_reducible apply And.intro)
  ·simp only [show IntKind.i64.wrap 3=3 from rfl];simp [aq,slot,ae]
  ·exact St.le_refl _
 ·simp only [↓R1,RR,seval,exK,List.replicate,List.flatten_cons,List.flatten_nil,List.cons_append,List.nil_append]
  repeat' (with_reducible apply And.intro)
  ·simp only [show IntKind.i64.wrap 4=4 from rfl];simp [aq,slot,ae]
  ·exact St.le_refl _
 ·simp only [↓R1,RR,seval,exK,List.replicate,List.flatten_cons,List.flatten_nil,List.cons_append,List.nil_append]
  repeat' (with_reducible apply And.intro)
  ·simp only [show IntKind.i64.wrap 5=5 from rfl];simp [aq,slot,ae]
  ·exact St.le_refl _
 ·simp only [↓R1,RR,seval,exK,List.replicate,List.flatten_cons,List.flatten_nil,List.cons_append,List.nil_append]
  repeat' (with_reducible apply And.intro)
  ·simp only [show IntKind.i64.wrap 6=6 from rfl];simp [aq,slot,ae]
  ·exact St.le_refl _
 ·subst hz
  simp only [↓R1,RR,seval,exK,List.replicate,List.flatten_cons,List.flatten_nil,List.cons_append,List.nil_append]
  skip
  refine ak ?_ (by first|(simp [av,rvS];done)|(simp only [av,rvS,↓R1,RR,seval,exK,List.replicate,List.flatten_cons,List.flatten_nil,List.cons_append,List.nil_append];try simp))
  simp only [an,↓R1,RR,seval,exK,List.replicate,List.flatten_cons,List.flatten_nil,List.cons_append,List.nil_append]
  exact ae _
def exU:List UInt8:= [104,111,114,105,122,111,110,32,51,10,99,108,97,115,115,32,123,125,32,50,32,50,10,99,108,97,115,115,32,123,48,125,32,50,32,50,10,116,101,110,97,110,116,32,50,32,49,32,52,32,50,32,49,10,116,101,110,97,110,116,32,50,32,49,32,52,32,50,32,49,10,116,101,110,97,110,116,32,50,32,49,32,52,32,50,32,49,10,116,101,110,97,110,116,32,50,32,49,32,52,32,50,32,49,10,116,101,110,97,110,116,32,50,32,49,32,52,32,50,32,49,10,116,101,110,97,110,116,32,50,32,49,32,52,32,50,32,49,10,114,117,108,101,32,50,32,123,48,125,32,123,125,32,97,110,121,32,48,32,57,10]
theorem K3:CfgOk exC:=⟨rfl,by decide,by decide,fun x h=>by (rcases List.mem_cons.1 (show x∈([⟨0,2,2⟩,⟨1,2,2⟩]:List ClsI) from h) with rfl|h;· exact ⟨by decide,by decide⟩);rw [List.mem_singleton.1 h];exact ⟨by decide,by decide⟩,fun x h=>by rw [List.mem_singleton.1 (show x∈ [(⟨2,1,0,true,0,0,9⟩:RulI)] from h)];exact ⟨⟨by decide,by decide⟩,by decide,by decide⟩⟩
theorem K4:Cfg64 exC:=by
 intro x hx
 rw [List.mem_singleton.1 (show x∈ [(⟨2,1,0,true,0,0,9⟩:RulI)] from hx)]
 exact ⟨by unfold I64;decide,by unfold I64;decide⟩
theorem Nf:de exC=(0,0):=Qg
theorem Ng:Eh exC=exU:=by
 decide +kernel
theorem exP:iB [112,111,108,108,32,49,32,53]= .ok [⟨6,1,0,[],0,5,0,0⟩]:=by
 kernel_rfl
def Ek:Rw:=⟨0,[⟨false,[112,111,108,108],0⟩,⟨false,[49],5⟩,⟨false,[53],7⟩]⟩
theorem K5:fb [112,111,108,108,32,49,32,53]= .ok [Ek]:=P7
theorem K6:oy Ek=some 6:=P7
theorem K7:∀ rs,fb [112,111,108,108,32,49,32,53]= .ok rs→∀ r∈rs,l6 r:=by
 intro rs h r hr
 rw [K5] at h
 cases h
 rw [List.mem_singleton] at hr
 subst hr
 intro σ σ0 β k hf hc hσ hn
 rw [K6] at hf
 cases hf
 exact x94 hc rfl
set_option maxHeartbeats 2000000 in
theorem oJ:PuG Tryz.prog gl3 11 [] (.bool true):=by
 have h1:=p18 K3 K4
 rw [lj,Nf,Ng] at h1
 simp only [if_true] at h1
 have h1:PuG Tryz.prog gl3 18 [.agg (exK 6)] (.tup [.str exU, .int .i64 0]):=fun σ hσ=>AC.wk (h1 σ hσ) (.cons K2 .nil)
 have h2:=G8 [112,111,108,108,32,49,32,53] K7 Qg
 rw [rM,exP] at h2
 simp only [List.flatMap_cons,List.flatMap_nil,List.append_nil,List.length_cons,List.length_nil,Nat.zero_add,cOp] at h2
 have h3:=Ej false true [⟨6,1,0,[],0,5,0,0⟩] Qg
 simp only [List.flatMap_cons,List.flatMap_nil,List.append_nil,List.length_cons,List.length_nil,Nat.zero_add,cOp] at h3
 have q1:(exU == exU)=true:=Qd
 unfold exU at h1
 (refine cP c11 b11 fun σ hσ=>?_;simp only [c11,↓R1,RR,seval,q1,cOp])
 repeat' (first|(with_reducible rw [ah])|((first|(with_reducible intro β hβ;(try simp only [RB] at hβ);(repeat (obtain ⟨⟨_,_⟩,hβ⟩:=hβ));(try (have hbis:=aj Qa hβ;obtain ⟨_,_⟩:=hbis)))|(refine Pt (p36) ?_)|(refine PuG.to (h1) hσ (ad _) ?_)|(refine PuG.to (h2) hσ (ad _) ?_)|(refine Pt (h3) ?_))<;>(try simp only [↓R1,RR,seval,q1,cOp])))
 refine ak ?_
 simp only [an,↓R1,RR,seval,q1,cOp]
 exact ae _
def Hh (c:CfgI):List UInt8 × Int:=if (de c).1=0 then (Eh c,0) else ([],(de c).1)
theorem El (c:CfgI):lj c= .tup [.str (Hh c).1, .int .i64 (Hh c).2]:=by
 unfold lj Hh;split<;>rfl
def oK (c:CfgI):Bool:=decide (c.cls.length≤12)&&decide (c.ruls.length≤12)
theorem ia {c:CfgI} (h:c.tens.length=6):(aR c).length=33:=by
 simp only [aR,List.length_cons,List.length_append,List.length_nil,bl,h]
theorem xK {c:CfgI} (h:c.tens.length=6):(aR c)[31]? =some (.sl false c.ruls.length (c.ruls.flatMap cg)):=by
 simp only [aR,List.getElem?_cons_succ]
 rw [List.getElem?_append_right (by rw [bl,h];decide),bl,h];rfl
theorem jo {c:CfgI} (h:c.tens.length=6):(aR c).take 33=aR c:=List.take_of_length_le (by rw [ia h];decide)
theorem p17 {c:CfgI} (h6:c.tens.length=6):Pu Tryz.prog 17 [.agg (aR c)] (.bool (oK c)):=by
 have hcl:=ia h6
 have hc0:=oq c
 have hca:=jo h6
 have h31:=xK h6
 (refine al c17 b17 fun σ=>?_;simp only [c17,↓R1,RR,seval,hcl,hca,hc0,h31])
 repeat' ((with_reducible intro β hβ;(try simp only [RB] at hβ);(repeat (obtain ⟨⟨_,_⟩,hβ⟩:=hβ));(try (have hbis:=aj Qa hβ;obtain ⟨_,_⟩:=hbis)))<;>(try simp only [↓R1,RR,seval,hcl,hca,hc0,h31]))
 (refine ak (ag ?_))
 (simp only [an,↓R1,RR,seval,hcl,hca,hc0,h31])
 have e1:decide ((c.cls.length:Int)≤12)=decide (c.cls.length≤12):=by rw [decide_eq_decide];omega
 have e2:decide ((c.ruls.length:Int)≤12)=decide (c.ruls.length≤12):=by rw [decide_eq_decide];omega
 rw [oK,e1,e2]
def wv:CfgI:=⟨[],[mT,mT,mT,mT,mT,mT],[],0⟩
theorem xL:wkL cz (aR wv):= .cons cu (na (a:= [.int .i64 0, .int .i64 0, .int .i64 0, .int .i64 0, .int .i64 0, .int .i64 0, .int .i64 0, .int .i64 0, .int .i64 0, .int .i64 0, .int .i64 0, .int .i64 0, .int .i64 0, .int .i64 0, .int .i64 0, .int .i64 0, .int .i64 0, .int .i64 0, .int .i64 0, .int .i64 0, .int .i64 0, .int .i64 0, .int .i64 0, .int .i64 0, .int .i64 0, .int .i64 0, .int .i64 0, .int .i64 0, .int .i64 0, .int .i64 0]) (ad _) (.cons cu (ad _)))
def dA (s:List UInt8):CfgI × Ft:=match bH s with
 | .ok c=>(c,(0,0))
 | .error e=>(wv,e)
def iE (s:List UInt8):AV:= .tup [.agg (aR (dA s).1), .agg [.int .i64 (dA s).2.1, .int .i64 (dA s).2.2]]
theorem Ax {s:List UInt8} {c:CfgI} (h:bH s= .ok c):iE s= .tup [.agg (aR c), .agg [.int .i64 0, .int .i64 0]]:=by rw [iE,dA,h]
theorem Ay {s:List UInt8} {e:Ft} (h:bH s= .error e):iE s= .tup [.agg (aR wv), .agg [.int .i64 e.1, .int .i64 e.2]]:=by rw [iE,dA,h]
theorem qm {σ:St} {ζ l:Nat} {s:List UInt8} (hs:s.length≤1000000) (hz:σ.box ζ=some [.str s]) (hl:σ.box l=some cz) (hne:l≠ζ):∀ β,σ.box β=none→AX Tryz.prog 62 [.ptr ζ 0, .ptr l 0] (σ.aa β z2) (oX TS (bH s) (fun _=> .tup []) (fun c=>(σ.aa l (aR c)).aa β z2) (σ.aa β z2)):=fun β hβ =>
 HN (x62 (σ:=σ.aa β z2) (σ0:=σ.aa β z2) (St.ax _) hs (iC hz hβ) (iC hl hβ) hne) (fun os=>uf hl hβ) rfl
theorem wx {s:List UInt8} {c:CfgI} (h:bH s= .ok c):c.tens.length=6:=by
  unfold bH at h
  obtain ⟨rs,_,h⟩:=aV h
  obtain ⟨p,hp,h⟩:=aV h
  have hk:∀ (rs:List Rw) (p q:PlanI),PlanOk p→eZ rs p= .ok q→PlanOk q:=by
    intro rs
    induction rs with
    | nil=>intro p q h1 h2;cases h2;exact h1
    | cons r rs ih =>
      intro p q h1 h2
      obtain ⟨p',h3,h4⟩:=aV h2
      exact ih p' q (lf h1 h3).1 h4
  have:=hk rs dR p lb hp
  unfold dX at h
  split at h
  · cases h
  · split at h
    · cases h
    · cases h;exact this.six
theorem p20 (s:List UInt8) (hs:s.length≤1000000):Pu Tryz.prog 20 [.str s] (iE s):=by
  have hent:=Go.Proofs.enters_of Tryz.func62 P7 rfl
  have hcl:True:=trivial
  have hca:True:=trivial
  have hcd:True:=trivial
  have zd:cz.drop 33= []:=rfl
  have zl:cz.length=33:=rfl
  have za:cz.take 33=cz:=rfl
  cases hp:bH s with
  | ok c =>
    rw [Ax hp]
    have h6:=wx hp
    have hcl:=ia h6
    have hca:=jo h6
    have hcd:(aR c).drop 33= []:=List.drop_of_length_le P6
    (refine al c20 b20 fun σ=>?_;simp only [c20,↓R1,RR,seval])
    repeat' (first|(with_reducible rw [ah])|((with_reducible intro β hβ;(try simp only [RB] at hβ);(repeat (obtain ⟨⟨_,_⟩,hβ⟩:=hβ));(try (have hbis:=aj Qa hβ;obtain ⟨_,_⟩:=hbis)))<;>(try simp only [↓R1,RR,seval])))
    rename_i ζ hζ l hl p1 p2 p3 p4 p5 p6
    have hat:=qm (s:=s) (ζ:=ζ) (l:=l) (σ:=((σ.aa ζ [AV.str s]).aa l cz).aa β [AV.int IntKind.i64 0,AV.int IntKind.i64 0]) hs Qj Qj p1.ne
    refine AC.mono (AC.wk (oz hent hat (fun γ a hγ=>gE (d:=cz) Qj hγ) (fun γ hγ=>hγ) hp) (ad _)) ?_
    rintro _ _ ⟨rfl,rfl⟩
    simp only [↓R1,RR,seval,hcl,hca,hcd]
    repeat' (with_reducible apply And.intro)
    all_goals (refine ak ?_ (by first|(simp [av,rvS];done)|(simp only [av,rvS,RR,seval,hcl];try simp)))
    all_goals (simp only [an,RR,seval,hca];exact ae _)
  | error e =>
    rw [Ay hp]
    (refine al c20 b20 fun σ=>?_;simp only [c20,↓R1,RR,seval])
    repeat' (first|(with_reducible rw [ah])|((with_reducible intro β hβ;(try simp only [RB] at hβ);(repeat (obtain ⟨⟨_,_⟩,hβ⟩:=hβ));(try (have hbis:=aj Qa hβ;obtain ⟨_,_⟩:=hbis)))<;>(try simp only [↓R1,RR,seval])))
    rename_i ζ hζ l hl p1 p2 p3 p4 p5 p6
    have hat:=qm (s:=s) (ζ:=ζ) (l:=l) (σ:=((σ.aa ζ [AV.str s]).aa l cz).aa β [AV.int IntKind.i64 0,AV.int IntKind.i64 0]) hs Qj Qj p1.ne
    refine AC.mono (AC.wk (oA hent hat (fun γ a hγ=>gE (d:=cz) Qj hγ) (fun γ hγ=>hγ) hp) (ad _)) ?_
    rintro _ _ ⟨rfl,rfl⟩
    simp only [↓R1,RR,seval,zl,za,zd]
    repeat' (with_reducible apply And.intro)
    all_goals (refine ak ?_ (by first|(simp [av,rvS];done)|(simp only [av,rvS,RR,seval,zl];try simp)))
    all_goals (simp only [an,RR,seval,za];exact qA (wkL.cons (gJ xL) (ad _)))
def rdB (ws:List Wd) (f:Ft):List AV:= [.sl false ws.length (ws.flatMap cWd), .int .i64 f.1, .int .i64 f.2]
def rdF (f:Ft) (e a:Int):Ft:=if f.1=0∧e≠0 then (e,a) else f
def rdO {α:Type} (f:Ft) (o:Except Ft α):Ft:=if f.1≠0 then f else match o with
 | .ok _=>f
 | .error e=>e
def rdX (f:Ft) (w:Wd) (x:Int):Int:=if f.1=0∧w.q=false then x else 0
theorem kp {σ:St} {β:Nat} {c:List AV} (h:σ.box β=some c):σ.aa β c=σ:=by
 obtain ⟨b,t,g,l,bt⟩:=σ
 simp only [St.aa,St.mk.injEq,and_true]
 funext j
 simp only [upd]
 split
 ·rename_i e;subst e;exact h.symm
 ·rfl
theorem oL {l:List Wd} {k:Nat} {w:Wd} (h:l[k]? =some w):((l.flatMap cWd).drop (k*3)).take 3= [.bool w.q, .str w.t, .int .i64 (w.a:Nat)]:=oo h
theorem r71 {σ:St} {β:Nat} {ws:List Wd} {f:Ft} (hb:σ.box β=some (rdB ws f)) (e a:Int):AC Tryz.prog 71 [.ptr β 0, .int .i64 e, .int .i64 a] σ (fun r s=>r= .tup []∧s=σ.aa β (rdB ws (rdF f e a))):=by
 haveI:BoxIs σ β [.sl false ws.length (ws.flatMap cWd), .int .i64 f.1, .int .i64 f.2]:=⟨hb⟩
 have q1:True:=trivial
 have q2:True:=trivial
 by_cases h1:f.1=0
 ·have q1:(f.1 == 0)=true:=by rw [h1];rfl
  by_cases h2:e=0
  ·have q2:(e != 0)=false:=by rw [h2];rfl
   have he:rdF f e a=f:=if_neg (by intro h;exact h.2 h2)
   rw [he,kp hb]
   (refine bg c71 b71 ?_;simp only [c71,↓R1,RR,seval,q1,q2,rdB])
   skip
   all_goals all_goals first|omega|exact Nat.le_refl _|assumption|exact St.le_refl _|(exact af)|(simp only [aq,slot,ae,↓R1,RR,seval,q1,q2,rdB];all_goals exact bz)|exact aZ|(simp_all;done)|skip
   all_goals (refine cb ?_)
   all_goals (exact ⟨rfl,rfl⟩)
  ·have q2:(e != 0)=true:=by rw [bne_iff_ne];exact h2
   have he:rdF f e a=(e,a):=if_pos ⟨h1,h2⟩
   rw [he]
   (refine bg c71 b71 ?_;simp only [c71,↓R1,RR,seval,q1,q2,rdB])
   skip
   all_goals all_goals first|omega|exact Nat.le_refl _|assumption|exact St.le_refl _|(exact af)|(simp only [aq,slot,ae,↓R1,RR,seval,q1,q2,rdB];all_goals exact bz)|exact aZ|(simp_all;done)|skip
   all_goals (refine cb ?_)
   all_goals (exact ⟨rfl,rfl⟩)
 ·have q1:(f.1 == 0)=false:=by rw [beq_eq_false_iff_ne];exact h1
  have he:rdF f e a=f:=if_neg (by intro h;exact h1 h.1)
  rw [he,kp hb]
  (refine bg c71 b71 ?_;simp only [c71,↓R1,RR,seval,q1,q2,rdB])
  skip
  all_goals all_goals first|omega|exact Nat.le_refl _|assumption|exact St.le_refl _|(exact af)|(simp only [aq,slot,ae,↓R1,RR,seval,q1,q2,rdB];all_goals exact bz)|exact aZ|(simp_all;done)|skip
  all_goals (refine cb ?_)
  all_goals (exact ⟨rfl,rfl⟩)
theorem PZ {σ:St} {β k:Nat} {ws:List Wd} {f:Ft} {w:Wd} (hb:σ.box β=some (rdB ws f)) (hw:ws[k]? =some w) (hl:ws.length≤1000000):AC Tryz.prog 128 [.ptr β 0, .int .i64 (k:Nat)] σ (fun r s=>r= .bool ((if w.q then rdF f 3 w.a else f).1 == 0)∧s=σ.aa β (rdB ws (if w.q then rdF f 3 w.a else f))):=by
  haveI:BoxIs σ β [.sl false ws.length (ws.flatMap cWd), .int .i64 f.1, .int .i64 f.2]:=⟨hb⟩
  have he:=oL hw
  have hk:=(List.getElem?_eq_some_iff.1 hw).1
  have hcl:=ft ws
  cases hq:w.q with
  | true =>
    rw [hq] at he
    have rf:=r71 hb 3 (w.a:Nat)
    simp only [if_true]
    generalize rdF f 3 w.a=f2 at rf
    (refine bg C4 Mo ?_;simp only [C4,↓R1,RR,seval,he,rdB])
    repeat' (first|(with_reducible refine And.intro ?_ ?_;exact af)|(((refine AC.mono (AC.wk (rf) (ad _)) ?_;(rintro _ _ ⟨rfl,rfl⟩)))<;>(try simp only [↓R1,RR,seval,he,rdB])))
    all_goals all_goals first|omega|exact Nat.le_refl _|assumption|exact St.le_refl _|(exact af)|(simp only [aq,slot,ae,↓R1,RR,seval,he,rdB];all_goals exact bz)|exact aZ|(simp_all;done)|skip
    all_goals (refine cb ?_)
    all_goals (exact ⟨rfl,rfl⟩)
  | false =>
    rw [hq] at he
    simp only [Bool.false_eq_true,if_false]
    rw [kp hb]
    (refine bg C4 Mo ?_;simp only [C4,↓R1,RR,seval,he,rdB])
    repeat' (with_reducible refine And.intro ?_ ?_;exact af)
    all_goals all_goals first|omega|exact Nat.le_refl _|assumption|exact St.le_refl _|(exact af)|(simp only [aq,slot,ae,↓R1,RR,seval,he,rdB];all_goals exact bz)|exact aZ|(simp_all;done)|skip
    all_goals (refine cb ?_)
    all_goals (exact ⟨rfl,rfl⟩)
theorem Em {σ:St} {β:Nat} {c d:List AV} (h:σ.box β=some d):(σ.aa β c).glob=σ.glob∧(∀ γ,σ.box γ=none→(σ.aa β c).box γ=none)∧∀ γ,σ.tip γ=none→(σ.aa β c).tip γ=none :=
 ⟨rfl,fun γ hγ=>by
  have:γ≠β:=fun e=>by rw [e,h] at hγ;cases hγ
  simp [St.aa,upd,this,hγ],fun _ h=>h⟩
theorem Az (q:Bool) (t:List UInt8):IntKind.i64.wrap (hG q t 0 1099511627776).1=(hG q t 0 1099511627776).1:=by
  have h:0≤(hG q t 0 1099511627776).1∧(hG q t 0 1099511627776).1≤1099511627776:=by
    unfold hG
    cases h1:(q|| !dr t) with
    | true=>simp
    | false =>
      simp only [cond_false]
      cases h2:((decide (18446744073709551616≤bO t)||decide (((bO t % 18446744073709551616:Nat):Int)<0))||decide ((1099511627776:Int)<((bO t % 18446744073709551616:Nat):Int))) with
      | true=>simp
      | false =>
        simp only [cond_false]
        simp only [Bool.or_eq_false_iff,decide_eq_false_iff_not] at h2
        omega
  rw [wrap64 P6 P6]
theorem Hi (b:Bool):b=true∨b=false:=by cases b<;>simp
theorem Nh (f:Ft) (a:Int):((rdF f 3 a).1 == 0)=false:=by
 rw [beq_eq_false_iff_ne,rdF]
 split
 ·simp
 ·rename_i h;intro h2;exact h ⟨h2,by decide⟩
theorem En {α:Type} (f:Ft) {e a:Int} (h:e≠0):rdO f (.error (e,a):Except Ft α)=rdF f e a:=by
 unfold rdO rdF
 by_cases h1:f.1=0
 ·rw [if_neg (by simp [h1]),if_pos ⟨h1,h⟩]
 ·rw [if_pos h1,if_neg (by intro h;exact h1 h.1)]
theorem Eo {α:Type} {f:Ft} {w:Wd} (hf:f.1=0) (hq:w.q=false) (x:α) (e:Int) (a:Int) (ha:a=(w.a:Nat)):rdO f (dQ w x e)=rdF f e a:=by
 subst ha
 by_cases he:e=0
 ·rw [k8 hq he,rdO,if_neg (by simp [hf]),rdF,if_neg (by simp [he])]
 ·rw [ni hq he,En f he]
theorem xM {σ:St} {β k:Nat} {ws:List Wd} {f:Ft} {w:Wd} (hb:σ.box β=some (rdB ws f)) (hw:ws[k]? =some w) (hl:ws.length≤1000000) :
  (∃ f2,AC Tryz.prog 128 [.ptr β 0, .int .i64 (k:Nat)] σ (fun r s=>r= .bool false∧s=σ.aa β (rdB ws f2))∧(∀ {α:Type} (x:α) (e:Int),rdO f (dQ w x e)=f2)∧∀ y,rdX f w y=0) ∨
  (AC Tryz.prog 128 [.ptr β 0, .int .i64 (k:Nat)] σ (fun r s=>r= .bool true∧s=σ)∧(∀ {α:Type} (x:α) (e:Int),rdO f (dQ w x e)=rdF f e w.a)∧∀ y,rdX f w y=y):=by
 have rb:=PZ hb hw hl
 rcases Hi w.q with hq|hq
 ·rw [hq,if_pos rfl,Nh] at rb
  exact .inl ⟨_,rb,fun x e=>by rw [nh hq];exact En _ Qg,fun y=>if_neg (by rw [hq];simp)⟩
 ·rw [hq,if_neg Qg] at rb
  by_cases hf:f.1=0
  ·rw [show (f.1 == 0)=true by rw [hf];rfl,kp hb] at rb
   exact .inr ⟨rb,fun x e=>Eo hf hq _ _ _ rfl,fun y=>if_pos ⟨hf,hq⟩⟩
  ·rw [show (f.1 == 0)=false by rw [beq_eq_false_iff_ne];exact hf] at rb
   exact .inl ⟨f,rb,fun x e=>by unfold rdO;exact if_pos hf,fun y=>if_neg (by simp [hf])⟩
set_option maxHeartbeats 1000000 in
theorem r69 {σ:St} {β k:Nat} {ws:List Wd} {f:Ft} {w:Wd} (hb:σ.box β=some (rdB ws f)) (hw:ws[k]? =some w) (hl:ws.length≤1000000) (ht:w.t.length≤1000000):AC Tryz.prog 69 [.ptr β 0, .int .i64 (k:Nat)] σ (fun r s=>r= .int .u64 (rdX f w (((eC w.t).l.toNat:Nat)))∧s=σ.aa β (rdB ws (rdO f (a7 w)))):=by
 haveI:BoxIs σ β [.sl false ws.length (ws.flatMap cWd), .int .i64 f.1, .int .i64 f.2]:=⟨hb⟩
 have he:=oL hw
 have hk:=(List.getElem?_eq_some_iff.1 hw).1
 have hcl:=ft ws
 have pp:=O7 w.t P6
 rw [zP] at pp
 rcases xM hb hw hl with ⟨f2,rb,h1,h2⟩|⟨rb,h1,h2⟩
 all_goals
  rw [a7,h1]
  simp only [h2]
  (refine fW c69 b69 ?_;simp only [c69,↓R1,RR,seval,he,rdB])
  repeat' (first|(with_reducible rw [ah])|(with_reducible refine And.intro ?_ ?_;exact af)|((first|(with_reducible intro β hβ;(try simp only [RB] at hβ);(repeat (obtain ⟨⟨_,_⟩,hβ⟩:=hβ));(try (have hbis:=aj Qa hβ;obtain ⟨_,_⟩:=hbis)))|((refine AC.mono (AC.wk (rb) (ad _)) ?_;(rintro _ _ ⟨rfl,rfl⟩)))|(refine Pt (pp) ?_)|((refine nK (r71 (ws:=ws) (f:=f) ?_ _ _) (ad _) (Em (d:=rdB ws f) ?_) ?_;(focus (simp only [↓R1,RR,seval,he,rdB];done));(focus (simp only [↓R1,RR,seval,he,rdB];done)))))<;>(try simp only [↓R1,RR,seval,he,rdB])))
  all_goals all_goals first|omega|exact Nat.le_refl _|assumption|exact St.le_refl _|(exact af)|(simp only [aq,slot,ae,↓R1,RR,seval,he,rdB];all_goals exact bz)|exact aZ|(simp_all;done)|skip
  all_goals (refine vl ?_ ?_)
  all_goals first|(simp only [an,↓R1,RR,seval,he,rdB];exact ae _)|((repeat' (first|exact St.ax _|(refine St.cJ ?_)|(refine St.cX ?_ Qv)|(refine St.dw ?_ ?_)|(refine St.cI ?_ QE)|exact wkL.nil|exact ad _|(refine wkL.cons ?_ ?_)|exact ae _|exact cu|exact cw _ _ _|exact bU _ _));done)
set_option maxHeartbeats 1000000 in
theorem Hj {σ:St} {β k:Nat} {ws:List Wd} {f:Ft} {w:Wd} (hb:σ.box β=some (rdB ws f)) (hw:ws[k]? =some w) (hl:ws.length≤1000000) (ht:w.t.length≤1000000):AC Tryz.prog 102 [.ptr β 0, .int .i64 (k:Nat)] σ (fun r s=>r= .int .i64 (rdX f w ((mI w.q w.t).1))∧s=σ.aa β (rdB ws (rdO f (bG w)))):=by
 haveI:BoxIs σ β [.sl false ws.length (ws.flatMap cWd), .int .i64 f.1, .int .i64 f.2]:=⟨hb⟩
 have he:=oL hw
 have hk:=(List.getElem?_eq_some_iff.1 hw).1
 have hcl:=ft ws
 have pp:=PD w.q w.t (w.a:Nat) ht
 rw [ua] at pp
 rcases xM hb hw hl with ⟨f2,rb,h1,h2⟩|⟨rb,h1,h2⟩
 all_goals
  rw [bG,h1]
  simp only [h2]
  (refine fW JK Om ?_;simp only [JK,↓R1,RR,seval,he,rdB])
  repeat' (first|(with_reducible refine And.intro ?_ ?_;exact af)|((first|((refine AC.mono (AC.wk (rb) (ad _)) ?_;(rintro _ _ ⟨rfl,rfl⟩)))|(refine Pt (pp) ?_)|((refine AC.mono (AC.wk (r71 (ws:=ws) (f:=f) ?_ _ _) (ad _)) ?_;(focus (simp only [↓R1,RR,seval,he,rdB];done));(rintro _ _ ⟨rfl,rfl⟩))))<;>(try simp only [↓R1,RR,seval,he,rdB])))
  all_goals all_goals first|omega|exact Nat.le_refl _|assumption|exact St.le_refl _|(exact af)|(simp only [aq,slot,ae,↓R1,RR,seval,he,rdB];all_goals exact bz)|exact aZ|(simp_all;done)|skip
  all_goals (refine vl ?_ ?_)
  all_goals first|(simp only [an,↓R1,RR,seval,he,rdB];exact ae _)|((repeat' (first|exact St.ax _|(refine St.cJ ?_)|(refine St.cX ?_ Qv)|(refine St.dw ?_ ?_)|(refine St.cI ?_ QE)|exact wkL.nil|exact ad _|(refine wkL.cons ?_ ?_)|exact ae _|exact cu|exact cw _ _ _|exact bU _ _));done)
set_option maxHeartbeats 1000000 in
theorem r68 {σ:St} {β k:Nat} {ws:List Wd} {f:Ft} {w:Wd} (hb:σ.box β=some (rdB ws f)) (hw:ws[k]? =some w) (hl:ws.length≤1000000) (ht:w.t.length≤1000000):AC Tryz.prog 68 [.ptr β 0, .int .i64 (k:Nat)] σ (fun r s=>r= .int .i64 (rdX f w ((hG w.q w.t 0 1099511627776).1))∧s=σ.aa β (rdB ws (rdO f (ay w)))):=by
 haveI:BoxIs σ β [.sl false ws.length (ws.flatMap cWd), .int .i64 f.1, .int .i64 f.2]:=⟨hb⟩
 have he:=oL hw
 have hk:=(List.getElem?_eq_some_iff.1 hw).1
 have hcl:=ft ws
 have pp:=Py w.q w.t (w.a:Nat) 0 1099511627776 ht
 rw [xB] at pp
 have q2:=Az w.q w.t
 rcases xM hb hw hl with ⟨f2,rb,h1,h2⟩|⟨rb,h1,h2⟩
 all_goals
  rw [ay,h1]
  simp only [h2]
  (refine fW c68 b68 ?_;simp only [c68,↓R1,RR,seval,he,rdB,q2])
  repeat' (first|(with_reducible refine And.intro ?_ ?_;exact af)|((first|((refine AC.mono (AC.wk (rb) (ad _)) ?_;(rintro _ _ ⟨rfl,rfl⟩)))|(refine Pt (pp) ?_)|((refine AC.mono (AC.wk (r71 (ws:=ws) (f:=f) ?_ _ _) (ad _)) ?_;(focus (simp only [↓R1,RR,seval,he,rdB,q2];done));(rintro _ _ ⟨rfl,rfl⟩))))<;>(try simp only [↓R1,RR,seval,he,rdB,q2])))
  all_goals all_goals first|omega|exact Nat.le_refl _|assumption|exact St.le_refl _|(exact af)|(simp only [aq,slot,ae,↓R1,RR,seval,he,rdB,q2];all_goals exact bz)|exact aZ|(simp_all;done)|skip
  all_goals (refine vl ?_ ?_)
  all_goals first|(simp only [an,↓R1,RR,seval,he,rdB,q2];exact ae _)|((repeat' (first|exact St.ax _|(refine St.cJ ?_)|(refine St.cX ?_ Qv)|(refine St.dw ?_ ?_)|(refine St.cI ?_ QE)|exact wkL.nil|exact ad _|(refine wkL.cons ?_ ?_)|exact ae _|exact cu|exact cw _ _ _|exact bU _ _));done)
set_option maxHeartbeats 1000000 in
theorem P0 {σ:St} {β k:Nat} {ws:List Wd} {f:Ft} {w:Wd} (hb:σ.box β=some (rdB ws f)) (hw:ws[k]? =some w) (hl:ws.length≤1000000) (ht:w.t.length≤1000000):AC Tryz.prog 104 [.ptr β 0, .int .i64 (k:Nat)] σ (fun r s=>r= .int .i64 (rdX f w (tD w.t))∧s=σ.aa β (rdB ws (rdO f (iP w)))):=by
 haveI:BoxIs σ β [.sl false ws.length (ws.flatMap cWd), .int .i64 f.1, .int .i64 f.2]:=⟨hb⟩
 have he:=oL hw
 have hk:=(List.getElem?_eq_some_iff.1 hw).1
 have hcl:=ft ws
 have pp:=Pd w.t
 rw [tE] at pp
 rcases xM hb hw hl with ⟨f2,rb,h1,h2⟩|⟨rb,h1,h2⟩
 all_goals
  rw [iP,h1]
  simp only [h2]
  (refine fW JL On ?_;simp only [JL,↓R1,RR,seval,he,rdB])
  repeat' (first|(with_reducible refine And.intro ?_ ?_;exact af)|((first|((refine AC.mono (AC.wk (rb) (ad _)) ?_;(rintro _ _ ⟨rfl,rfl⟩)))|(refine Pt (pp) ?_)|((refine AC.mono (AC.wk (r71 (ws:=ws) (f:=f) ?_ _ _) (ad _)) ?_;(focus (simp only [↓R1,RR,seval,he,rdB];done));(rintro _ _ ⟨rfl,rfl⟩))))<;>(try simp only [↓R1,RR,seval,he,rdB])))
  all_goals all_goals first|omega|exact Nat.le_refl _|assumption|exact St.le_refl _|(exact af)|(simp only [aq,slot,ae,↓R1,RR,seval,he,rdB];all_goals exact bz)|exact aZ|(simp_all;done)|skip
  all_goals (refine vl ?_ ?_)
  all_goals first|(simp only [an,↓R1,RR,seval,he,rdB];exact ae _)|((repeat' (first|exact St.ax _|(refine St.cJ ?_)|(refine St.cX ?_ Qv)|(refine St.dw ?_ ?_)|(refine St.cI ?_ QE)|exact wkL.nil|exact ad _|(refine wkL.cons ?_ ?_)|exact ae _|exact cu|exact cw _ _ _|exact bU _ _));done)
theorem e7 {α:Type} {w:Wd} {x a:α} {e:Int} (h:dQ w x e= .ok a):w.q=false∧x=a:=by
 unfold dQ at h
 split at h
 ·cases h
 ·rename_i hq
  split at h
  ·cases h;exact ⟨by simpa using hq,rfl⟩
  ·cases h
theorem bY {α:Type} {w:Wd} {x:α} {e:Int} {f:Ft} (h:dQ w x e= .error f):f.1≠0:=by
 unfold dQ at h
 split at h
 ·cases h;exact (by decide:(3:Int)≠0)
 ·split at h
  ·cases h
  ·rename_i he;cases h;exact he
theorem uu {α:Type} {o:Except Ft α} {a:α} (f:Ft) (h:o= .ok a):rdO f o=f:=by rw [h];unfold rdO;simp
theorem Ep {α:Type} {o:Except Ft α} {e f:Ft} (h:o= .error e) (hf:f.1=0):rdO f o=e:=by rw [h];unfold rdO;simp [hf]
theorem cj {α:Type} {o:Except Ft α} {f:Ft} (hf:f.1≠0):rdO f o=f:=by unfold rdO;simp [hf]
theorem jq {f:Ft} {w:Wd} {x:Int} (hf:f.1=0) (hq:w.q=false):rdX f w x=x:=if_pos ⟨hf,hq⟩
theorem p65:Pu Tryz.prog 65 [] (.sl false 4 (iD.map AV.str)):=by
 (refine al c65 b65 fun σ=>?_;simp only [c65,↓R1,RR,seval])
 skip
 (refine ak ?_)
 simp only [an,RR,seval]
 exact bU _ _
theorem p67:Pu Tryz.prog 67 [] (.sl false 4 [.int .i64 2, .int .i64 4, .int .i64 6, .int .i64 7]):=by
 (refine al c67 b67 fun σ=>?_;simp only [c67,↓R1,RR,seval])
 skip
 (refine ak ?_)
 simp only [an,RR,seval]
 exact bU _ _
structure PlanR (p:PlanI):Prop where
 rt:p.ruls.length≠0→p.t=6
 nt:p.n=0→p.t=0
def fH (p:PlanI):Nat:=if p.n=0 then 0 else 1
theorem Hk:PlanR dR:=⟨fun h=>(h rfl).elim,fun _=>rfl⟩
theorem wy {r:Rw} {p q:PlanI} (hp:PlanR p) (h:ee r p= .ok q):PlanR q:=by
 unfold ee at h
 split at h
 ·cases h
 ·rename_i k hk
  split at h
  ·cases h
  ·rename_i hm
   have hm:fO p k=true:=by simpa using hm
   split at h
   ·obtain ⟨q',hq,h⟩:=aV h
    cases h
    unfold planW at hq
    split at hq
    ·obtain ⟨_,_,hq⟩:=aV hq;cases hq
     exact ⟨hp.rt,fun h=>by simp at h⟩
    ·obtain ⟨x,rfl,_⟩:=KV hq
     exact ⟨hp.rt,fun h=>by simp at h⟩
    ·obtain ⟨h1,h2,h3,h4⟩:=HP hq
     refine ⟨fun h=>?_,fun h=>by simp at h⟩
     simp only [fO,Bool.and_eq_true,beq_iff_eq] at hm
     simp only [h2] at h
     omega
    ·obtain ⟨x,rfl,_⟩:=KW hq
     refine ⟨fun h=>?_,fun h=>by simp at h⟩
     simp only [fO,beq_iff_eq] at hm
     show p.t=6
     omega
    ·cases hq
     exact ⟨hp.rt,fun h=>by simp at h⟩
   ·cases h
set_option maxHeartbeats 2000000 in
theorem p66 {p:PlanI} {k:Nat} (hp:PlanR p) (hk:k<4):Pu Tryz.prog 66 [.int .i64 (k:Nat), .int .i64 (fH p:Nat), .int .i64 (p.t:Nat), .int .i64 (p.ruls.length:Nat)] (.bool (fO p k)):=by
 have hc:k=0∨k=1∨k=2∨k=3:=P6
 obtain ⟨h1,h2⟩:=hp
 have hz:(p.n=0∧fH p=0)∨(p.n≠0∧fH p=1):=by
  unfold fH;split<;>simp_all
 have hb:fO p k=(match k with|0=>((fH p:Nat):Int) == 0|1=>(((fH p:Nat):Int) == 1&&((p.t:Nat):Int) == 0)&&(((p.ruls.length:Nat):Int) == 0)|2=>(((fH p:Nat):Int) == 1&&decide (((p.t:Nat):Int)<6))&&(((p.ruls.length:Nat):Int) == 0)|_=>(((fH p:Nat):Int) == 1&&((p.t:Nat):Int) == 6)):=by
  rcases hc with rfl|rfl|rfl|rfl<;>simp only [fO]<;>rw [Bool.eq_iff_iff]<;>simp only [Bool.and_eq_true,decide_eq_true_eq,beq_iff_eq]<;>omega
 rw [hb]
 generalize fH p=hh
 rcases hc with rfl|rfl|rfl|rfl
 all_goals
  (refine al c66 b66 fun σ=>?_;simp only [c66,↓R1,RR,seval])
  skip
  (refine ak (ag ?_))
  (simp only [an,RR,seval])
def ib (w1 w2 w3 w4 w5 w6:Wd):Except Ft RulI :=
 eb (ay w1) fun o=>eb (a7 w2) fun x=>eb (a7 w3) fun y=>eb (jn w4) fun k=>eb (bG w5) fun lo=>eb (bG w6) fun hi=> .ok ⟨o,x,y,k.1,k.2,lo,hi⟩
theorem cZ {α β:Type} (a:α) (f:α→Except Ft β):eb (.ok a) f=f a:=rfl
theorem Hl (w1 w2 w3 w4 w5 w6:Wd) (a:Int) (p:PlanI):ez w1 w2 w3 w4 w5 w6 a p=eb (ib w1 w2 w3 w4 w5 w6) fun x=>if p.ruls.length=8 then .error (6,a) else .ok { p with ruls:=p.ruls++ [x] }:=by
 simp only [ez,ib,jm,cZ]
theorem kq {α β:Type} {o:Except Ft α} {f:α→Except Ft β} {e:Ft} (h:eb o f= .error e):o= .error e∨∃ a,o= .ok a∧f a= .error e:=by
 cases o with
 | error x=>simp only [eb] at h;cases h;exact .inl rfl
 | ok a=>exact .inr ⟨a,rfl,h⟩
theorem xN {w:Wd} {e:Ft} (h:jn w= .error e):e.1≠0:=by
 unfold jn at h
 split at h
 ·cases h
 ·rcases kq h with h|⟨_,_,h⟩
  ·exact bY h
  ·cases h
theorem ef {α:Type} {o:Except Ft α} {a:α} (h:o= .ok a):rdO (0,0) o=(0,0):=uu _ h
theorem eg {α:Type} {o:Except Ft α} {e:Ft} (h:o= .error e):rdO (0,0) o=e:=Ep h rfl
theorem K8 (w1 w2 w3 w4 w5 w6:Wd):rdO (rdO (rdO (rdO (rdO (rdO (0,0) (ay w1)) (a7 w2)) (a7 w3)) (jn w4)) (bG w5)) (bG w6)=rdO (0,0) (ib w1 w2 w3 w4 w5 w6):=by
 unfold ib
 rcases h1:ay w1 with e|a
 ·have:=bY h1;simp only [cS _ rfl,eg (α:=Int) (o:= .error e) rfl,eg (α:=RulI) (o:= .error e) rfl,cj this]
 rw [cZ,ef (α:=Int) (o:= .ok a) rfl]
 rcases h2:a7 w2 with e|a2
 ·have:=bY h2;simp only [cS _ rfl,eg (α:=Int) (o:= .error e) rfl,eg (α:=RulI) (o:= .error e) rfl,cj this]
 rw [cZ,ef (α:=Int) (o:= .ok a2) rfl]
 rcases h3:a7 w3 with e|a3
 ·have:=bY h3;simp only [cS _ rfl,eg (α:=Int) (o:= .error e) rfl,eg (α:=RulI) (o:= .error e) rfl,cj this]
 rw [cZ,ef (α:=Int) (o:= .ok a3) rfl]
 rcases h4:jn w4 with e|a4
 ·have:=xN h4;simp only [cS _ rfl,eg (α:=Bool × Int) (o:= .error e) rfl,eg (α:=RulI) (o:= .error e) rfl,cj this]
 rw [cZ,ef (α:=Bool × Int) (o:= .ok a4) rfl]
 rcases h5:bG w5 with e|a5
 ·have:=bY h5;simp only [cS _ rfl,eg (α:=Int) (o:= .error e) rfl,eg (α:=RulI) (o:= .error e) rfl,cj this]
 rw [cZ,ef (α:=Int) (o:= .ok a5) rfl]
 rcases h6:bG w6 with e|a6
 ·simp only [cS _ rfl,eg (α:=Int) (o:= .error e) rfl,eg (α:=RulI) (o:= .error e) rfl]
 rw [cZ,ef (α:=Int) (o:= .ok a6) rfl,ef (α:=RulI) rfl]
def isAny (w:Wd):Bool:= !w.q&&(w.t == xF)
theorem HR {w:Wd} (h:isAny w=true):jn w= .ok (true,0):=by
 simp only [isAny,Bool.and_eq_true,Bool.not_eq_true',beq_iff_eq] at h
 rw [jn,if_pos h]
theorem HS {w:Wd} (h:isAny w=false):jn w=eb (iP w) fun k=> .ok (false,k):=by
 rw [jn,if_neg]
 rintro ⟨h1,h2⟩
 rw [isAny,h1,h2] at h
 simp at h
theorem Ni {w:Wd} (h:isAny w=false) (f:Ft):rdO f (jn w)=rdO f (iP w):=by
 rw [HS h]
 rcases iP w with e|a<;>rfl
def mM (w1 w2 w3 w4 w5 w6:Wd):RulI :=
 let f1:=rdO (0,0) (ay w1)
 let f2:=rdO f1 (a7 w2)
 let f3:=rdO f2 (a7 w3)
 let f4:=rdO f3 (jn w4)
 ⟨rdX (0,0) w1 (hG w1.q w1.t 0 1099511627776).1,rdX f1 w2 ((eC w2.t).l.toNat:Nat),rdX f2 w3 ((eC w3.t).l.toNat:Nat),isAny w4,if isAny w4 then 0 else rdX f3 w4 (tD w4.t),rdX f4 w5 (mI w5.q w5.t).1,rdX (rdO f4 (bG w5)) w6 (mI w6.q w6.t).1⟩
theorem Er {w1 w2 w3 w4 w5 w6:Wd} {x:RulI} (h:ib w1 w2 w3 w4 w5 w6= .ok x):mM w1 w2 w3 w4 w5 w6=x:=by
  unfold ib at h
  obtain ⟨a1,h1,h⟩:=aV h
  obtain ⟨a2,h2,h⟩:=aV h
  obtain ⟨a3,h3,h⟩:=aV h
  obtain ⟨a4,h4,h⟩:=aV h
  obtain ⟨a5,h5,h⟩:=aV h
  obtain ⟨a6,h6,h⟩:=aV h
  cases h
  obtain ⟨g1,x1⟩:=e7 h1
  obtain ⟨g2,x2⟩:=e7 h2
  obtain ⟨g3,x3⟩:=e7 h3
  obtain ⟨g5,x5⟩:=e7 h5
  obtain ⟨g6,x6⟩:=e7 h6
  unfold mM
  simp only [ef h1,ef h2,ef h3,ef h4,ef h5,jq (f:=(0,0)) rfl g1,x1,jq (f:=(0,0)) rfl g2,x2,jq (f:=(0,0)) rfl g3,x3,jq (f:=(0,0)) rfl g5,x5,jq (f:=(0,0)) rfl g6,x6]
  cases ha:isAny w4 with
  | true=>rw [HR ha] at h4;cases h4;simp
  | false =>
    rw [HS ha] at h4
    obtain ⟨k,hk,h4⟩:=aV h4
    cases h4
    obtain ⟨g4,x4⟩:=e7 hk
    simp [jq (f:=(0,0)) rfl g4,x4]
theorem _root_.Qy {p:Prop} (h:p:=by rw [hws];simp):p:=h
set_option maxHeartbeats 4000000 in
theorem r70 {σ:St} {β:Nat} {ws:List Wd} {w0 w1 w2 w3 w4 w5 w6:Wd} (hb:σ.box β=some (rdB ws (0,0))) (hws:ws= [w0,w1,w2,w3,w4,w5,w6]) (ht:∀ w∈ws,w.t.length≤1000000) :
    AC Tryz.prog 70 [.ptr β 0] σ (fun r s=>r= .agg (cg (mM w1 w2 w3 w4 w5 w6))∧s=σ.aa β (rdB ws (rdO (0,0) (ib w1 w2 w3 w4 w5 w6)))):=by
  haveI:BoxIs σ β [.sl false ws.length (ws.flatMap cWd), .int .i64 0, .int .i64 0]:=⟨hb⟩
  have hl:ws.length≤1000000:=Qy
  have hwl:ws.length=7:=Qo
  have w1h:ws[1]? =some w1:=Qo
  have w2h:ws[2]? =some w2:=Qo
  have w3h:ws[3]? =some w3:=Qo
  have w4h:ws[4]? =some w4:=Qo
  have w5h:ws[5]? =some w5:=Qo
  have w6h:ws[6]? =some w6:=Qo
  have h1:=ht w1 Qy
  have h2:=ht w2 Qy
  have h3:=ht w3 Qy
  have h4:=ht w4 Qy
  have h5:=ht w5 Qy
  have h6:=ht w6 Qy
  have hcl:=ft ws
  have he:((ws.flatMap cWd).drop 12).take 3= [.bool w4.q, .str w4.t, .int .i64 (w4.a:Nat)]:=oo w4h
  rw [←K8]
  unfold mM
  cases ha:isAny w4 with
  | true =>
    have q1:(!w4.q&&(w4.t == [97,110,121]))=true:=ha
    have e4:∀ f,rdO f (jn w4)=f:=fun f=>uu f (HR ha)
    simp only [e4,if_true]
    (refine fW c70 b70 ?_;simp only [c70,↓R1,RR,seval,hwl,rdB,cg])
    repeat' (first|(with_reducible rw [ah])|(with_reducible refine And.intro ?_ ?_;exact af)|((first|(with_reducible intro β hβ;(try simp only [RB] at hβ);(repeat (obtain ⟨⟨_,_⟩,hβ⟩:=hβ));(try (have hbis:=aj Qa hβ;obtain ⟨_,_⟩:=hbis)))|((refine AC.mono (AC.wk (r68 (k:=1) (ws:=ws) (f:=(0,0)) (w:=w1) ?_ w1h hl h1) (ad _)) ?_;(focus (simp only [RR,seval,hwl,rdB];done));(rintro _ _ ⟨rfl,rfl⟩)))|((refine AC.mono (AC.wk (r69 (k:=2) (ws:=ws) (f:=rdO (0,0) (ay w1)) (w:=w2) ?_ w2h hl h2) (ad _)) ?_;(focus (simp only [RR,seval,hwl,rdB];done));(rintro _ _ ⟨rfl,rfl⟩)))|((refine AC.mono (AC.wk (r69 (k:=3) (ws:=ws) (f:=rdO (rdO (0,0) (ay w1)) (a7 w2)) (w:=w3) ?_ w3h hl h3) (ad _)) ?_;(focus (simp only [RR,seval,hwl,rdB];done));(rintro _ _ ⟨rfl,rfl⟩)))|((refine AC.mono (AC.wk (Hj (k:=5) (ws:=ws) (f:=rdO (rdO (rdO (0,0) (ay w1)) (a7 w2)) (a7 w3)) (w:=w5) ?_ w5h hl h5) (ad _)) ?_;(focus (simp only [RR,seval,hwl,rdB];done));(rintro _ _ ⟨rfl,rfl⟩)))|((refine AC.mono (AC.wk (Hj (k:=6) (ws:=ws) (f:=rdO (rdO (rdO (rdO (0,0) (ay w1)) (a7 w2)) (a7 w3)) (bG w5)) (w:=w6) ?_ w6h hl h6) (ad _)) ?_;(focus (simp only [RR,seval,hwl,rdB];done));(rintro _ _ ⟨rfl,rfl⟩))))<;>(try simp only [↓R1,RR,seval,q1,he,hwl,rdB])))
    all_goals (try (first|omega|(simp;done)))
    all_goals (refine vl ?_ ?_ P8)
    all_goals first|(simp only [an,RR,seval];exact ae _)|((repeat' (first|exact St.ax _|(refine St.cJ ?_)|(refine St.cX ?_ Qv)|(refine St.dw ?_ ?_)|(refine St.cI ?_ (by first|assumption|(simp only [St.aU];assumption)))|exact wkL.nil|exact ad _|(refine wkL.cons ?_ ?_)|exact ae _|exact cu|exact cw _ _ _|exact bU _ _));done)
  | false =>
    have q1:(!w4.q&&(w4.t == [97,110,121]))=false:=ha
    simp only [Ni ha,Bool.false_eq_true,if_false]
    (refine fW c70 b70 ?_;simp only [c70,↓R1,RR,seval,hwl,rdB,cg])
    repeat' (first|(with_reducible rw [ah])|(with_reducible refine And.intro ?_ ?_;exact af)|((first|(with_reducible intro β hβ;(try simp only [RB] at hβ);(repeat (obtain ⟨⟨_,_⟩,hβ⟩:=hβ));(try (have hbis:=aj Qa hβ;obtain ⟨_,_⟩:=hbis)))|((refine AC.mono (AC.wk (r68 (k:=1) (ws:=ws) (f:=(0,0)) (w:=w1) ?_ w1h hl h1) (ad _)) ?_;(focus (simp only [RR,seval,hwl,rdB];done));(rintro _ _ ⟨rfl,rfl⟩)))|((refine AC.mono (AC.wk (r69 (k:=2) (ws:=ws) (f:=rdO (0,0) (ay w1)) (w:=w2) ?_ w2h hl h2) (ad _)) ?_;(focus (simp only [RR,seval,hwl,rdB];done));(rintro _ _ ⟨rfl,rfl⟩)))|((refine AC.mono (AC.wk (r69 (k:=3) (ws:=ws) (f:=rdO (rdO (0,0) (ay w1)) (a7 w2)) (w:=w3) ?_ w3h hl h3) (ad _)) ?_;(focus (simp only [RR,seval,hwl,rdB];done));(rintro _ _ ⟨rfl,rfl⟩)))|((refine AC.mono (AC.wk (P0 (k:=4) (ws:=ws) (f:=rdO (rdO (rdO (0,0) (ay w1)) (a7 w2)) (a7 w3)) (w:=w4) ?_ w4h hl h4) (ad _)) ?_;(focus (simp only [RR,seval,hwl,rdB];done));(rintro _ _ ⟨rfl,rfl⟩)))|((refine AC.mono (AC.wk (Hj (k:=5) (ws:=ws) (f:=rdO (rdO (rdO (rdO (0,0) (ay w1)) (a7 w2)) (a7 w3)) (iP w4)) (w:=w5) ?_ w5h hl h5) (ad _)) ?_;(focus (simp only [RR,seval,hwl,rdB];done));(rintro _ _ ⟨rfl,rfl⟩)))|((refine AC.mono (AC.wk (Hj (k:=6) (ws:=ws) (f:=rdO (rdO (rdO (rdO (rdO (0,0) (ay w1)) (a7 w2)) (a7 w3)) (iP w4)) (bG w5)) (w:=w6) ?_ w6h hl h6) (ad _)) ?_;(focus (simp only [RR,seval,hwl,rdB];done));(rintro _ _ ⟨rfl,rfl⟩))))<;>(try simp only [↓R1,RR,seval,q1,he,hwl,rdB])))
    all_goals (try (first|omega|(simp;done)))
    all_goals (refine vl ?_ ?_ P8)
    all_goals first|(simp only [an,RR,seval];exact ae _)|((repeat' (first|exact St.ax _|(refine St.cJ ?_)|(refine St.cX ?_ Qv)|(refine St.dw ?_ ?_)|(refine St.cI ?_ (by first|assumption|(simp only [St.aU];assumption)))|exact wkL.nil|exact ad _|(refine wkL.cons ?_ ?_)|exact ae _|exact cu|exact cw _ _ _|exact bU _ _));done)
def pC (κ υ:Nat) (p:PlanI):List AV:= .tsl κ p.cls.length (p.cls.flatMap bE)::(p.tens.flatMap b7++ [.tsl υ p.ruls.length (p.ruls.flatMap cg), .int .u64 p.hor])
theorem cO (κ υ:Nat) (p:PlanI):(pC κ υ p)[0]? =some (.tsl κ p.cls.length (p.cls.flatMap bE)):=rfl
theorem kr {p:PlanI} (κ υ:Nat) (h:p.tens.length=6):(pC κ υ p).length=33:=by
 simp only [pC,List.length_cons,List.length_append,List.length_nil,bl,h]
theorem P1 {p:PlanI} (κ υ:Nat) (h:p.tens.length=6) (k:Nat):(pC κ υ p)[31+k]? = [AV.tsl υ p.ruls.length (p.ruls.flatMap cg), .int .u64 p.hor][k]? :=by
 rw [pC,show 31+k=(30+k)+1 by omega,List.getElem?_cons_succ,List.getElem?_append_right (by rw [bl,h];omega),bl,h]
 congr 1
 omega
theorem Es {p:PlanI} (κ υ:Nat) (h:p.tens.length=6):(pC κ υ p)[31]? =some (.tsl υ p.ruls.length (p.ruls.flatMap cg)):=P1 κ υ h 0
theorem Et {p:PlanI} (κ υ:Nat) (h:p.tens.length=6) (x:Int):(pC κ υ p).take 32++ [.int .u64 x]++(pC κ υ p).drop 33=pC κ υ { p with hor:=x }:=by
 have hl:(p.tens.flatMap b7).length=30:=by rw [bl,h]
 have e1:(pC κ υ p).take 32= .tsl κ p.cls.length (p.cls.flatMap bE)::(p.tens.flatMap b7++ [.tsl υ p.ruls.length (p.ruls.flatMap cg)]):=by
  rw [pC,List.take_succ_cons,List.take_append,hl,List.take_of_length_le P6];rfl
 rw [e1,List.drop_of_length_le (by rw [kr κ υ h];decide)]
 simp [pC]
theorem Hm {p:PlanI} (κ υ:Nat) (x:ClsI):AV.tsl κ (p.cls.length+1) (p.cls.flatMap bE++ [.int .u64 x.l, .int .i64 x.size, .int .i64 x.rate])::(pC κ υ p).drop 1=pC κ υ { p with cls:=p.cls++ [x] }:=by
 simp [pC,bE]
theorem Eu {p:PlanI} (κ υ:Nat) (h:p.tens.length=6) (x:RulI):(pC κ υ p).take 31++ [AV.tsl υ (p.ruls.length+1) (p.ruls.flatMap cg++cg x)]++(pC κ υ p).drop 32=pC κ υ { p with ruls:=p.ruls++ [x] }:=by
 have hl:(p.tens.flatMap b7).length=30:=by rw [bl,h]
 have e1:(pC κ υ p).take 31= .tsl κ p.cls.length (p.cls.flatMap bE)::p.tens.flatMap b7:=by
  rw [pC,List.take_succ_cons,List.take_append_of_le_length P6,List.take_of_length_le P6]
 have e2:(pC κ υ p).drop 32= [.int .u64 p.hor]:=by
  rw [pC,List.drop_succ_cons,List.drop_append,hl,List.drop_of_length_le P6];rfl
 rw [e1,e2]
 simp [pC]
theorem K9 {p:PlanI} (κ υ:Nat) (h6:p.tens.length=6) (ht:p.t<6) (x:TenI):(pC κ υ p).take (1+p.t*5)++b7 x++(pC κ υ p).drop (1+p.t*5+5)=pC κ υ { p with tens:=p.tens.set p.t x }:=by
 have hl:(p.tens.flatMap b7).length=30:=by rw [bl,h6]
 have hx:(b7 x).length=5:=rfl
 simp only [pC]
 rw [←rN p.tens p.t x P6]
 simp only [hU,hx]
 rw [show 1+p.t*5+5=(p.t*5+5)+1 by omega,show 1+p.t*5=p.t*5+1 by omega,List.take_succ_cons,List.drop_succ_cons,List.take_append_of_le_length P6,List.drop_append_of_le_length P6]
 simp
theorem wz (κ υ:Nat) (p:PlanI):wkL (pC κ υ p) (aR (fE p)):= .cons (cw _ _ _) (na (ad _) (.cons (cw _ _ _) (ad _)))
def dS (ζ κ υ:Nat) (q:PlanI) (σ:St):St:=((σ.ai κ (94,3,q.cls.length)).ai υ (97,7,q.ruls.length)).aa ζ (pC κ υ q)
structure Cf (σ:St) (ζ κ υ:Nat) (p:PlanI):Prop where
 hb:σ.box ζ=some (pC κ υ p)
 tk:σ.tip κ=some (94,3,p.cls.length)
 tu:σ.tip υ=some (97,7,p.ruls.length)
theorem Cf.le {σ s:St} {ζ κ υ:Nat} {p:PlanI} (h:Cf σ ζ κ υ p) (hs:St.le σ s):Cf s ζ κ υ p:=⟨hs.1 _ _ h.hb,hs.2.1 _ _ h.tk,hs.2.1 _ _ h.tu⟩
theorem Cf.ne {σ:St} {ζ κ υ:Nat} {p:PlanI} (h:Cf σ ζ κ υ p):κ≠υ:=fun e=>by have h1:=h.tk;rw [e,h.tu] at h1;cases h1
theorem Hn {ζ κ υ:Nat} {p:PlanI} {σ:St} (hn:κ≠υ):Cf (dS ζ κ υ p σ) ζ κ υ p :=
 ⟨St.cA _ _ _,by simp [dS,St.aa,St.ai,upd,hn],by simp [dS,St.aa,St.ai,upd]⟩
theorem Ho {ζ κ υ:Nat} {q:PlanI} {σ s:St} (h:St.le σ s):St.le (dS ζ κ υ q σ) (dS ζ κ υ q s):=St.wO _ _ (St.gU (St.gU h))
theorem AA {σ:St} {ζ κ υ:Nat} {q:PlanI} (hk:σ.tip κ=some (94,3,q.cls.length)) (hu:σ.tip υ=some (97,7,q.ruls.length)):dS ζ κ υ q σ=σ.aa ζ (pC κ υ q):=by
 rw [dS,eM hk,eM hu]
theorem La {σ:St} {ζ κ υ:Nat} {q:PlanI} (hne:υ≠κ) (hu:σ.tip υ=some (97,7,q.ruls.length)):dS ζ κ υ q σ=(σ.ai κ (94,3,q.cls.length)).aa ζ (pC κ υ q):=by
 rw [dS,eM (τ:=υ) (by simp only [St.ai,upd,if_neg hne];exact hu)]
theorem Lb {σ:St} {ζ κ υ:Nat} {q:PlanI} (hk:σ.tip κ=some (94,3,q.cls.length)):dS ζ κ υ q σ=(σ.ai υ (97,7,q.ruls.length)).aa ζ (pC κ υ q):=by
 rw [dS,eM (τ:=κ) hk]
def overB (X:PlanI):Bool:=decide (8<X.cls.length)||decide (8<X.ruls.length)
structure SwF (k:Nat) (ws:List Wd) (a:Int) (p X:PlanI) (f:Ft):Prop where
 n:X.n=p.n
 six:X.tens.length=6
 c9:X.cls.length≤9
 r9:X.ruls.length≤9
 t6:X.t≤6
 cs:(∃ e:Ft,e.1≠0∧f=e∧planW k ws a p= .error e)∨(f=(0,0)∧planW k ws a p=bif overB X then .error (6,a) else .ok X)
theorem Ev {w:Wd} {v:Int} (h:ay w= .ok v):0≤v∧v≤1099511627776:=by
  obtain ⟨_,h2⟩:=e7 h
  subst h2
  unfold hG
  cases h1:(w.q|| !dr w.t) with
  | true=>simp
  | false =>
    simp only [cond_false]
    cases h2:((decide (18446744073709551616≤bO w.t)||decide (((bO w.t % 18446744073709551616:Nat):Int)<0))||decide ((1099511627776:Int)<((bO w.t % 18446744073709551616:Nat):Int))) with
    | true=>simp
    | false =>
      simp only [cond_false]
      simp only [Bool.or_eq_false_iff,decide_eq_false_iff_not] at h2
      omega
theorem xO {p X:PlanI} (hp:PlanOk p) (hc:X.cls=p.cls) (hr:X.ruls=p.ruls):overB X=false:=by
 have:=hp.c8;have:=hp.r8
 rw [overB,hc,hr,Bool.or_eq_false_iff,decide_eq_false_iff_not,decide_eq_false_iff_not];omega
theorem Hp {v:Int} (h:0≤v∧v≤1099511627776):IntKind.u64.wrap v=v:=by
 have e:IntKind.u64.wrap v=v % 18446744073709551616:=by simp [IntKind.wrap,IntKind.bits,IntKind.signed]
 rw [e];omega
theorem gG {w:Wd} {v:Int} (h:ay w= .ok v):rdX (0,0) w (hG w.q w.t 0 1099511627776).1=v:=by
 obtain ⟨g,x⟩:=e7 h;rw [jq rfl g,x]
theorem Hq {w:Wd} {v:Int} (h:a7 w= .ok v):rdX (0,0) w ((eC w.t).l.toNat:Nat)=v:=by
 obtain ⟨g,x⟩:=e7 h;rw [jq rfl g,x]
def oM (f:Ft) (w:Wd):Int:=rdX f w (hG w.q w.t 0 1099511627776).1
def Nj (f:Ft) (w:Wd):Int:=rdX f w ((eC w.t).l.toNat:Nat)
theorem sw0 {w0 w1:Wd} {a:Int} {p:PlanI} (hp:PlanOk p):SwF 0 [w0,w1] a p { p with hor:=IntKind.u64.wrap (oM (0,0) w1) } (rdO (0,0) (ay w1)):=by
 refine ⟨rfl,hp.six,by have:=hp.c8;simp only;omega,by have:=hp.r8;simp only;omega,hp.lt,?_⟩
 rcases h1:ay w1 with e|v
 ·exact .inl ⟨e,bY h1,eg rfl,by rw [planW,h1];rfl⟩
 ·refine .inr ⟨ef (a:=v) rfl,?_⟩
  rw [planW,h1,cZ,oM,gG h1,Hp (Ev h1),xO (X:={ p with hor:=v }) hp rfl rfl];rfl
def iF (w1 w2 w3:Wd):ClsI:=⟨Nj (0,0) w1,oM (rdO (0,0) (a7 w1)) w2,oM (rdO (rdO (0,0) (a7 w1)) (ay w2)) w3⟩
theorem sw1 {w0 w1 w2 w3:Wd} {a:Int} {p:PlanI} (hp:PlanOk p):SwF 1 [w0,w1,w2,w3] a p { p with cls:=p.cls++ [iF w1 w2 w3] } (rdO (rdO (rdO (0,0) (a7 w1)) (ay w2)) (ay w3)):=by
 have h8:=hp.c8
 have h9:=hp.r8
 refine ⟨rfl,hp.six,by simp;omega,by simp only;omega,hp.lt,?_⟩
 unfold iF
 rw [planW,fG]
 rcases h1:a7 w1 with e|v1
 ·have:=bY h1
  exact .inl ⟨e,this,by rw [eg (e:=e) rfl,cj this,cj this],rfl⟩
 rw [ef (a:=v1) rfl,cZ]
 rcases h2:ay w2 with e|v2
 ·have:=bY h2
  exact .inl ⟨e,this,by rw [eg (e:=e) rfl,cj this],rfl⟩
 rw [ef (a:=v2) rfl,cZ]
 rcases h3:ay w3 with e|v3
 ·exact .inl ⟨e,bY h3,eg rfl,rfl⟩
 refine .inr ⟨ef (a:=v3) rfl,?_⟩
 rw [cZ]
 simp only [Nj,oM,Hq h1,gG h2,gG h3]
 by_cases he:p.cls.length=8
 ·rw [if_pos he]
  have:overB { p with cls:=p.cls++ [⟨v1,v2,v3⟩] }=true:=by simp [overB];omega
  rw [this];rfl
 ·rw [if_neg he]
  have:overB { p with cls:=p.cls++ [⟨v1,v2,v3⟩] }=false:=by simp [overB];omega
  rw [this];rfl
def Nk (w1 w2 w3 w4 w5:Wd):TenI :=
 ⟨oM (0,0) w1,oM (rdO (0,0) (ay w1)) w2,oM (rdO (rdO (0,0) (ay w1)) (ay w2)) w3,oM (rdO (rdO (rdO (0,0) (ay w1)) (ay w2)) (ay w3)) w4,oM (rdO (rdO (rdO (rdO (0,0) (ay w1)) (ay w2)) (ay w3)) (ay w4)) w5⟩
theorem sw2 {w0 w1 w2 w3 w4 w5:Wd} {a:Int} {p:PlanI} (hp:PlanOk p) (ht:p.t<6):SwF 2 [w0,w1,w2,w3,w4,w5] a p { p with tens:=p.tens.set p.t (Nk w1 w2 w3 w4 w5),t:=p.t+1 } (rdO (rdO (rdO (rdO (rdO (0,0) (ay w1)) (ay w2)) (ay w3)) (ay w4)) (ay w5)):=by
 have h8:=hp.c8
 have h9:=hp.r8
 refine ⟨rfl,by simp [hp.six],by simp only;omega,by simp only;omega,by simp only;omega,?_⟩
 unfold Nk
 rw [planW,eY]
 rcases h1:ay w1 with e|v1
 ·have:=bY h1
  exact .inl ⟨e,this,by rw [eg (e:=e) rfl,cj this,cj this,cj this,cj this],rfl⟩
 rw [ef (a:=v1) rfl,cZ]
 rcases h2:ay w2 with e|v2
 ·have:=bY h2
  exact .inl ⟨e,this,by rw [eg (e:=e) rfl,cj this,cj this,cj this],rfl⟩
 rw [ef (a:=v2) rfl,cZ]
 rcases h3:ay w3 with e|v3
 ·have:=bY h3
  exact .inl ⟨e,this,by rw [eg (e:=e) rfl,cj this,cj this],rfl⟩
 rw [ef (a:=v3) rfl,cZ]
 rcases h4:ay w4 with e|v4
 ·have:=bY h4
  exact .inl ⟨e,this,by rw [eg (e:=e) rfl,cj this],rfl⟩
 rw [ef (a:=v4) rfl,cZ]
 rcases h5:ay w5 with e|v5
 ·exact .inl ⟨e,bY h5,eg rfl,rfl⟩
 refine .inr ⟨ef (a:=v5) rfl,?_⟩
 simp only [oM,gG h1,gG h2,gG h3,gG h4,gG h5,cZ]
 rw [xO (X:={ p with tens:=p.tens.set p.t ⟨v1,v2,v3,v4,v5⟩,t:=p.t+1 }) hp rfl rfl];rfl
theorem Ew {w1 w2 w3 w4 w5 w6:Wd} {e:Ft} (h:ib w1 w2 w3 w4 w5 w6= .error e):e.1≠0:=by
 unfold ib at h
 rcases kq h with h|⟨_,_,h⟩
 ·exact bY h
 rcases kq h with h|⟨_,_,h⟩
 ·exact bY h
 rcases kq h with h|⟨_,_,h⟩
 ·exact bY h
 rcases kq h with h|⟨_,_,h⟩
 ·exact xN h
 rcases kq h with h|⟨_,_,h⟩
 ·exact bY h
 rcases kq h with h|⟨_,_,h⟩
 ·exact bY h
 cases h
theorem sw3 {w0 w1 w2 w3 w4 w5 w6:Wd} {a:Int} {p:PlanI} (hp:PlanOk p):SwF 3 [w0,w1,w2,w3,w4,w5,w6] a p { p with ruls:=p.ruls++ [mM w1 w2 w3 w4 w5 w6] } (rdO (0,0) (ib w1 w2 w3 w4 w5 w6)):=by
 have h8:=hp.c8
 have h9:=hp.r8
 refine ⟨rfl,hp.six,by simp only;omega,by simp;omega,hp.lt,?_⟩
 rw [planW,Hl]
 rcases h1:ib w1 w2 w3 w4 w5 w6 with e|x
 ·exact .inl ⟨e,Ew h1,eg rfl,rfl⟩
 refine .inr ⟨ef (a:=x) rfl,?_⟩
 rw [cZ,Er h1]
 by_cases he:p.ruls.length=8
 ·rw [if_pos he]
  have:overB { p with ruls:=p.ruls++ [x] }=true:=by simp [overB];omega
  rw [this];rfl
 ·rw [if_neg he]
  have:overB { p with ruls:=p.ruls++ [x] }=false:=by simp [overB];omega
  rw [this];rfl
structure SwK (fr f:Fr) (ζ δ t:Nat):Prop where
 s0:slot 0 f=slot 0 fr
 s2:slot 2 f=slot 2 fr
 s3:slot 3 f=slot 3 fr
 s4:slot 4 f=slot 4 fr
 s6:slot 6 f= .ptr ζ 0
 s7:slot 7 f= .int .i64 1
 s8:slot 8 f= .int .i64 (t:Nat)
 s9:slot 9 f=slot 9 fr
 sx:slot 10 f=slot 10 fr
 sy:slot 13 f= .ptr δ 0
theorem Nl {p:PlanI} (h:fO p 0=true):fH p=0:=by
 simp only [fO,beq_iff_eq] at h;rw [fH,if_pos P6]
theorem Ey {p:PlanI} {k:Nat} (hr:PlanR p) (hk:k=1∨k=2∨k=3) (h:fO p k=true):fH p=1:=by
 obtain ⟨h1,h2⟩:=hr
 have:p.n≠0:=by
  rcases hk with rfl|rfl|rfl<;>simp only [fO,Bool.and_eq_true,decide_eq_true_eq,beq_iff_eq] at h<;>omega
 rw [fH,if_neg this]
theorem uv {σ:St} {ζ κ υ δ:Nat} {X:PlanI} {d c:List AV} (hk:σ.tip κ=some (94,3,X.cls.length)) (hu:σ.tip υ=some (97,7,X.ruls.length)) (he:c=pC κ υ X):St.le (dS ζ κ υ X (σ.aa δ d)) ((σ.aa δ d).aa ζ c):=by
 rw [AA (σ:=σ.aa δ d) hk hu,he];exact St.le_refl _
set_option maxHeartbeats 4000000 in
theorem P2 {σ1:St} {fr:Fr} {Q:Exit→Fr→St→Prop} {p:PlanI} {ws:List Wd} {a:Int} {ζ δ κ υ:Nat} {w0 w1:Wd} (hp:PlanOk p) (hr:PlanR p) (hm:fO p 0=true) (hws:ws= [w0,w1]) (ht:∀ w∈ws,w.t.length≤1000000) (hc:Cf σ1 ζ κ υ p) (hd:σ1.box δ=some (rdB ws (0,0))) (hne:ζ≠δ)
  (h6:slot 6 fr= .ptr ζ 0) (h7:slot 7 fr= .int .i64 (fH p:Nat)) (h8:slot 8 fr= .int .i64 (p.t:Nat)) (h11:slot 11 fr= .int .i64 0) (h13:slot 13 fr= .ptr δ 0)
  (hQ:∀ X f f' s',SwF 0 ws a p X f→St.le (dS ζ κ υ X (σ1.aa δ (rdB ws f))) s'→SwK fr f' ζ δ X.t→Q .normal f' s'):aX Tryz.prog o3 fr σ1 Q:=by
 haveI:BoxIs σ1 ζ (pC κ υ p):=⟨hc.hb⟩
 haveI:BoxIs σ1 δ [.sl false ws.length (ws.flatMap cWd), .int .i64 0, .int .i64 0]:=⟨hd⟩
 haveI:Apart ζ δ:=⟨hne⟩
 haveI:Apart δ ζ:=⟨hne.symm⟩
 have hln:=kr κ υ hp.six
 have h32:=fun x=>Et (p:=p) κ υ hp.six x
 have hh:=Nl hm
 rw [hh] at h7
 have w1h:ws[1]? =some w1:=Qo
 have h1:=ht w1 Qy
 have hl:ws.length≤1000000:=Qy
 have hsw:=sw0 (w0:=w0) (w1:=w1) (a:=a) hp
 rw [←hws] at hsw
 unfold o3
 simp only [↓R1,RR,seval,h6,h7,h8,h11,h13,RX]
 repeat' (((refine AC.mono (AC.wk (r68 (k:=1) (ws:=ws) (f:=(0,0)) (w:=w1) ?_ w1h hl h1) (ad _)) ?_;(focus (simp only [RR,seval,rdB];done));(rintro _ _ ⟨rfl,rfl⟩)))<;>(try simp only [↓R1,RR,seval,hln,h32,rdB,RX]))
 refine hQ _ _ _ _ hsw ?_ ⟨rfl,rfl,rfl,rfl,rfl,rfl,rfl,rfl,rfl,rfl⟩
 exact uv hc.tk hc.tu rfl
set_option maxHeartbeats 4000000 in
theorem P3 {σ1:St} {fr:Fr} {Q:Exit→Fr→St→Prop} {p:PlanI} {ws:List Wd} {a:Int} {ζ δ κ υ:Nat} {w0 w1 w2 w3 w4 w5:Wd} (hp:PlanOk p) (hr:PlanR p) (hm:fO p 2=true) (hws:ws= [w0,w1,w2,w3,w4,w5]) (ht:∀ w∈ws,w.t.length≤1000000) (hc:Cf σ1 ζ κ υ p) (hd:σ1.box δ=some (rdB ws (0,0))) (hne:ζ≠δ)
  (h6:slot 6 fr= .ptr ζ 0) (h7:slot 7 fr= .int .i64 (fH p:Nat)) (h8:slot 8 fr= .int .i64 (p.t:Nat)) (h11:slot 11 fr= .int .i64 2) (h13:slot 13 fr= .ptr δ 0)
  (hQ:∀ X f f' s',SwF 2 ws a p X f→St.le (dS ζ κ υ X (σ1.aa δ (rdB ws f))) s'→SwK fr f' ζ δ X.t→Q .normal f' s'):aX Tryz.prog o3 fr σ1 Q:=by
 haveI:BoxIs σ1 ζ (pC κ υ p):=⟨hc.hb⟩
 haveI:BoxIs σ1 δ [.sl false ws.length (ws.flatMap cWd), .int .i64 0, .int .i64 0]:=⟨hd⟩
 haveI:Apart ζ δ:=⟨hne⟩
 haveI:Apart δ ζ:=⟨hne.symm⟩
 have hln:=kr κ υ hp.six
 have ht6:=D8 hm
 have hten:∀ a b c d e,(pC κ υ p).take (1+p.t*5)++ [.int .i64 a, .int .i64 b, .int .i64 c, .int .i64 d, .int .i64 e]++(pC κ υ p).drop (1+p.t*5+5)=pC κ υ { p with tens:=p.tens.set p.t ⟨a,b,c,d,e⟩ }:=fun a b c d e=>K9 κ υ hp.six ht6 ⟨a,b,c,d,e⟩
 have hwt:IntKind.i64.wrap ((p.t:Int)+1)=((p.t+1:Nat):Int):=P9
 have hh:=Ey hr (.inr (.inl rfl)) hm
 rw [hh] at h7
 have w1h:ws[1]? =some w1:=Qo
 have w2h:ws[2]? =some w2:=Qo
 have w3h:ws[3]? =some w3:=Qo
 have w4h:ws[4]? =some w4:=Qo
 have w5h:ws[5]? =some w5:=Qo
 have h1:=ht w1 Qy
 have h2:=ht w2 Qy
 have h3:=ht w3 Qy
 have h4:=ht w4 Qy
 have h5:=ht w5 Qy
 have hl:ws.length≤1000000:=Qy
 have hsw:=sw2 (w0:=w0) (w1:=w1) (w2:=w2) (w3:=w3) (w4:=w4) (w5:=w5) (a:=a) hp ht6
 rw [←hws] at hsw
 unfold o3
 simp only [↓R1,RR,seval,h6,h7,h8,h11,h13,RX]
 repeat' (first|(with_reducible refine And.intro ?_ ?_;focus (intros;(repeat' (with_reducible apply And.intro))<;>first|omega|(simp only [RZ,fD,eX];omega)))|((first|((refine AC.mono (AC.wk (r68 (k:=1) (ws:=ws) (f:=(0,0)) (w:=w1) ?_ w1h hl h1) (ad _)) ?_;(focus (simp only [RR,seval,rdB];done));(rintro _ _ ⟨rfl,rfl⟩)))|((refine AC.mono (AC.wk (r68 (k:=2) (ws:=ws) (f:=rdO (0,0) (ay w1)) (w:=w2) ?_ w2h hl h2) (ad _)) ?_;(focus (simp only [RR,seval,rdB];done));(rintro _ _ ⟨rfl,rfl⟩)))|((refine AC.mono (AC.wk (r68 (k:=3) (ws:=ws) (f:=rdO (rdO (0,0) (ay w1)) (ay w2)) (w:=w3) ?_ w3h hl h3) (ad _)) ?_;(focus (simp only [RR,seval,rdB];done));(rintro _ _ ⟨rfl,rfl⟩)))|((refine AC.mono (AC.wk (r68 (k:=4) (ws:=ws) (f:=rdO (rdO (rdO (0,0) (ay w1)) (ay w2)) (ay w3)) (w:=w4) ?_ w4h hl h4) (ad _)) ?_;(focus (simp only [RR,seval,rdB];done));(rintro _ _ ⟨rfl,rfl⟩)))|((refine AC.mono (AC.wk (r68 (k:=5) (ws:=ws) (f:=rdO (rdO (rdO (rdO (0,0) (ay w1)) (ay w2)) (ay w3)) (ay w4)) (w:=w5) ?_ w5h hl h5) (ad _)) ?_;(focus (simp only [RR,seval,rdB];done));(rintro _ _ ⟨rfl,rfl⟩))))<;>(try simp only [↓R1,RR,seval,hln,hten,hwt,rdB,RX])))
 all_goals (try (focus (omega;done)))
 refine hQ _ _ _ _ hsw ?_ ⟨rfl,rfl,rfl,rfl,rfl,rfl,rfl,rfl,rfl,rfl⟩
 exact uv hc.tk hc.tu rfl
def V1 (ζ δ κ:Nat) (p:PlanI) (w1 w2 w3:Wd) (i:Nat) (v:AV):Prop:=match i with
 | 0=>v= .ptr ζ 0
 | 1=>v= .tsl κ p.cls.length (p.cls.flatMap bE)
 | 3=>v= .int .u64 (iF w1 w2 w3).l
 | 5=>v= .int .i64 (iF w1 w2 w3).size
 | 7=>v= .int .i64 (iF w1 w2 w3).rate
 | 8=>v= .agg (bE (iF w1 w2 w3))
 | 9=>v= .sl true 1 (bE (iF w1 w2 w3))
 | _=>v= .ptr δ 0
def F1 (w1 w2 w3:Wd) (D:Nat→Bool):Ft:=bif D 7 then rdO (rdO (rdO (0,0) (a7 w1)) (ay w2)) (ay w3) else bif D 5 then rdO (rdO (0,0) (a7 w1)) (ay w2) else bif D 3 then rdO (0,0) (a7 w1) else (0,0)
theorem iG {w1 w2 w3:Wd} {D:Nat→Bool} {j:Nat} (h3:3≠j) (h5:5≠j) (h7:7≠j):F1 w1 w2 w3 (fun k=>D k||Nat.beq k j)=F1 w1 w2 w3 D:=by
 have e:∀ m,m≠j→Nat.beq m j=false:=fun m h=>by rw [←Bool.not_eq_true];exact fun e=>h (Nat.eq_of_beq_eq_true e)
 simp only [F1,e 3 h3,e 5 h5,e 7 h7,Bool.or_false]
theorem _root_.Q1 {p:Prop} (h:p:=by rw [hfr 6 (by decide)];exact h6):p:=h
set_option maxHeartbeats 4000000 in
theorem Nn {σ1:St} {fr:Fr} {Q:Exit→Fr→St→Prop} {p:PlanI} {ws:List Wd} {ζ δ κ υ:Nat} {w0 w1 w2 w3:Wd} (hp:PlanOk p) (hws:ws= [w0,w1,w2,w3]) (ht:∀ w∈ws,w.t.length≤1000000) (hc:Cf σ1 ζ κ υ p) (hd:σ1.box δ=some (rdB ws (0,0))) (hne:ζ≠δ)
  (h6:slot 6 fr= .ptr ζ 0) (h13:slot 13 fr= .ptr δ 0)
  (hQ:∀ f s',St.le (dS ζ κ υ { p with cls:=p.cls++ [iF w1 w2 w3] } (σ1.aa δ (rdB ws (rdO (rdO (rdO (0,0) (a7 w1)) (ay w2)) (ay w3))))) s'→(∀ t,t ∉ [95,96,97,98,99,100,101,102,103,104,105,106]→slot t f=slot t fr)→Q .normal f s') :
  aX Tryz.prog (.invX [.o ⟨some 95, .fldA 0 (.t 6),none⟩, .o ⟨some 96, .ld (none) (.t 95),none⟩, .o ⟨some 97, .mv (.t 13),none⟩, .o ⟨some 98, .call 69 [(.t 97),(.c (.int .i64 1))],none⟩, .o ⟨some 99, .mv (.t 13),none⟩, .o ⟨some 100, .call 68 [(.t 99),(.c (.int .i64 2))],none⟩, .o ⟨some 101, .mv (.t 13),none⟩, .o ⟨some 102, .call 68 [(.t 101),(.c (.int .i64 3))],none⟩, .o ⟨some 103, .bld [.int .u64 0, .int .i64 0, .int .i64 0] [(0,1,(.t 98)),(1,1,(.t 100)),(2,1,(.t 102))],none⟩, .o ⟨some 104, .mkSl 3 1 [.int .u64 0, .int .i64 0, .int .i64 0] [(0,3,(.t 103))],none⟩, .o ⟨some 105, .app true 94 3 24 (.t 96) (.t 104),none⟩, .o ⟨some 106, .fldA 0 (.t 6),none⟩, .o ⟨none, .st 1 (.t 106) (.t 105),none⟩] [[],[0],[],[2],[],[4,3],[],[6,5],[3,5,7],[8],[1,9,7],[0,1,2,3,4,5,6,7,8,9,10],[11,10,10,0,1,2,3,4,5,6,7,8,9,10]]) fr σ1 Q:=by
 have w1h:ws[1]? =some w1:=Qo
 have w2h:ws[2]? =some w2:=Qo
 have w3h:ws[3]? =some w3:=Qo
 have h1:=ht w1 Qy
 have h2:=ht w2 Qy
 have h3:=ht w3 Qy
 have hl:ws.length≤1000000:=Qy
 have hln:=kr κ υ hp.six
 have hcx:=cO κ υ p
 refine ta [95,96,97,98,99,100,101,102,103,104] 10 (fun D s=>s=σ1.aa δ (rdB ws (F1 w1 w2 w3 D))) (V1 ζ δ κ p w1 w2 w3) Qg (kp hd).symm ?_ ?_
 ·intro D j x d hj hx hd' hD hcl hdep f s hs hfr hv
  subst hs
  have h6':slot 6 f= .ptr ζ 0:=Q1
  have h13':slot 13 f= .ptr δ 0:=by rw [hfr 13 Qg];exact h13
  have hcs:j=0∨j=1∨j=2∨j=3∨j=4∨j=5∨j=6∨j=7∨j=8∨j=9:=P6
  haveI:Apart ζ δ:=⟨hne⟩
  haveI:Apart δ ζ:=⟨hne.symm⟩
  haveI:BoxIs σ1 ζ (pC κ υ p):=⟨hc.hb⟩
  have h6:=h6'
  have h13:=h13'
  have e0:True:=trivial
  have e2:True:=trivial
  have e3:True:=trivial
  have e4:True:=trivial
  have e5:True:=trivial
  have c5:D 5=true→D 3=true:=fun h=>List.all_eq_true.1 (hcl 5 h) 3 Qd
  have c7:D 7=true→D 5=true:=fun h=>List.all_eq_true.1 (hcl 7 h) 5 Qd
  rcases hcs with rfl|rfl|rfl|rfl|rfl|rfl|rfl|rfl|rfl|rfl
  ·cases hx;cases hd'
   refine bX ?_
   simp only [↓R1,RR,seval,h6,rdB]
   exact ⟨_,rfl,by rw [iG Qg Qg Qg],rfl⟩
  ·cases hx;cases hd'
   have e0:slot 95 f= .ptr ζ 0:=hv 0 95 Qd rfl
   refine bX ?_
   simp only [↓R1,RR,seval,e0,hln,hcx,rdB]
   exact ⟨_,rfl,by rw [iG Qg Qg Qg],rfl⟩
  ·cases hx;cases hd'
   refine bX ?_
   simp only [↓R1,RR,seval,h13,rdB]
   exact ⟨_,rfl,by rw [iG Qg Qg Qg],rfl⟩
  ·cases hx;cases hd'
   have e2:slot 97 f= .ptr δ 0:=hv 2 97 Qd rfl
   have d5:D 5=false:=by cases h:D 5 with
    | false=>rfl
    | true=>rw [c5 h] at hD;cases hD
   have d7:D 7=false:=by cases h:D 7 with
    | false=>rfl
    | true=>rw [c7 h] at d5;cases d5
   have hf:F1 w1 w2 w3 D=(0,0):=by simp [F1,hD,d5,d7]
   have hg:F1 w1 w2 w3 (fun k=>D k||Nat.beq k 3)=rdO (0,0) (a7 w1):=by simp only [F1,hD,d5,d7];rfl
   refine bX ?_
   rw [hf]
   simp only [↓R1,RR,seval,e2,rdB]
   refine AC.mono (AC.wk (r69 (k:=1) (ws:=ws) (f:=(0,0)) (w:=w1) ?_ w1h hl h1) (ad _)) ?_
   ·simp only [RR,seval,rdB]
   rintro _ _ ⟨rfl,rfl⟩
   simp only [↓R1,RR,seval,rdB]
   exact ⟨_,rfl,by rw [hg],rfl⟩
  ·cases hx;cases hd'
   refine bX ?_
   simp only [↓R1,RR,seval,h13,rdB]
   exact ⟨_,rfl,by rw [iG Qg Qg Qg],rfl⟩
  ·cases hx;cases hd'
   have e2:slot 99 f= .ptr δ 0:=hv 4 99 Qd rfl
   have d3:D 3=true:=List.all_eq_true.1 hdep 3 Qd
   have d7:D 7=false:=by cases h:D 7 with
    | false=>rfl
    | true=>rw [c7 h] at hD;cases hD
   have hf:F1 w1 w2 w3 D=rdO (0,0) (a7 w1):=by simp [F1,hD,d3,d7]
   have hg:F1 w1 w2 w3 (fun k=>D k||Nat.beq k 5)=rdO (rdO (0,0) (a7 w1)) (ay w2):=by simp only [F1,hD,d3,d7];rfl
   refine bX ?_
   rw [hf]
   simp only [↓R1,RR,seval,e2,rdB]
   refine AC.mono (AC.wk (r68 (k:=2) (ws:=ws) (f:=rdO (0,0) (a7 w1)) (w:=w2) ?_ w2h hl h2) (ad _)) ?_
   ·simp only [RR,seval,rdB]
   rintro _ _ ⟨rfl,rfl⟩
   simp only [↓R1,RR,seval,rdB]
   exact ⟨_,rfl,by rw [hg],rfl⟩
  ·cases hx;cases hd'
   refine bX ?_
   simp only [↓R1,RR,seval,h13,rdB]
   exact ⟨_,rfl,by rw [iG Qg Qg Qg],rfl⟩
  ·cases hx;cases hd'
   have e2:slot 101 f= .ptr δ 0:=hv 6 101 Qd rfl
   have d5:D 5=true:=List.all_eq_true.1 hdep 5 Qd
   have d3:D 3=true:=c5 d5
   have hf:F1 w1 w2 w3 D=rdO (rdO (0,0) (a7 w1)) (ay w2):=by simp [F1,hD,d3,d5]
   have hg:F1 w1 w2 w3 (fun k=>D k||Nat.beq k 7)=rdO (rdO (rdO (0,0) (a7 w1)) (ay w2)) (ay w3):=by simp only [F1,hD,d3,d5];rfl
   refine bX ?_
   rw [hf]
   simp only [↓R1,RR,seval,e2,rdB]
   refine AC.mono (AC.wk (r68 (k:=3) (ws:=ws) (f:=rdO (rdO (0,0) (a7 w1)) (ay w2)) (w:=w3) ?_ w3h hl h3) (ad _)) ?_
   ·simp only [RR,seval,rdB]
   rintro _ _ ⟨rfl,rfl⟩
   simp only [↓R1,RR,seval,rdB]
   exact ⟨_,rfl,by rw [hg],rfl⟩
  ·cases hx;cases hd'
   have e3:slot 98 f= .int .u64 (iF w1 w2 w3).l:=hv 3 98 Qd rfl
   have e4:slot 100 f= .int .i64 (iF w1 w2 w3).size:=hv 5 100 Qd rfl
   have e5:slot 102 f= .int .i64 (iF w1 w2 w3).rate:=hv 7 102 Qd rfl
   refine bX ?_
   simp only [↓R1,RR,seval,e3,e4,e5,rdB]
   exact ⟨_,rfl,by rw [iG Qg Qg Qg],rfl⟩
  ·cases hx;cases hd'
   have e3:slot 103 f= .agg [.int .u64 (iF w1 w2 w3).l, .int .i64 (iF w1 w2 w3).size, .int .i64 (iF w1 w2 w3).rate]:=hv 8 103 Qd rfl
   refine bX ?_
   simp only [↓R1,RR,seval,e3,rdB]
   exact ⟨_,rfl,by rw [iG Qg Qg Qg],rfl⟩
 ·intro D f s hall hs hfr hv
  have hf:F1 w1 w2 w3 D=rdO (rdO (rdO (0,0) (a7 w1)) (ay w2)) (ay w3):=by simp [F1,hall 7 Qg]
  rw [hf] at hs
  subst hs
  have h6':slot 6 f= .ptr ζ 0:=Q1
  have h6:=h6'
  have e3:slot 96 f= .tsl κ p.cls.length (p.cls.flatMap bE):=hv 1 96 rfl
  have e4:slot 104 f= .sl true 1 [.int .u64 (iF w1 w2 w3).l, .int .i64 (iF w1 w2 w3).size, .int .i64 (iF w1 w2 w3).rate]:=hv 9 104 rfl
  show cC _ [.o ⟨some 105, .app true 94 3 24 (.t 96) (.t 104),none⟩, .o ⟨some 106, .fldA 0 (.t 6),none⟩, .o ⟨none, .st 1 (.t 106) (.t 105),none⟩] f _ Q
  have e0:True:=trivial
  have e2:True:=trivial
  have e5:True:=trivial
  haveI:Apart ζ δ:=⟨hne⟩
  haveI:Apart δ ζ:=⟨hne.symm⟩
  haveI:BoxIs σ1 ζ (pC κ υ p):=⟨hc.hb⟩
  have hcl:=fD p.cls
  have h88:=hp.c8
  have htk:=hc.tk
  simp only [↓R1,RR,seval,e3,e4,rdB,RX]
  refine br rfl ?_ ?_ ?_ ?_ ?_ ?_
  ·exact htk
  ·omega
  ·rfl
  ·unfold maxLen;omega
  ·omega
  have hm:=Hm (p:=p) κ υ (iF w1 w2 w3)
  simp only [↓R1,RR,seval,h6,hln,RX]
  rw [hm]
  refine hQ _ _ ?_ (fun t ht=>?_)
  ·rw [La (σ:=σ1.aa δ _) (q:={ p with cls:=p.cls++ [iF w1 w2 w3] }) hc.ne.symm hc.tu,List.length_append]
   exact St.le_refl _
  ·have n1:t≠106:=fun e=>ht (by rw [e];decide)
   have n2:t≠105:=fun e=>ht (by rw [e];decide)
   simp only [slot,if_neg n1,if_neg n2]
   exact hfr t fun h=>ht (List.mem_append_left [105,106] h)
def V3 (ζ δ υ:Nat) (p:PlanI) (x:RulI) (i:Nat) (v:AV):Prop:=match i with
 | 0=>v= .ptr ζ 31
 | 1=>v= .tsl υ p.ruls.length (p.ruls.flatMap cg)
 | 2=>v= .ptr δ 0
 | 3=>v= .agg (cg x)
 | _=>v= .sl true 1 (cg x)
def F3 (g:Ft) (D:Nat→Bool):Ft:=bif D 3 then g else (0,0)
theorem nk {g:Ft} {D:Nat→Bool} {j:Nat} (h3:3≠j):F3 g (fun k=>D k||Nat.beq k j)=F3 g D:=by
 have e:Nat.beq 3 j=false:=by rw [←Bool.not_eq_true];exact fun e=>h3 (Nat.eq_of_beq_eq_true e)
 simp only [F3,e,Bool.or_false]
theorem No (x:RulI):(cg x).length=7:=rfl
set_option maxHeartbeats 4000000 in
theorem Np {σ1:St} {fr:Fr} {Q:Exit→Fr→St→Prop} {p:PlanI} {ws:List Wd} {ζ δ κ υ:Nat} {w0 w1 w2 w3 w4 w5 w6:Wd} (hp:PlanOk p) (hws:ws= [w0,w1,w2,w3,w4,w5,w6]) (ht:∀ w∈ws,w.t.length≤1000000) (hc:Cf σ1 ζ κ υ p) (hd:σ1.box δ=some (rdB ws (0,0))) (hne:ζ≠δ)
  (h6:slot 6 fr= .ptr ζ 0) (h13:slot 13 fr= .ptr δ 0)
  (hQ:∀ f s',St.le (dS ζ κ υ { p with ruls:=p.ruls++ [mM w1 w2 w3 w4 w5 w6] } (σ1.aa δ (rdB ws (rdO (0,0) (ib w1 w2 w3 w4 w5 w6))))) s'→(∀ t,t ∉ [78,79,80,81,82,83,84]→slot t f=slot t fr)→Q .normal f s') :
  aX Tryz.prog (.invX [.o ⟨some 78, .fldA 31 (.t 6),none⟩, .o ⟨some 79, .ld (none) (.t 78),none⟩, .o ⟨some 80, .mv (.t 13),none⟩, .o ⟨some 81, .call 70 [(.t 80)],none⟩, .o ⟨some 82, .mkSl 7 1 [.int .i64 0, .int .u64 0, .int .u64 0, .bool false, .int .i64 0, .int .i64 0, .int .i64 0] [(0,7,(.t 81))],none⟩, .o ⟨some 83, .app true 97 7 56 (.t 79) (.t 82),none⟩, .o ⟨some 84, .fldA 31 (.t 6),none⟩, .o ⟨none, .st 1 (.t 84) (.t 83),none⟩] [[],[0],[],[2],[3],[1,4,3],[0,1,2,3,4,5],[6,5,5,0,1,2,3,4,5]]) fr σ1 Q:=by
 have hln:=kr κ υ hp.six
 have hcx:=Es (p:=p) κ υ hp.six
 have hrr:= @r70 σ1 δ ws w0 w1 w2 w3 w4 w5 w6 hd hws ht
 have hmr:=Eu (p:=p) κ υ hp.six (mM w1 w2 w3 w4 w5 w6)
 generalize rdO (0,0) (ib w1 w2 w3 w4 w5 w6)=g at hrr hQ
 generalize mM w1 w2 w3 w4 w5 w6=x at hrr hQ hmr
 refine ta [78,79,80,81,82] 5 (fun D s=>s=σ1.aa δ (rdB ws (F3 g D))) (V3 ζ δ υ p x) Qg (kp hd).symm ?_ ?_
 ·intro D j y d hj hx hd' hD hcl hdep f s hs hfr hv
  subst hs
  have h6':slot 6 f= .ptr ζ 0:=Q1
  have h13':slot 13 f= .ptr δ 0:=by rw [hfr 13 Qg];exact h13
  have hcs:j=0∨j=1∨j=2∨j=3∨j=4:=P6
  haveI:Apart ζ δ:=⟨hne⟩
  haveI:Apart δ ζ:=⟨hne.symm⟩
  haveI:BoxIs σ1 ζ (pC κ υ p):=⟨hc.hb⟩
  have h6:=h6'
  have h13:=h13'
  have e0:True:=trivial
  have e2:True:=trivial
  have e3:True:=trivial
  have e4:True:=trivial
  rcases hcs with rfl|rfl|rfl|rfl|rfl
  ·cases hx;cases hd'
   refine bX ?_
   simp only [↓R1,RR,seval,h6,rdB]
   exact ⟨_,rfl,by rw [nk Qg],rfl⟩
  ·cases hx;cases hd'
   have e0:slot 78 f= .ptr ζ 31:=hv 0 78 Qd rfl
   refine bX ?_
   simp only [↓R1,RR,seval,e0,hln,hcx,rdB]
   exact ⟨_,rfl,by rw [nk Qg],rfl⟩
  ·cases hx;cases hd'
   refine bX ?_
   simp only [↓R1,RR,seval,h13,rdB]
   exact ⟨_,rfl,by rw [nk Qg],rfl⟩
  ·cases hx;cases hd'
   have e2:slot 80 f= .ptr δ 0:=hv 2 80 Qd rfl
   have hf:F3 g D=(0,0):=by simp [F3,hD]
   have hg:F3 g (fun k=>D k||Nat.beq k 3)=g:=by simp only [F3,hD];rfl
   refine bX ?_
   rw [hf,kp hd]
   simp only [↓R1,RR,seval,e2,rdB]
   refine AC.mono (AC.wk hrr (ad _)) ?_
   rintro _ _ ⟨rfl,rfl⟩
   simp only [↓R1,RR,seval,rdB]
   exact ⟨_,rfl,by rw [hg],rfl⟩
  ·cases hx;cases hd'
   have e3:slot 81 f= .agg (cg x):=hv 3 81 Qd rfl
   refine bX ?_
   simp only [↓R1,RR,seval,e3,rdB,No]
   exact ⟨_,rfl,by rw [nk Qg],rfl⟩
 ·intro D f s hall hs hfr hv
  have hf:F3 g D=g:=by simp [F3,hall 3 Qg]
  rw [hf] at hs
  subst hs
  have h6':slot 6 f= .ptr ζ 0:=Q1
  have h6:=h6'
  have e3:slot 79 f= .tsl υ p.ruls.length (p.ruls.flatMap cg):=hv 1 79 rfl
  have e4:slot 82 f= .sl true 1 (cg x):=hv 4 82 rfl
  show cC _ [.o ⟨some 83, .app true 97 7 56 (.t 79) (.t 82),none⟩, .o ⟨some 84, .fldA 31 (.t 6),none⟩, .o ⟨none, .st 1 (.t 84) (.t 83),none⟩] f _ Q
  have e0:True:=trivial
  have e2:True:=trivial
  haveI:Apart ζ δ:=⟨hne⟩
  haveI:Apart δ ζ:=⟨hne.symm⟩
  haveI:BoxIs σ1 ζ (pC κ υ p):=⟨hc.hb⟩
  have hcl:=eX p.ruls
  have h88:=hp.r8
  have htk:=hc.tu
  simp only [↓R1,RR,seval,e3,e4,rdB,RX]
  refine br rfl ?_ ?_ ?_ ?_ ?_ ?_
  ·exact htk
  ·omega
  ·rfl
  ·unfold maxLen;omega
  ·omega
  simp only [↓R1,RR,seval,h6,hln,RX]
  rw [hmr]
  refine hQ _ _ ?_ (fun t ht=>?_)
  ·rw [Lb (σ:=σ1.aa δ _) (q:={ p with ruls:=p.ruls++ [x] }) hc.tk,List.length_append]
   exact St.le_refl _
  ·have n1:t≠84:=fun e=>ht (by rw [e];decide)
   have n2:t≠83:=fun e=>ht (by rw [e];decide)
   simp only [slot,if_neg n1,if_neg n2]
   exact hfr t fun h=>ht (List.mem_append_left [83,84] h)
set_option maxHeartbeats 4000000 in
theorem P4 {σ1:St} {fr:Fr} {Q:Exit→Fr→St→Prop} {p:PlanI} {ws:List Wd} {a:Int} {ζ δ κ υ:Nat} {w0 w1 w2 w3:Wd} (hp:PlanOk p) (hr:PlanR p) (hm:fO p 1=true) (hws:ws= [w0,w1,w2,w3]) (ht:∀ w∈ws,w.t.length≤1000000) (hc:Cf σ1 ζ κ υ p) (hd:σ1.box δ=some (rdB ws (0,0))) (hne:ζ≠δ)
  (h6:slot 6 fr= .ptr ζ 0) (h7:slot 7 fr= .int .i64 (fH p:Nat)) (h8:slot 8 fr= .int .i64 (p.t:Nat)) (h11:slot 11 fr= .int .i64 1) (h13:slot 13 fr= .ptr δ 0)
  (hQ:∀ X f f' s',SwF 1 ws a p X f→St.le (dS ζ κ υ X (σ1.aa δ (rdB ws f))) s'→SwK fr f' ζ δ X.t→Q .normal f' s'):aX Tryz.prog o3 fr σ1 Q:=by
 have hh:=Ey hr (.inl rfl) hm
 rw [hh] at h7
 have hsw:=sw1 (w0:=w0) (w1:=w1) (w2:=w2) (w3:=w3) (a:=a) hp
 rw [←hws] at hsw
 unfold o3
 simp only [↓R1,RR,seval,h6,h7,h8,h11,h13,RX]
 refine Nn hp hws ht hc hd hne ?_ ?_ (fun f s' hle hfr=>?_)
 ·simp only [RR,seval]
 ·simp only [RR,seval]
 ·have e:∀ t,t ∉ [95,96,97,98,99,100,101,102,103,104,105,106]→_:=hfr
  simp only [seval,RX]
  refine hQ _ _ _ _ hsw hle ⟨?_,?_,?_,?_,?_,?_,?_,?_,?_,?_⟩
  all_goals (rw [e _ Qg];rfl)
set_option maxHeartbeats 4000000 in
theorem P5 {σ1:St} {fr:Fr} {Q:Exit→Fr→St→Prop} {p:PlanI} {ws:List Wd} {a:Int} {ζ δ κ υ:Nat} {w0 w1 w2 w3 w4 w5 w6:Wd} (hp:PlanOk p) (hr:PlanR p) (hm:fO p 3=true) (hws:ws= [w0,w1,w2,w3,w4,w5,w6]) (ht:∀ w∈ws,w.t.length≤1000000) (hc:Cf σ1 ζ κ υ p) (hd:σ1.box δ=some (rdB ws (0,0))) (hne:ζ≠δ)
  (h6:slot 6 fr= .ptr ζ 0) (h7:slot 7 fr= .int .i64 (fH p:Nat)) (h8:slot 8 fr= .int .i64 (p.t:Nat)) (h11:slot 11 fr= .int .i64 3) (h13:slot 13 fr= .ptr δ 0)
  (hQ:∀ X f f' s',SwF 3 ws a p X f→St.le (dS ζ κ υ X (σ1.aa δ (rdB ws f))) s'→SwK fr f' ζ δ X.t→Q .normal f' s'):aX Tryz.prog o3 fr σ1 Q:=by
 have hh:=Ey hr (.inr (.inr rfl)) hm
 rw [hh] at h7
 have hsw:=sw3 (w0:=w0) (w1:=w1) (w2:=w2) (w3:=w3) (w4:=w4) (w5:=w5) (w6:=w6) (a:=a) hp
 rw [←hws] at hsw
 unfold o3
 simp only [↓R1,RR,seval,h6,h7,h8,h11,h13,RX]
 refine Np hp hws ht hc hd hne ?_ ?_ (fun f s' hle hfr=>?_)
 ·simp only [RR,seval]
 ·simp only [RR,seval]
 ·have e:∀ t,t ∉ [78,79,80,81,82,83,84]→_:=hfr
  simp only [seval,RX]
  refine hQ _ _ _ _ hsw hle ⟨?_,?_,?_,?_,?_,?_,?_,?_,?_,?_⟩
  all_goals (rw [e _ Qg];rfl)
theorem Lc {σ1:St} {fr:Fr} {Q:Exit→Fr→St→Prop} {p:PlanI} {ws:List Wd} {a:Int} {k ζ δ κ υ:Nat} (hk:k<4) (hln:ws.length=fe[k]?.getD 0) (hp:PlanOk p) (hr:PlanR p) (hm:fO p k=true) (ht:∀ w∈ws,w.t.length≤1000000) (hc:Cf σ1 ζ κ υ p) (hd:σ1.box δ=some (rdB ws (0,0))) (hne:ζ≠δ)
  (h6:slot 6 fr= .ptr ζ 0) (h7:slot 7 fr= .int .i64 (fH p:Nat)) (h8:slot 8 fr= .int .i64 (p.t:Nat)) (h11:slot 11 fr= .int .i64 (k:Nat)) (h13:slot 13 fr= .ptr δ 0)
  (hQ:∀ X f f' s',SwF k ws a p X f→St.le (dS ζ κ υ X (σ1.aa δ (rdB ws f))) s'→SwK fr f' ζ δ X.t→Q .normal f' s'):aX Tryz.prog o3 fr σ1 Q:=by
 have hcs:k=0∨k=1∨k=2∨k=3:=P6
 rcases hcs with rfl|rfl|rfl|rfl<;>simp only [fe,List.getElem?_cons_zero,List.getElem?_cons_succ,Option.getD_some] at hln
 ·obtain ⟨w0,w1,hws⟩:=An hln
  exact P2 hp hr hm hws ht hc hd hne h6 h7 h8 h11 h13 hQ
 ·obtain ⟨w0,w1,w2,w3,hws⟩:=MZ hln
  exact P4 hp hr hm hws ht hc hd hne h6 h7 h8 h11 h13 hQ
 ·obtain ⟨w0,w1,w2,w3,w4,w5,hws⟩:=KU hln
  exact P3 hp hr hm hws ht hc hd hne h6 h7 h8 h11 h13 hQ
 ·obtain ⟨w0,w1,w2,w3,w4,w5,w6,hws⟩:=M5 hln
  exact P5 hp hr hm hws ht hc hd hne h6 h7 h8 h11 h13 hQ
end Go.Proofs.YtgephffbfiemeaaGreatDoor
