/- Part 31 of the proof of ScriptConfigs: an abstract semantics that is proved sound for the model, contracts of functions in it, and plain facts (ZR6 ZR7 Y12 ZR8 A40c A40d). No condition. -/
import Derived.Test.YtgephffbfiemeaaGreatDoorKScriptConfigs30
set_option linter.all false
namespace Go.Proofs.YtgephffbfiemeaaGreatDoor
open Go.Abs Go.Lib
set_option linter.all false
set_option maxRecDepth 100000
theorem aF:cz.length=33:=rfl
theorem aw:cz.take 33=cz:=rfl
theorem az:cz.drop 33= []:=rfl
theorem oN {s:List UInt8} {c:CfgI} (h:bH s= .ok c):dA s=(c,(0,0)):=by rw [dA,h]
theorem oO {s:List UInt8} {e:Ft} (h:bH s= .error e):dA s=(wv,e):=by rw [dA,h]
def cpV (x:CfgI × Ft):AV:= .tup [.agg (aR x.1), .agg [.int .i64 x.2.1, .int .i64 x.2.2]]
theorem Ez {k:Nat} (hk:k<4):(([.int .i64 2, .int .i64 4, .int .i64 6, .int .i64 7]:List AV).drop (k*1)).take 1= [.int .i64 ((fe[k]?.getD 0:Nat):Int)]:=by
 have hc:k=0∨k=1∨k=2∨k=3:=P6
 rcases hc with rfl|rfl|rfl|rfl<;>rfl
theorem jr {σ s:St} {A B:Nat} {fr:Fr} {x:List UInt8} {e:Ft} (h2:slot 2 fr= .ptr A 0) (h3:slot 3 fr= .ptr B 0) (hA:s.box A=some cz) (hB:s.box B=some [.int .i64 e.1, .int .i64 e.2]) (hp:bH x= .error e) (hl:St.le σ s) :
  oV [.cl 2 (some 33), .cl 3 (some 2)] (oXW TS (.ok (dA x)) cpV (fun _=>σ) σ) .ret fr s:=by
 refine jA (a:=(wv,e)) (.inl rfl) (by rw [oO hp]) ?_ ?_ (St.gT hl)
 ·simp [av,rvS,h2,h3,hA,hB,cT,ldS,aF]
 ·simp only [an,h2,h3,hA,hB,cT,ldV]
  exact qA (wkL.cons (gJ (by simpa [aw] using xL)) (ad _))
theorem wA {x:CX} {fr:Fr} {σ:St} {Q:Exit→Fr→St→Prop} {ζ:Nat} {h:Hold (x,σ.aa ζ cz,Q)} (hf:slot 6 fr= .ptr ζ 0) (F:PlanI→Fr) (I:PlanI→Prop) (μ:PlanI→Nat) (h0:I dR) (hF:aq (F dR) fr)
  (hr:∀ κ υ,κ≠υ→σ.tip κ=none→σ.tip υ=none→∀ p,I p→aX Tryz.prog x (F p) (dS ζ κ υ p σ) (fV (fun fr' σ'=>∃ q,I q∧aq (F q) fr'∧St.le (dS ζ κ υ q σ) σ'∧μ q<μ p) Q)):nO Tryz.prog x fr (σ.aa ζ cz) Q h:=by
 refine j7 (α:=PlanI) [(true,6,0,94,3),(true,6,31,97,7)] ?_
 have e0:cz[0+0]? =some .nils:=rfl
 have e1:∀ κ,(cz.set (0+0) (.tsl κ 0 []))[0+31]? =some .nils:=fun _=>rfl
 simp only [cH,hf,St.cA,e0]
 refine ⟨trivial,fun κ hκ=>?_⟩
 simp only [e1]
 refine ⟨trivial,fun υ hυ=>?_⟩
 have hne:κ≠υ:=fun e=>by subst e;simp [St.aa,St.ai,upd] at hυ
 have hu2:σ.tip υ=none:=by simpa [St.aa,St.ai,upd,hne.symm] using hυ
 have he:((((σ.aa ζ cz).ai κ (94,3,0)).aa ζ (cz.set (0+0) (.tsl κ 0 []))).ai υ (97,7,0)).aa ζ ((cz.set (0+0) (.tsl κ 0 [])).set (0+31) (.tsl υ 0 []))=dS ζ κ υ dR σ:=by
  obtain ⟨b,t,g,l,bt⟩:=σ
  simp only [dS,St.aa,St.ai,St.mk.injEq,and_true]
  constructor
  ·funext j;simp only [upd];split<;>rfl
  ·rfl
 refine ⟨F,fun p=>dS ζ κ υ p σ,I,μ,dR,h0,hF,by rw [he];exact St.le_refl _,fun p hp=>hr κ υ hne hκ hu2 p hp⟩
theorem _root_.Qc {p:Prop} (h:p:=by simp only [↓R1,RR,seval,RX,cO,rdB,hA2,q1,q2,q3,he,hew,hs4,kk,hw,hln,h31,aF,aw,az,List.append_nil]):p:=h
theorem _root_.Qk {p:Prop} (h:p:=by (repeat (first|exact St.le_refl _|(refine St.aD ?_ (by assumption))|(refine St.cW ?_ (by assumption))))):p:=h
theorem _root_.Qw {p:Prop} (h:p:=by simp only [dS,↓R1,RR,seval,RX,cO,rdB,hA2,q1,q2,q3,he,hew,hs4,kk,hw,hln,h31,aF,aw,az,List.append_nil]):p:=h
theorem _root_.Rk {p:Prop} (h:p:=by repeat (first|assumption|exact hσs|(refine St.aD ?_ (by assumption)))):p:=h
set_option maxHeartbeats 8000000 in
theorem EA (s:List UInt8) (hs:s.length≤800000) (σ:St):AX Tryz.prog 21 [.str s] σ (oX TS (.ok (dA s)) cpV (fun _=>σ) σ):=by
  have q1:True:=trivial
  have q2:True:=trivial
  have q3:True:=trivial
  have he:True:=trivial
  have hew:True:=trivial
  have hA2:True:=trivial
  have kk:True:=trivial
  have hs4:True:=trivial
  have hw:True:=trivial
  have hln:True:=trivial
  have h31:True:=trivial
  have pr:=p45 s hs
  cases hr:dE s with
  | error x =>
    obtain ⟨e,a⟩:=x
    have hx:fb s= .error ((e:Nat),(a:Nat)):=by rw [fb,hr]
    have hpe:bH s= .error ((e:Nat),(a:Nat)):=by rw [bH,hx];rfl
    have q1:(((e:Nat):Int) != 0)=true:=by rw [bne_iff_ne];have:=qe hr;omega
    rw [hr,fC,dP] at pr
    (refine bd Da Mu ?_;simp only [Da,↓R1,RR,seval,RX,cO,rdB,hA2,q1,q2,q3,he,hew,hs4,kk,hw,hln,h31,aF,aw,az,List.append_nil])
    repeat' (first|(with_reducible rw [ah])|(with_reducible apply And.intro)|((first|(with_reducible intro β hβ;(try simp only [RB] at hβ);(repeat (obtain ⟨⟨_,_⟩,hβ⟩:=hβ));(try (have hbis:=aj Qa hβ;obtain ⟨_,_⟩:=hbis)))|(refine Pt (pr) ?_))<;>(try simp only [↓R1,RR,seval,RX,cO,rdB,hA2,q1,q2,q3,he,hew,hs4,kk,hw,hln,h31,aF,aw,az,List.append_nil])))
    all_goals exact jr rfl rfl Qc Qc hpe Qk
  | ok rs =>
    have hx:fb s= .ok rs:=by rw [fb,hr]
    have hpe:bH s=eb (eZ rs dR) (dX s.length):=by rw [bH,hx];rfl
    obtain ⟨hz1,hz2⟩:=kg hx
    rw [hr,fC,dP] at pr
    (refine bd Da Mu ?_;simp only [Da,↓R1,RR,seval,RX,cO,rdB,hA2,q1,q2,q3,he,hew,hs4,kk,hw,hln,h31,aF,aw,az,List.append_nil])
    repeat' (first|(with_reducible rw [ah])|((first|(with_reducible intro β hβ;(try simp only [RB] at hβ);(repeat (obtain ⟨⟨_,_⟩,hβ⟩:=hβ));(try (have hbis:=aj Qa hβ;obtain ⟨_,_⟩:=hbis)))|(refine Pt (pr) ?_))<;>(try simp only [↓R1,RR,seval,RX,cO,rdB,hA2,q1,q2,q3,he,hew,hs4,kk,hw,hln,h31,aF,aw,az,List.append_nil])))
    have β:True:=trivial
    have hβ:True:=trivial
    rename_i A hA B hB b1 b2 E e1 e2 hE e3 e4 ζ z1 z2 z3 z4 hζ z5 z6
    refine wA (ζ:=ζ) (σ:=((σ.aa A cz).aa B [.int .i64 0, .int .i64 0]).aa E [.int .i64 0, .int .i64 0]) rfl (fun p=> [(0, .str s),(2, .ptr A 0),(3, .ptr B 0),(4, .sl false rs.length (rs.flatMap cRw)),(6, .ptr ζ 0),(7, .int .i64 (fH p:Nat)),(8, .int .i64 (p.t:Nat)),(9, .int .i64 (p.n:Nat))])
      (fun p=>PlanOk p∧PlanR p∧p.n≤rs.length∧eZ rs dR=eZ (rs.drop p.n) p) (fun p=>rs.length - p.n) ⟨lb,Hk,Nat.zero_le _,rfl⟩ (by simp [aq,slot,ae,dR,fH]) ?_
    intro κ υ hku hk0 hu0 p ⟨hok,hrr,hk,hI⟩
    have hln:=kr κ υ hok.six
    have h31:=Es (p:=p) κ υ hok.six
    by_cases hlt:p.n<rs.length
    · obtain ⟨r,hr⟩:∃ r,rs[p.n]? =some r:=⟨_,List.getElem?_eq_getElem hlt⟩
      obtain ⟨hr1,hr2,hr3⟩:=hz2 r (List.mem_of_getElem? hr)
      obtain ⟨w0,ws,hws⟩:∃ w0 ws,r.ws=w0::ws:=by
        cases h:r.ws with
        | nil=>exact (hr1 h).elim
        | cons w l=>exact ⟨w,l,rfl⟩
      have q1:decide ((p.n:Int)<(rs.length:Int))=true:=Qf
      have he:=wh hr
      simp only [cRw] at he
      have hw:IntKind.i64.wrap ((p.n:Int)+1)=((p.n+1:Nat):Int):=P9
      rw [mJ hr] at hI
      have hcl:=rI rs
      have hcw:=ft r.ws
      have hpos:0<r.ws.length:=Qy
      have hew:(r.ws.flatMap cWd).take 3= [.bool w0.q, .str w0.t, .int .i64 (w0.a:Nat)]:=Qo
      have pn:=p65
      have pm:=p67
      have pw:=p64 w0.q w0.t (w0.a:Nat) iD Qg
      have hfo:la r=bif w0.q then none else dc w0.t iD 0:=by rw [la,hws]
      unfold oj at pw
      rw [←hfo] at pw
      have hfail:∀ e,ee r p= .error e→bH s= .error e:=fun e h=>by rw [hpe,hI,jm,cS _ h]
      cases hf:la r with
      | none =>
        have hce:=hfail _ (show ee r p= .error (9,(r.a:Int)) by simp only [ee,hf])
        rw [hf] at pw
        simp only at pw
        simp only [dS,q1,↓R1,RR,seval,RX,cO,rdB,hA2,q1,q2,q3,he,hew,hs4,kk,hw,hln,h31,aF,aw,az,List.append_nil]
        repeat' (first|(with_reducible rw [ah])|(with_reducible refine And.intro ?_ ?_;exact af)|(with_reducible apply And.intro)|((first|(with_reducible intro β hβ;(try simp only [RB] at hβ);(repeat (obtain ⟨⟨_,_⟩,hβ⟩:=hβ));(try (have hbis:=aj Qa hβ;obtain ⟨_,_⟩:=hbis)))|(refine Ct (pn) ?_)|(refine Ct (pw) ?_))<;>(try simp only [↓R1,RR,seval,RX,cO,rdB,hA2,q1,q2,q3,he,hew,hs4,kk,hw,hln,h31,aF,aw,az,List.append_nil])))
        all_goals (try (focus (first|omega|(simp;done))))
        all_goals exact jr rfl rfl Qc Qc hce Qk
      | some k =>
        have hk4:=uk hf
        rw [hf] at pw
        simp only at pw
        have pp:=p66 hrr hk4
        cases hm:fO p k with
        | false =>
          rw [hm] at pp
          have hce:=hfail _ (show ee r p= .error (9,(r.a:Int)) by simp only [ee,hf,hm,if_true])
          simp only [dS,q1,↓R1,RR,seval,RX,cO,rdB,hA2,q1,q2,q3,he,hew,hs4,kk,hw,hln,h31,aF,aw,az,List.append_nil]
          repeat' (first|(with_reducible rw [ah])|(with_reducible refine And.intro ?_ ?_;exact af)|(with_reducible apply And.intro)|((first|(with_reducible intro β hβ;(try simp only [RB] at hβ);(repeat (obtain ⟨⟨_,_⟩,hβ⟩:=hβ));(try (have hbis:=aj Qa hβ;obtain ⟨_,_⟩:=hbis)))|(refine Ct (pn) ?_)|(refine Ct (pw) ?_)|(refine Pt (pp) ?_))<;>(try simp only [↓R1,RR,seval,RX,cO,rdB,hA2,q1,q2,q3,he,hew,hs4,kk,hw,hln,h31,aF,aw,az,List.append_nil])))
          all_goals (try (focus (first|omega|(simp;done))))
          all_goals exact jr rfl rfl Qc Qc hce Qk
        | true =>
          rw [hm] at pp
          have hs4:=Ez hk4
          by_cases hlm:r.ws.length=fe[k]?.getD 0
          · have q2:((r.ws.length:Int) != ((fe[k]?.getD 0:Nat):Int))=false:=by rw [hlm];simp
            simp only [dS,q1,↓R1,RR,seval,RX,cO,rdB,hA2,q1,q2,q3,he,hew,hs4,kk,hw,hln,h31,aF,aw,az,List.append_nil]
            repeat' (first|(with_reducible rw [ah])|(with_reducible refine And.intro ?_ ?_;exact af)|((first|(with_reducible intro β hβ;(try simp only [RB] at hβ);(repeat (obtain ⟨⟨_,_⟩,hβ⟩:=hβ));(try (have hbis:=aj Qa hβ;obtain ⟨_,_⟩:=hbis)))|(refine Ct (pn) ?_)|(refine Ct (pw) ?_)|(refine Pt (pp) ?_)|(refine Ct (pm) ?_))<;>(try simp only [↓R1,RR,seval,RX,cO,rdB,hA2,q1,q2,q3,he,hew,hs4,kk,hw,hln,h31,aF,aw,az,List.append_nil])))
            all_goals (try (focus (first|omega|(simp;done))))
            rename_i γ g1 g2 g3 g4 g5 g6 hg g7 g8 d1 d2 d3 d4 d5 d6 d7 d8 d9 d10
            refine Lc hk4 hlm hok hrr hm hr3 (ζ:=ζ) (δ:=β) (κ:=κ) (υ:=υ) (a:=(r.a:Nat)) ⟨?_,?_,?_⟩ ?_ d4.ne rfl rfl rfl rfl rfl (fun X f f' s' hsw hle hfk=>?_)
            · simp only [↓R1,RR,seval,RX,cO,rdB,hA2,q1,q2,q3,he,hew,hs4,kk,hw,hln,h31,aF,aw,az,List.append_nil]
            · simp [St.ai,upd,hku]
            · simp [St.ai,upd]
            · simp only [rdB,↓R1,RR,seval,RX,cO,rdB,hA2,q1,q2,q3,he,hew,hs4,kk,hw,hln,h31,aF,aw,az,List.append_nil]
            have kk:slot 0 f'= .str s∧slot 2 f'= .ptr A 0∧slot 3 f'= .ptr B 0∧slot 4 f'= .sl false rs.length (rs.flatMap cRw)∧slot 6 f'= .ptr ζ 0∧slot 7 f'= .int .i64 1∧slot 8 f'= .int .i64 (X.t:Nat)∧slot 9 f'= .int .i64 (p.n:Nat)∧slot 10 f'= .ptr γ 0∧slot 13 f'= .ptr β 0 :=
              ⟨hfk.s0,hfk.s2,hfk.s3,hfk.s4,hfk.s6,hfk.s7,hfk.s8,hfk.s9,hfk.sx,hfk.sy⟩
            have hlnX:=kr κ υ hsw.six
            have h31X:=Es (p:=X) κ υ hsw.six
            have hln:=hlnX
            have h31:=h31X
            have hcX:=Cf.le (Hn hku) hle
            haveI:BoxIs s' ζ (pC κ υ X):=⟨hcX.hb⟩
            haveI:BoxIs s' A cz:=⟨hle.1 _ _ Qw⟩
            haveI:BoxIs s' B [.int .i64 0, .int .i64 0]:=⟨hle.1 _ _ Qw⟩
            haveI:BoxIs s' γ [.int .i64 (r.a:Nat), .sl false r.ws.length (r.ws.flatMap cWd)]:=⟨hle.1 _ _ Qw⟩
            haveI:BoxIs s' β [.sl false r.ws.length (r.ws.flatMap cWd), .int .i64 f.1, .int .i64 f.2]:=⟨hle.1 _ _ (by simp only [dS,rdB,↓R1,RR,seval,RX,cO,rdB,hA2,q1,q2,q3,he,hew,hs4,kk,hw,hln,h31,aF,aw,az,List.append_nil])⟩
            have hb':s'.box β=some (rdB r.ws f):=hle.1 _ _ Qw
            have hn:∀ x,Apart x A→Apart x B→Apart x E→σ.box x=none→(((σ.aa A cz).aa B [.int .i64 0, .int .i64 0]).aa E [.int .i64 0, .int .i64 0]).box x=none:=fun x a b e h=>by simp [St.aa,upd,a.ne,b.ne,e.ne,h]
            have h9:=St.le_trans (Ho (q:=X) (ζ:=ζ) (κ:=κ) (υ:=υ) (St.aD (St.cW (St.cW (St.aD (St.aD (St.aD (St.le_refl (((σ.aa A cz).aa B [.int .i64 0, .int .i64 0]).aa E [.int .i64 0, .int .i64 0])) (hn ζ z5 z3 z1 hζ)) (hn γ g7 g5 g3 hg)) (hn β d9 d7 d5 hβ)) hk0) hu0) (hn β d9 d7 d5 hβ))) hle
            have hσs:St.le σ s':=St.le_trans (by rw [dS];exact St.aD (St.cW (St.cW (St.aD (St.aD (St.aD (St.le_refl _) hA) hB) hE) hk0) hu0) hζ) h9
            have hqo:(decide ((8:Int)<(X.cls.length:Int))||decide ((8:Int)<(X.ruls.length:Int)))=overB X:=by
              rw [overB,Bool.eq_iff_iff];simp only [Bool.or_eq_true,decide_eq_true_eq];omega
            have hrd:∀ e,planW k r.ws (r.a:Nat) p= .error e→bH s= .error e:=fun e h=>hfail e (by simp only [ee,hf,hm,Bool.true_eq_false,if_false,if_pos hlm,cS _ h])
            cases hov:overB X with
            | true =>
              rw [hov] at hqo
              obtain ⟨g,hg1,hg2,hg3⟩:∃ g,rdF f 6 (r.a:Nat)=g∧g.1≠0∧bH s= .error g:=by
                rcases hsw.cs with ⟨e,h1,h2,h3⟩|⟨h2,h3⟩
                · subst h2;exact ⟨f,if_neg (fun h=>h1 h.1),h1,hrd _ h3⟩
                · subst h2;rw [hov] at h3;exact ⟨(6,(r.a:Int)),rfl,(by decide:(6:Int)≠0),hrd _ h3⟩
              have rf:=r71 hb' 6 (r.a:Nat)
              rw [hg1] at rf
              have q3:(g.1 != 0)=true:=by rw [bne_iff_ne];exact hg2
              simp only [hqo,rdB,↓R1,RR,seval,RX,cO,rdB,hA2,q1,q2,q3,he,hew,hs4,kk,hw,hln,h31,aF,aw,az,List.append_nil]
              repeat' (first|(with_reducible apply And.intro)|(((refine AC.mono (AC.wk (rf) (ad _)) ?_;(rintro _ _ ⟨rfl,rfl⟩)))<;>(try simp only [↓R1,RR,seval,RX,cO,rdB,hA2,q1,q2,q3,he,hew,hs4,kk,hw,hln,h31,aF,aw,az,List.append_nil])))
              all_goals exact jr rfl rfl Qc Qc hg3 Rk
            | false =>
              rw [hov] at hqo
              rcases hsw.cs with ⟨e,h1,h2,h3⟩|⟨h2,h3⟩
              · subst h2
                have q3:(f.1 != 0)=true:=by rw [bne_iff_ne];exact h1
                have hce:=hrd _ h3
                simp only [hqo,↓R1,RR,seval,RX,cO,rdB,hA2,q1,q2,q3,he,hew,hs4,kk,hw,hln,h31,aF,aw,az,List.append_nil]
                repeat' (with_reducible apply And.intro)
                all_goals exact jr rfl rfl Qc Qc hce Rk
              · rw [hov] at h3
                have q3:(f.1 != 0)=false:=by rw [h2];rfl
                simp only [hqo,↓R1,RR,seval,RX,cO,rdB,hA2,q1,q2,q3,he,hew,hs4,kk,hw,hln,h31,aF,aw,az,List.append_nil]
                have hro:ee r p= .ok { X with n:=X.n+1 }:=by simp only [ee,hf,hm,Bool.true_eq_false,if_false,if_pos hlm,aJ _ (show planW k r.ws (r.a:Nat) p= .ok X from h3)]
                have hXn:=hsw.n
                refine ⟨{ X with n:=X.n+1 },⟨(lf hok hro).1,wy hrr hro,by simp only;omega,?_⟩,?_,?_,by simp only;omega⟩
                · rw [hI,aJ _ hro,hXn]
                · simp [aq,slot,ae,hXn,fH]
                · exact h9
          · have q2:((r.ws.length:Int) != ((fe[k]?.getD 0:Nat):Int))=true:=by rw [bne_iff_ne];omega
            have hce:=hfail _ (show ee r p= .error (3,(r.a:Int)) by simp only [ee,hf,hm,Bool.true_eq_false,if_false,if_neg hlm])
            simp only [dS,q1,↓R1,RR,seval,RX,cO,rdB,hA2,q1,q2,q3,he,hew,hs4,kk,hw,hln,h31,aF,aw,az,List.append_nil]
            repeat' (first|(with_reducible rw [ah])|(with_reducible refine And.intro ?_ ?_;exact af)|(with_reducible apply And.intro)|((first|(with_reducible intro β hβ;(try simp only [RB] at hβ);(repeat (obtain ⟨⟨_,_⟩,hβ⟩:=hβ));(try (have hbis:=aj Qa hβ;obtain ⟨_,_⟩:=hbis)))|(refine Ct (pn) ?_)|(refine Ct (pw) ?_)|(refine Pt (pp) ?_)|(refine Ct (pm) ?_))<;>(try simp only [↓R1,RR,seval,RX,cO,rdB,hA2,q1,q2,q3,he,hew,hs4,kk,hw,hln,h31,aF,aw,az,List.append_nil])))
            all_goals (try (focus (first|omega|(simp;done))))
            all_goals exact jr rfl rfl Qc Qc hce Qk
    · have hh:fH p≠1↔p.n=0:=by unfold fH;split<;>simp_all
      have hke:p.n=rs.length:=P6
      have q1:decide ((p.n:Int)<(rs.length:Int))=false:=Qs
      have hpe2:bH s=dX s.length p:=by rw [hpe,hI,hke,List.drop_length,eZ,eb]
      have hA2:(pC κ υ p).take 33=pC κ υ p:=List.take_of_length_le P6
      have h6:=hok.lt
      simp only [dS,q1,↓R1,RR,seval,RX,cO,rdB,hA2,q1,q2,q3,he,hew,hs4,kk,hw,hln,h31,aF,aw,az,List.append_nil]
      by_cases h1:p.n=0∨p.t<6
      · have q2:((((fH p:Nat):Int) != 1)||(((p.t:Nat):Int) != 6))=true:=by
          rw [Bool.or_eq_true,bne_iff_ne,bne_iff_ne];omega
        rw [q2]
        have hce:bH s= .error (7,(s.length:Int)):=by rw [hpe2,dX,if_pos h1]
        simp only [↓R1,RR,seval,RX,cO,rdB,hA2,q1,q2,q3,he,hew,hs4,kk,hw,hln,h31,aF,aw,az,List.append_nil]
        skip
        all_goals exact jr rfl rfl Qc Qc hce Qk
      · have q2:((((fH p:Nat):Int) != 1)||(((p.t:Nat):Int) != 6))=false:=by
          rw [Bool.or_eq_false_iff,bne_eq_false_iff_eq,bne_eq_false_iff_eq];omega
        rw [q2]
        have pc:=p55 hok.cfg
        simp only [mR] at pc
        by_cases he0:(de (fE p)).1=0
        · have q3:((de (fE p)).1 != 0)=false:=by rw [he0];rfl
          have hce:bH s= .ok (fE p):=by rw [hpe2,dX,if_neg h1,if_neg (by simp [he0])]
          simp only [↓R1,RR,seval,RX,cO,rdB,hA2,q1,q2,q3,he,hew,hs4,kk,hw,hln,h31,aF,aw,az,List.append_nil]
          repeat' (((refine Pu.to pc (wkL.cons (gJ (wz κ υ p)) wkL.nil) ?_))<;>(try simp only [↓R1,RR,seval,RX,cO,rdB,hA2,q1,q2,q3,he,hew,hs4,kk,hw,hln,h31,aF,aw,az,List.append_nil]))
          all_goals (try (focus (first|omega|(simp;done))))
          all_goals (refine jA (a:=(fE p,(0,0))) Qd (by rw [oN hce]) (by first|(simp [av,rvS];done)|(simp only [av,rvS,↓R1,RR,seval,RX,cO,rdB,hA2,q1,q2,q3,he,hew,hs4,kk,hw,hln,h31,aF,aw,az,List.append_nil];try simp)) ?_ (St.gT Qk))
          all_goals (simp only [an,↓R1,RR,seval,RX,cO,rdB,hA2,q1,q2,q3,he,hew,hs4,kk,hw,hln,h31,aF,aw,az,List.append_nil];exact qA (wkL.cons (gJ (wz κ υ p)) (ad _)))
        · have q3:((de (fE p)).1 != 0)=true:=by rw [bne_iff_ne];exact he0
          have hce:bH s= .error ((de (fE p)).1,0):=by rw [hpe2,dX,if_neg h1,if_pos he0]
          simp only [↓R1,RR,seval,RX,cO,rdB,hA2,q1,q2,q3,he,hew,hs4,kk,hw,hln,h31,aF,aw,az,List.append_nil]
          repeat' (((refine Pu.to pc (wkL.cons (gJ (wz κ υ p)) wkL.nil) ?_))<;>(try simp only [↓R1,RR,seval,RX,cO,rdB,hA2,q1,q2,q3,he,hew,hs4,kk,hw,hln,h31,aF,aw,az,List.append_nil]))
          all_goals (try (focus (first|omega|(simp;done))))
          all_goals exact jr rfl rfl Qc Qc hce Qk
theorem p21 (s:List UInt8) (hs:s.length≤800000):Pu Tryz.prog 21 [.str s] (iE s):=uh (EA s hs) rfl
theorem Ld (x:ClsI):(bE x).length=3:=rfl
theorem Le (x:RulI):(cg x).length=7:=rfl
theorem Lf {l:List TenI} (h:l.length=6):sqL [0,0,0,0,0,0,0,0,0,0,0,0,0,0,0,0,0,0,0,0,0,0,0,0,0,0,0,0,0,0] (l.flatMap b7) (l.flatMap b7)=some true:=by
 obtain ⟨a,b,c,d,e,f,rfl⟩:=KU h
 simp [sqL,sqV,b7]
set_option maxHeartbeats 4000000 in
theorem EB {c:CfgI} (h6:c.tens.length=6) (hn:c.cls.length≤1000000) (hr:c.ruls.length≤1000000):Pu Tryz.prog 22 [.agg (aR c), .agg (aR c)] (.bool true):=by
 have q1:True:=trivial
 have he:True:=trivial
 have hw:True:=trivial
 have hcl:=ia h6
 have hca:=jo h6
 have hc0:=oq c
 have h31:=xK h6
 have h32:(aR c)[32]? =some (.int .u64 c.hor):=by
  simp only [aR,List.getElem?_cons_succ]
  rw [List.getElem?_append_right (by rw [bl,h6];decide),bl,h6];rfl
 have h1:((aR c).drop 1).take 30=c.tens.flatMap b7:=by
  simp only [aR,List.drop_succ_cons,List.drop_zero]
  rw [List.take_append_of_le_length (by rw [bl,h6];decide),List.take_of_length_le (by rw [bl,h6];decide)]
 have hsx:=Lf h6
 (refine al Kf OS fun σ=>?_;simp only [Kf,↓R1,RR,seval,hcl,hc0])
 repeat' ((with_reducible intro β hβ;(try simp only [RB] at hβ);(repeat (obtain ⟨⟨_,_⟩,hβ⟩:=hβ));(try (have hbis:=aj Qa hβ;obtain ⟨_,_⟩:=hbis)))<;>(try simp only [↓R1,RR,seval,hcl,hc0,h31,h32,h1,hsx]))
 rename_i A hA a1 a2
 refine aS c.cls.length (fun k=> [(2, .ptr A 0),(3, .ptr β 0),(5, .int .i64 (k:Nat))]) (fun _=>(σ.aa A (aR c)).aa β (aR c)) (fun _=>True) Qi (St.le_refl _) trivial (fun k hk _=>?_)
 by_cases hlt:k<c.cls.length
 ·obtain ⟨x,hx⟩:∃ x,c.cls[k]? =some x:=⟨_,List.getElem?_eq_getElem hlt⟩
  have he:=di (f:=bE) (m:=3) Ld hx
  have hfl:=fD c.cls
  simp only [bE] at he
  have q1:decide ((k:Int)<(c.cls.length:Int))=true:=Qf
  have hw:IntKind.i64.wrap ((k:Int)+1)=((k+1:Nat):Int):=P9
  simp only [↓R1,RR,seval,q1,he,hw,hcl,hc0]
  repeat' (first|(with_reducible refine And.intro ?_ ?_;exact af)|(with_reducible apply And.intro))
  all_goals first|(simp [aq,slot,ae];done)|exact St.le_refl _|omega|skip
 ·have hke:k=c.cls.length:=by omega
  subst hke
  have q1:decide ((c.cls.length:Int)<(c.cls.length:Int))=false:=Qd
  simp only [↓R1,RR,seval,q1,hcl,hc0]
  skip
  refine aS c.ruls.length (fun k=> [(2, .ptr A 0),(3, .ptr β 0),(6, .int .i64 (k:Nat))]) (fun _=>(σ.aa A (aR c)).aa β (aR c)) (fun _=>True) Qi (St.le_refl _) trivial (fun k hk _=>?_)
  by_cases hlt:k<c.ruls.length
  ·obtain ⟨x,hx⟩:∃ x,c.ruls[k]? =some x:=⟨_,List.getElem?_eq_getElem hlt⟩
   have he:=di (f:=cg) (m:=7) Le hx
   have hfl:=eX c.ruls
   simp only [cg] at he
   have q1:decide ((k:Int)<(c.ruls.length:Int))=true:=Qf
   have hw:IntKind.i64.wrap ((k:Int)+1)=((k+1:Nat):Int):=P9
   simp only [↓R1,RR,seval,q1,he,hw,hcl,h31]
   repeat' (first|(with_reducible refine And.intro ?_ ?_;exact af)|(with_reducible apply And.intro))
   all_goals first|(simp [aq,slot,ae];done)|exact St.le_refl _|omega|skip
  ·have hke:k=c.ruls.length:=by omega
   subst hke
   have q1:decide ((c.ruls.length:Int)<(c.ruls.length:Int))=false:=Qd
   simp only [↓R1,RR,seval,q1,hcl,h31]
   skip
   (refine ak (ag ?_))
   (simp only [an,RR,seval])
structure CfgArg (c:CfgI):Prop where
 six:c.tens.length=6
 lcls:∀ x∈c.cls,U64 x.l
 lrul:∀ x∈c.ruls,U64 x.auth∧U64 x.res
 c64:Cfg64 c
theorem CfgArg.ok {c:CfgI} (h:CfgArg c) (hl:oK c=true):CfgOk c:=by
 simp only [oK,Bool.and_eq_true,decide_eq_true_eq] at hl
 exact ⟨h.six,by omega,by omega,h.lcls,h.lrul⟩
theorem qn:∀ (rs:List Rw) {p q:PlanI},PlanOk p→eZ rs p= .ok q→PlanOk q
  | [],p,q,h1,h2=>by cases h2;exact h1
  | r :: rs, p, q, h1, h2 => by
    obtain ⟨p',h3,h4⟩:=aV h2
    exact qn rs (lf h1 h3).1 h4
theorem uw (s:List UInt8):(dA s).1.tens.length=6∧(dA s).1.cls.length≤1000000∧(dA s).1.ruls.length≤1000000:=by
  cases h:bH s with
  | error e=>rw [oO h];exact ⟨rfl,by simp [wv],by simp [wv]⟩
  | ok c =>
    rw [oN h]
    unfold bH at h
    obtain ⟨rs,_,h⟩:=aV h
    obtain ⟨p,hp,h⟩:=aV h
    have hk:=qn rs lb hp
    unfold dX at h
    split at h
    · cases h
    · split at h
      · cases h
      · cases h
        have:=hk.c8;have:=hk.r8
        exact ⟨hk.six,by simp only [fE];omega,by simp only [fE];omega⟩
set_option maxHeartbeats 4000000 in
theorem lk {c:CfgI} (ck:CfgArg c) (s:List UInt8) (hs:s.length≤9223372036854775807) :
    PuG Tryz.prog gl3 4 [.agg (aR c), .str s] (.bool true):=by
  have hlc:=p17 ck.six
  have hca:=jo ck.six
  have hcl:=ia ck.six
  have hcx:True:=trivial
  have q1:True:=trivial
  cases hC:oK c with
  | false =>
    rw [hC] at hlc
    (refine cP c4 b4 fun σ hσ=>?_;simp only [c4,↓R1,RR,seval,q1,hca,hcx,beq_self_eq_true,bne_self_eq_false])
    repeat' (first|(with_reducible refine And.intro ?_ ?_;exact af)|((first|(with_reducible intro β hβ;(try simp only [RB] at hβ);(repeat (obtain ⟨⟨_,_⟩,hβ⟩:=hβ));(try (have hbis:=aj Qa hβ;obtain ⟨_,_⟩:=hbis)))|(refine Pt (hlc) ?_)|(refine PuG.to (oJ) hσ (ad _) ?_))<;>(try simp only [↓R1,RR,seval,q1,hca,hcx,beq_self_eq_true,bne_self_eq_false])))
    (refine ak ?_);(simp only [an,↓R1,RR,seval,q1,hca,hcx,beq_self_eq_true,bne_self_eq_false];exact ae _)
  | true =>
    rw [hC] at hlc
    by_cases h15:1500<s.length
    · have q1:decide ((1500:Int)<(s.length:Int))=true:=by rw [decide_eq_true_eq];omega
      (refine cP c4 b4 fun σ hσ=>?_;simp only [c4,↓R1,RR,seval,q1,hca,hcx,beq_self_eq_true,bne_self_eq_false])
      repeat' (first|(with_reducible refine And.intro ?_ ?_;exact af)|((first|(with_reducible intro β hβ;(try simp only [RB] at hβ);(repeat (obtain ⟨⟨_,_⟩,hβ⟩:=hβ));(try (have hbis:=aj Qa hβ;obtain ⟨_,_⟩:=hbis)))|(refine Pt (hlc) ?_)|(refine PuG.to (oJ) hσ (ad _) ?_))<;>(try simp only [↓R1,RR,seval,q1,hca,hcx,beq_self_eq_true,bne_self_eq_false])))
      (refine ak ?_);(simp only [an,↓R1,RR,seval,q1,hca,hcx,beq_self_eq_true,bne_self_eq_false];exact ae _)
    · have q1:decide ((1500:Int)<(s.length:Int))=false:=by rw [decide_eq_false_iff_not];omega
      have hK:=ck.ok hC
      have h1:=p18 hK ck.c64
      have h2:=p19 hK ck.c64
      have h3:=p20 s P6
      have h4:=p21 s P6
      obtain ⟨l1,l2,l3⟩:=uw s
      have h5:=EB l1 l2 l3
      have hcx:=jo l1
      have hcy:=ia l1
      rw [El] at h1 h2
      unfold iE at h3 h4
      generalize dA s=y at h3 h4 h5 hcx hcy
      generalize Hh c=x at h1 h2
      (refine cP c4 b4 fun σ hσ=>?_;simp only [c4,↓R1,RR,seval,q1,hca,hcx,beq_self_eq_true,bne_self_eq_false])
      repeat' (first|(with_reducible rw [ah])|(with_reducible refine And.intro ?_ ?_;exact af)|((first|(with_reducible intro β hβ;(try simp only [RB] at hβ);(repeat (obtain ⟨⟨_,_⟩,hβ⟩:=hβ));(try (have hbis:=aj Qa hβ;obtain ⟨_,_⟩:=hbis)))|(refine Pt (hlc) ?_)|(refine PuG.to (h1) hσ (ad _) ?_)|(refine Pt (h2) ?_)|(refine Pt (h3) ?_)|(refine Pt (h4) ?_)|(refine Pt (h5) ?_)|(refine PuG.to (oJ) hσ (ad _) ?_))<;>(try simp only [↓R1,RR,seval,q1,hca,hcx,beq_self_eq_true,bne_self_eq_false])))
      (refine ak ?_);(simp only [an,↓R1,RR,seval,q1,hca,hcx,beq_self_eq_true,bne_self_eq_false];exact ae _)
end Go.Proofs.YtgephffbfiemeaaGreatDoor
namespace Go.Proofs.YtgephffbfiemeaaGreatDoor
open Go.Abs
set_option linter.all false
def HT:TD:= .cons (.int .u64) (.cons (.int .i64) (.cons (.int .i64) .nil))
def oP:TD:= .cons (.int .i64) (.cons (.int .i64) (.cons (.int .i64) (.cons (.int .i64) (.cons (.int .i64) .nil))))
def HU:TD:= .cons (.int .i64) (.cons (.int .u64) (.cons (.int .u64) (.cons .bool (.cons (.int .i64) (.cons (.int .i64) (.cons (.int .i64) .nil))))))
def HV:TD:= .cons oP (.cons oP (.cons oP (.cons oP (.cons oP (.cons oP .nil)))))
def HW:TD:= .cons (.sl HT) (.cons HV (.cons (.sl HU) (.cons (.int .u64) .nil)))
theorem wB {n:Int} (h:(Lit.int .u64 n).wf=true):U64 n:=by
 have:=h;simp [Lit.wf,IntKind.min,IntKind.max,IntKind.bits,IntKind.signed] at this;exact ⟨this.1,by omega⟩
theorem EC {n:Int} (h:(Lit.int .i64 n).wf=true):I64 n:=by
 simpa [I64,Lit.wf,IntKind.min,IntKind.max,IntKind.bits,IntKind.signed] using h
theorem Hr (l:List AV) (h:HT.Has l):∃ y,l=bE y∧U64 y.l:=by
 obtain ⟨_,_,rfl,⟨a,rfl,ha⟩,_,_,rfl,⟨b,rfl,_⟩,_,_,rfl,⟨c,rfl,_⟩,rfl⟩:=h
 exact ⟨⟨a,b,c⟩,rfl,wB ha⟩
theorem jH (l:List AV) (h:oP.Has l):∃ y,l=b7 y:=by
 obtain ⟨_,_,rfl,⟨a,rfl,_⟩,_,_,rfl,⟨b,rfl,_⟩,_,_,rfl,⟨c,rfl,_⟩,_,_,rfl,⟨d,rfl,_⟩,_,_,rfl,⟨e,rfl,_⟩,rfl⟩:=h
 exact ⟨⟨a,b,c,d,e⟩,rfl⟩
theorem Hs (l:List AV) (h:HU.Has l):∃ y,l=cg y∧((U64 y.auth∧U64 y.res)∧I64 y.low∧I64 y.high):=by
 obtain ⟨_,_,rfl,⟨a,rfl,_⟩,_,_,rfl,⟨b,rfl,hb⟩,_,_,rfl,⟨c,rfl,hc⟩,_,_,rfl,⟨d,rfl⟩,_,_,rfl,⟨e,rfl,_⟩,_,_,rfl,⟨f,rfl,hf⟩,_,_,rfl,⟨g,rfl,hg⟩,rfl⟩:=h
 exact ⟨⟨a,b,c,d,e,f,g⟩,rfl,⟨wB hb,wB hc⟩,EC hf,EC hg⟩
theorem Ht (l:List AV) (h:HV.Has l):∃ y:List TenI,l=y.flatMap b7∧y.length=6:=by
 obtain ⟨_,_,rfl,h1,_,_,rfl,h2,_,_,rfl,h3,_,_,rfl,h4,_,_,rfl,h5,_,_,rfl,h6,rfl⟩:=h
 obtain ⟨y1,rfl⟩:=jH _ h1
 obtain ⟨y2,rfl⟩:=jH _ h2
 obtain ⟨y3,rfl⟩:=jH _ h3
 obtain ⟨y4,rfl⟩:=jH _ h4
 obtain ⟨y5,rfl⟩:=jH _ h5
 obtain ⟨y6,rfl⟩:=jH _ h6
 exact ⟨[y1,y2,y3,y4,y5,y6],by simp,rfl⟩
theorem Hu (l:List AV) (h:HW.Has l):∃ c,l=aR c∧CfgArg c:=by
 obtain ⟨_,_,rfl,h1,_,_,rfl,h2,_,_,rfl,h3,_,_,rfl,⟨hor,rfl,_⟩,rfl⟩:=h
 obtain ⟨cs,rfl,_,hc⟩:=tq Hr h1
 obtain ⟨ts,rfl,ht⟩:=Ht _ h2
 obtain ⟨rs,rfl,_,hr⟩:=tq Hs h3
 exact ⟨⟨cs,ts,rs,hor⟩,by simp [aR,sl],ht,hc,fun x hx=>(hr x hx).1,fun x hx=>(hr x hx).2⟩
theorem ll (c:CfgI) (s:List UInt8) (hc:CfgArg c) (hs:s.length≤maxLen):PuG Tryz.prog gl3 4 [.agg (aR c), .str s] (.bool true):=lk hc s hs
end Go.Proofs.YtgephffbfiemeaaGreatDoor
