/- Part 30 of the proof of ScriptTexts: an abstract semantics that is proved sound for the model, contracts of functions in it, and plain facts (RW9 RN1 RN2 RN3). No condition. -/
import Derived.Test.YtgephffbfiemeaaGreatDoorKScriptTexts29
set_option linter.all false
namespace Go.Proofs.YtgephffbfiemeaaGreatDoor
open Go.Abs
set_option linter.all false
set_option maxRecDepth 100000
theorem mK {s s':St} {L:Nat} {x:LO × Fr} (h:St.le s s') (hn:s.lp L=none):St.le s ((s'.av L x).dropLp L):=by
 refine ⟨h.1,h.2.1,h.2.2.1,fun l r hr=>?_,h.2.2.2.2⟩
 have hne:l≠L:=by rintro rfl;rw [hn] at hr;cases hr
 simp only [St.dropLp,St.av,upd,if_neg hne]
 exact h.2.2.2.1 _ _ hr
theorem je (l:List UInt8):lines l=bl l::(match (cut l).2 with|none=> []|some r'=>lines r'):=by
  rw [qY]
  cases ha:cj l with
  | nil =>
    have h1:=gA l
    rw [ha,List.append_nil] at h1
    rw [jJ ha,h1]
  | cons c r=>rw [(jK ha).1]
theorem BM {σ:St} {γ:Nat} {c:List AV} (h:σ.box γ=none):(σ.ad γ c).bX γ=σ:=by
 simp only [St.bX,St.ad]
 have:(fun j=>if j=γ then none else upd σ.box γ c j)=σ.box:=by
  funext j
  simp only [upd]
  split
  ·rename_i e;subst e;exact h.symm
  ·rfl
 rw [this]
def shG (a:Nat) (ws:List Wd) (k:Nat) (j:List AV):List AV:=((ws.take k).map (dN a)++ws.drop k).flatMap cWd++j
theorem BN (a:Nat) (ws:List Wd) (j:List AV):shG a ws 0 j=ws.flatMap cWd++j:=by simp [shG]
theorem Ez (a:Nat) (ws:List Wd) (j:List AV):(shG a ws ws.length j).take (ws.length*3)=(ws.map (dN a)).flatMap cWd:=by
 have h:=bM (ws.map (dN a))
 simp only [shG,List.take_length,List.drop_length,List.append_nil]
 rw [List.take_append_of_le_length (by rw [h];simp)]
 rw [List.take_of_length_le (by rw [h];simp)]
theorem EA (a:Nat) (ws:List Wd) (k:Nat) (hk:k≤ws.length) (j:List AV):(shG a ws k j).length=ws.length*3+j.length:=by
 simp only [shG,List.length_append,bM,List.length_map,List.length_take,List.length_drop]
 omega
theorem H6 (a:Nat) (ws:List Wd) {k:Nat} (hk:k<ws.length) (j:List AV) :
  (shG a ws k j)[k*3+2]? =some (.int .i64 (ws[k].a:Nat))∧(shG a ws k j).take (k*3+2)++ [AV.int .i64 ((ws[k].a+a:Nat):Int)]++(shG a ws k j).drop (k*3+2+1)=shG a ws (k+1) j:=by
 obtain ⟨p,hp⟩:∃ p,((ws.take k).map (dN a)).flatMap cWd=p:=⟨_,rfl⟩
 have hpl:p.length=k*3:=by rw [←hp,bM];simp;omega
 obtain ⟨s,hs⟩:∃ s,(ws.drop (k+1)).flatMap cWd++j=s:=⟨_,rfl⟩
 have e1:shG a ws k j=(p++ [AV.bool ws[k].q,AV.str ws[k].t])++(AV.int .i64 (ws[k].a:Nat)::s):=by
  rw [shG,List.drop_eq_getElem_cons hk,List.flatMap_append,hp,List.flatMap_cons,←hs]
  simp [cWd]
 have e2:shG a ws (k+1) j=(p++ [AV.bool ws[k].q,AV.str ws[k].t])++(AV.int .i64 ((ws[k].a+a:Nat):Int)::s):=by
  rw [shG,←List.take_append_getElem hk,List.map_append,List.flatMap_append,List.flatMap_append,hp,←hs]
  simp [cWd,dN]
 have hl:(p++ [AV.bool ws[k].q,AV.str ws[k].t]).length=k*3+2:=by simp [hpl]
 rw [e1,e2]
 refine ⟨?_,?_⟩
 ·rw [List.getElem?_append_right (by omega),hl,Nat.sub_self];rfl
 ·rw [List.take_left' hl,List.drop_append,List.drop_of_length_le (by omega),hl]
  simp
set_option maxHeartbeats 4000000 in
theorem p87 (l:List UInt8) (hl:l.length≤1000000):Pu Tryz.prog 87 [.str l] (iN (eR l)):=by
  have q1:True:=trivial
  have q2:True:=trivial
  have q3:True:=trivial
  have q4:True:=trivial
  have q5:True:=trivial
  have hw:True:=trivial
  have t2:True:=trivial
  have t3:True:=trivial
  have t4:True:=trivial
  have t5:True:=trivial
  have ttip:True:=trivial
  have s5:True:=trivial
  have tl:True:=trivial
  by_cases hlong:20000<l.length
  · have q1:decide ((20000:Int)<(l.length:Int))=true:=by rw [decide_eq_true_eq];omega
    have e:eR l= .error (4,20000):=by simp only [eR,if_pos hlong]
    rw [e]
    (refine al c87 b87 fun σ=>?_;simp only [c87,↓R1,RR,seval,bd,cb,aA,az,q1,q2,q3,q4,q5,hw,t2,t3,t4,t5,ttip,s5,tl])
    repeat' (first|(with_reducible rw [ah])|((with_reducible intro β hβ;(try simp only [RB] at hβ);(repeat (obtain ⟨⟨_,_⟩,hβ⟩:=hβ));(try (have hbis:=ag (by assumption) hβ;obtain ⟨_,_⟩:=hbis)))<;>(try simp only [↓R1,RR,seval,bd,cb,aA,az,q1,q2,q3,q4,q5,hw,t2,t3,t4,t5,ttip,s5,tl])))
    (refine ak ?_ (by first|(simp [aj,rvS];done)|(simp only [aj,rvS,↓R1,RR,seval,bd,cb,aA,az,q1,q2,q3,q4,q5,hw,t2,t3,t4,t5,ttip,s5,tl];try simp)))
    simp only [ao,↓R1,RR,seval,bd,cb,aA,az,q1,q2,q3,q4,q5,hw,t2,t3,t4,t5,ttip,s5,tl]
    simp only [iN,fk]
    (repeat' (first|exact ae _|exact c7|exact cd _ _ _|exact bw _ _|exact wkL.nil|exact aa _|refine ez ?_|refine dC ?_|refine wkL.cons ?_ ?_))
  · have q1:decide ((20000:Int)<(l.length:Int))=false:=by rw [decide_eq_false_iff_not];omega
    have e:eR l=du (lines l) 0:=by simp only [eR,if_neg hlong]
    rw [e]
    (refine al c87 b87 fun σ=>?_;simp only [c87,↓R1,RR,seval,bd,cb,aA,az,q1,q2,q3,q4,q5,hw,t2,t3,t4,t5,ttip,s5,tl])
    rw [ah];intro b2 h2;simp only [↓R1,RR,seval,bd,cb,aA,az,q1,q2,q3,q4,q5,hw,t2,t3,t4,t5,ttip,s5,tl]
    rw [ah];intro b3 h3;rw [St.aD] at h3;obtain ⟨⟨_,_⟩,h3⟩:=h3;simp only [↓R1,RR,seval,bd,cb,aA,az,q1,q2,q3,q4,q5,hw,t2,t3,t4,t5,ttip,s5,tl]
    rw [ah];intro b4 h4;simp only [St.aD] at h4;obtain ⟨⟨_,_⟩,⟨_,_⟩,h4⟩:=h4;simp only [↓R1,RR,seval,bd,cb,aA,az,q1,q2,q3,q4,q5,hw,t2,t3,t4,t5,ttip,s5,tl]
    rw [ah];intro b5 h5;simp only [St.aD] at h5;obtain ⟨⟨_,_⟩,⟨_,_⟩,⟨_,_⟩,h5⟩:=h5;simp only [↓R1,RR,seval,bd,cb,aA,az,q1,q2,q3,q4,q5,hw,t2,t3,t4,t5,ttip,s5,tl]
    refine (AC.wk (Ey _ l) (aa _)).mono ?_
    rintro _ _ ⟨β0,β1,β2,k0,k1,k2,⟨_,_⟩,⟨_,_⟩,⟨_,_⟩,rfl,rfl⟩
    simp only [St.aD] at k0 k1 k2
    obtain ⟨⟨_,_⟩,⟨_,_⟩,⟨_,_⟩,⟨_,_⟩,⟨_,_⟩,k0⟩:=k0
    obtain ⟨⟨_,_⟩,⟨_,_⟩,⟨_,_⟩,⟨_,_⟩,⟨_,_⟩,k1⟩:=k1
    obtain ⟨⟨_,_⟩,⟨_,_⟩,⟨_,_⟩,⟨_,_⟩,⟨_,_⟩,k2⟩:=k2
    simp only [↓R1,RR,seval,bd,cb,aA,az,q1,q2,q3,q4,q5,hw,t2,t3,t4,t5,ttip,s5,tl]
    refine eQ [(true,4,0,80,2)] ?_
    simp only [cA,List.set_cons_zero,↓R1,RR,seval,bd,cb,aA,az,q1,q2,q3,q4,q5,hw,t2,t3,t4,t5,ttip,s5,tl]
    intro τ hτ
    refine ⟨_,_,rfl,?_⟩
    obtain ⟨T,hT⟩:∃ T,T=TR σ b2 b3 b4 b5 β0 β1 β2 τ:=⟨_,rfl⟩
    have t0:∀ g r,(T g r).box β0=some [.str r]:=fun g r=>by subst hT;simp only [TR,↓R1,RR,seval,bd,cb,aA,az,q1,q2,q3,q4,q5,hw,t2,t3,t4,t5,ttip,s5,tl]
    have t1:∀ g r,(T g r).box β1=some [.str [10]]:=fun g r=>by subst hT;simp only [TR,↓R1,RR,seval,bd,cb,aA,az,q1,q2,q3,q4,q5,hw,t2,t3,t4,t5,ttip,s5,tl]
    have t22:∀ g r,(T g r).box β2=some [.int .i64 1]:=fun g r=>by subst hT;simp only [TR,↓R1,RR,seval,bd,cb,aA,az,q1,q2,q3,q4,q5,hw,t2,t3,t4,t5,ttip,s5,tl]
    have t2:∀ g r,(T g r).box b2=some [.nils]:=fun g r=>by subst hT;simp only [TR,↓R1,RR,seval,bd,cb,aA,az,q1,q2,q3,q4,q5,hw,t2,t3,t4,t5,ttip,s5,tl]
    have t3:∀ g r,(T g r).box b3=some [.int .i64 0, .int .i64 0]:=fun g r=>by subst hT;simp only [TR,↓R1,RR,seval,bd,cb,aA,az,q1,q2,q3,q4,q5,hw,t2,t3,t4,t5,ttip,s5,tl]
    have t4:∀ g r,(T g r).box b4=some [.tsl τ g.rs.length (g.rs.flatMap cRw)]:=fun g r=>by subst hT;simp only [TR,↓R1,RR,seval,bd,cb,aA,az,q1,q2,q3,q4,q5,hw,t2,t3,t4,t5,ttip,s5,tl]
    have t5:∀ g r,(T g r).box b5=some [.int .i64 (g.a:Nat)]:=fun g r=>by subst hT;simp only [TR,↓R1,RR,seval,bd,cb,aA,az,q1,q2,q3,q4,q5,hw,t2,t3,t4,t5,ttip,s5,tl]
    have ttip:∀ g r,(T g r).tip τ=some (80,2,g.rs.length):=fun g r=>by subst hT;simp only [TR,↓R1,RR,seval,bd,cb,aA,az,q1,q2,q3,q4,q5,hw,t2,t3,t4,t5,ttip,s5,tl]
    have s0:∀ g r r',(T g r).ad β0 [.str r']=T g r':=fun g r r'=>by subst hT;simp only [TR,↓R1,RR,seval,bd,cb,aA,az,q1,q2,q3,q4,q5,hw,t2,t3,t4,t5,ttip,s5,tl]
    have s5:∀ (g:RG) r (a':Nat) L x,((T g r).av L x).ad b5 [.int .i64 a']=(T ⟨a',g.rs⟩ r).av L x:=fun g r a' L x=>by
      subst hT;rw [←St.ef];simp only [TR,xX,↓R1,RR,seval,bd,cb,aA,az,q1,q2,q3,q4,q5,hw,t2,t3,t4,t5,ttip,s5,tl]
    have s4:∀ (g:RG) r rs' L x,(((T g r).av L x).ad b4 [.tsl τ rs'.length (rs'.flatMap cRw)]).ai τ (80,2,rs'.length)=(T ⟨g.a,rs'⟩ r).av L x:=fun g r rs' L x=>by
      subst hT;rw [←St.ef,←St.jw];simp only [TR,↓R1,RR,seval,bd,cb,aA,az,q1,q2,q3,q4,q5,hw,t2,t3,t4,t5,ttip,s5,tl]
    have tl:∀ g r,(T g r).lp=σ.lp:=fun g r=>by subst hT;rfl
    have tle:∀ g r,St.le σ (T g r):=fun g r=>by
      subst hT
      refine St.ew (St.aw (St.aw (St.aw (St.aw (St.aw (St.aw (St.aw (St.aw (St.le_refl σ) h2) h3) h4) h5) k0) k1) k2) h4) hτ
    have hst:((((((((((σ.ad b2 [AV.nils]).ad b3 [AV.int IntKind.i64 0,AV.int IntKind.i64 0]).ad b4 [AV.nils]).ad b5 [AV.int IntKind.i64 0]).ad β0 [AV.str l]).ad β1 [AV.str [10]]).ad β2 [AV.int IntKind.i64 1]).ad b4 [AV.tsl τ 0 []]).ai τ (80,2,0)))=T ⟨0,[]⟩ l:=by
      subst hT;rfl
    rw [hst]
    clear hst
    refine BL T (fun g rest=>rest.length≤l.length∧g.a=l.length - rest.length∧g.rs.length≤g.a∧du (lines l) 0=eV (.ok g.rs) (du (lines rest) g.a)) (fun g=>du (lines l) 0= .ok g.rs∧g.rs.length≤l.length+1) rfl _ _ ⟨Nat.le_refl _,by simp,Nat.zero_le _,by rw [xG]⟩ t0 t1 t22 s0 (fun g r L=>by rw [tl,tl]) (fun g r h=>Nat.le_trans h.1 hl) ?_ ?_
    · rintro L r g rest hL ⟨i1,i2,i3,i4⟩
      have hL0:σ.lp L=none:=by rw [tl] at hL;exact hL
      have hcut:(jL (cut rest).1=bl rest)∧(cut rest).1.length≤rest.length∧(bl rest).length≤(cut rest).1.length:=by
        cases ha:cj rest with
        | nil =>
          have h1:=gA rest
          rw [ha,List.append_nil] at h1
          rw [jJ ha,h1]
          exact ⟨xW ha,Nat.le_refl _,Nat.le_refl _⟩
        | cons c r' =>
          obtain ⟨k1,k2,k3,k4⟩:=jK ha
          rw [k1]
          exact ⟨xV _,by simpa using k4,by simp⟩
      obtain ⟨hc1,hc2,hc3⟩:=hcut
      have hw:IntKind.i64.wrap ((g.a:Int)+((cut rest).1.length:Int))=((g.a+(cut rest).1.length:Nat):Int):=by rw [wrap64 (by omega) (by omega)];omega
      have ht:=Mu (cut rest).1 (by omega)
      rw [hc1] at ht
      have fin:∀ nw:List Rw,cE (bl rest) g.a= .ok nw→nw.length≤1→match (cut rest).2 with
          | none=>du (lines l) 0= .ok (g.rs++nw)∧(g.rs++nw).length≤l.length+1
          | some r'=>r'.length≤l.length∧g.a+(cut rest).1.length=l.length - r'.length∧(g.rs++nw).length≤g.a+(cut rest).1.length∧du (lines l) 0=eV (.ok (g.rs++nw)) (du (lines r') (g.a+(cut rest).1.length)):=by
        intro nw h1 h2
        rw [je rest] at i4
        simp only [du,h1] at i4
        rw [←qZ] at i4
        have hb:eV (.ok g.rs) (.ok nw)= .ok (g.rs++nw):=rfl
        rw [hb] at i4
        have hn:(g.rs++nw).length≤g.a+1:=by simp;omega
        cases ha:cj rest with
        | nil =>
          rw [jJ ha] at i4 ⊢
          simp only [du,pe] at i4 ⊢
          exact ⟨i4,by omega⟩
        | cons c r' =>
          obtain ⟨k1,k2,k3,k4⟩:=jK ha
          rw [k1] at i4 ⊢
          have hr':r'.length=rest.length - ((bl rest).length+1):=by rw [←k3];simp
          simp only [List.length_append,List.length_cons,List.length_nil] at i4 hn ⊢
          refine ⟨by omega,by omega,by omega,?_⟩
          rw [i4]
          congr 2
      simp only [iD,↓R1,RR,seval,bd,cb,aA,az,q1,q2,q3,q4,q5,hw,t2,t3,t4,t5,ttip,s5,tl]
      by_cases h1000:1000<(bl rest).length
      · have q2:decide ((1000:Int)<((bl rest).length:Int))=true:=by rw [decide_eq_true_eq];omega
        have hrr:du (lines l) 0= .error (4,g.a):=by rw [i4,je];simp only [du,cE,if_pos h1000,eV]
        repeat' ((refine Pt (ht) ?_)<;>(try simp only [↓R1,RR,seval,bd,cb,aA,az,q1,q2,q3,q4,q5,hw,t2,t3,t4,t5,ttip,s5,tl]))
        rw [hrr]
        refine ak ?_ (by first|(simp [aj,rvS];done)|(simp only [aj,rvS,↓R1,RR,seval,bd,cb,aA,az,q1,q2,q3,q4,q5,hw,t2,t3,t4,t5,ttip,s5,tl];try simp)) (St.aw (St.aw (mK (tle _ _) hL0) h2) h3)
        simp only [ao,↓R1,RR,seval,bd,cb,aA,az,q1,q2,q3,q4,q5,hw,t2,t3,t4,t5,ttip,s5,tl]
        simp only [iN,fk]
        (repeat' (first|exact ae _|exact c7|exact cd _ _ _|exact bw _ _|exact wkL.nil|exact aa _|refine ez ?_|refine dC ?_|refine wkL.cons ?_ ?_))
      · have q2:decide ((1000:Int)<((bl rest).length:Int))=false:=by rw [decide_eq_false_iff_not];omega
        have hll:(bl rest).length≤1000000:=by omega
        cases hws:cU (bl rest) with
        | error b =>
          have hrr:du (lines l) 0= .error (3,g.a+b):=by rw [i4,je];simp only [du,rQ h1000 hws,eV]
          have ha:∀ s,AC Tryz.prog 149 [.str (bl rest)] s (fun r s'=>r= .tup [.nils, .int .i64 (b:Nat), .bool false]∧s'=s):=fun s=>by
            have:=pB s (bl rest) hll
            rwa [hws] at this
          have hb:b≤1000000:=by have:=xH hws;omega
          have q3:IntKind.i64.wrap ((g.a:Int)+(b:Int))=((g.a+b:Nat):Int):=by rw [wrap64 (by omega) (by omega)];omega
          repeat' ((first|(refine Pt (ht) ?_)|((refine AC.mono (AC.wk (ha _) (aa _)) ?_;(rintro _ _ ⟨rfl,rfl⟩))))<;>(try simp only [↓R1,RR,seval,bd,cb,aA,az,q1,q2,q3,q4,q5,hw,t2,t3,t4,t5,ttip,s5,tl]))
          rw [hrr]
          refine ak ?_ (by first|(simp [aj,rvS];done)|(simp only [aj,rvS,↓R1,RR,seval,bd,cb,aA,az,q1,q2,q3,q4,q5,hw,t2,t3,t4,t5,ttip,s5,tl];try simp)) (St.aw (St.aw (mK (tle _ _) hL0) h2) h3)
          simp only [ao,↓R1,RR,seval,bd,cb,aA,az,q1,q2,q3,q4,q5,hw,t2,t3,t4,t5,ttip,s5,tl]
          simp only [iN,fk]
          (repeat' (first|exact ae _|exact c7|exact cd _ _ _|exact bw _ _|exact wkL.nil|exact aa _|refine ez ?_|refine dC ?_|refine wkL.cons ?_ ?_))
        | ok ws =>
          by_cases hne:ws= []
          · subst hne
            have hrr:=rR (a:=g.a) h1000 hws
            have ha:∀ s,AC Tryz.prog 149 [.str (bl rest)] s (fun r s'=>r= .tup [.nils, .int .i64 0, .bool true]∧s'=s):=fun s=>by
              have:=pB s (bl rest) hll
              rw [hws] at this
              refine this.mono ?_
              rintro r s' ⟨τ',_,rfl,rfl⟩
              exact ⟨rfl,rfl⟩
            have q3:decide (((0:Int))<((0:Nat):Int))=false:=rfl
            repeat' ((first|(refine Pt (ht) ?_)|((refine AC.mono (AC.wk (ha _) (aa _)) ?_;(rintro _ _ ⟨rfl,rfl⟩))))<;>(try simp only [↓R1,RR,seval,bd,cb,aA,az,q1,q2,q3,q4,q5,hw,t2,t3,t4,t5,ttip,s5,tl]))
            refine bQ (α:=Unit) (fun _=> [(4, .ptr b4 0),(7, .int .i64 (g.a:Nat)),(8, .nils),(44, .int .i64 ((0:Nat):Int)),(45, .int .i64 0)]) (fun _=>_) (fun _=>True) (fun _=>0) () (by simp [aE,slot,ae]) (St.le_refl _) trivial ?_
            rintro _ _
            simp only [↓R1,RR,seval,bd,cb,aA,az,q1,q2,q3,q4,q5,hw,t2,t3,t4,t5,ttip,s5,tl]
            skip
            refine ⟨⟨g.a+(cut rest).1.length,g.rs⟩,St.le_refl _,?_⟩
            have hfin:=fin [] hrr (by simp)
            simp only [List.append_nil] at hfin
            exact hfin
          · have hrr:=pC (a:=g.a) h1000 hws hne
            obtain ⟨hwl,hwa⟩:=xI hws
            repeat' ((refine Pt (ht) ?_)<;>(try simp only [↓R1,RR,seval,bd,cb,aA,az,q1,q2,q3,q4,q5,hw,t2,t3,t4,t5,ttip,s5,tl]))
            refine (AC.wk (rS _ hll hws hne) (aa _)).mono ?_
            rintro _ _ ⟨γ,k,hγ,rfl,rfl⟩
            simp only [St.aD,St.ca] at hγ
            obtain ⟨⟨_,_⟩,hγ⟩:=hγ
            obtain ⟨_,_⟩:=ag (σ:=T g rest) (β:=b4) (γ:=γ) ⟨t4 g rest⟩ hγ
            simp only [↓R1,RR,seval,bd,cb,aA,az,q1,q2,q3,q4,q5,hw,t2,t3,t4,t5,ttip,s5,tl]
            refine bn ws.length (fun i=> [(4, .ptr b4 0),(7, .int .i64 (g.a:Nat)),(8, .psl γ 0 ws.length),(44, .int .i64 (ws.length:Nat)),(45, .int .i64 (i:Nat))]) (fun i=>((T ⟨g.a+(cut rest).1.length,g.rs⟩ rest).av L (busy r,_)).ad γ (shG g.a ws i (List.replicate k .junk))) (fun _=>True) (by simp [aE,slot,ae]) (by rw [BN];exact St.le_refl _) trivial (fun i hi _=>?_)
            have hsl:=EA g.a ws i hi (List.replicate k .junk)
            simp only [↓R1,RR,seval,bd,cb,aA,az,q1,q2,q3,q4,q5,hw,t2,t3,t4,t5,ttip,s5,tl]
            by_cases hin:i<ws.length
            · have q3:decide ((i:Int)<(ws.length:Int))=true:=by rw [decide_eq_true_eq];omega
              obtain ⟨g1,g2⟩:=H6 g.a ws hin (List.replicate k .junk)
              have hwk:=hwa ws[i] (List.getElem_mem hin)
              have q4:=g1
              have hw2:IntKind.i64.wrap ((ws[i].a:Int)+(g.a:Int))=((ws[i].a+g.a:Nat):Int):=by rw [wrap64 (by omega) (by omega)];omega
              have q5:=hw2
              simp only [q3,↓R1,RR,seval,bd,cb,aA,az,q1,q2,q3,q4,q5,hw,t2,t3,t4,t5,ttip,s5,tl]
              repeat' (first|(with_reducible refine And.intro ?_ ?_;focus (intros;(repeat' (with_reducible apply And.intro))<;>first|omega|(simp only [RZ,bM,cH];omega)))|(with_reducible apply And.intro))
              · (simp only [aE,slot,ae,↓R1,RR,seval,bd,cb,aA,az,q1,q2,q3,q4,q5,hw,t2,t3,t4,t5,ttip,s5,tl];(repeat' (with_reducible apply And.intro))<;>first|exact j4 (by have:=dT;omega)|exact cd _ _ _|exact bw _ _|exact af (congrArg (AV.tsl _ _) (flat_step (by assumption))))
              · rw [g2];exact St.le_refl _
            · have q3:decide ((i:Int)<(ws.length:Int))=false:=by rw [decide_eq_false_iff_not];omega
              have hie:i=ws.length:=by omega
              subst hie
              have q4:(ws.length*3).ble (shG g.a ws ws.length (List.replicate k AV.junk)).length=true:=Nat.ble_eq_true_of_le (by rw [hsl];omega)
              have hwp:0<ws.length:=List.length_pos_iff.2 hne
              simp only [q3,↓R1,RR,seval,bd,cb,aA,az,q1,q2,q3,q4,q5,hw,t2,t3,t4,t5,ttip,s5,tl]
              have hγ2:(T ⟨g.a+(cut rest).1.length,g.rs⟩ rest).box γ=none:=by
                have h:(((T g rest).av L (r,[])).ad b5 [.int .i64 ((g.a+(cut rest).1.length:Nat):Int)]).box γ=none:=by
                  rw [St.aD];exact ⟨⟨by assumption,by assumption⟩,hγ⟩
                rw [s5] at h
                exact h
              rw [Ez,BM (σ:=(T ⟨g.a+(cut rest).1.length,g.rs⟩ rest).av L _) hγ2]
              have q3:decide ((0:Int)<(ws.length:Int))=true:=by rw [decide_eq_true_eq];omega
              simp only [q3,↓R1,RR,seval,bd,cb,aA,az,q1,q2,q3,q4,q5,hw,t2,t3,t4,t5,ttip,s5,tl]
              repeat' (((first|(refine cD (.inr rfl) rfl ?_ ?_ ?_ ?_ ?_ ?_;(first|rfl|exact St.bm _ _ _|(simp only [↓R1,RR,seval,bd,cb,aA,az,q1,q2,q3,q4,q5,hw,t2,t3,t4,t5,ttip,s5,tl]));(first|omega|(simp only [RZ,bM,cH,List.length_nil,List.length_cons];omega)|(simp only [RZ,bM,cH,List.length_nil,List.length_cons]));(first|rfl|first|omega|(simp only [RZ,bM,cH,List.length_nil,List.length_cons];omega)|(simp only [RZ,bM,cH,List.length_nil,List.length_cons])))|(refine bV rfl ?_ ?_ ?_ ?_ ?_ ?_;(first|rfl|exact St.bm _ _ _|(simp only [↓R1,RR,seval,bd,cb,aA,az,q1,q2,q3,q4,q5,hw,t2,t3,t4,t5,ttip,s5,tl]));(first|omega|(simp only [RZ,bM,cH,List.length_nil,List.length_cons];omega)|(simp only [RZ,bM,cH,List.length_nil,List.length_cons]));(first|rfl|first|omega|(simp only [RZ,bM,cH,List.length_nil,List.length_cons];omega)|(simp only [RZ,bM,cH,List.length_nil,List.length_cons])))|(refine dr ?_ ?_ ?_ ?_;exact aU (by intro _;rfl) _)|(refine appD_own ?_ ?_ ?_ ?_ ?_;omega;exact aU (by intro _;rfl) _)|(refine ct rfl trivial rfl ?_ ?_ ?_ ?_ ?_;(first|rfl|first|omega|(simp only [RZ,bM,cH,List.length_nil,List.length_cons];omega)|(simp only [RZ,bM,cH,List.length_nil,List.length_cons]));(first|rfl|first|omega|(simp only [RZ,bM,cH,List.length_nil,List.length_cons];omega)|(simp only [RZ,bM,cH,List.length_nil,List.length_cons])))|(refine appD_fresh rfl trivial rfl ?_ ?_ ?_ ?_ ?_ ?_;omega;(first|rfl|first|omega|(simp only [RZ,bM,cH,List.length_nil,List.length_cons];omega)|(simp only [RZ,bM,cH,List.length_nil,List.length_cons]));(first|rfl|first|omega|(simp only [RZ,bM,cH,List.length_nil,List.length_cons];omega)|(simp only [RZ,bM,cH,List.length_nil,List.length_cons]))));(unfold maxLen;omega);omega)<;>(try simp only [↓R1,RR,seval,bd,cb,aA,az,q1,q2,q3,q4,q5,hw,t2,t3,t4,t5,ttip,s5,tl]))
              have e1:([AV.tsl τ (g.rs.length+1) (g.rs.flatMap cRw++ [AV.int .i64 (g.a:Nat),AV.sl false ws.length ((ws.map (dN g.a)).flatMap cWd)])]:List AV)= [AV.tsl τ (g.rs++ [(⟨g.a,ws.map (dN g.a)⟩:Rw)]).length ((g.rs++ [(⟨g.a,ws.map (dN g.a)⟩:Rw)]).flatMap cRw)]:=by
                simp [cRw]
              have e2:g.rs.length+1=(g.rs++ [(⟨g.a,ws.map (dN g.a)⟩:Rw)]).length:=by simp
              rw [e1,e2,s4]
              exact ⟨⟨g.a+(cut rest).1.length,g.rs++ [⟨g.a,ws.map (dN g.a)⟩]⟩,St.le_refl _,fin _ hrr (by simp)⟩
    · rintro g r ⟨j1,j2⟩
      rw [j1]
      simp only [↓R1,RR,seval,bd,cb,aA,az,q1,q2,q3,q4,q5,hw,t2,t3,t4,t5,ttip,s5,tl]
      have hl2:St.le σ (((T g r).ad b2 [AV.tsl τ g.rs.length (g.rs.flatMap cRw)]).ad b3 [AV.int IntKind.i64 0,AV.int IntKind.i64 0]):=St.aw (St.aw (tle g r) h2) h3
      refine ak ?_ (by first|(simp [aj,rvS];done)|(simp only [aj,rvS,↓R1,RR,seval,bd,cb,aA,az,q1,q2,q3,q4,q5,hw,t2,t3,t4,t5,ttip,s5,tl];try simp)) hl2
      simp only [ao,↓R1,RR,seval,bd,cb,aA,az,q1,q2,q3,q4,q5,hw,t2,t3,t4,t5,ttip,s5,tl]
      simp only [iN,fk]
      (repeat' (first|exact ae _|exact c7|exact cd _ _ _|exact bw _ _|exact wkL.nil|exact aa _|refine ez ?_|refine dC ?_|refine wkL.cons ?_ ?_))
def hU (b:UInt8):Bool:= !(decide ((b.toNat:Int)<48)||decide ((57:Int)<b.toNat))
def dH (l:List UInt8):Nat:=l.foldl (fun v b=>10*v+(b.toNat - 48)) 0
def ov (l:List UInt8):Bool:=decide (l.length≤20)&&(match l with | []=>false|c::r=> !(c == 48&& !r.isEmpty))&&l.all hU
def nv (l:List UInt8):AV:=bif ov l then .tup [.int .u64 ((dH l % 18446744073709551616:Nat):Int), .bool (decide (18446744073709551616≤dH l)), .bool true] else .tup [.int .u64 0, .bool false, .bool false]
theorem xY (l:List UInt8) {k:Nat} (h:k<l.length):dH (l.take (k+1))=10*dH (l.take k)+(l[k].toNat - 48):=by
 rw [←List.take_append_getElem h,dH,List.foldl_append];rfl
theorem rT (n:Nat):IntKind.u64.wrap (n:Int)=((n % 18446744073709551616:Nat):Int):=by
 rw [IntKind.wrap_u64];omega
theorem xZ {b:UInt8}:hU b=true↔48≤b.toNat∧b.toNat≤57:=by
 simp only [hU,Bool.not_eq_true',Bool.or_eq_false_iff,decide_eq_false_iff_not];omega
def pD:List UInt8→Bool
 | []=>false
 | c::r=> !(c == 48&& !r.isEmpty)
theorem mL (l:List UInt8):ov l=(decide (l.length≤20)&&pD l&&l.all hU):=by
 cases l<;>rfl
theorem Mw (n:Nat):IntKind.u64.wrap ((n:Int)*2^min (Int.toNat 3) IntKind.u64.bits)=((8*n % 18446744073709551616:Nat):Int):=by
 rw [show ((n:Int)*2^min (Int.toNat 3) IntKind.u64.bits)=((8*n:Nat):Int) by rw [show (2:Int)^min (Int.toNat 3) IntKind.u64.bits=8 from rfl];omega,rT]
theorem JY (n:Nat):IntKind.u64.wrap ((n:Int)*2^min (Int.toNat 1) IntKind.u64.bits)=((2*n % 18446744073709551616:Nat):Int):=by
 rw [show ((n:Int)*2^min (Int.toNat 1) IntKind.u64.bits)=((2*n:Nat):Int) by rw [show (2:Int)^min (Int.toNat 1) IntKind.u64.bits=2 from rfl];omega,rT]
theorem add_mod (n:Nat):IntKind.u64.wrap (((8*n % 18446744073709551616:Nat):Int)+((2*n % 18446744073709551616:Nat):Int))=((10*n % 18446744073709551616:Nat):Int):=by
 rw [show (((8*n % 18446744073709551616:Nat):Int)+((2*n % 18446744073709551616:Nat):Int))=((8*n % 18446744073709551616+2*n % 18446744073709551616:Nat):Int) by omega,rT]
 congr 1;omega
theorem BO (V d:Nat):IntKind.u64.wrap (((10*(V % 18446744073709551616) % 18446744073709551616:Nat):Int)+(d:Int))=(((10*V+d) % 18446744073709551616:Nat):Int):=by
 rw [show (((10*(V % 18446744073709551616) % 18446744073709551616:Nat):Int)+(d:Int))=((10*(V % 18446744073709551616) % 18446744073709551616+d:Nat):Int) by omega,rT]
 congr 1;omega
theorem tZ (V d:Nat) (hd:d≤9):((decide (18446744073709551616≤V)||decide ((1844674407370955161:Int)<((V % 18446744073709551616:Nat):Int)))||decide ((((10*V+d) % 18446744073709551616:Nat):Int)<((10*(V % 18446744073709551616) % 18446744073709551616:Nat):Int)))=decide (18446744073709551616≤10*V+d):=by
 rw [Bool.eq_iff_iff]
 simp only [Bool.or_eq_true,decide_eq_true_eq]
 by_cases hV:18446744073709551616≤V
 ·simp only [hV,true_or,true_iff];omega
 ·rw [Nat.mod_eq_of_lt (show V<18446744073709551616 by omega)]
  by_cases hb:1844674407370955161<V
  ·have h1:(1844674407370955161:Int)<(V:Int):=by omega
   simp only [h1,or_true,true_or,true_iff];omega
  ·rw [Nat.mod_eq_of_lt (show 10*V<18446744073709551616 by omega)]
   omega
theorem EB {b:UInt8} (h:hU b=true):IntKind.u8.wrap ((b.toNat:Int) - 48)=((b.toNat - 48:Nat):Int)∧b.toNat - 48≤9∧IntKind.u64.wrap ((b.toNat - 48:Nat):Int)=((b.toNat - 48:Nat):Int):=by
 have:=xZ.1 h
 refine ⟨by simp [IntKind.wrap,IntKind.signed,IntKind.bits];omega,by omega,by rw [rT];congr 1;omega⟩
set_option maxHeartbeats 4000000 in
theorem Mx (l:List UInt8) (hl:l.length≤1000000):Pu Tryz.prog 250 [.str l] (nv l):=by
  have q1:True:=trivial
  have q2:True:=trivial
  have q3:True:=trivial
  have q4:True:=trivial
  have q5:True:=trivial
  have q6:True:=trivial
  have q7:True:=trivial
  have hw:True:=trivial
  have hd:True:=trivial
  have e1:True:=trivial
  have e2:True:=trivial
  have e3:True:=trivial
  have e4:True:=trivial
  have e5:True:=trivial
  by_cases hnil:l= []
  · subst hnil
    have q1:(([]:List UInt8) == [])=true:=rfl
    have e:nv []= .tup [.int .u64 0, .bool false, .bool false]:=rfl
    rw [e]
    (refine al pd D0 fun σ=>?_;simp only [pd,↓R1,RR,Nat.reduceEqDiff,reduceCtorEq,q1,q2,q3,q4,q5,q6,q7,hw,hd,e1,e2,e3,e4,e5])
    skip
    (refine ak (af ?_))
    (simp only [ao,↓R1,RR,Nat.reduceEqDiff,reduceCtorEq,q1,q2,q3,q4,q5,q6,q7,hw,hd,e1,e2,e3,e4,e5])
  · obtain ⟨c,m,e⟩:∃ c m,l=c::m:=by
      cases l with
      | nil=>exact (hnil rfl).elim
      | cons c m=>exact ⟨c,m,rfl⟩
    have q1:(l == [])=false:=by rw [e];rfl
    have hd:l[0]? =some c:=by rw [e];rfl
    have hl1:0<l.length:=by rw [e];simp
    by_cases h20:20<l.length
    · have q2:decide ((20:Int)<(l.length:Int))=true:=by rw [decide_eq_true_eq];omega
      have e:nv l= .tup [.int .u64 0, .bool false, .bool false]:=by
        have:decide (l.length≤20)=false:=by rw [decide_eq_false_iff_not];omega
        rw [nv,mL,this];rfl
      rw [e]
      (refine al pd D0 fun σ=>?_;simp only [pd,↓R1,RR,Nat.reduceEqDiff,reduceCtorEq,q1,q2,q3,q4,q5,q6,q7,hw,hd,e1,e2,e3,e4,e5])
      skip
      (refine ak (af ?_))
      (simp only [ao,↓R1,RR,Nat.reduceEqDiff,reduceCtorEq,q1,q2,q3,q4,q5,q6,q7,hw,hd,e1,e2,e3,e4,e5])
    · have q2:decide ((20:Int)<(l.length:Int))=false:=by rw [decide_eq_false_iff_not];omega
      have hd20:decide (l.length≤20)=true:=by rw [decide_eq_true_eq];omega
      have q3:((c.toNat:Int) == 48)=decide (c=48):=rJ c 48
      have hfo:pD l= !(decide (c=48)&&decide ((1:Int)<(l.length:Int))):=by
        rw [e]
        show (!(c == 48&& !m.isEmpty))=_
        have h1:(c == 48)=decide (c=48):=by rw [Bool.eq_iff_iff];simp
        have h2:(!m.isEmpty)=decide ((1:Int)<((c::m).length:Int)):=by
          cases m with
          | nil=>rfl
          | cons x m=>rw [Bool.eq_iff_iff];simp;omega
        rw [h1,h2]
      by_cases hz:(decide (c=48)&&decide ((1:Int)<(l.length:Int)))=true
      · have e:nv l= .tup [.int .u64 0, .bool false, .bool false]:=by
          rw [nv,mL,hfo,hz];simp
        rw [Bool.and_eq_true] at hz
        have q4:=hz.1
        have q5:=hz.2
        rw [e]
        (refine al pd D0 fun σ=>?_;simp only [pd,↓R1,RR,Nat.reduceEqDiff,reduceCtorEq,q1,q2,q3,q4,q5,q6,q7,hw,hd,e1,e2,e3,e4,e5])
        repeat' (with_reducible refine And.intro ?_ ?_;exact aq)
        all_goals first|omega|skip
        (refine ak (af ?_))
        (simp only [ao,↓R1,RR,Nat.reduceEqDiff,reduceCtorEq,q1,q2,q3,q4,q5,q6,q7,hw,hd,e1,e2,e3,e4,e5])
      · have q4:(decide (c=48)&&decide ((1:Int)<(l.length:Int)))=false:=by simpa using hz
        have hno:pD l=true:=by rw [hfo,q4];rfl
        have hnv:nv l=bif l.all hU then .tup [.int .u64 ((dH l % 18446744073709551616:Nat):Int), .bool (decide (18446744073709551616≤dH l)), .bool true] else .tup [.int .u64 0, .bool false, .bool false]:=by
          rw [nv,mL,hno,hd20,Bool.true_and,Bool.true_and]
        rw [hnv]
        (refine al pd D0 fun σ=>?_;simp only [pd,↓R1,RR,Nat.reduceEqDiff,reduceCtorEq,q1,q2,q3,q4,q5,q6,q7,hw,hd,e1,e2,e3,e4,e5])
        repeat' (with_reducible refine And.intro ?_ ?_;exact aq)
        all_goals first|omega|(rw [q4];done)|skip
        clear hd
        refine bn l.length (fun k=> [(2, .int .u64 ((dH (l.take k) % 18446744073709551616:Nat):Int)),(3, .bool (decide (18446744073709551616≤dH (l.take k)))),(26, .sl false l.length (l.map fun b=> .int .u8 b.toNat)),(27, .int .i64 (l.length:Nat)),(28, .int .i64 (k:Nat))]) (fun _=>σ) (fun k=>(l.take k).all hU=true) (by simp [aE,slot,ae,dH]) (St.le_refl _) (by simp) (fun k hk hI=>?_)
        by_cases hlt:k<l.length
        · have q6:decide ((k:Int)<(l.length:Int))=true:=by rw [decide_eq_true_eq];omega
          have hd:=jd l hlt
          have hw:IntKind.i64.wrap ((k:Int)+1)=((k+1:Nat):Int):=by rw [wrap64 (by omega) (by omega)];omega
          cases hb:hU l[k] with
          | true =>
            have q7:(decide ((l[k].toNat:Int)<48)||decide ((57:Int)<(l[k].toNat:Int)))=false:=by
              simp only [hU,Bool.not_eq_true'] at hb;exact hb
            obtain ⟨d1,d2,d3⟩:=EB hb
            have e1:=Mw (dH (l.take k) % 18446744073709551616)
            have e2:=JY (dH (l.take k) % 18446744073709551616)
            have e3:=add_mod (dH (l.take k) % 18446744073709551616)
            have e4:=BO (dH (l.take k)) (l[k].toNat - 48)
            have e5:=d1
            have q5:=d3
            have hg:=tZ (dH (l.take k)) (l[k].toNat - 48) d2
            have hv:=xY l hlt
            simp only [q6,↓R1,RR,Nat.reduceEqDiff,reduceCtorEq,q1,q2,q3,q4,q5,q6,q7,hw,hd,e1,e2,e3,e4,e5]
            repeat' (first|(with_reducible refine And.intro ?_ ?_;exact aq)|(with_reducible apply And.intro))
            all_goals first|(simp only [List.length_map];omega)|omega|skip
            · rw [kf _ _ hlt,hI,hb];rfl
            · rw [hv,←hg];simp [aE,slot,ae]
            · exact St.le_refl _
          | false =>
            have q7:(decide ((l[k].toNat:Int)<48)||decide ((57:Int)<(l[k].toNat:Int)))=true:=by
              simp only [hU,Bool.not_eq_false'] at hb;exact hb
            have hall:l.all hU=false:=by
              rw [←Bool.not_eq_true,List.all_eq_true]
              intro h
              have:=h l[k] (List.getElem_mem hlt)
              rw [hb] at this;cases this
            rw [hall]
            simp only [q6,↓R1,RR,Nat.reduceEqDiff,reduceCtorEq,q1,q2,q3,q4,q5,q6,q7,hw,hd,e1,e2,e3,e4,e5]
            repeat' (with_reducible refine And.intro ?_ ?_;exact aq)
            all_goals first|(simp only [List.length_map];omega)|omega|skip
            (refine ak (af ?_))
            (simp only [ao,↓R1,RR,Nat.reduceEqDiff,reduceCtorEq,q1,q2,q3,q4,q5,q6,q7,hw,hd,e1,e2,e3,e4,e5])
            all_goals rfl
        · have hke:k=l.length:=by omega
          subst hke
          have q6:decide ((l.length:Int)<(l.length:Int))=false:=by simp
          rw [List.take_length] at hI ⊢
          rw [hI]
          simp only [q6,↓R1,RR,Nat.reduceEqDiff,reduceCtorEq,q1,q2,q3,q4,q5,q6,q7,hw,hd,e1,e2,e3,e4,e5]
          skip
          (refine ak (af ?_))
          (simp only [ao,↓R1,RR,Nat.reduceEqDiff,reduceCtorEq,q1,q2,q3,q4,q5,q6,q7,hw,hd,e1,e2,e3,e4,e5])
          all_goals rfl
def hZ (t:List UInt8):Bool:=match t with
 | c::_=>decide (c=45)
 | []=>false
def er (t:List UInt8):List UInt8:=bif hZ t then t.drop 1 else t
theorem My (t:List UInt8) (hl:t.length≤1000000):Pu Tryz.prog 288 [.str t, .str [45]] (.bool (hZ t)):=by
  cases t with
  | nil =>
    (refine al AQ Jx fun σ=>?_;simp only [AQ,↓R1,RR,Nat.reduceEqDiff,Nat.reduceAdd,Nat.reduceLT,reduceCtorEq])
    repeat' (with_reducible apply And.intro)
    all_goals first|(intro h;simp at h;done)|skip
    (refine ak (af ?_))
    (simp only [ao,↓R1,RR,Nat.reduceEqDiff,Nat.reduceAdd,Nat.reduceLT,reduceCtorEq])
    rfl
  | cons c r =>
    (refine al AQ Jx fun σ=>?_;simp only [AQ,↓R1,RR,Nat.reduceEqDiff,Nat.reduceAdd,Nat.reduceLT,reduceCtorEq])
    repeat' (with_reducible refine And.intro ?_ ?_;exact aq)
    all_goals first|(intro h;simp at h;done)|skip
    (refine ak (af ?_))
    (simp only [ao,↓R1,RR,Nat.reduceEqDiff,Nat.reduceAdd,Nat.reduceLT,reduceCtorEq])
    refine congrArg AV.bool ?_
    rw [Bool.eq_iff_iff]
    simp [hZ]
    omega
theorem Mz (t:List UInt8) (hl:t.length≤1000000):Pu Tryz.prog 274 [.str t, .str [45]] (.tup [.str (er t), .bool (hZ t)]):=by
  have hp:=My t hl
  cases hn:hZ t with
  | false =>
    rw [hn] at hp
    (refine al AO Jv fun σ=>?_;simp only [AO,↓R1,RR,Nat.reduceEqDiff,Nat.reduceAdd,Nat.reduceLT,reduceCtorEq])
    repeat' ((refine Pt (hp) ?_)<;>(try simp only [↓R1,RR,Nat.reduceEqDiff,Nat.reduceAdd,Nat.reduceLT,reduceCtorEq]))
    (refine ak (af ?_))
    (simp only [ao,↓R1,RR,Nat.reduceEqDiff,Nat.reduceAdd,Nat.reduceLT,reduceCtorEq])
    simp [er,hn]
  | true =>
    rw [hn] at hp
    have hl1:1≤t.length:=by
      cases t with
      | nil=>simp [hZ] at hn
      | cons c r=>simp
    (refine al AO Jv fun σ=>?_;simp only [AO,↓R1,RR,Nat.reduceEqDiff,Nat.reduceAdd,Nat.reduceLT,reduceCtorEq])
    repeat' (first|(with_reducible refine And.intro ?_ ?_;exact aq)|((refine Pt (hp) ?_)<;>(try simp only [↓R1,RR,Nat.reduceEqDiff,Nat.reduceAdd,Nat.reduceLT,reduceCtorEq])))
    all_goals first|omega|skip
    (refine ak (af ?_))
    (simp only [ao,↓R1,RR,Nat.reduceEqDiff,Nat.reduceAdd,Nat.reduceLT,reduceCtorEq])
    have e:(t.drop 1).take (t.length - 1)=t.drop 1:=List.take_of_length_le (by simp)
    simp only [e,er,hn,cond_true]
theorem MA (t:List UInt8) (hl:t.length≤1000000):Pu Tryz.prog 249 [.str t, .str [45]] (.tup [.str (er t), .bool (hZ t)]):=by
 (refine al Ha Le fun σ=>?_;simp only [Ha,↓R1,RR,Nat.reduceEqDiff,Nat.reduceAdd,Nat.reduceLT,reduceCtorEq])
 repeat' ((refine Pt (Mz t hl) ?_)<;>(try simp only [↓R1,RR,Nat.reduceEqDiff,Nat.reduceAdd,Nat.reduceLT,reduceCtorEq]))
 (refine ak (af ?_))
 (simp only [ao,↓R1,RR,Nat.reduceEqDiff,Nat.reduceAdd,Nat.reduceLT,reduceCtorEq])
def ow (q:Bool) (t:List UInt8):AV :=
 bif (q|| !ov (er t))||(hZ t&&decide (dH (er t)=0)) then .tup [.int .i64 0, .int .i64 3]
 else bif (decide (18446744073709551616≤dH (er t))||decide (9223372036854775808<dH (er t)))||(decide (dH (er t)=9223372036854775808)&& !hZ t) then .tup [.int .i64 0, .int .i64 2]
 else .tup [.int .i64 (bif hZ t then -((dH (er t):Nat):Int) else ((dH (er t):Nat):Int)), .int .i64 0]
set_option maxHeartbeats 4000000 in
theorem MB (q:Bool) (t:List UInt8) (a:Int) (hl:t.length≤1000000):Pu Tryz.prog 206 [.agg [.bool q, .str t, .int .i64 a]] (ow q t):=by
  have q1:True:=trivial
  have q2:True:=trivial
  have q3:True:=trivial
  have q4:True:=trivial
  have q5:True:=trivial
  have hal:(er t).length≤1000000:=by
    unfold er
    cases hZ t<;>simp<;>omega
  have hcp:=MA t hl
  have hp:=Mx (er t) hal
  cases hd:ov (er t) with
  | false =>
    simp only [nv,hd,cond_false] at hp
    simp only [ow,hd,Bool.not_false,Bool.or_true,Bool.true_or,cond_true]
    (refine al gz pc fun σ=>?_;simp only [gz,↓R1,RR,Nat.reduceEqDiff,Nat.reduceAdd,Nat.reduceLT,reduceCtorEq,q1,q2,q3,q4,q5])
    repeat' ((first|(with_reducible intro β hβ;(try simp only [RB] at hβ);(repeat (obtain ⟨⟨_,_⟩,hβ⟩:=hβ));(try (have hbis:=ag (by assumption) hβ;obtain ⟨_,_⟩:=hbis)))|(refine Pt (hcp) ?_)|(refine Pt (hp) ?_))<;>(try simp only [↓R1,RR,Nat.reduceEqDiff,Nat.reduceAdd,Nat.reduceLT,reduceCtorEq,q1,q2,q3,q4,q5]))
    (refine ak (af ?_))
    (simp only [ao,↓R1,RR,Nat.reduceEqDiff,Nat.reduceAdd,Nat.reduceLT,reduceCtorEq,q1,q2,q3,q4,q5])
  | true =>
    simp only [nv,hd,cond_true] at hp
    cases q with
    | true =>
      simp only [ow,Bool.true_or,cond_true]
      (refine al gz pc fun σ=>?_;simp only [gz,↓R1,RR,Nat.reduceEqDiff,Nat.reduceAdd,Nat.reduceLT,reduceCtorEq,q1,q2,q3,q4,q5])
      repeat' ((first|(with_reducible intro β hβ;(try simp only [RB] at hβ);(repeat (obtain ⟨⟨_,_⟩,hβ⟩:=hβ));(try (have hbis:=ag (by assumption) hβ;obtain ⟨_,_⟩:=hbis)))|(refine Pt (hcp) ?_)|(refine Pt (hp) ?_))<;>(try simp only [↓R1,RR,Nat.reduceEqDiff,Nat.reduceAdd,Nat.reduceLT,reduceCtorEq,q1,q2,q3,q4,q5]))
      (refine ak (af ?_))
      (simp only [ao,↓R1,RR,Nat.reduceEqDiff,Nat.reduceAdd,Nat.reduceLT,reduceCtorEq,q1,q2,q3,q4,q5])
    | false =>
      simp only [ow,hd,Bool.not_true,Bool.or_false,Bool.false_or]
      obtain ⟨V,hV⟩:∃ V,dH (er t)=V:=⟨_,rfl⟩
      rw [hV] at hp ⊢
      by_cases hg:18446744073709551616≤V
      · have h0:decide (V=0)=false:=by rw [decide_eq_false_iff_not];omega
        have q1:decide (18446744073709551616≤V)=true:=by rw [decide_eq_true_eq];omega
        rw [q1] at hp
        rw [h0,q1]
        simp only [Bool.and_false,Bool.true_or,cond_false,cond_true]
        (refine al gz pc fun σ=>?_;simp only [gz,↓R1,RR,Nat.reduceEqDiff,Nat.reduceAdd,Nat.reduceLT,reduceCtorEq,q1,q2,q3,q4,q5])
        repeat' ((first|(with_reducible intro β hβ;(try simp only [RB] at hβ);(repeat (obtain ⟨⟨_,_⟩,hβ⟩:=hβ));(try (have hbis:=ag (by assumption) hβ;obtain ⟨_,_⟩:=hbis)))|(refine Pt (hcp) ?_)|(refine Pt (hp) ?_))<;>(try simp only [↓R1,RR,Nat.reduceEqDiff,Nat.reduceAdd,Nat.reduceLT,reduceCtorEq,q1,q2,q3,q4,q5]))
        refine ak (af (by (simp only [ao,↓R1,RR,Nat.reduceEqDiff,Nat.reduceAdd,Nat.reduceLT,reduceCtorEq,q1,q2,q3,q4,q5]))) (by simp [aj,rvS]) (St.aw (St.le_refl _) hβ)
      · have q1:decide (18446744073709551616≤V)=false:=by rw [decide_eq_false_iff_not];omega
        rw [q1,Nat.mod_eq_of_lt (by omega)] at hp
        rw [q1]
        have h0:((V:Int) == 0)=decide (V=0):=by rw [Bool.eq_iff_iff];simp
        have h1:decide ((9223372036854775808:Int)<(V:Int))=decide (9223372036854775808<V):=by rw [Bool.eq_iff_iff];simp;omega
        have h2:((V:Int) == 9223372036854775808)=decide (V=9223372036854775808):=by rw [Bool.eq_iff_iff];simp;omega
        cases hn:hZ t with
        | true =>
          rw [hn] at hcp
          have h3:∀ (hv:V≤9223372036854775808),IntKind.i64.wrap (0 - IntKind.i64.wrap (V:Int))= -(V:Int):=fun hv=>by
            simp [IntKind.wrap,IntKind.signed,IntKind.bits];omega
          by_cases hz:V=0
          · have q2:((V:Int) == 0)=true:=by rw [h0,decide_eq_true_eq];exact hz
            have z:decide (V=0)=true:=by rw [decide_eq_true_eq];exact hz
            rw [z]
            simp only [Bool.and_true,cond_true]
            (refine al gz pc fun σ=>?_;simp only [gz,↓R1,RR,Nat.reduceEqDiff,Nat.reduceAdd,Nat.reduceLT,reduceCtorEq,q1,q2,q3,q4,q5])
            repeat' ((first|(with_reducible intro β hβ;(try simp only [RB] at hβ);(repeat (obtain ⟨⟨_,_⟩,hβ⟩:=hβ));(try (have hbis:=ag (by assumption) hβ;obtain ⟨_,_⟩:=hbis)))|(refine Pt (hcp) ?_)|(refine Pt (hp) ?_))<;>(try simp only [↓R1,RR,Nat.reduceEqDiff,Nat.reduceAdd,Nat.reduceLT,reduceCtorEq,q1,q2,q3,q4,q5]))
            refine ak (af (by (simp only [ao,↓R1,RR,Nat.reduceEqDiff,Nat.reduceAdd,Nat.reduceLT,reduceCtorEq,q1,q2,q3,q4,q5]))) (by simp [aj,rvS]) (St.aw (St.le_refl _) hβ)
          · have q2:((V:Int) == 0)=false:=by rw [h0,decide_eq_false_iff_not];exact hz
            have z:decide (V=0)=false:=by rw [decide_eq_false_iff_not];exact hz
            rw [z]
            simp only [Bool.and_false,cond_false,Bool.not_true,Bool.or_false,Bool.false_or]
            by_cases hb:9223372036854775808<V
            · have q3:decide ((9223372036854775808:Int)<(V:Int))=true:=by rw [h1,decide_eq_true_eq];exact hb
              have z2:decide (9223372036854775808<V)=true:=by rw [decide_eq_true_eq];exact hb
              rw [z2]
              simp only [cond_true]
              (refine al gz pc fun σ=>?_;simp only [gz,↓R1,RR,Nat.reduceEqDiff,Nat.reduceAdd,Nat.reduceLT,reduceCtorEq,q1,q2,q3,q4,q5])
              repeat' ((first|(with_reducible intro β hβ;(try simp only [RB] at hβ);(repeat (obtain ⟨⟨_,_⟩,hβ⟩:=hβ));(try (have hbis:=ag (by assumption) hβ;obtain ⟨_,_⟩:=hbis)))|(refine Pt (hcp) ?_)|(refine Pt (hp) ?_))<;>(try simp only [↓R1,RR,Nat.reduceEqDiff,Nat.reduceAdd,Nat.reduceLT,reduceCtorEq,q1,q2,q3,q4,q5]))
              refine ak (af (by (simp only [ao,↓R1,RR,Nat.reduceEqDiff,Nat.reduceAdd,Nat.reduceLT,reduceCtorEq,q1,q2,q3,q4,q5]))) (by simp [aj,rvS]) (St.aw (St.le_refl _) hβ)
            · have q3:decide ((9223372036854775808:Int)<(V:Int))=false:=by rw [h1,decide_eq_false_iff_not];exact hb
              have z2:decide (9223372036854775808<V)=false:=by rw [decide_eq_false_iff_not];exact hb
              have q4:=h3 (by omega)
              rw [z2]
              simp only [cond_false,cond_true]
              (refine al gz pc fun σ=>?_;simp only [gz,↓R1,RR,Nat.reduceEqDiff,Nat.reduceAdd,Nat.reduceLT,reduceCtorEq,q1,q2,q3,q4,q5])
              repeat' ((first|(with_reducible intro β hβ;(try simp only [RB] at hβ);(repeat (obtain ⟨⟨_,_⟩,hβ⟩:=hβ));(try (have hbis:=ag (by assumption) hβ;obtain ⟨_,_⟩:=hbis)))|(refine Pt (hcp) ?_)|(refine Pt (hp) ?_))<;>(try simp only [↓R1,RR,Nat.reduceEqDiff,Nat.reduceAdd,Nat.reduceLT,reduceCtorEq,q1,q2,q3,q4,q5]))
              refine ak (af (by (simp only [ao,↓R1,RR,Nat.reduceEqDiff,Nat.reduceAdd,Nat.reduceLT,reduceCtorEq,q1,q2,q3,q4,q5]))) (by simp [aj,rvS]) (St.aw (St.le_refl _) hβ)
        | false =>
          rw [hn] at hcp
          have h3:∀ (hv:V<9223372036854775808),IntKind.i64.wrap (V:Int)=(V:Int):=fun hv=>by
            simp [IntKind.wrap,IntKind.signed,IntKind.bits];omega
          simp only [Bool.false_and,cond_false,Bool.not_false,Bool.and_true,Bool.false_or]
          by_cases hb:9223372036854775808<V
          · have q3:decide ((9223372036854775808:Int)<(V:Int))=true:=by rw [h1,decide_eq_true_eq];exact hb
            have z2:decide (9223372036854775808<V)=true:=by rw [decide_eq_true_eq];exact hb
            rw [z2]
            simp only [Bool.true_or,cond_true]
            (refine al gz pc fun σ=>?_;simp only [gz,↓R1,RR,Nat.reduceEqDiff,Nat.reduceAdd,Nat.reduceLT,reduceCtorEq,q1,q2,q3,q4,q5])
            repeat' ((first|(with_reducible intro β hβ;(try simp only [RB] at hβ);(repeat (obtain ⟨⟨_,_⟩,hβ⟩:=hβ));(try (have hbis:=ag (by assumption) hβ;obtain ⟨_,_⟩:=hbis)))|(refine Pt (hcp) ?_)|(refine Pt (hp) ?_))<;>(try simp only [↓R1,RR,Nat.reduceEqDiff,Nat.reduceAdd,Nat.reduceLT,reduceCtorEq,q1,q2,q3,q4,q5]))
            refine ak (af (by (simp only [ao,↓R1,RR,Nat.reduceEqDiff,Nat.reduceAdd,Nat.reduceLT,reduceCtorEq,q1,q2,q3,q4,q5]))) (by simp [aj,rvS]) (St.aw (St.le_refl _) hβ)
          · have q3:decide ((9223372036854775808:Int)<(V:Int))=false:=by rw [h1,decide_eq_false_iff_not];exact hb
            have z2:decide (9223372036854775808<V)=false:=by rw [decide_eq_false_iff_not];exact hb
            rw [z2]
            simp only [Bool.false_or]
            by_cases he:V=9223372036854775808
            · have q5:((V:Int) == 9223372036854775808)=true:=by rw [h2,decide_eq_true_eq];exact he
              have z3:decide (V=9223372036854775808)=true:=by rw [decide_eq_true_eq];exact he
              rw [z3]
              simp only [cond_true]
              (refine al gz pc fun σ=>?_;simp only [gz,↓R1,RR,Nat.reduceEqDiff,Nat.reduceAdd,Nat.reduceLT,reduceCtorEq,q1,q2,q3,q4,q5])
              repeat' ((first|(with_reducible intro β hβ;(try simp only [RB] at hβ);(repeat (obtain ⟨⟨_,_⟩,hβ⟩:=hβ));(try (have hbis:=ag (by assumption) hβ;obtain ⟨_,_⟩:=hbis)))|(refine Pt (hcp) ?_)|(refine Pt (hp) ?_))<;>(try simp only [↓R1,RR,Nat.reduceEqDiff,Nat.reduceAdd,Nat.reduceLT,reduceCtorEq,q1,q2,q3,q4,q5]))
              refine ak (af (by (simp only [ao,↓R1,RR,Nat.reduceEqDiff,Nat.reduceAdd,Nat.reduceLT,reduceCtorEq,q1,q2,q3,q4,q5]))) (by simp [aj,rvS]) (St.aw (St.le_refl _) hβ)
            · have q5:((V:Int) == 9223372036854775808)=false:=by rw [h2,decide_eq_false_iff_not];exact he
              have z3:decide (V=9223372036854775808)=false:=by rw [decide_eq_false_iff_not];exact he
              have q4:=h3 (by omega)
              rw [z3]
              simp only [cond_false]
              (refine al gz pc fun σ=>?_;simp only [gz,↓R1,RR,Nat.reduceEqDiff,Nat.reduceAdd,Nat.reduceLT,reduceCtorEq,q1,q2,q3,q4,q5])
              repeat' ((first|(with_reducible intro β hβ;(try simp only [RB] at hβ);(repeat (obtain ⟨⟨_,_⟩,hβ⟩:=hβ));(try (have hbis:=ag (by assumption) hβ;obtain ⟨_,_⟩:=hbis)))|(refine Pt (hcp) ?_)|(refine Pt (hp) ?_))<;>(try simp only [↓R1,RR,Nat.reduceEqDiff,Nat.reduceAdd,Nat.reduceLT,reduceCtorEq,q1,q2,q3,q4,q5]))
              refine ak (af (by (simp only [ao,↓R1,RR,Nat.reduceEqDiff,Nat.reduceAdd,Nat.reduceLT,reduceCtorEq,q1,q2,q3,q4,q5]))) (by simp [aj,rvS]) (St.aw (St.le_refl _) hβ)
def eT (t:List UInt8):List (List UInt8)→Nat→Option Nat
 | [],_=>none
 | n::l,i=>bif n == t then some i else eT t l (i+1)
theorem kU (t:List UInt8) (l:List (List UInt8)) {k:Nat} (h:k<l.length) (j:Nat):eT t (l.drop k) j=bif l[k] == t then some j else eT t (l.drop (k+1)) (j+1):=by
 rw [List.drop_eq_getElem_cons h];rfl
end Go.Proofs.YtgephffbfiemeaaGreatDoor
