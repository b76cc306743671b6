/- Part 28 of the proof of ScriptBoths: an abstract semantics that is proved sound for the model, contracts of functions in it, and plain facts (RW9 RN1 RN2 RN3 Y1 Y2 Y3 Y4 Y5). No condition. -/
import Derived.Test.YtgephffbfiemeaaGreatDoorKScriptBoths27
set_option linter.all false
namespace Go.Proofs.YtgephffbfiemeaaGreatDoor
open Go.Abs
set_option linter.all false
set_option maxRecDepth 100000
theorem nc {s s':St} {L:Nat} {x:LO × Fr} (h:St.le s s') (hn:s.lp L=none):St.le s ((s'.ay L x).dropLp L):=by
 refine ⟨h.1,h.2.1,h.2.2.1,fun l r hr=>?_,h.2.2.2.2⟩
 have hne:l≠L:=by rintro rfl;rw [hn] at hr;cases hr
 simp only [St.dropLp,St.ay,upd,if_neg hne]
 exact h.2.2.2.1 _ _ hr
theorem ju (l:List UInt8):lines l=aP l::(match (cut l).2 with|none=> []|some r'=>lines r'):=by
  rw [jS]
  cases ha:bM l with
  | nil =>
    have h1:=eE l
    rw [ha,List.append_nil] at h1
    rw [j6 ha,h1]
  | cons c r=>rw [(j7 ha).1]
theorem B9 {σ:St} {γ:Nat} {c:List AV} (h:σ.box γ=none):(σ.aa γ c).bX γ=σ:=by
 simp only [St.bX,St.aa]
 have:(fun j=>if j=γ then none else upd σ.box γ c j)=σ.box:=by
  funext j
  simp only [upd]
  split
  ·rename_i e;subst e;exact h.symm
  ·rfl
 rw [this]
def shG (a:Nat) (ws:List Wd) (k:Nat) (j:List AV):List AV:=((ws.take k).map (dc a)++ws.drop k).flatMap cWd++j
theorem Cc (a:Nat) (ws:List Wd) (j:List AV):shG a ws 0 j=ws.flatMap cWd++j:=by simp [shG]
theorem EX (a:Nat) (ws:List Wd) (j:List AV):(shG a ws ws.length j).take (ws.length*3)=(ws.map (dc a)).flatMap cWd:=by
 have h:=ar (ws.map (dc a))
 simp only [shG,List.take_length,List.drop_length,List.append_nil]
 rw [List.take_append_of_le_length (by rw [h];simp)]
 rw [List.take_of_length_le (by rw [h];simp)]
theorem EY (a:Nat) (ws:List Wd) (k:Nat) (hk:k≤ws.length) (j:List AV):(shG a ws k j).length=ws.length*3+j.length:=by
 simp only [shG,List.length_append,ar,List.length_map,List.length_take,List.length_drop]
 omega
theorem Iv (a:Nat) (ws:List Wd) {k:Nat} (hk:k<ws.length) (j:List AV) :
  (shG a ws k j)[k*3+2]? =some (.int .i64 (ws[k].a:Nat))∧(shG a ws k j).take (k*3+2)++ [AV.int .i64 ((ws[k].a+a:Nat):Int)]++(shG a ws k j).drop (k*3+2+1)=shG a ws (k+1) j:=by
 obtain ⟨p,hp⟩:∃ p,((ws.take k).map (dc a)).flatMap cWd=p:=⟨_,rfl⟩
 have hpl:p.length=k*3:=by rw [←hp,ar];simp;omega
 obtain ⟨s,hs⟩:∃ s,(ws.drop (k+1)).flatMap cWd++j=s:=⟨_,rfl⟩
 have e1:shG a ws k j=(p++ [AV.bool ws[k].q,AV.str ws[k].t])++(AV.int .i64 (ws[k].a:Nat)::s):=by
  rw [shG,List.drop_eq_getElem_cons hk,List.flatMap_append,hp,List.flatMap_cons,←hs]
  simp [cWd]
 have e2:shG a ws (k+1) j=(p++ [AV.bool ws[k].q,AV.str ws[k].t])++(AV.int .i64 ((ws[k].a+a:Nat):Int)::s):=by
  rw [shG,←List.take_append_getElem hk,List.map_append,List.flatMap_append,List.flatMap_append,hp,←hs]
  simp [cWd,dc]
 have hl:(p++ [AV.bool ws[k].q,AV.str ws[k].t]).length=k*3+2:=by simp [hpl]
 rw [e1,e2]
 refine ⟨?_,?_⟩
 ·rw [List.getElem?_append_right MX,hl,Nat.sub_self];rfl
 ·rw [List.take_left' hl,List.drop_append,List.drop_of_length_le MX,hl]
  simp
theorem _root_.No {p:Prop} (h:p:=by first|(simp [ax,rvS];done)|(simp only [ax,rvS,↓R1,RR,seval,bq,cg,aD,aB,q1,q2,q3,q4,q5,hw,t2,t3,t4,t5,ttip,s5,tl];try simp)):p:=h
set_option maxHeartbeats 4000000 in
theorem p87 (l:List UInt8) (hl:l.length≤1000000):Pu Tryz.prog 87 [.str l] (eY (c8 l)):=by
  have q1:True:=trivial
  have q2:True:=trivial
  have q3:True:=trivial
  have q4:True:=trivial
  have q5:True:=trivial
  have hw:True:=trivial
  have t2:True:=trivial
  have t3:True:=trivial
  have t4:True:=trivial
  have t5:True:=trivial
  have ttip:True:=trivial
  have s5:True:=trivial
  have tl:True:=trivial
  by_cases hlong:20000<l.length
  · have q1:decide ((20000:Int)<(l.length:Int))=true:=by rw [decide_eq_true_eq];omega
    have e:c8 l= .error (4,20000):=by simp only [c8,if_pos hlong]
    rw [e]
    (refine al c87 b87 fun σ=>?_;simp only [c87,↓R1,RR,seval,bq,cg,aD,aB,q1,q2,q3,q4,q5,hw,t2,t3,t4,t5,ttip,s5,tl])
    repeat' (first|(with_reducible rw [ai])|((with_reducible intro β hβ;(try simp only [RB] at hβ);(repeat (obtain ⟨⟨_,_⟩,hβ⟩:=hβ));(try (have hbis:=ah M0 hβ;obtain ⟨_,_⟩:=hbis)))<;>(try simp only [↓R1,RR,seval,bq,cg,aD,aB,q1,q2,q3,q4,q5,hw,t2,t3,t4,t5,ttip,s5,tl])))
    (refine ak ?_ No)
    simp only [aq,↓R1,RR,seval,bq,cg,aD,aB,q1,q2,q3,q4,q5,hw,t2,t3,t4,t5,ttip,s5,tl]
    simp only [eY,dy]
    (all_goals exact cW)
  · have q1:decide ((20000:Int)<(l.length:Int))=false:=by rw [decide_eq_false_iff_not];omega
    have e:c8 l=bU (lines l) 0:=by simp only [c8,if_neg hlong]
    rw [e]
    (refine al c87 b87 fun σ=>?_;simp only [c87,↓R1,RR,seval,bq,cg,aD,aB,q1,q2,q3,q4,q5,hw,t2,t3,t4,t5,ttip,s5,tl])
    rw [ai];intro b2 h2;simp only [↓R1,RR,seval,bq,cg,aD,aB,q1,q2,q3,q4,q5,hw,t2,t3,t4,t5,ttip,s5,tl]
    rw [ai];intro b3 h3;rw [St.aE] at h3;obtain ⟨⟨_,_⟩,h3⟩:=h3;simp only [↓R1,RR,seval,bq,cg,aD,aB,q1,q2,q3,q4,q5,hw,t2,t3,t4,t5,ttip,s5,tl]
    rw [ai];intro b4 h4;simp only [St.aE] at h4;obtain ⟨⟨_,_⟩,⟨_,_⟩,h4⟩:=h4;simp only [↓R1,RR,seval,bq,cg,aD,aB,q1,q2,q3,q4,q5,hw,t2,t3,t4,t5,ttip,s5,tl]
    rw [ai];intro b5 h5;simp only [St.aE] at h5;obtain ⟨⟨_,_⟩,⟨_,_⟩,⟨_,_⟩,h5⟩:=h5;simp only [↓R1,RR,seval,bq,cg,aD,aB,q1,q2,q3,q4,q5,hw,t2,t3,t4,t5,ttip,s5,tl]
    refine (AC.wk (EW _ l) (ad _)).mono ?_
    rintro _ _ ⟨β0,β1,β2,k0,k1,k2,⟨_,_⟩,⟨_,_⟩,⟨_,_⟩,rfl,rfl⟩
    simp only [St.aE] at k0 k1 k2
    obtain ⟨⟨_,_⟩,⟨_,_⟩,⟨_,_⟩,⟨_,_⟩,⟨_,_⟩,k0⟩:=k0
    obtain ⟨⟨_,_⟩,⟨_,_⟩,⟨_,_⟩,⟨_,_⟩,⟨_,_⟩,k1⟩:=k1
    obtain ⟨⟨_,_⟩,⟨_,_⟩,⟨_,_⟩,⟨_,_⟩,⟨_,_⟩,k2⟩:=k2
    simp only [↓R1,RR,seval,bq,cg,aD,aB,q1,q2,q3,q4,q5,hw,t2,t3,t4,t5,ttip,s5,tl]
    refine eW [(true,4,0,80,2)] ?_
    simp only [cF,List.set_cons_zero,↓R1,RR,seval,bq,cg,aD,aB,q1,q2,q3,q4,q5,hw,t2,t3,t4,t5,ttip,s5,tl]
    intro τ hτ
    refine ⟨_,_,rfl,?_⟩
    obtain ⟨T,hT⟩:∃ T,T=TR σ b2 b3 b4 b5 β0 β1 β2 τ:=⟨_,rfl⟩
    have t0:∀ g r,(T g r).box β0=some [.str r]:=fun g r=>by subst hT;simp only [TR,↓R1,RR,seval,bq,cg,aD,aB,q1,q2,q3,q4,q5,hw,t2,t3,t4,t5,ttip,s5,tl]
    have t1:∀ g r,(T g r).box β1=some [.str [10]]:=fun g r=>by subst hT;simp only [TR,↓R1,RR,seval,bq,cg,aD,aB,q1,q2,q3,q4,q5,hw,t2,t3,t4,t5,ttip,s5,tl]
    have t22:∀ g r,(T g r).box β2=some [.int .i64 1]:=fun g r=>by subst hT;simp only [TR,↓R1,RR,seval,bq,cg,aD,aB,q1,q2,q3,q4,q5,hw,t2,t3,t4,t5,ttip,s5,tl]
    have t2:∀ g r,(T g r).box b2=some [.nils]:=fun g r=>by subst hT;simp only [TR,↓R1,RR,seval,bq,cg,aD,aB,q1,q2,q3,q4,q5,hw,t2,t3,t4,t5,ttip,s5,tl]
    have t3:∀ g r,(T g r).box b3=some [.int .i64 0, .int .i64 0]:=fun g r=>by subst hT;simp only [TR,↓R1,RR,seval,bq,cg,aD,aB,q1,q2,q3,q4,q5,hw,t2,t3,t4,t5,ttip,s5,tl]
    have t4:∀ g r,(T g r).box b4=some [.tsl τ g.rs.length (g.rs.flatMap cRw)]:=fun g r=>by subst hT;simp only [TR,↓R1,RR,seval,bq,cg,aD,aB,q1,q2,q3,q4,q5,hw,t2,t3,t4,t5,ttip,s5,tl]
    have t5:∀ g r,(T g r).box b5=some [.int .i64 (g.a:Nat)]:=fun g r=>by subst hT;simp only [TR,↓R1,RR,seval,bq,cg,aD,aB,q1,q2,q3,q4,q5,hw,t2,t3,t4,t5,ttip,s5,tl]
    have ttip:∀ g r,(T g r).tip τ=some (80,2,g.rs.length):=fun g r=>by subst hT;simp only [TR,↓R1,RR,seval,bq,cg,aD,aB,q1,q2,q3,q4,q5,hw,t2,t3,t4,t5,ttip,s5,tl]
    have s0:∀ g r r',(T g r).aa β0 [.str r']=T g r':=fun g r r'=>by subst hT;simp only [TR,↓R1,RR,seval,bq,cg,aD,aB,q1,q2,q3,q4,q5,hw,t2,t3,t4,t5,ttip,s5,tl]
    have s5:∀ (g:RG) r (a':Nat) L x,((T g r).ay L x).aa b5 [.int .i64 a']=(T ⟨a',g.rs⟩ r).ay L x:=fun g r a' L x=>by
      subst hT;rw [←St.en];simp only [TR,yo,↓R1,RR,seval,bq,cg,aD,aB,q1,q2,q3,q4,q5,hw,t2,t3,t4,t5,ttip,s5,tl]
    have s4:∀ (g:RG) r rs' L x,(((T g r).ay L x).aa b4 [.tsl τ rs'.length (rs'.flatMap cRw)]).ao τ (80,2,rs'.length)=(T ⟨g.a,rs'⟩ r).ay L x:=fun g r rs' L x=>by
      subst hT;rw [←St.en,←St.jP];simp only [TR,↓R1,RR,seval,bq,cg,aD,aB,q1,q2,q3,q4,q5,hw,t2,t3,t4,t5,ttip,s5,tl]
    have tl:∀ g r,(T g r).lp=σ.lp:=fun g r=>by subst hT;rfl
    have tle:∀ g r,St.le σ (T g r):=fun g r=>by
      subst hT
      refine St.eD (St.az (St.az (St.az (St.az (St.az (St.az (St.az (St.az (St.le_refl σ) h2) h3) h4) h5) k0) k1) k2) h4) hτ
    have hst:((((((((((σ.aa b2 [AV.nils]).aa b3 [AV.int IntKind.i64 0,AV.int IntKind.i64 0]).aa b4 [AV.nils]).aa b5 [AV.int IntKind.i64 0]).aa β0 [AV.str l]).aa β1 [AV.str [10]]).aa β2 [AV.int IntKind.i64 1]).aa b4 [AV.tsl τ 0 []]).ao τ (80,2,0)))=T ⟨0,[]⟩ l:=by
      subst hT;rfl
    rw [hst]
    clear hst
    refine B8 T (fun g rest=>rest.length≤l.length∧g.a=l.length - rest.length∧g.rs.length≤g.a∧bU (lines l) 0=dr (.ok g.rs) (bU (lines rest) g.a)) (fun g=>bU (lines l) 0= .ok g.rs∧g.rs.length≤l.length+1) rfl _ _ ⟨Nat.le_refl _,by simp,Nat.zero_le _,by rw [kG]⟩ t0 t1 t22 s0 (fun g r L=>by rw [tl,tl]) (fun g r h=>Nat.le_trans h.1 hl) ?_ ?_
    · rintro L r g rest hL ⟨i1,i2,i3,i4⟩
      have hL0:σ.lp L=none:=by rw [tl] at hL;exact hL
      have hcut:(j8 (cut rest).1=aP rest)∧(cut rest).1.length≤rest.length∧(aP rest).length≤(cut rest).1.length:=by
        cases ha:bM rest with
        | nil =>
          have h1:=eE rest
          rw [ha,List.append_nil] at h1
          rw [j6 ha,h1]
          exact ⟨yn ha,Nat.le_refl _,Nat.le_refl _⟩
        | cons c r' =>
          obtain ⟨k1,k2,k3,k4⟩:=j7 ha
          rw [k1]
          exact ⟨ym _,by simpa using k4,by simp⟩
      obtain ⟨hc1,hc2,hc3⟩:=hcut
      have hw:IntKind.i64.wrap ((g.a:Int)+((cut rest).1.length:Int))=((g.a+(cut rest).1.length:Nat):Int):=MZ
      have ht:=MD (cut rest).1 MX
      rw [hc1] at ht
      have fin:∀ nw:List Rw,bF (aP rest) g.a= .ok nw→nw.length≤1→match (cut rest).2 with
          | none=>bU (lines l) 0= .ok (g.rs++nw)∧(g.rs++nw).length≤l.length+1
          | some r'=>r'.length≤l.length∧g.a+(cut rest).1.length=l.length - r'.length∧(g.rs++nw).length≤g.a+(cut rest).1.length∧bU (lines l) 0=dr (.ok (g.rs++nw)) (bU (lines r') (g.a+(cut rest).1.length)):=by
        intro nw h1 h2
        rw [ju rest] at i4
        simp only [bU,h1] at i4
        rw [←lh] at i4
        have hb:dr (.ok g.rs) (.ok nw)= .ok (g.rs++nw):=rfl
        rw [hb] at i4
        have hn:(g.rs++nw).length≤g.a+1:=Ng
        cases ha:bM rest with
        | nil =>
          rw [j6 ha] at i4 ⊢
          simp only [bU,jT] at i4 ⊢
          exact ⟨i4,by omega⟩
        | cons c r' =>
          obtain ⟨k1,k2,k3,k4⟩:=j7 ha
          rw [k1] at i4 ⊢
          have hr':r'.length=rest.length - ((aP rest).length+1):=by rw [←k3];simp
          simp only [List.length_append,List.length_cons,List.length_nil] at i4 hn ⊢
          refine ⟨by omega,by omega,by omega,?_⟩
          rw [i4]
          congr 2
      simp only [iU,↓R1,RR,seval,bq,cg,aD,aB,q1,q2,q3,q4,q5,hw,t2,t3,t4,t5,ttip,s5,tl]
      by_cases h1000:1000<(aP rest).length
      · have q2:decide ((1000:Int)<((aP rest).length:Int))=true:=by rw [decide_eq_true_eq];omega
        have hrr:bU (lines l) 0= .error (4,g.a):=by rw [i4,ju];simp only [bU,bF,if_pos h1000,dr]
        repeat' ((refine Pt (ht) ?_)<;>(try simp only [↓R1,RR,seval,bq,cg,aD,aB,q1,q2,q3,q4,q5,hw,t2,t3,t4,t5,ttip,s5,tl]))
        rw [hrr]
        refine ak ?_ No (St.az (St.az (nc (tle _ _) hL0) h2) h3)
        simp only [aq,↓R1,RR,seval,bq,cg,aD,aB,q1,q2,q3,q4,q5,hw,t2,t3,t4,t5,ttip,s5,tl]
        simp only [eY,dy]
        (all_goals exact cW)
      · have q2:decide ((1000:Int)<((aP rest).length:Int))=false:=by rw [decide_eq_false_iff_not];omega
        have hll:(aP rest).length≤1000000:=MX
        cases hws:cq (aP rest) with
        | error b =>
          have hrr:bU (lines l) 0= .error (3,g.a+b):=by rw [i4,ju];simp only [bU,so h1000 hws,dr]
          have ha:∀ s,AC Tryz.prog 149 [.str (aP rest)] s (fun r s'=>r= .tup [.nils, .int .i64 (b:Nat), .bool false]∧s'=s):=fun s=>by
            have:=qa s (aP rest) hll
            rwa [hws] at this
          have hb:b≤1000000:=by have:=yg hws;omega
          have q3:IntKind.i64.wrap ((g.a:Int)+(b:Int))=((g.a+b:Nat):Int):=MZ
          repeat' ((first|(refine Pt (ht) ?_)|((refine AC.mono (AC.wk (ha _) (ad _)) ?_;(rintro _ _ ⟨rfl,rfl⟩))))<;>(try simp only [↓R1,RR,seval,bq,cg,aD,aB,q1,q2,q3,q4,q5,hw,t2,t3,t4,t5,ttip,s5,tl]))
          rw [hrr]
          refine ak ?_ No (St.az (St.az (nc (tle _ _) hL0) h2) h3)
          simp only [aq,↓R1,RR,seval,bq,cg,aD,aB,q1,q2,q3,q4,q5,hw,t2,t3,t4,t5,ttip,s5,tl]
          simp only [eY,dy]
          (all_goals exact cW)
        | ok ws =>
          by_cases hne:ws= []
          · subst hne
            have hrr:=sq (a:=g.a) h1000 hws
            have ha:∀ s,AC Tryz.prog 149 [.str (aP rest)] s (fun r s'=>r= .tup [.nils, .int .i64 0, .bool true]∧s'=s):=fun s=>by
              have:=qa s (aP rest) hll
              rw [hws] at this
              refine this.mono ?_
              rintro r s' ⟨τ',_,rfl,rfl⟩
              exact ⟨rfl,rfl⟩
            have q3:decide (((0:Int))<((0:Nat):Int))=false:=rfl
            repeat' ((first|(refine Pt (ht) ?_)|((refine AC.mono (AC.wk (ha _) (ad _)) ?_;(rintro _ _ ⟨rfl,rfl⟩))))<;>(try simp only [↓R1,RR,seval,bq,cg,aD,aB,q1,q2,q3,q4,q5,hw,t2,t3,t4,t5,ttip,s5,tl]))
            refine b6 (α:=Unit) (fun _=> [(4, .ptr b4 0),(7, .int .i64 (g.a:Nat)),(8, .nils),(44, .int .i64 ((0:Nat):Int)),(45, .int .i64 0)]) (fun _=>_) (fun _=>True) (fun _=>0) () M8 (St.le_refl _) trivial ?_
            rintro _ _
            simp only [↓R1,RR,seval,bq,cg,aD,aB,q1,q2,q3,q4,q5,hw,t2,t3,t4,t5,ttip,s5,tl]
            skip
            refine ⟨⟨g.a+(cut rest).1.length,g.rs⟩,St.le_refl _,?_⟩
            have hfin:=fin [] hrr M1
            simp only [List.append_nil] at hfin
            exact hfin
          · have hrr:=qb (a:=g.a) h1000 hws hne
            obtain ⟨hwl,hwa⟩:=yh hws
            repeat' ((refine Pt (ht) ?_)<;>(try simp only [↓R1,RR,seval,bq,cg,aD,aB,q1,q2,q3,q4,q5,hw,t2,t3,t4,t5,ttip,s5,tl]))
            refine (AC.wk (sr _ hll hws hne) (ad _)).mono ?_
            rintro _ _ ⟨γ,k,hγ,rfl,rfl⟩
            simp only [St.aE,St.cn] at hγ
            obtain ⟨⟨_,_⟩,hγ⟩:=hγ
            obtain ⟨_,_⟩:=ah (σ:=T g rest) (β:=b4) (γ:=γ) ⟨t4 g rest⟩ hγ
            simp only [↓R1,RR,seval,bq,cg,aD,aB,q1,q2,q3,q4,q5,hw,t2,t3,t4,t5,ttip,s5,tl]
            refine aQ ws.length (fun i=> [(4, .ptr b4 0),(7, .int .i64 (g.a:Nat)),(8, .psl γ 0 ws.length),(44, .int .i64 (ws.length:Nat)),(45, .int .i64 (i:Nat))]) (fun i=>((T ⟨g.a+(cut rest).1.length,g.rs⟩ rest).ay L (busy r,_)).aa γ (shG g.a ws i (List.replicate k .junk))) (fun _=>True) M8 (by rw [Cc];exact St.le_refl _) trivial (fun i hi _=>?_)
            have hsl:=EY g.a ws i hi (List.replicate k .junk)
            simp only [↓R1,RR,seval,bq,cg,aD,aB,q1,q2,q3,q4,q5,hw,t2,t3,t4,t5,ttip,s5,tl]
            by_cases hin:i<ws.length
            · have q3:decide ((i:Int)<(ws.length:Int))=true:=by rw [decide_eq_true_eq];omega
              obtain ⟨g1,g2⟩:=Iv g.a ws hin (List.replicate k .junk)
              have hwk:=hwa ws[i] (List.getElem_mem hin)
              have q4:=g1
              have hw2:IntKind.i64.wrap ((ws[i].a:Int)+(g.a:Int))=((ws[i].a+g.a:Nat):Int):=MZ
              have q5:=hw2
              simp only [q3,↓R1,RR,seval,bq,cg,aD,aB,q1,q2,q3,q4,q5,hw,t2,t3,t4,t5,ttip,s5,tl]
              repeat' (first|(with_reducible refine And.intro ?_ ?_;focus (intros;(repeat' (with_reducible apply And.intro))<;>first|omega|(simp only [RZ,ar,bx];omega)))|(with_reducible apply And.intro))
              · (simp only [av,slot,ae,↓R1,RR,seval,bq,cg,aD,aB,q1,q2,q3,q4,q5,hw,t2,t3,t4,t5,ttip,s5,tl];all_goals exact bE)
              · rw [g2];exact St.le_refl _
            · have q3:decide ((i:Int)<(ws.length:Int))=false:=by rw [decide_eq_false_iff_not];omega
              have hie:i=ws.length:=MX
              subst hie
              have q4:(ws.length*3).ble (shG g.a ws ws.length (List.replicate k AV.junk)).length=true:=Nat.ble_eq_true_of_le (by rw [hsl];omega)
              have hwp:0<ws.length:=List.length_pos_iff.2 hne
              simp only [q3,↓R1,RR,seval,bq,cg,aD,aB,q1,q2,q3,q4,q5,hw,t2,t3,t4,t5,ttip,s5,tl]
              have hγ2:(T ⟨g.a+(cut rest).1.length,g.rs⟩ rest).box γ=none:=by
                have h:(((T g rest).ay L (r,[])).aa b5 [.int .i64 ((g.a+(cut rest).1.length:Nat):Int)]).box γ=none:=by
                  rw [St.aE];exact ⟨⟨by assumption,by assumption⟩,hγ⟩
                rw [s5] at h
                exact h
              rw [EX,B9 (σ:=(T ⟨g.a+(cut rest).1.length,g.rs⟩ rest).ay L _) hγ2]
              have q3:decide ((0:Int)<(ws.length:Int))=true:=M3
              simp only [q3,↓R1,RR,seval,bq,cg,aD,aB,q1,q2,q3,q4,q5,hw,t2,t3,t4,t5,ttip,s5,tl]
              repeat' (((first|(refine bp (.inr rfl) rfl ?_ ?_ ?_ ?_ ?_ ?_;(first|rfl|exact St.aH _ _ _|(simp only [↓R1,RR,seval,bq,cg,aD,aB,q1,q2,q3,q4,q5,hw,t2,t3,t4,t5,ttip,s5,tl]));(first|omega|(simp only [RZ,ar,bx,List.length_nil,List.length_cons];omega)|(simp only [RZ,ar,bx,List.length_nil,List.length_cons]));(first|rfl|first|omega|(simp only [RZ,ar,bx,List.length_nil,List.length_cons];omega)|(simp only [RZ,ar,bx,List.length_nil,List.length_cons])))|(refine aV rfl ?_ ?_ ?_ ?_ ?_ ?_;(first|rfl|exact St.aH _ _ _|(simp only [↓R1,RR,seval,bq,cg,aD,aB,q1,q2,q3,q4,q5,hw,t2,t3,t4,t5,ttip,s5,tl]));(first|omega|(simp only [RZ,ar,bx,List.length_nil,List.length_cons];omega)|(simp only [RZ,ar,bx,List.length_nil,List.length_cons]));(first|rfl|first|omega|(simp only [RZ,ar,bx,List.length_nil,List.length_cons];omega)|(simp only [RZ,ar,bx,List.length_nil,List.length_cons])))|(refine appV_own ?_ ?_ ?_ ?_;exact aF Ni _)|(refine appD_own ?_ ?_ ?_ ?_ ?_;omega;exact aF Ni _)|(refine appV_fresh rfl trivial rfl ?_ ?_ ?_ ?_ ?_;(first|rfl|first|omega|(simp only [RZ,ar,bx,List.length_nil,List.length_cons];omega)|(simp only [RZ,ar,bx,List.length_nil,List.length_cons]));(first|rfl|first|omega|(simp only [RZ,ar,bx,List.length_nil,List.length_cons];omega)|(simp only [RZ,ar,bx,List.length_nil,List.length_cons])))|(refine appD_fresh rfl trivial rfl ?_ ?_ ?_ ?_ ?_ ?_;omega;(first|rfl|first|omega|(simp only [RZ,ar,bx,List.length_nil,List.length_cons];omega)|(simp only [RZ,ar,bx,List.length_nil,List.length_cons]));(first|rfl|first|omega|(simp only [RZ,ar,bx,List.length_nil,List.length_cons];omega)|(simp only [RZ,ar,bx,List.length_nil,List.length_cons]))));(unfold maxLen;omega);omega)<;>(try simp only [↓R1,RR,seval,bq,cg,aD,aB,q1,q2,q3,q4,q5,hw,t2,t3,t4,t5,ttip,s5,tl]))
              have e1:([AV.tsl τ (g.rs.length+1) (g.rs.flatMap cRw++ [AV.int .i64 (g.a:Nat),AV.sl false ws.length ((ws.map (dc g.a)).flatMap cWd)])]:List AV)= [AV.tsl τ (g.rs++ [(⟨g.a,ws.map (dc g.a)⟩:Rw)]).length ((g.rs++ [(⟨g.a,ws.map (dc g.a)⟩:Rw)]).flatMap cRw)]:=by
                simp [cRw]
              have e2:g.rs.length+1=(g.rs++ [(⟨g.a,ws.map (dc g.a)⟩:Rw)]).length:=M1
              rw [e1,e2,s4]
              exact ⟨⟨g.a+(cut rest).1.length,g.rs++ [⟨g.a,ws.map (dc g.a)⟩]⟩,St.le_refl _,fin _ hrr M1⟩
    · rintro g r ⟨j1,j2⟩
      rw [j1]
      simp only [↓R1,RR,seval,bq,cg,aD,aB,q1,q2,q3,q4,q5,hw,t2,t3,t4,t5,ttip,s5,tl]
      have hl2:St.le σ (((T g r).aa b2 [AV.tsl τ g.rs.length (g.rs.flatMap cRw)]).aa b3 [AV.int IntKind.i64 0,AV.int IntKind.i64 0]):=St.az (St.az (tle g r) h2) h3
      refine ak ?_ No hl2
      simp only [aq,↓R1,RR,seval,bq,cg,aD,aB,q1,q2,q3,q4,q5,hw,t2,t3,t4,t5,ttip,s5,tl]
      simp only [eY,dy]
      (all_goals exact cW)
def iw (b:UInt8):Bool:= !(decide ((b.toNat:Int)<48)||decide ((57:Int)<b.toNat))
def dQ (l:List UInt8):Nat:=l.foldl (fun v b=>10*v+(b.toNat - 48)) 0
def oN (l:List UInt8):Bool:=decide (l.length≤20)&&(match l with | []=>false|c::r=> !(c == 48&& !r.isEmpty))&&l.all iw
def nU (l:List UInt8):AV:=bif oN l then .tup [.int .u64 ((dQ l % 18446744073709551616:Nat):Int), .bool (decide (18446744073709551616≤dQ l)), .bool true] else .tup [.int .u64 0, .bool false, .bool false]
theorem yp (l:List UInt8) {k:Nat} (h:k<l.length):dQ (l.take (k+1))=10*dQ (l.take k)+(l[k].toNat - 48):=by
 rw [←List.take_append_getElem h,dQ,List.foldl_append];rfl
theorem ss (n:Nat):IntKind.u64.wrap (n:Int)=((n % 18446744073709551616:Nat):Int):=by
 rw [IntKind.wrap_u64];omega
theorem yq {b:UInt8}:iw b=true↔48≤b.toNat∧b.toNat≤57:=by
 simp only [iw,Bool.not_eq_true',Bool.or_eq_false_iff,decide_eq_false_iff_not];omega
def qc:List UInt8→Bool
 | []=>false
 | c::r=> !(c == 48&& !r.isEmpty)
theorem nf (l:List UInt8):oN l=(decide (l.length≤20)&&qc l&&l.all iw):=by
 cases l<;>rfl
theorem ME (n:Nat):IntKind.u64.wrap ((n:Int)*2^min (Int.toNat 3) IntKind.u64.bits)=((8*n % 18446744073709551616:Nat):Int):=by
 rw [show ((n:Int)*2^min (Int.toNat 3) IntKind.u64.bits)=((8*n:Nat):Int) by rw [show (2:Int)^min (Int.toNat 3) IntKind.u64.bits=8 from rfl];omega,ss]
theorem Kp (n:Nat):IntKind.u64.wrap ((n:Int)*2^min (Int.toNat 1) IntKind.u64.bits)=((2*n % 18446744073709551616:Nat):Int):=by
 rw [show ((n:Int)*2^min (Int.toNat 1) IntKind.u64.bits)=((2*n:Nat):Int) by rw [show (2:Int)^min (Int.toNat 1) IntKind.u64.bits=2 from rfl];omega,ss]
theorem add_mod (n:Nat):IntKind.u64.wrap (((8*n % 18446744073709551616:Nat):Int)+((2*n % 18446744073709551616:Nat):Int))=((10*n % 18446744073709551616:Nat):Int):=by
 rw [show (((8*n % 18446744073709551616:Nat):Int)+((2*n % 18446744073709551616:Nat):Int))=((8*n % 18446744073709551616+2*n % 18446744073709551616:Nat):Int) by omega,ss]
 congr 1;omega
theorem Ce (V d:Nat):IntKind.u64.wrap (((10*(V % 18446744073709551616) % 18446744073709551616:Nat):Int)+(d:Int))=(((10*V+d) % 18446744073709551616:Nat):Int):=by
 rw [show (((10*(V % 18446744073709551616) % 18446744073709551616:Nat):Int)+(d:Int))=((10*(V % 18446744073709551616) % 18446744073709551616+d:Nat):Int) by omega,ss]
 congr 1;omega
theorem uJ (V d:Nat) (hd:d≤9):((decide (18446744073709551616≤V)||decide ((1844674407370955161:Int)<((V % 18446744073709551616:Nat):Int)))||decide ((((10*V+d) % 18446744073709551616:Nat):Int)<((10*(V % 18446744073709551616) % 18446744073709551616:Nat):Int)))=decide (18446744073709551616≤10*V+d):=by
 rw [Bool.eq_iff_iff]
 simp only [Bool.or_eq_true,decide_eq_true_eq]
 by_cases hV:18446744073709551616≤V
 ·simp only [hV,true_or,true_iff];omega
 ·rw [Nat.mod_eq_of_lt (show V<18446744073709551616 by omega)]
  by_cases hb:1844674407370955161<V
  ·have h1:(1844674407370955161:Int)<(V:Int):=by omega
   simp only [h1,or_true,true_or,true_iff];omega
  ·rw [Nat.mod_eq_of_lt (show 10*V<18446744073709551616 by omega)]
   omega
theorem EZ {b:UInt8} (h:iw b=true):IntKind.u8.wrap ((b.toNat:Int) - 48)=((b.toNat - 48:Nat):Int)∧b.toNat - 48≤9∧IntKind.u64.wrap ((b.toNat - 48:Nat):Int)=((b.toNat - 48:Nat):Int):=by
 have:=yq.1 h
 refine ⟨by simp [IntKind.wrap,IntKind.signed,IntKind.bits];omega,by omega,by rw [ss];congr 1;omega⟩
theorem _root_.Nk {p:Prop} (h:p:=by rw [decide_eq_false_iff_not];omega):p:=h
set_option maxHeartbeats 4000000 in
theorem MF (l:List UInt8) (hl:l.length≤1000000):Pu Tryz.prog 250 [.str l] (nU l):=by
  have q1:True:=trivial
  have q2:True:=trivial
  have q3:True:=trivial
  have q4:True:=trivial
  have q5:True:=trivial
  have q6:True:=trivial
  have q7:True:=trivial
  have hw:True:=trivial
  have hd:True:=trivial
  have e1:True:=trivial
  have e2:True:=trivial
  have e3:True:=trivial
  have e4:True:=trivial
  have e5:True:=trivial
  by_cases hnil:l= []
  · subst hnil
    have q1:(([]:List UInt8) == [])=true:=rfl
    have e:nU []= .tup [.int .u64 0, .bool false, .bool false]:=rfl
    rw [e]
    (refine al pM Es fun σ=>?_;simp only [pM,↓R1,RR,Nat.reduceEqDiff,reduceCtorEq,q1,q2,q3,q4,q5,q6,q7,hw,hd,e1,e2,e3,e4,e5])
    skip
    (refine ak (ag ?_))
    (simp only [aq,↓R1,RR,Nat.reduceEqDiff,reduceCtorEq,q1,q2,q3,q4,q5,q6,q7,hw,hd,e1,e2,e3,e4,e5])
  · obtain ⟨c,m,e⟩:∃ c m,l=c::m:=by
      cases l with
      | nil=>exact (hnil rfl).elim
      | cons c m=>exact ⟨c,m,rfl⟩
    have q1:(l == [])=false:=by rw [e];rfl
    have hd:l[0]? =some c:=by rw [e];rfl
    have hl1:0<l.length:=by rw [e];simp
    by_cases h20:20<l.length
    · have q2:decide ((20:Int)<(l.length:Int))=true:=by rw [decide_eq_true_eq];omega
      have e:nU l= .tup [.int .u64 0, .bool false, .bool false]:=by
        have:decide (l.length≤20)=false:=Nk
        rw [nU,nf,this];rfl
      rw [e]
      (refine al pM Es fun σ=>?_;simp only [pM,↓R1,RR,Nat.reduceEqDiff,reduceCtorEq,q1,q2,q3,q4,q5,q6,q7,hw,hd,e1,e2,e3,e4,e5])
      skip
      (refine ak (ag ?_))
      (simp only [aq,↓R1,RR,Nat.reduceEqDiff,reduceCtorEq,q1,q2,q3,q4,q5,q6,q7,hw,hd,e1,e2,e3,e4,e5])
    · have q2:decide ((20:Int)<(l.length:Int))=false:=by rw [decide_eq_false_iff_not];omega
      have hd20:decide (l.length≤20)=true:=M3
      have q3:((c.toNat:Int) == 48)=decide (c=48):=se c 48
      have hfo:qc l= !(decide (c=48)&&decide ((1:Int)<(l.length:Int))):=by
        rw [e]
        show (!(c == 48&& !m.isEmpty))=_
        have h1:(c == 48)=decide (c=48):=by rw [Bool.eq_iff_iff];simp
        have h2:(!m.isEmpty)=decide ((1:Int)<((c::m).length:Int)):=by
          cases m with
          | nil=>rfl
          | cons x m=>rw [Bool.eq_iff_iff];simp;omega
        rw [h1,h2]
      by_cases hz:(decide (c=48)&&decide ((1:Int)<(l.length:Int)))=true
      · have e:nU l= .tup [.int .u64 0, .bool false, .bool false]:=by
          rw [nU,nf,hfo,hz];simp
        rw [Bool.and_eq_true] at hz
        have q4:=hz.1
        have q5:=hz.2
        rw [e]
        (refine al pM Es fun σ=>?_;simp only [pM,↓R1,RR,Nat.reduceEqDiff,reduceCtorEq,q1,q2,q3,q4,q5,q6,q7,hw,hd,e1,e2,e3,e4,e5])
        repeat' (with_reducible refine And.intro ?_ ?_;exact af)
        all_goals first|omega|skip
        (refine ak (ag ?_))
        (simp only [aq,↓R1,RR,Nat.reduceEqDiff,reduceCtorEq,q1,q2,q3,q4,q5,q6,q7,hw,hd,e1,e2,e3,e4,e5])
      · have q4:(decide (c=48)&&decide ((1:Int)<(l.length:Int)))=false:=by simpa using hz
        have hno:qc l=true:=by rw [hfo,q4];rfl
        have hnv:nU l=bif l.all iw then .tup [.int .u64 ((dQ l % 18446744073709551616:Nat):Int), .bool (decide (18446744073709551616≤dQ l)), .bool true] else .tup [.int .u64 0, .bool false, .bool false]:=by
          rw [nU,nf,hno,hd20,Bool.true_and,Bool.true_and]
        rw [hnv]
        (refine al pM Es fun σ=>?_;simp only [pM,↓R1,RR,Nat.reduceEqDiff,reduceCtorEq,q1,q2,q3,q4,q5,q6,q7,hw,hd,e1,e2,e3,e4,e5])
        repeat' (with_reducible refine And.intro ?_ ?_;exact af)
        all_goals first|omega|(rw [q4];done)|skip
        clear hd
        refine aQ l.length (fun k=> [(2, .int .u64 ((dQ (l.take k) % 18446744073709551616:Nat):Int)),(3, .bool (decide (18446744073709551616≤dQ (l.take k)))),(26, .sl false l.length (l.map fun b=> .int .u8 b.toNat)),(27, .int .i64 (l.length:Nat)),(28, .int .i64 (k:Nat))]) (fun _=>σ) (fun k=>(l.take k).all iw=true) (by simp [av,slot,ae,dQ]) (St.le_refl _) M1 (fun k hk hI=>?_)
        by_cases hlt:k<l.length
        · have q6:decide ((k:Int)<(l.length:Int))=true:=by rw [decide_eq_true_eq];omega
          have hd:=jt l hlt
          have hw:IntKind.i64.wrap ((k:Int)+1)=((k+1:Nat):Int):=MZ
          cases hb:iw l[k] with
          | true =>
            have q7:(decide ((l[k].toNat:Int)<48)||decide ((57:Int)<(l[k].toNat:Int)))=false:=by
              simp only [iw,Bool.not_eq_true'] at hb;exact hb
            obtain ⟨d1,d2,d3⟩:=EZ hb
            have e1:=ME (dQ (l.take k) % 18446744073709551616)
            have e2:=Kp (dQ (l.take k) % 18446744073709551616)
            have e3:=add_mod (dQ (l.take k) % 18446744073709551616)
            have e4:=Ce (dQ (l.take k)) (l[k].toNat - 48)
            have e5:=d1
            have q5:=d3
            have hg:=uJ (dQ (l.take k)) (l[k].toNat - 48) d2
            have hv:=yp l hlt
            simp only [q6,↓R1,RR,Nat.reduceEqDiff,reduceCtorEq,q1,q2,q3,q4,q5,q6,q7,hw,hd,e1,e2,e3,e4,e5]
            repeat' (first|(with_reducible refine And.intro ?_ ?_;exact af)|(with_reducible apply And.intro))
            all_goals first|(simp only [List.length_map];omega)|omega|skip
            · rw [kK _ _ hlt,hI,hb];rfl
            · rw [hv,←hg];simp [av,slot,ae]
            · exact St.le_refl _
          | false =>
            have q7:(decide ((l[k].toNat:Int)<48)||decide ((57:Int)<(l[k].toNat:Int)))=true:=by
              simp only [iw,Bool.not_eq_false'] at hb;exact hb
            have hall:l.all iw=false:=by
              rw [←Bool.not_eq_true,List.all_eq_true]
              intro h
              have:=h l[k] (List.getElem_mem hlt)
              rw [hb] at this;cases this
            rw [hall]
            simp only [q6,↓R1,RR,Nat.reduceEqDiff,reduceCtorEq,q1,q2,q3,q4,q5,q6,q7,hw,hd,e1,e2,e3,e4,e5]
            repeat' (with_reducible refine And.intro ?_ ?_;exact af)
            all_goals first|(simp only [List.length_map];omega)|omega|skip
            (refine ak (ag ?_))
            (simp only [aq,↓R1,RR,Nat.reduceEqDiff,reduceCtorEq,q1,q2,q3,q4,q5,q6,q7,hw,hd,e1,e2,e3,e4,e5])
            all_goals rfl
        · have hke:k=l.length:=by omega
          subst hke
          have q6:decide ((l.length:Int)<(l.length:Int))=false:=M1
          rw [List.take_length] at hI ⊢
          rw [hI]
          simp only [q6,↓R1,RR,Nat.reduceEqDiff,reduceCtorEq,q1,q2,q3,q4,q5,q6,q7,hw,hd,e1,e2,e3,e4,e5]
          skip
          (refine ak (ag ?_))
          (simp only [aq,↓R1,RR,Nat.reduceEqDiff,reduceCtorEq,q1,q2,q3,q4,q5,q6,q7,hw,hd,e1,e2,e3,e4,e5])
          all_goals rfl
def ix (t:List UInt8):Bool:=match t with
 | c::_=>decide (c=45)
 | []=>false
def eA (t:List UInt8):List UInt8:=bif ix t then t.drop 1 else t
theorem MG (t:List UInt8) (hl:t.length≤1000000):Pu Tryz.prog 288 [.str t, .str [45]] (.bool (ix t)):=by
  cases t with
  | nil =>
    (refine al Bo JW fun σ=>?_;simp only [Bo,↓R1,RR,Nat.reduceEqDiff,Nat.reduceAdd,Nat.reduceLT,reduceCtorEq])
    repeat' (with_reducible apply And.intro)
    all_goals first|(intro h;simp at h;done)|skip
    (refine ak (ag ?_))
    (simp only [aq,↓R1,RR,Nat.reduceEqDiff,Nat.reduceAdd,Nat.reduceLT,reduceCtorEq])
    rfl
  | cons c r =>
    (refine al Bo JW fun σ=>?_;simp only [Bo,↓R1,RR,Nat.reduceEqDiff,Nat.reduceAdd,Nat.reduceLT,reduceCtorEq])
    repeat' (with_reducible refine And.intro ?_ ?_;exact af)
    all_goals first|(intro h;simp at h;done)|skip
    (refine ak (ag ?_))
    (simp only [aq,↓R1,RR,Nat.reduceEqDiff,Nat.reduceAdd,Nat.reduceLT,reduceCtorEq])
    refine congrArg AV.bool ?_
    rw [Bool.eq_iff_iff]
    simp [ix]
    omega
theorem MH (t:List UInt8) (hl:t.length≤1000000):Pu Tryz.prog 274 [.str t, .str [45]] (.tup [.str (eA t), .bool (ix t)]):=by
  have hp:=MG t hl
  cases hn:ix t with
  | false =>
    rw [hn] at hp
    (refine al Bn JV fun σ=>?_;simp only [Bn,↓R1,RR,Nat.reduceEqDiff,Nat.reduceAdd,Nat.reduceLT,reduceCtorEq])
    repeat' ((refine Pt (hp) ?_)<;>(try simp only [↓R1,RR,Nat.reduceEqDiff,Nat.reduceAdd,Nat.reduceLT,reduceCtorEq]))
    (refine ak (ag ?_))
    (simp only [aq,↓R1,RR,Nat.reduceEqDiff,Nat.reduceAdd,Nat.reduceLT,reduceCtorEq])
    simp [eA,hn]
  | true =>
    rw [hn] at hp
    have hl1:1≤t.length:=by
      cases t with
      | nil=>simp [ix] at hn
      | cons c r=>simp
    (refine al Bn JV fun σ=>?_;simp only [Bn,↓R1,RR,Nat.reduceEqDiff,Nat.reduceAdd,Nat.reduceLT,reduceCtorEq])
    repeat' (first|(with_reducible refine And.intro ?_ ?_;exact af)|((refine Pt (hp) ?_)<;>(try simp only [↓R1,RR,Nat.reduceEqDiff,Nat.reduceAdd,Nat.reduceLT,reduceCtorEq])))
    all_goals first|omega|skip
    (refine ak (ag ?_))
    (simp only [aq,↓R1,RR,Nat.reduceEqDiff,Nat.reduceAdd,Nat.reduceLT,reduceCtorEq])
    have e:(t.drop 1).take (t.length - 1)=t.drop 1:=List.take_of_length_le M1
    simp only [e,eA,hn,cond_true]
theorem MI (t:List UInt8) (hl:t.length≤1000000):Pu Tryz.prog 249 [.str t, .str [45]] (.tup [.str (eA t), .bool (ix t)]):=by
 (refine al HF LG fun σ=>?_;simp only [HF,↓R1,RR,Nat.reduceEqDiff,Nat.reduceAdd,Nat.reduceLT,reduceCtorEq])
 repeat' ((refine Pt (MH t hl) ?_)<;>(try simp only [↓R1,RR,Nat.reduceEqDiff,Nat.reduceAdd,Nat.reduceLT,reduceCtorEq]))
 (refine ak (ag ?_))
 (simp only [aq,↓R1,RR,Nat.reduceEqDiff,Nat.reduceAdd,Nat.reduceLT,reduceCtorEq])
def oO (q:Bool) (t:List UInt8):AV :=
 bif (q|| !oN (eA t))||(ix t&&decide (dQ (eA t)=0)) then .tup [.int .i64 0, .int .i64 3]
 else bif (decide (18446744073709551616≤dQ (eA t))||decide (9223372036854775808<dQ (eA t)))||(decide (dQ (eA t)=9223372036854775808)&& !ix t) then .tup [.int .i64 0, .int .i64 2]
 else .tup [.int .i64 (bif ix t then -((dQ (eA t):Nat):Int) else ((dQ (eA t):Nat):Int)), .int .i64 0]
theorem _root_.Nf {p:Prop} (h:p:=by (simp only [aq,↓R1,RR,Nat.reduceEqDiff,Nat.reduceAdd,Nat.reduceLT,reduceCtorEq,q1,q2,q3,q4,q5])):p:=h
set_option maxHeartbeats 4000000 in
theorem MJ (q:Bool) (t:List UInt8) (a:Int) (hl:t.length≤1000000):Pu Tryz.prog 206 [.agg [.bool q, .str t, .int .i64 a]] (oO q t):=by
  have q1:True:=trivial
  have q2:True:=trivial
  have q3:True:=trivial
  have q4:True:=trivial
  have q5:True:=trivial
  have hal:(eA t).length≤1000000:=by
    unfold eA
    cases ix t<;>simp<;>omega
  have hcp:=MI t hl
  have hp:=MF (eA t) hal
  cases hd:oN (eA t) with
  | false =>
    simp only [nU,hd,cond_false] at hp
    simp only [oO,hd,Bool.not_false,Bool.or_true,Bool.true_or,cond_true]
    (refine al gI pL fun σ=>?_;simp only [gI,↓R1,RR,Nat.reduceEqDiff,Nat.reduceAdd,Nat.reduceLT,reduceCtorEq,q1,q2,q3,q4,q5])
    repeat' ((first|(with_reducible intro β hβ;(try simp only [RB] at hβ);(repeat (obtain ⟨⟨_,_⟩,hβ⟩:=hβ));(try (have hbis:=ah M0 hβ;obtain ⟨_,_⟩:=hbis)))|(refine Pt (hcp) ?_)|(refine Pt (hp) ?_))<;>(try simp only [↓R1,RR,Nat.reduceEqDiff,Nat.reduceAdd,Nat.reduceLT,reduceCtorEq,q1,q2,q3,q4,q5]))
    (refine ak (ag ?_))
    (simp only [aq,↓R1,RR,Nat.reduceEqDiff,Nat.reduceAdd,Nat.reduceLT,reduceCtorEq,q1,q2,q3,q4,q5])
  | true =>
    simp only [nU,hd,cond_true] at hp
    cases q with
    | true =>
      simp only [oO,Bool.true_or,cond_true]
      (refine al gI pL fun σ=>?_;simp only [gI,↓R1,RR,Nat.reduceEqDiff,Nat.reduceAdd,Nat.reduceLT,reduceCtorEq,q1,q2,q3,q4,q5])
      repeat' ((first|(with_reducible intro β hβ;(try simp only [RB] at hβ);(repeat (obtain ⟨⟨_,_⟩,hβ⟩:=hβ));(try (have hbis:=ah M0 hβ;obtain ⟨_,_⟩:=hbis)))|(refine Pt (hcp) ?_)|(refine Pt (hp) ?_))<;>(try simp only [↓R1,RR,Nat.reduceEqDiff,Nat.reduceAdd,Nat.reduceLT,reduceCtorEq,q1,q2,q3,q4,q5]))
      (refine ak (ag ?_))
      (simp only [aq,↓R1,RR,Nat.reduceEqDiff,Nat.reduceAdd,Nat.reduceLT,reduceCtorEq,q1,q2,q3,q4,q5])
    | false =>
      simp only [oO,hd,Bool.not_true,Bool.or_false,Bool.false_or]
      obtain ⟨V,hV⟩:∃ V,dQ (eA t)=V:=⟨_,rfl⟩
      rw [hV] at hp ⊢
      by_cases hg:18446744073709551616≤V
      · have h0:decide (V=0)=false:=by rw [decide_eq_false_iff_not];omega
        have q1:decide (18446744073709551616≤V)=true:=M3
        rw [q1] at hp
        rw [h0,q1]
        simp only [Bool.and_false,Bool.true_or,cond_false,cond_true]
        (refine al gI pL fun σ=>?_;simp only [gI,↓R1,RR,Nat.reduceEqDiff,Nat.reduceAdd,Nat.reduceLT,reduceCtorEq,q1,q2,q3,q4,q5])
        repeat' ((first|(with_reducible intro β hβ;(try simp only [RB] at hβ);(repeat (obtain ⟨⟨_,_⟩,hβ⟩:=hβ));(try (have hbis:=ah M0 hβ;obtain ⟨_,_⟩:=hbis)))|(refine Pt (hcp) ?_)|(refine Pt (hp) ?_))<;>(try simp only [↓R1,RR,Nat.reduceEqDiff,Nat.reduceAdd,Nat.reduceLT,reduceCtorEq,q1,q2,q3,q4,q5]))
        refine ak (ag Nf) Nd (St.az (St.le_refl _) hβ)
      · have q1:decide (18446744073709551616≤V)=false:=by rw [decide_eq_false_iff_not];omega
        rw [q1,Nat.mod_eq_of_lt MX] at hp
        rw [q1]
        have h0:((V:Int) == 0)=decide (V=0):=by rw [Bool.eq_iff_iff];simp
        have h1:decide ((9223372036854775808:Int)<(V:Int))=decide (9223372036854775808<V):=NJ
        have h2:((V:Int) == 9223372036854775808)=decide (V=9223372036854775808):=NJ
        cases hn:ix t with
        | true =>
          rw [hn] at hcp
          have h3:∀ (hv:V≤9223372036854775808),IntKind.i64.wrap (0 - IntKind.i64.wrap (V:Int))= -(V:Int):=fun hv=>by
            simp [IntKind.wrap,IntKind.signed,IntKind.bits];omega
          by_cases hz:V=0
          · have q2:((V:Int) == 0)=true:=by rw [h0,decide_eq_true_eq];exact hz
            have z:decide (V=0)=true:=by rw [decide_eq_true_eq];exact hz
            rw [z]
            simp only [Bool.and_true,cond_true]
            (refine al gI pL fun σ=>?_;simp only [gI,↓R1,RR,Nat.reduceEqDiff,Nat.reduceAdd,Nat.reduceLT,reduceCtorEq,q1,q2,q3,q4,q5])
            repeat' ((first|(with_reducible intro β hβ;(try simp only [RB] at hβ);(repeat (obtain ⟨⟨_,_⟩,hβ⟩:=hβ));(try (have hbis:=ah M0 hβ;obtain ⟨_,_⟩:=hbis)))|(refine Pt (hcp) ?_)|(refine Pt (hp) ?_))<;>(try simp only [↓R1,RR,Nat.reduceEqDiff,Nat.reduceAdd,Nat.reduceLT,reduceCtorEq,q1,q2,q3,q4,q5]))
            refine ak (ag Nf) Nd (St.az (St.le_refl _) hβ)
          · have q2:((V:Int) == 0)=false:=by rw [h0,decide_eq_false_iff_not];exact hz
            have z:decide (V=0)=false:=by rw [decide_eq_false_iff_not];exact hz
            rw [z]
            simp only [Bool.and_false,cond_false,Bool.not_true,Bool.or_false,Bool.false_or]
            by_cases hb:9223372036854775808<V
            · have q3:decide ((9223372036854775808:Int)<(V:Int))=true:=by rw [h1,decide_eq_true_eq];exact hb
              have z2:decide (9223372036854775808<V)=true:=by rw [decide_eq_true_eq];exact hb
              rw [z2]
              simp only [cond_true]
              (refine al gI pL fun σ=>?_;simp only [gI,↓R1,RR,Nat.reduceEqDiff,Nat.reduceAdd,Nat.reduceLT,reduceCtorEq,q1,q2,q3,q4,q5])
              repeat' ((first|(with_reducible intro β hβ;(try simp only [RB] at hβ);(repeat (obtain ⟨⟨_,_⟩,hβ⟩:=hβ));(try (have hbis:=ah M0 hβ;obtain ⟨_,_⟩:=hbis)))|(refine Pt (hcp) ?_)|(refine Pt (hp) ?_))<;>(try simp only [↓R1,RR,Nat.reduceEqDiff,Nat.reduceAdd,Nat.reduceLT,reduceCtorEq,q1,q2,q3,q4,q5]))
              refine ak (ag Nf) Nd (St.az (St.le_refl _) hβ)
            · have q3:decide ((9223372036854775808:Int)<(V:Int))=false:=by rw [h1,decide_eq_false_iff_not];exact hb
              have z2:decide (9223372036854775808<V)=false:=by rw [decide_eq_false_iff_not];exact hb
              have q4:=h3 MX
              rw [z2]
              simp only [cond_false,cond_true]
              (refine al gI pL fun σ=>?_;simp only [gI,↓R1,RR,Nat.reduceEqDiff,Nat.reduceAdd,Nat.reduceLT,reduceCtorEq,q1,q2,q3,q4,q5])
              repeat' ((first|(with_reducible intro β hβ;(try simp only [RB] at hβ);(repeat (obtain ⟨⟨_,_⟩,hβ⟩:=hβ));(try (have hbis:=ah M0 hβ;obtain ⟨_,_⟩:=hbis)))|(refine Pt (hcp) ?_)|(refine Pt (hp) ?_))<;>(try simp only [↓R1,RR,Nat.reduceEqDiff,Nat.reduceAdd,Nat.reduceLT,reduceCtorEq,q1,q2,q3,q4,q5]))
              refine ak (ag Nf) Nd (St.az (St.le_refl _) hβ)
        | false =>
          rw [hn] at hcp
          have h3:∀ (hv:V<9223372036854775808),IntKind.i64.wrap (V:Int)=(V:Int):=fun hv=>by
            simp [IntKind.wrap,IntKind.signed,IntKind.bits];omega
          simp only [Bool.false_and,cond_false,Bool.not_false,Bool.and_true,Bool.false_or]
          by_cases hb:9223372036854775808<V
          · have q3:decide ((9223372036854775808:Int)<(V:Int))=true:=by rw [h1,decide_eq_true_eq];exact hb
            have z2:decide (9223372036854775808<V)=true:=by rw [decide_eq_true_eq];exact hb
            rw [z2]
            simp only [Bool.true_or,cond_true]
            (refine al gI pL fun σ=>?_;simp only [gI,↓R1,RR,Nat.reduceEqDiff,Nat.reduceAdd,Nat.reduceLT,reduceCtorEq,q1,q2,q3,q4,q5])
            repeat' ((first|(with_reducible intro β hβ;(try simp only [RB] at hβ);(repeat (obtain ⟨⟨_,_⟩,hβ⟩:=hβ));(try (have hbis:=ah M0 hβ;obtain ⟨_,_⟩:=hbis)))|(refine Pt (hcp) ?_)|(refine Pt (hp) ?_))<;>(try simp only [↓R1,RR,Nat.reduceEqDiff,Nat.reduceAdd,Nat.reduceLT,reduceCtorEq,q1,q2,q3,q4,q5]))
            refine ak (ag Nf) Nd (St.az (St.le_refl _) hβ)
          · have q3:decide ((9223372036854775808:Int)<(V:Int))=false:=by rw [h1,decide_eq_false_iff_not];exact hb
            have z2:decide (9223372036854775808<V)=false:=by rw [decide_eq_false_iff_not];exact hb
            rw [z2]
            simp only [Bool.false_or]
            by_cases he:V=9223372036854775808
            · have q5:((V:Int) == 9223372036854775808)=true:=by rw [h2,decide_eq_true_eq];exact he
              have z3:decide (V=9223372036854775808)=true:=by rw [decide_eq_true_eq];exact he
              rw [z3]
              simp only [cond_true]
              (refine al gI pL fun σ=>?_;simp only [gI,↓R1,RR,Nat.reduceEqDiff,Nat.reduceAdd,Nat.reduceLT,reduceCtorEq,q1,q2,q3,q4,q5])
              repeat' ((first|(with_reducible intro β hβ;(try simp only [RB] at hβ);(repeat (obtain ⟨⟨_,_⟩,hβ⟩:=hβ));(try (have hbis:=ah M0 hβ;obtain ⟨_,_⟩:=hbis)))|(refine Pt (hcp) ?_)|(refine Pt (hp) ?_))<;>(try simp only [↓R1,RR,Nat.reduceEqDiff,Nat.reduceAdd,Nat.reduceLT,reduceCtorEq,q1,q2,q3,q4,q5]))
              refine ak (ag Nf) Nd (St.az (St.le_refl _) hβ)
            · have q5:((V:Int) == 9223372036854775808)=false:=by rw [h2,decide_eq_false_iff_not];exact he
              have z3:decide (V=9223372036854775808)=false:=by rw [decide_eq_false_iff_not];exact he
              have q4:=h3 MX
              rw [z3]
              simp only [cond_false]
              (refine al gI pL fun σ=>?_;simp only [gI,↓R1,RR,Nat.reduceEqDiff,Nat.reduceAdd,Nat.reduceLT,reduceCtorEq,q1,q2,q3,q4,q5])
              repeat' ((first|(with_reducible intro β hβ;(try simp only [RB] at hβ);(repeat (obtain ⟨⟨_,_⟩,hβ⟩:=hβ));(try (have hbis:=ah M0 hβ;obtain ⟨_,_⟩:=hbis)))|(refine Pt (hcp) ?_)|(refine Pt (hp) ?_))<;>(try simp only [↓R1,RR,Nat.reduceEqDiff,Nat.reduceAdd,Nat.reduceLT,reduceCtorEq,q1,q2,q3,q4,q5]))
              refine ak (ag Nf) Nd (St.az (St.le_refl _) hβ)
def de (t:List UInt8):List (List UInt8)→Nat→Option Nat
 | [],_=>none
 | n::l,i=>bif n == t then some i else de t l (i+1)
def kL (q:Bool) (t:List UInt8) (l:List (List UInt8)):AV :=
 match (bif q then none else de t l 0) with
 | some i=> .tup [.int .i64 (i:Nat), .int .i64 0]
 | none=> .tup [.int .i64 0, .int .i64 7]
theorem iy (t:List UInt8) (l:List (List UInt8)) {k:Nat} (h:k<l.length) (j:Nat):de t (l.drop k) j=bif l[k] == t then some j else de t (l.drop (k+1)) (j+1):=by
 rw [List.drop_eq_getElem_cons h];rfl
theorem _root_.N0 {p:Prop} (h:p:=by (simp only [aq,↓R1,RR,seval,q1,q2,hw,hd])):p:=h
set_option maxHeartbeats 2000000 in
theorem p64 (q:Bool) (t:List UInt8) (a:Int) (l:List (List UInt8)) (hl:l.length≤1000):Pu Tryz.prog 64 [.agg [.bool q, .str t, .int .i64 a], .sl false l.length (l.map AV.str)] (kL q t l):=by
  have q1:True:=trivial
  have q2:True:=trivial
  have hw:True:=trivial
  have hd:True:=trivial
  (refine al c64 b64 fun σ=>?_;simp only [c64,↓R1,RR,seval,q1,q2,hw,hd])
  intro β hβ
  refine aQ l.length (fun k=> [(1, .sl false l.length (l.map AV.str)),(2, .ptr β 0),(6, .int .i64 (k:Nat))]) (fun _=>σ.aa β [.bool q, .str t, .int .i64 a]) (fun k=>(bif q then none else de t l 0)=(bif q then none else de t (l.drop k) k)) M8 (St.le_refl _) M1 (fun k hk hI=>?_)
  by_cases hlt:k<l.length
  · have q1:decide ((k:Int)<(l.length:Int))=true:=by rw [decide_eq_true_eq];omega
    have hd:=j5 l hlt
    have hw:IntKind.i64.wrap ((k:Int)+1)=((k+1:Nat):Int):=MZ
    rw [iy t l hlt] at hI
    cases q with
    | true =>
      rw [kL];simp only [cond_true]
      simp only [q1,↓R1,RR,seval,q1,q2,hw,hd]
      skip
      refine ak (ag N0) Nd (St.az (St.le_refl _) hβ)
    | false =>
      cases he:l[k] == t with
      | true =>
        rw [he] at hI
        simp only [cond_true,cond_false] at hI
        have q2:=he
        rw [kL];simp only [cond_false];rw [hI]
        simp only [q1,↓R1,RR,seval,q1,q2,hw,hd]
        repeat' (with_reducible refine And.intro ?_ ?_;exact af)
        all_goals first|(rw [List.length_map];omega)|skip
        refine ak (ag N0) Nd (St.az (St.le_refl _) hβ)
      | false =>
        rw [he] at hI
        have q2:=he
        simp only [q1,↓R1,RR,seval,q1,q2,hw,hd]
        repeat' (first|(with_reducible refine And.intro ?_ ?_;exact af)|(with_reducible apply And.intro))
        all_goals first|(rw [List.length_map];omega)|skip
        · simpa using hI
        · simp [av,slot,ae]
        · exact St.le_refl _
  · have hke:k=l.length:=by omega
    subst hke
    have q1:decide ((l.length:Int)<(l.length:Int))=false:=M1
    rw [List.drop_length] at hI
    rw [kL,hI]
    have e:(bif q then none else de t [] l.length)=none:=by cases q<;>rfl
    rw [e]
    simp only [q1,↓R1,RR,seval,q1,q2,hw,hd]
    skip
    refine ak (ag N0) Nd (St.az (St.le_refl _) hβ)
theorem E0 (b:UInt8):Pu Tryz.prog 157 [.int .u8 b.toNat] (.bool (aJ b)):=by
 (refine al HT LU fun σ=>?_;simp only [HT,↓R1,RR,seval])
 skip
 all_goals (refine ak (ag ?_))
 all_goals (simp only [aq,↓R1,RR,seval])
 all_goals rfl
theorem _root_.Ns {p:Prop} (h:p:=by first|(simp [ax,rvS];done)|(simp only [ax,rvS,↓R1,RR,seval];try simp)):p:=h
theorem p98 (e a:Int):Pu Tryz.prog 98 [.int .i64 e, .int .i64 a] (.agg [.int .i64 e, .int .i64 a]):=by
 (refine al c98 b98 fun σ=>?_;simp only [c98,↓R1,RR,seval])
 repeat' (first|(with_reducible rw [ai])|((with_reducible intro β hβ;(try simp only [RB] at hβ);(repeat (obtain ⟨⟨_,_⟩,hβ⟩:=hβ));(try (have hbis:=ah M0 hβ;obtain ⟨_,_⟩:=hbis)))<;>(try simp only [↓R1,RR,seval])))
 all_goals (refine ak (ag ?_) Ns)
 all_goals (simp only [aq,↓R1,RR,seval])
def uK (b:UInt8):Int:=if eX b<16 then eX b else -1
def Iw (n:Nat):Int :=
 bif decide ((48:Int)≤n)&&decide ((n:Int)≤57) then IntKind.i64.wrap (IntKind.u8.wrap ((n:Int) - 48))
 else bif decide ((97:Int)≤n)&&decide ((n:Int)≤102) then IntKind.i64.wrap (IntKind.i64.wrap (IntKind.u8.wrap ((n:Int) - 97))+10)
 else bif decide ((65:Int)≤n)&&decide ((n:Int)≤70) then IntKind.i64.wrap (IntKind.i64.wrap (IntKind.u8.wrap ((n:Int) - 65))+10) else -1
theorem Cf:((List.range 256).all fun n=>Iw n == (let h:=(if 48≤n∧n≤57 then n - 48 else if 97≤n∧n≤102 then n - 87 else if 65≤n∧n≤70 then n - 55 else 16:Nat);if h<16 then (h:Int) else -1))=true:=MY
theorem E1 (b:UInt8):Iw b.toNat=uK b:=by
 have:=List.all_eq_true.1 Cf b.toNat (List.mem_range.2 (jZ b))
 exact beq_iff_eq.1 this
theorem Kq (b:UInt8):Pu Tryz.prog 277 [.int .u8 b.toNat] (.int .i64 (uK b)):=by
 rw [←E1]
 (refine al Br JY fun σ=>?_;simp only [Br,↓R1,RR,seval])
 repeat' ((refine an (fun hc=>?_) (fun hc=>?_))<;>(try simp only [↓R1,RR,seval]))
 all_goals (refine ak (ag ?_))
 all_goals (simp only [aq,↓R1,RR,seval])
 all_goals simp only [Iw, *,cond_true,cond_false]
def gk (l:List UInt8):UInt8 × Bool:=match fe l with
 | some (x,_)=>(x,true)
 | none=>(0,false)
theorem yr:((List.range 256).all fun k=>IntKind.u8.wrap (IntKind.i64.wrap (IntKind.i64.wrap (16*((k / 16:Nat):Int))+((k % 16:Nat):Int))) == ((UInt8.ofNat k).toNat:Int))=true:=MY
theorem Cg {a b:Nat} (ha:a<16) (hb:b<16):IntKind.u8.wrap (IntKind.i64.wrap (IntKind.i64.wrap (16*(a:Int))+(b:Int)))=((UInt8.ofNat (16*a+b)).toNat:Int):=by
 have:=List.all_eq_true.1 yr (16*a+b) (List.mem_range.2 MX)
 rw [beq_iff_eq,show (16*a+b) / 16=a by omega,show (16*a+b) % 16=b by omega] at this
 exact this
theorem su (b:UInt8):decide (uK b<0)= !decide (eX b<16):=by
 unfold uK
 split
 ·rename_i h;simp [h]
 ·rename_i h;simp [h]
theorem vL {b:UInt8} (h:eX b<16):uK b=eX b∧decide (uK b<0)=false:=⟨if_pos h,by rw [su];simp [h]⟩
theorem vM {b:UInt8} (h:¬ eX b<16):decide (uK b<0)=true:=by rw [su];simp [h]
theorem MK (s:List UInt8) (k:Nat) (hs:s.length≤1000000) (hk:k≤1000003):Pu Tryz.prog 253 [.str s, .int .i64 k] (.tup [.int .u8 (gk (s.drop k)).1.toNat, .bool (gk (s.drop k)).2]):=by
  have h0:True:=trivial
  have h1:True:=trivial
  have h2:True:=trivial
  have h3:True:=trivial
  have hw2:True:=trivial
  have hw:IntKind.i64.wrap ((k:Int)+2)=((k+2:Nat):Int):=MZ
  by_cases hlt:k+2≤s.length
  · have q1:decide ((s.length:Int)<((k+2:Nat):Int))=false:=by rw [decide_eq_false_iff_not];omega
    obtain ⟨a,ha⟩:∃ a,s[k]? =some a:=⟨_,List.getElem?_eq_getElem MX⟩
    obtain ⟨b,hb⟩:∃ b,s[k+1]? =some b:=⟨_,List.getElem?_eq_getElem MX⟩
    have hd:s.drop k=a::b::s.drop (k+2):=by
      obtain ⟨h1,h2⟩:=List.getElem?_eq_some_iff.1 ha
      obtain ⟨h3,h4⟩:=List.getElem?_eq_some_iff.1 hb
      rw [List.drop_eq_getElem_cons h1,h2,List.drop_eq_getElem_cons h3,h4]
    have h0:=ha
    have h1:=hb
    have hw2:IntKind.i64.wrap ((k:Int)+1)=((k+1:Nat):Int):=MZ
    have pa:=Kq a
    have pb:=Kq b
    rw [hd]
    by_cases hA:eX a<16
    · obtain ⟨e1,h2⟩:=vL hA
      by_cases hB:eX b<16
      · obtain ⟨e2,h3⟩:=vL hB
        have e:gk (a::b::s.drop (k+2))=(UInt8.ofNat (16*eX a+eX b),true):=by simp [gk,fe,hA,hB]
        rw [e]
        have e3:=Cg hA hB
        (refine al jR vw fun σ=>?_;simp only [jR,↓R1,RR,seval,q1,h0,h1,h2,h3,hw,hw2])
        repeat' (first|(with_reducible refine And.intro ?_ ?_;exact af)|((first|(refine Pt (pa) ?_)|(refine Ct (pa) ?_)|(refine Pt (pb) ?_)|(refine Ct (pb) ?_))<;>(try simp only [↓R1,RR,seval,q1,h0,h1,h2,h3,hw,hw2])))
        all_goals (refine ak (ag ?_))
        all_goals ((simp only [aq,↓R1,RR,seval,q1,h0,h1,h2,h3,hw,hw2]))
        all_goals (rw [e1,e2,e3])
      · have h3:=vM hB
        have e:gk (a::b::s.drop (k+2))=(0,false):=by simp [gk,fe,hB]
        rw [e]
        (refine al jR vw fun σ=>?_;simp only [jR,↓R1,RR,seval,q1,h0,h1,h2,h3,hw,hw2])
        repeat' (first|(with_reducible refine And.intro ?_ ?_;exact af)|((first|(refine Pt (pa) ?_)|(refine Pt (pb) ?_))<;>(try simp only [↓R1,RR,seval,q1,h0,h1,h2,h3,hw,hw2])))
        all_goals (refine ak (ag ?_))
        all_goals ((simp only [aq,↓R1,RR,seval,q1,h0,h1,h2,h3,hw,hw2]))
        all_goals rfl
    · have h2:=vM hA
      have e:gk (a::b::s.drop (k+2))=(0,false):=by simp [gk,fe,hA]
      rw [e]
      (refine al jR vw fun σ=>?_;simp only [jR,↓R1,RR,seval,q1,h0,h1,h2,h3,hw,hw2])
      repeat' (first|(with_reducible refine And.intro ?_ ?_;exact af)|((refine Pt (pa) ?_)<;>(try simp only [↓R1,RR,seval,q1,h0,h1,h2,h3,hw,hw2])))
      all_goals all_goals first|omega|exact Nat.le_refl _|assumption|exact St.le_refl _|(exact af)|(simp only [av,slot,ae,↓R1,RR,seval,q1,h0,h1,h2,h3,hw,hw2];all_goals exact bE)|exact bu|(simp_all;done)|skip
      all_goals (refine ak (ag ?_))
      all_goals ((simp only [aq,↓R1,RR,seval,q1,h0,h1,h2,h3,hw,hw2]))
      all_goals rfl
  · have q1:decide ((s.length:Int)<((k+2:Nat):Int))=true:=by rw [decide_eq_true_eq];omega
    have e:gk (s.drop k)=(0,false):=by
      have:(s.drop k).length≤1:=by rw [List.length_drop];omega
      cases hd:s.drop k with
      | nil=>rfl
      | cons a r =>
        cases r with
        | nil=>rfl
        | cons b r=>rw [hd] at this;simp at this
    rw [e]
    (refine al jR vw fun σ=>?_;simp only [jR,↓R1,RR,seval,q1,h0,h1,h2,h3,hw,hw2])
    skip
    all_goals (refine ak (ag ?_))
    all_goals ((simp only [aq,↓R1,RR,seval,q1,h0,h1,h2,h3,hw,hw2]))
    all_goals rfl
def u8A (b:UInt8):AV:= .int .u8 b.toNat
theorem aK (l:List UInt8):(l.map u8A).map Go.Abs.byteOf=l:=by
 induction l with
 | nil=>rfl
 | cons c l ih=>simp only [List.map_cons,ih];simp [u8A,Go.Abs.byteOf]
theorem ba (l:List UInt8):(l.map u8A).all isByte=true:=by
  induction l with
  | nil=>rfl
  | cons c l ih =>
    have:=jZ c
    simp only [List.map_cons,List.all_cons,ih,Bool.and_true];simp [u8A,isByte]
theorem aS (l:List UInt8) (c:UInt8):l.map u8A++ [.int .u8 c.toNat]=(l++ [c]).map u8A:=by simp [u8A]
def cP (l:List UInt8):List UInt8 × Nat:=match dI l with
 | some (t,r)=>(t,l.length+1 - r.length)
 | none=>([],0)
theorem uL {l:List UInt8} {x:UInt8} {r:List UInt8} (h:fe l=some (x,r)):r=l.drop 2∧2≤l.length:=by
 unfold fe at h
 split at h
 ·split at h
  ·cases h;simp
  ·cases h
 ·cases h
theorem eq_int (c:UInt8) (n:Nat) (hn:n<256):((c.toNat:Int) == (n:Nat))=decide (c=UInt8.ofNat n):=by
 rw [Bool.eq_iff_iff,beq_iff_eq,decide_eq_true_eq]
 constructor
 ·intro h;apply UInt8.toNat.inj;rw [UInt8.toNat_ofNat'];omega
 ·intro h;subst h;rw [UInt8.toNat_ofNat'];omega
theorem j9 {c:UInt8} {n:Nat} (hn:n<256) (h:c≠UInt8.ofNat n):((c.toNat:Int) == (n:Nat))=false:=by rw [eq_int c n hn];exact decide_eq_false h
theorem lB (c:UInt8):cb c=(dP c&&((c.toNat:Int) != 34)&&((c.toNat:Int) != 92)):=by
 simp only [cb,dP]
theorem _root_.ND {p:Prop} (h:p:=by have:=congrArg List.length hd;rw [List.length_drop] at this;simp at this;omega):p:=h
set_option maxHeartbeats 4000000 in
theorem ML (x:UInt8) (l:List UInt8) (hs:l.length≤900000):Pu Tryz.prog 215 [.str (x::l)] (.tup [.str (cP l).1, .int .i64 ((cP l).2:Nat)]):=by
  have hl0:(x::l).length=l.length+1:=rfl
  have hd1:(x::l).drop 1=l:=rfl
  generalize hS:x::l=s at hl0 hd1
  have q1:True:=trivial
  have q2:True:=trivial
  have h1:True:=trivial
  have h2:True:=trivial
  have e1:True:=trivial
  have e2:True:=trivial
  have e3:True:=trivial
  have e4:True:=trivial
  have e5:True:=trivial
  have e6:True:=trivial
  have hw:True:=trivial
  have hw2:True:=trivial
  have hw3:True:=trivial
  (refine al H3 L2 fun σ=>?_;simp only [H3,↓R1,RR,seval,q1,q2,h1,h2,e1,e2,e3,e4,e5,e6,hw,hw2,hw3,aS,aK,ba,List.length_map])
  refine iL (α:=Nat × List UInt8) 4 5 1 0 [] (fun τ a=> [(0, .str s),(4, .tsl τ a.2.length (a.2.map u8A)),(5, .int .i64 (a.1:Nat))]) (fun τ a=>σ.ao τ (5,1,a.2.length))
    (fun a=>1≤a.1∧a.1≤s.length∧a.2.length≤a.1∧dI l=(dI (s.drop a.1)).map fun q=>(a.2++q.1,q.2)) (fun a=>s.length - a.1) (1,[]) trivial rfl ⟨by simp,by simp;omega,by simp,by rw [hd1];cases dI l<;>simp⟩ (fun τ hτ=>by simp [av,slot,ae]) (fun τ hτ=>St.le_refl _) ?_
  rintro τ hτ ⟨k,acc⟩ ⟨hk1,hk2,hka,hI⟩
  have htt:(σ.ao τ (5,1,acc.length)).tip τ=some (5,1,acc.length):=NK
  simp only at hk1 hk2 hka hI ⊢
  cases hd:s.drop k with
  | nil =>
    have hke:s.length≤k:=ND
    have q1:decide ((k:Int)<(s.length:Int))=false:=Nk
    have e:cP l=([],0):=by rw [cP,hI,hd];rfl
    rw [e]
    simp only [q1,↓R1,RR,seval,q1,q2,h1,h2,e1,e2,e3,e4,e5,e6,hw,hw2,hw3,aS,aK,ba,List.length_map]
    skip
    all_goals (refine ak (ag ?_))
    all_goals ((simp only [aq,↓R1,RR,seval,q1,q2,h1,h2,e1,e2,e3,e4,e5,e6,hw,hw2,hw3,aS,aK,ba,List.length_map]))
  | cons c r =>
    have hlt:k<s.length:=by
      have:=congrArg List.length hd;rw [List.length_drop] at this;simp at this;omega
    have q1:decide ((k:Int)<(s.length:Int))=true:=M3
    obtain ⟨h1,_,hd1'⟩:=b9 hd
    have hrl:r.length=s.length - (k+1):=by rw [←hd1',List.length_drop]
    have hw:IntKind.i64.wrap ((k:Int)+1)=((k+1:Nat):Int):=MZ
    have hI2:=hI
    rw [hd,mB] at hI2
    have pr:=ET c
    by_cases hq:c=34
    · rw [if_pos hq] at hI2
      have e1:((c.toNat:Int) == 34)=true:=by rw [hq];rfl
      have e:cP l=(acc,k+1):=by rw [cP,hI2];simp;omega
      rw [e]
      simp only [q1,↓R1,RR,seval,q1,q2,h1,h2,e1,e2,e3,e4,e5,e6,hw,hw2,hw3,aS,aK,ba,List.length_map]
      repeat' (with_reducible refine And.intro ?_ ?_;exact af)
      all_goals all_goals first|omega|exact Nat.le_refl _|assumption|exact St.le_refl _|(exact af)|(simp only [av,slot,ae,↓R1,RR,seval,q1,q2,h1,h2,e1,e2,e3,e4,e5,e6,hw,hw2,hw3,aS,aK,ba,List.length_map];all_goals exact bE)|exact bu|(simp_all;done)|skip
      all_goals (refine ak (ag ?_))
      all_goals ((simp only [aq,↓R1,RR,seval,q1,q2,h1,h2,e1,e2,e3,e4,e5,e6,hw,hw2,hw3,aS,aK,ba,List.length_map]))
    · rw [if_neg hq] at hI2
      have e1:((c.toNat:Int) == 34)=false:=j9 (n:=34) MX hq
      by_cases hb:c=92
      · rw [if_pos hb] at hI2
        have e2:dP c=true:=by rw [hb];rfl
        have e3:((c.toNat:Int) != 92)=false:=by rw [hb];rfl
        have hw2:IntKind.i64.wrap ((k:Int)+2)=((k+2:Nat):Int):=MZ
        have hw3:IntKind.i64.wrap ((k:Int)+4)=((k+4:Nat):Int):=MZ
        cases r with
        | nil =>
          have q2:decide (((k+1:Nat):Int)<(s.length:Int))=false:=by
            rw [decide_eq_false_iff_not];simp at hrl;omega
          have e:cP l=([],0):=by rw [cP,hI2];rfl
          rw [e]
          simp only [q1,↓R1,RR,seval,q1,q2,h1,h2,e1,e2,e3,e4,e5,e6,hw,hw2,hw3,aS,aK,ba,List.length_map]
          repeat' (first|(with_reducible refine And.intro ?_ ?_;exact af)|((refine Pt (pr) ?_)<;>(try simp only [↓R1,RR,seval,q1,q2,h1,h2,e1,e2,e3,e4,e5,e6,hw,hw2,hw3,aS,aK,ba,List.length_map])))
          all_goals all_goals first|omega|exact Nat.le_refl _|assumption|exact St.le_refl _|(exact af)|(simp only [av,slot,ae,↓R1,RR,seval,q1,q2,h1,h2,e1,e2,e3,e4,e5,e6,hw,hw2,hw3,aS,aK,ba,List.length_map];all_goals exact bE)|exact bu|(simp_all;done)|skip
          all_goals (refine ak (ag ?_))
          all_goals ((simp only [aq,↓R1,RR,seval,q1,q2,h1,h2,e1,e2,e3,e4,e5,e6,hw,hw2,hw3,aS,aK,ba,List.length_map]))
          all_goals rfl
        | cons d r2 =>
          have q2:decide (((k+1:Nat):Int)<(s.length:Int))=true:=by
            rw [decide_eq_true_eq];simp at hrl;omega
          obtain ⟨h2,h2l,hd2⟩:=b9 hd1'
          have hrl2:r2.length=s.length - (k+2):=by rw [←hd2,List.length_drop]
          simp only [jo] at hI2
          by_cases hd3:d=34
          · rw [if_neg (by rw [hd3];decide),if_pos (.inl hd3)] at hI2
            have e4:((d.toNat:Int) == 34)=true:=by rw [hd3];rfl
            simp only [q1,↓R1,RR,seval,q1,q2,h1,h2,e1,e2,e3,e4,e5,e6,hw,hw2,hw3,aS,aK,ba,List.length_map]
            repeat' (first|(with_reducible refine And.intro ?_ ?_;exact af)|((first|((first|refine bp (.inr rfl) rfl ?_ ?_ ?_ ?_ ?_ ?_|refine aV rfl ?_ ?_ ?_ ?_ ?_ ?_);(first|rfl|exact St.aH _ _ _|simp only [↓R1,RR,seval,q1,q2,h1,h2,e1,e2,e3,e4,e5,e6,hw,hw2,hw3,aS,aK,ba,List.length_map]);(iterate 2 (first|omega|(simp only [RZ];first|done|omega)|rfl));(unfold maxLen;omega);omega)|(refine Pt (pr) ?_))<;>(try simp only [↓R1,RR,seval,q1,q2,h1,h2,e1,e2,e3,e4,e5,e6,hw,hw2,hw3,aS,aK,ba,List.length_map])))
            all_goals all_goals first|omega|exact Nat.le_refl _|assumption|exact St.le_refl _|(exact af)|(simp only [av,slot,ae,↓R1,RR,seval,q1,q2,h1,h2,e1,e2,e3,e4,e5,e6,hw,hw2,hw3,aS,aK,ba,List.length_map];all_goals exact bE)|exact bu|(simp_all;done)|skip
            refine ⟨(k+2,acc++ [d]),⟨by simp,by simp;omega,by simp;omega,?_⟩,?_,?_,by simp;omega⟩
            · simp only [hI2,hd2];generalize dI r2=z;cases z<;>simp
            · simp only [List.length_append,List.length_singleton];simp [av,slot,ae];try exact ae _
            · simp only [List.length_append,List.length_singleton];exact St.le_refl _
          · have e4:((d.toNat:Int) == 34)=false:=j9 (n:=34) MX hd3
            by_cases hd4:d=92
            · rw [if_neg (by rw [hd4];decide),if_pos (.inr hd4)] at hI2
              have e5:((d.toNat:Int) == 92)=true:=by rw [hd4];rfl
              simp only [q1,↓R1,RR,seval,q1,q2,h1,h2,e1,e2,e3,e4,e5,e6,hw,hw2,hw3,aS,aK,ba,List.length_map]
              repeat' (first|(with_reducible refine And.intro ?_ ?_;exact af)|((first|((first|refine bp (.inr rfl) rfl ?_ ?_ ?_ ?_ ?_ ?_|refine aV rfl ?_ ?_ ?_ ?_ ?_ ?_);(first|rfl|exact St.aH _ _ _|simp only [↓R1,RR,seval,q1,q2,h1,h2,e1,e2,e3,e4,e5,e6,hw,hw2,hw3,aS,aK,ba,List.length_map]);(iterate 2 (first|omega|(simp only [RZ];first|done|omega)|rfl));(unfold maxLen;omega);omega)|(refine Pt (pr) ?_))<;>(try simp only [↓R1,RR,seval,q1,q2,h1,h2,e1,e2,e3,e4,e5,e6,hw,hw2,hw3,aS,aK,ba,List.length_map])))
              all_goals all_goals first|omega|exact Nat.le_refl _|assumption|exact St.le_refl _|(exact af)|(simp only [av,slot,ae,↓R1,RR,seval,q1,q2,h1,h2,e1,e2,e3,e4,e5,e6,hw,hw2,hw3,aS,aK,ba,List.length_map];all_goals exact bE)|exact bu|(simp_all;done)|skip
              refine ⟨(k+2,acc++ [d]),⟨by simp,by simp;omega,by simp;omega,?_⟩,?_,?_,by simp;omega⟩
              · simp only [hI2,hd2];generalize dI r2=z;cases z<;>simp
              · simp only [List.length_append,List.length_singleton];simp [av,slot,ae];try exact ae _
              · simp only [List.length_append,List.length_singleton];exact St.le_refl _
            · have e5:((d.toNat:Int) == 92)=false:=j9 (n:=92) MX hd4
              by_cases hd5:d=120
              · rw [if_pos hd5] at hI2
                have e6:((d.toNat:Int) == 120)=true:=by rw [hd5];rfl
                have pp:=MK s (k+2) MX MX
                rw [hd2] at pp
                cases hp:fe r2 with
                | none =>
                  have hv:gk r2=(0,false):=by rw [gk,hp]
                  rw [hv] at pp
                  have e:cP l=([],0):=by rw [cP,hI2,hp];rfl
                  rw [e]
                  simp only [q1,↓R1,RR,seval,q1,q2,h1,h2,e1,e2,e3,e4,e5,e6,hw,hw2,hw3,aS,aK,ba,List.length_map]
                  repeat' (first|(with_reducible refine And.intro ?_ ?_;exact af)|((first|(refine Pt (pr) ?_)|(refine Pt (pp) ?_))<;>(try simp only [↓R1,RR,seval,q1,q2,h1,h2,e1,e2,e3,e4,e5,e6,hw,hw2,hw3,aS,aK,ba,List.length_map])))
                  all_goals all_goals first|omega|exact Nat.le_refl _|assumption|exact St.le_refl _|(exact af)|(simp only [av,slot,ae,↓R1,RR,seval,q1,q2,h1,h2,e1,e2,e3,e4,e5,e6,hw,hw2,hw3,aS,aK,ba,List.length_map];all_goals exact bE)|exact bu|(simp_all;done)|skip
                  all_goals (refine ak (ag ?_))
                  all_goals ((simp only [aq,↓R1,RR,seval,q1,q2,h1,h2,e1,e2,e3,e4,e5,e6,hw,hw2,hw3,aS,aK,ba,List.length_map]))
                  all_goals rfl
                | some q =>
                  obtain ⟨y,r3⟩:=q
                  have hv:gk r2=(y,true):=by rw [gk,hp]
                  rw [hv] at pp
                  obtain ⟨hr3,hr4⟩:=uL hp
                  have hd6:s.drop (k+4)=r3:=by rw [hr3,←hd2,List.drop_drop]
                  rw [hp] at hI2
                  simp only [q1,↓R1,RR,seval,q1,q2,h1,h2,e1,e2,e3,e4,e5,e6,hw,hw2,hw3,aS,aK,ba,List.length_map]
                  repeat' (first|(with_reducible refine And.intro ?_ ?_;exact af)|((first|((first|refine bp (.inr rfl) rfl ?_ ?_ ?_ ?_ ?_ ?_|refine aV rfl ?_ ?_ ?_ ?_ ?_ ?_);(first|rfl|exact St.aH _ _ _|simp only [↓R1,RR,seval,q1,q2,h1,h2,e1,e2,e3,e4,e5,e6,hw,hw2,hw3,aS,aK,ba,List.length_map]);(iterate 2 (first|omega|(simp only [RZ];first|done|omega)|rfl));(unfold maxLen;omega);omega)|(refine Pt (pr) ?_)|(refine Pt (pp) ?_))<;>(try simp only [↓R1,RR,seval,q1,q2,h1,h2,e1,e2,e3,e4,e5,e6,hw,hw2,hw3,aS,aK,ba,List.length_map])))
                  all_goals all_goals first|omega|exact Nat.le_refl _|assumption|exact St.le_refl _|(exact af)|(simp only [av,slot,ae,↓R1,RR,seval,q1,q2,h1,h2,e1,e2,e3,e4,e5,e6,hw,hw2,hw3,aS,aK,ba,List.length_map];all_goals exact bE)|exact bu|(simp_all;done)|skip
                  refine ⟨(k+4,acc++ [y]),⟨by simp,by simp;omega,by simp;omega,?_⟩,?_,?_,by simp;omega⟩
                  · simp only [hI2,hd6];generalize dI r3=z;cases z<;>simp
                  · simp only [List.length_append,List.length_singleton];simp [av,slot,ae];try exact ae _
                  · simp only [List.length_append,List.length_singleton];exact St.le_refl _
              · rw [if_neg hd5,if_neg (by rintro (h|h);exact hd3 h;exact hd4 h)] at hI2
                have e6:((d.toNat:Int) == 120)=false:=j9 (n:=120) MX hd5
                have e:cP l=([],0):=by rw [cP,hI2];rfl
                rw [e]
                simp only [q1,↓R1,RR,seval,q1,q2,h1,h2,e1,e2,e3,e4,e5,e6,hw,hw2,hw3,aS,aK,ba,List.length_map]
                repeat' (first|(with_reducible refine And.intro ?_ ?_;exact af)|((refine Pt (pr) ?_)<;>(try simp only [↓R1,RR,seval,q1,q2,h1,h2,e1,e2,e3,e4,e5,e6,hw,hw2,hw3,aS,aK,ba,List.length_map])))
                all_goals all_goals first|omega|exact Nat.le_refl _|assumption|exact St.le_refl _|(exact af)|(simp only [av,slot,ae,↓R1,RR,seval,q1,q2,h1,h2,e1,e2,e3,e4,e5,e6,hw,hw2,hw3,aS,aK,ba,List.length_map];all_goals exact bE)|exact bu|(simp_all;done)|skip
                all_goals (refine ak (ag ?_))
                all_goals ((simp only [aq,↓R1,RR,seval,q1,q2,h1,h2,e1,e2,e3,e4,e5,e6,hw,hw2,hw3,aS,aK,ba,List.length_map]))
                all_goals rfl
      · rw [if_neg hb] at hI2
        have e9:((c.toNat:Int) == 92)=false:=j9 (n:=92) MX hb
        have e3:((c.toNat:Int) != 92)=true:=by simp only [bne,e9];rfl
        cases e2:dP c with
        | false =>
          have hp:cb c=false:=by rw [lB,e2];rfl
          rw [if_neg (by rw [hp];decide)] at hI2
          have e:cP l=([],0):=by rw [cP,hI2];rfl
          rw [e]
          simp only [q1,↓R1,RR,seval,q1,q2,h1,h2,e1,e2,e3,e4,e5,e6,hw,hw2,hw3,aS,aK,ba,List.length_map]
          repeat' (first|(with_reducible refine And.intro ?_ ?_;exact af)|((refine Pt (pr) ?_)<;>(try simp only [↓R1,RR,seval,q1,q2,h1,h2,e1,e2,e3,e4,e5,e6,hw,hw2,hw3,aS,aK,ba,List.length_map])))
          all_goals all_goals first|omega|exact Nat.le_refl _|assumption|exact St.le_refl _|(exact af)|(simp only [av,slot,ae,↓R1,RR,seval,q1,q2,h1,h2,e1,e2,e3,e4,e5,e6,hw,hw2,hw3,aS,aK,ba,List.length_map];all_goals exact bE)|exact bu|(simp_all;done)|skip
          all_goals (refine ak (ag ?_))
          all_goals ((simp only [aq,↓R1,RR,seval,q1,q2,h1,h2,e1,e2,e3,e4,e5,e6,hw,hw2,hw3,aS,aK,ba,List.length_map]))
          all_goals rfl
        | true =>
          have hp:cb c=true:=by simp only [lB,e2,bne,e1,e9];rfl
          rw [if_pos hp] at hI2
          simp only [q1,↓R1,RR,seval,q1,q2,h1,h2,e1,e2,e3,e4,e5,e6,hw,hw2,hw3,aS,aK,ba,List.length_map]
          repeat' (first|(with_reducible refine And.intro ?_ ?_;exact af)|((first|((first|refine bp (.inr rfl) rfl ?_ ?_ ?_ ?_ ?_ ?_|refine aV rfl ?_ ?_ ?_ ?_ ?_ ?_);(first|rfl|exact St.aH _ _ _|simp only [↓R1,RR,seval,q1,q2,h1,h2,e1,e2,e3,e4,e5,e6,hw,hw2,hw3,aS,aK,ba,List.length_map]);(iterate 2 (first|omega|(simp only [RZ];first|done|omega)|rfl));(unfold maxLen;omega);omega)|(refine Pt (pr) ?_))<;>(try simp only [↓R1,RR,seval,q1,q2,h1,h2,e1,e2,e3,e4,e5,e6,hw,hw2,hw3,aS,aK,ba,List.length_map])))
          all_goals all_goals first|omega|exact Nat.le_refl _|assumption|exact St.le_refl _|(exact af)|(simp only [av,slot,ae,↓R1,RR,seval,q1,q2,h1,h2,e1,e2,e3,e4,e5,e6,hw,hw2,hw3,aS,aK,ba,List.length_map];all_goals exact bE)|exact bu|(simp_all;done)|skip
          refine ⟨(k+1,acc++ [c]),⟨by simp,by simp;omega,by simp;omega,?_⟩,?_,?_,by simp;omega⟩
          · simp only [hI2,hd1'];generalize dI r=z;cases z<;>simp
          · simp only [List.length_append,List.length_singleton];simp [av,slot,ae];try exact ae _
          · simp only [List.length_append,List.length_singleton];exact St.le_refl _
def iz (l:List UInt8) (n:Nat):Nat:=match l.drop n with
 | d::_=>if aJ d then n else 0
 | []=>n
def lL (l:List UInt8):Bool × List UInt8 × Nat:=match l with
 | []=>(false,[],0)
 | c::r=>if c=34 then (true,(cP r).1,iz l (cP r).2) else (false,l.takeWhile aI,iz l (l.takeWhile aI).length)
theorem yu {s:List UInt8} {k:Nat} (hk:k≤(s.takeWhile aI).length):(k<(s.takeWhile aI).length↔∃ c,s[k]? =some c∧aI c=true):=by
  induction s generalizing k with
  | nil=>simp
  | cons c s ih =>
    cases hc:aI c with
    | false =>
      simp only [List.takeWhile_cons,hc] at hk ⊢
      simp at hk;subst hk
      simp [hc]
    | true =>
      simp only [List.takeWhile_cons,hc,if_true,List.length_cons] at hk ⊢
      cases k with
      | zero=>simp [hc]
      | succ k=>simp only [List.getElem?_cons_succ];rw [←ih MX];omega
theorem yv (s:List UInt8):s.take (s.takeWhile aI).length=s.takeWhile aI:=by
 have h:=List.takeWhile_append_dropWhile (p:=aI) (l:=s)
 have:s.take (s.takeWhile aI).length=(s.takeWhile aI++s.dropWhile aI).take (s.takeWhile aI).length:=by rw [h]
 rw [this,List.take_left'];rfl
theorem E2 (s:List UInt8):(s.takeWhile aI).length≤s.length:=(List.takeWhile_prefix _).length_le
theorem gn (s:List UInt8):iz s 0=0:=by
 unfold iz;split
 ·split<;>rfl
 ·rfl
theorem qd {s:List UInt8} {n:Nat} {d:UInt8} (h:s[n]? =some d):iz s n=if aJ d then n else 0:=by
 obtain ⟨h1,h2⟩:=List.getElem?_eq_some_iff.1 h
 unfold iz;rw [List.drop_eq_getElem_cons h1,h2]
theorem ng {s:List UInt8} {n:Nat} (h:s.length≤n):iz s n=n:=by
 unfold iz;rw [List.drop_eq_nil_of_le h]
theorem kM (s:List UInt8) (n:Nat):(n=0)∨(0<n∧s.length≤n)∨(0<n∧n<s.length∧∃ d,s[n]? =some d):=by
 by_cases h:n=0
 ·exact .inl h
 ·by_cases h2:n<s.length
  ·exact .inr (.inr ⟨by omega,h2,_,List.getElem?_eq_getElem h2⟩)
  ·exact .inr (.inl ⟨by omega,by omega⟩)
theorem Ch (l:List UInt8):(cP l).2≤l.length+1:=by
 unfold cP;split<;>simp
theorem _root_.Nb {p:Prop} (h:p:=by first|(simp [ax,rvS];done)|(simp only [ax,rvS,↓R1,RR,seval,q1,q2,q3,h0,h1,h2,e1,hw];try simp)):p:=h
theorem _root_.N1 {p:Prop} (h:p:=by simp only [St.set_set];exact St.le_refl _):p:=h
set_option maxHeartbeats 4000000 in
theorem MM (c:UInt8) (r:List UInt8) (hs:r.length≤800000):Pu Tryz.prog 158 [.str (c::r)] (.tup [.agg [.bool (lL (c::r)).1, .str (lL (c::r)).2.1, .int .i64 0], .int .i64 ((lL (c::r)).2.2:Nat)]):=by
  have hl0:(c::r).length=r.length+1:=rfl
  have h0:(c::r)[0]? =some c:=rfl
  have q1:True:=trivial
  have q2:True:=trivial
  have q3:True:=trivial
  have h1:True:=trivial
  have h2:True:=trivial
  have e1:True:=trivial
  have hw:True:=trivial
  by_cases hc:c=34
  · have e1:((c.toNat:Int) == 34)=true:=by rw [hc];rfl
    have pq:=ML c r MX
    have hv:lL (c::r)=(true,(cP r).1,iz (c::r) (cP r).2):=by simp [lL,hc]
    have hle:=Ch r
    rw [hv]
    generalize hS:c::r=s at h0 hl0 pq
    generalize (cP r).1=t at pq
    generalize (cP r).2=n at pq hle
    rcases kM s n with hn|⟨hn,hn2⟩|⟨hn,hn2,d,h2⟩
    · have q2:decide ((0:Int)<(n:Int))=false:=by rw [decide_eq_false_iff_not];omega
      have hen:iz s n=n:=by rw [hn];exact gn s
      rw [hen]
      (refine al mC Bp fun σ=>?_;simp only [mC,↓R1,RR,seval,q1,q2,q3,h0,h1,h2,e1,hw])
      repeat' (first|(with_reducible rw [ai])|(with_reducible refine And.intro ?_ ?_;exact af)|((first|(with_reducible intro β hβ;(try simp only [RB] at hβ);(repeat (obtain ⟨⟨_,_⟩,hβ⟩:=hβ));(try (have hbis:=ah M0 hβ;obtain ⟨_,_⟩:=hbis)))|(refine Pt (pq) ?_))<;>(try simp only [↓R1,RR,seval,q1,q2,q3,h0,h1,h2,e1,hw])))
      all_goals all_goals first|omega|exact Nat.le_refl _|assumption|exact St.le_refl _|(exact af)|(simp only [av,slot,ae,↓R1,RR,seval,q1,q2,q3,h0,h1,h2,e1,hw];all_goals exact bE)|exact bu|(simp_all;done)|skip
      all_goals (refine ak (ag ?_) Nb)
      all_goals (first|((simp only [aq,↓R1,RR,seval,q1,q2,q3,h0,h1,h2,e1,hw]);done)|((simp only [aq,↓R1,RR,seval,q1,q2,q3,h0,h1,h2,e1,hw]);rw [htk]))
    · have q2:decide ((0:Int)<(n:Int))=true:=by rw [decide_eq_true_eq];omega
      have q3:decide ((n:Int)<(s.length:Int))=false:=Nk
      rw [ng hn2]
      (refine al mC Bp fun σ=>?_;simp only [mC,↓R1,RR,seval,q1,q2,q3,h0,h1,h2,e1,hw])
      repeat' (first|(with_reducible rw [ai])|(with_reducible refine And.intro ?_ ?_;exact af)|((first|(with_reducible intro β hβ;(try simp only [RB] at hβ);(repeat (obtain ⟨⟨_,_⟩,hβ⟩:=hβ));(try (have hbis:=ah M0 hβ;obtain ⟨_,_⟩:=hbis)))|(refine Pt (pq) ?_))<;>(try simp only [↓R1,RR,seval,q1,q2,q3,h0,h1,h2,e1,hw])))
      all_goals all_goals first|omega|exact Nat.le_refl _|assumption|exact St.le_refl _|(exact af)|(simp only [av,slot,ae,↓R1,RR,seval,q1,q2,q3,h0,h1,h2,e1,hw];all_goals exact bE)|exact bu|(simp_all;done)|skip
      all_goals (refine ak (ag ?_) Nb)
      all_goals (first|((simp only [aq,↓R1,RR,seval,q1,q2,q3,h0,h1,h2,e1,hw]);done)|((simp only [aq,↓R1,RR,seval,q1,q2,q3,h0,h1,h2,e1,hw]);rw [htk]))
    · have q2:decide ((0:Int)<(n:Int))=true:=by rw [decide_eq_true_eq];omega
      have q3:decide ((n:Int)<(s.length:Int))=true:=M3
      have pb:=E0 d
      rw [qd h2]
      cases hb:aJ d with
      | true =>
        rw [hb] at pb
        (refine al mC Bp fun σ=>?_;simp only [mC,↓R1,RR,seval,q1,q2,q3,h0,h1,h2,e1,hw])
        repeat' (first|(with_reducible rw [ai])|(with_reducible refine And.intro ?_ ?_;exact af)|((first|(with_reducible intro β hβ;(try simp only [RB] at hβ);(repeat (obtain ⟨⟨_,_⟩,hβ⟩:=hβ));(try (have hbis:=ah M0 hβ;obtain ⟨_,_⟩:=hbis)))|(refine Pt (pq) ?_)|(refine Pt (pb) ?_))<;>(try simp only [↓R1,RR,seval,q1,q2,q3,h0,h1,h2,e1,hw])))
        all_goals all_goals first|omega|exact Nat.le_refl _|assumption|exact St.le_refl _|(exact af)|(simp only [av,slot,ae,↓R1,RR,seval,q1,q2,q3,h0,h1,h2,e1,hw];all_goals exact bE)|exact bu|(simp_all;done)|skip
        all_goals (refine ak (ag ?_) Nb)
        all_goals (first|((simp only [aq,↓R1,RR,seval,q1,q2,q3,h0,h1,h2,e1,hw]);done)|((simp only [aq,↓R1,RR,seval,q1,q2,q3,h0,h1,h2,e1,hw]);rw [htk]))
      | false =>
        rw [hb] at pb
        (refine al mC Bp fun σ=>?_;simp only [mC,↓R1,RR,seval,q1,q2,q3,h0,h1,h2,e1,hw])
        repeat' (first|(with_reducible rw [ai])|(with_reducible refine And.intro ?_ ?_;exact af)|((first|(with_reducible intro β hβ;(try simp only [RB] at hβ);(repeat (obtain ⟨⟨_,_⟩,hβ⟩:=hβ));(try (have hbis:=ah M0 hβ;obtain ⟨_,_⟩:=hbis)))|(refine Pt (pq) ?_)|(refine Pt (pb) ?_))<;>(try simp only [↓R1,RR,seval,q1,q2,q3,h0,h1,h2,e1,hw])))
        all_goals all_goals first|omega|exact Nat.le_refl _|assumption|exact St.le_refl _|(exact af)|(simp only [av,slot,ae,↓R1,RR,seval,q1,q2,q3,h0,h1,h2,e1,hw];all_goals exact bE)|exact bu|(simp_all;done)|skip
        all_goals (refine ak (ag ?_) Nb)
        all_goals (first|((simp only [aq,↓R1,RR,seval,q1,q2,q3,h0,h1,h2,e1,hw]);done)|((simp only [aq,↓R1,RR,seval,q1,q2,q3,h0,h1,h2,e1,hw]);rw [htk]))
  · have e1:((c.toNat:Int) == 34)=false:=j9 (n:=34) MX hc
    have hv:lL (c::r)=(false,(c::r).takeWhile aI,iz (c::r) ((c::r).takeWhile aI).length):=by simp [lL,hc]
    rw [hv]
    have hle:=E2 (c::r)
    have htk:=yv (c::r)
    generalize hS:c::r=s at h0 hl0 hle htk
    simp only at htk ⊢
    generalize hn0:(s.takeWhile aI).length=n at hle htk
    (refine al mC Bp fun σ=>?_;simp only [mC,↓R1,RR,seval,q1,q2,q3,h0,h1,h2,e1,hw])
    repeat' (first|(with_reducible rw [ai])|(with_reducible refine And.intro ?_ ?_;exact af)|((with_reducible intro β hβ;(try simp only [RB] at hβ);(repeat (obtain ⟨⟨_,_⟩,hβ⟩:=hβ));(try (have hbis:=ah M0 hβ;obtain ⟨_,_⟩:=hbis)))<;>(try simp only [↓R1,RR,seval,q1,q2,q3,h0,h1,h2,e1,hw])))
    rename_i b2 hb2 p1 p2
    refine aQ n (fun k=> [(0, .str s),(2, .ptr b2 0),(4, .ptr β 0),(5, .int .i64 (k:Nat))]) (fun _=>(σ.aa b2 [.bool false, .str [], .int .i64 0]).aa β [.bool false, .str [], .int .i64 0]) (fun _=>True) M8 N1 trivial (fun k hk _=>?_)
    have hst:=yu (s:=s) (k:=k) (by rw [hn0];exact hk)
    rw [hn0] at hst
    by_cases hlt:k<n
    · obtain ⟨d,h1,hbd⟩:=hst.1 hlt
      have q1:decide ((k:Int)<(s.length:Int))=true:=M3
      have hw:IntKind.i64.wrap ((k:Int)+1)=((k+1:Nat):Int):=MZ
      have pp:=Im d
      rw [hbd] at pp
      simp only [q1,↓R1,RR,seval,q1,q2,q3,h0,h1,h2,e1,hw]
      repeat' (first|(with_reducible refine And.intro ?_ ?_;exact af)|(with_reducible apply And.intro)|((refine Pt (pp) ?_)<;>(try simp only [↓R1,RR,seval,q1,q2,q3,h0,h1,h2,e1,hw])))
      all_goals all_goals first|omega|exact Nat.le_refl _|assumption|exact St.le_refl _|(exact af)|(simp only [av,slot,ae,↓R1,RR,seval,q1,q2,q3,h0,h1,h2,e1,hw];all_goals exact bE)|exact bu|(simp_all;done)|skip
      all_goals first|(simp [av,slot,ae];done)|(exact St.le_refl _)
    · have hke:k=n:=by omega
      subst hke
      by_cases hkl:k<s.length
      · obtain ⟨d1,h1⟩:∃ d,s[k]? =some d:=⟨_,List.getElem?_eq_getElem hkl⟩
        have hbd:aI d1=false:=by
          cases hb:aI d1 with
          | false=>rfl
          | true=>exact (hlt (hst.2 ⟨d1,h1,hb⟩)).elim
        have q1:decide ((k:Int)<(s.length:Int))=true:=M3
        have pp:=Im d1
        rw [hbd] at pp
        rcases kM s k with hn|⟨hn,hn2⟩|⟨hn,hn2,d,h2⟩
        · have q2:decide ((0:Int)<(k:Int))=false:=by rw [decide_eq_false_iff_not];omega
          have hen:iz s k=k:=by rw [hn];exact gn s
          rw [hen]
          simp only [q1,htk,↓R1,RR,seval,q1,q2,q3,h0,h1,h2,e1,hw]
          repeat' (first|(with_reducible refine And.intro ?_ ?_;exact af)|((refine Pt (pp) ?_)<;>(try simp only [↓R1,RR,seval,q1,q2,q3,h0,h1,h2,e1,hw])))
          all_goals all_goals first|omega|exact Nat.le_refl _|assumption|exact St.le_refl _|(exact af)|(simp only [av,slot,ae,↓R1,RR,seval,q1,q2,q3,h0,h1,h2,e1,hw];all_goals exact bE)|exact bu|(simp_all;done)|skip
          all_goals (refine ak (ag ?_) Nb)
          all_goals (first|((simp only [aq,↓R1,RR,seval,q1,q2,q3,h0,h1,h2,e1,hw]);done)|((simp only [aq,↓R1,RR,seval,q1,q2,q3,h0,h1,h2,e1,hw]);rw [htk]))
        · have q2:decide ((0:Int)<(k:Int))=true:=by rw [decide_eq_true_eq];omega
          have q3:decide ((k:Int)<(s.length:Int))=false:=Nk
          rw [ng hn2]
          simp only [q1,htk,↓R1,RR,seval,q1,q2,q3,h0,h1,h2,e1,hw]
          repeat' (first|(with_reducible refine And.intro ?_ ?_;exact af)|((refine Pt (pp) ?_)<;>(try simp only [↓R1,RR,seval,q1,q2,q3,h0,h1,h2,e1,hw])))
          all_goals all_goals first|omega|exact Nat.le_refl _|assumption|exact St.le_refl _|(exact af)|(simp only [av,slot,ae,↓R1,RR,seval,q1,q2,q3,h0,h1,h2,e1,hw];all_goals exact bE)|exact bu|(simp_all;done)|skip
          all_goals (refine ak (ag ?_))
          all_goals (first|((simp only [aq,↓R1,RR,seval,q1,q2,q3,h0,h1,h2,e1,hw]);done)|((simp only [aq,↓R1,RR,seval,q1,q2,q3,h0,h1,h2,e1,hw]);rw [htk]))
        · have q2:decide ((0:Int)<(k:Int))=true:=by rw [decide_eq_true_eq];omega
          have q3:decide ((k:Int)<(s.length:Int))=true:=M3
          have hdd:d1=d:=by rw [h1] at h2;exact Option.some.inj h2
          subst hdd
          have pb:=E0 d1
          rw [qd h2]
          cases hb:aJ d1 with
          | true =>
            rw [hb] at pb
            simp only [q1,htk,↓R1,RR,seval,q1,q2,q3,h0,h1,h2,e1,hw]
            repeat' (first|(with_reducible refine And.intro ?_ ?_;exact af)|((first|(refine Pt (pp) ?_)|(refine Pt (pb) ?_))<;>(try simp only [↓R1,RR,seval,q1,q2,q3,h0,h1,h2,e1,hw])))
            all_goals all_goals first|omega|exact Nat.le_refl _|assumption|exact St.le_refl _|(exact af)|(simp only [av,slot,ae,↓R1,RR,seval,q1,q2,q3,h0,h1,h2,e1,hw];all_goals exact bE)|exact bu|(simp_all;done)|skip
            all_goals (refine ak (ag ?_) Nb)
            all_goals (first|((simp only [aq,↓R1,RR,seval,q1,q2,q3,h0,h1,h2,e1,hw]);done)|((simp only [aq,↓R1,RR,seval,q1,q2,q3,h0,h1,h2,e1,hw]);rw [htk]))
          | false =>
            rw [hb] at pb
            simp only [q1,htk,↓R1,RR,seval,q1,q2,q3,h0,h1,h2,e1,hw]
            repeat' (first|(with_reducible refine And.intro ?_ ?_;exact af)|((first|(refine Pt (pp) ?_)|(refine Pt (pb) ?_))<;>(try simp only [↓R1,RR,seval,q1,q2,q3,h0,h1,h2,e1,hw])))
            all_goals all_goals first|omega|exact Nat.le_refl _|assumption|exact St.le_refl _|(exact af)|(simp only [av,slot,ae,↓R1,RR,seval,q1,q2,q3,h0,h1,h2,e1,hw];all_goals exact bE)|exact bu|(simp_all;done)|skip
            all_goals (refine ak (ag ?_) Nb)
            all_goals (first|((simp only [aq,↓R1,RR,seval,q1,q2,q3,h0,h1,h2,e1,hw]);done)|((simp only [aq,↓R1,RR,seval,q1,q2,q3,h0,h1,h2,e1,hw]);rw [htk]))
      · have q1:decide ((k:Int)<(s.length:Int))=false:=by rw [decide_eq_false_iff_not];omega
        rcases kM s k with hn|⟨hn,hn2⟩|⟨hn,hn2,d,h2⟩
        · have q2:decide ((0:Int)<(k:Int))=false:=by rw [decide_eq_false_iff_not];omega
          have hen:iz s k=k:=by rw [hn];exact gn s
          rw [hen]
          simp only [q1,htk,↓R1,RR,seval,q1,q2,q3,h0,h1,h2,e1,hw]
          repeat' (with_reducible refine And.intro ?_ ?_;exact af)
          all_goals all_goals first|omega|exact Nat.le_refl _|assumption|exact St.le_refl _|(exact af)|(simp only [av,slot,ae,↓R1,RR,seval,q1,q2,q3,h0,h1,h2,e1,hw];all_goals exact bE)|exact bu|(simp_all;done)|skip
          all_goals (refine ak (ag ?_))
          all_goals (first|((simp only [aq,↓R1,RR,seval,q1,q2,q3,h0,h1,h2,e1,hw]);done)|((simp only [aq,↓R1,RR,seval,q1,q2,q3,h0,h1,h2,e1,hw]);rw [htk]))
        · have q2:decide ((0:Int)<(k:Int))=true:=by rw [decide_eq_true_eq];omega
          have q3:decide ((k:Int)<(s.length:Int))=false:=Nk
          rw [ng hn2]
          simp only [q1,htk,↓R1,RR,seval,q1,q2,q3,h0,h1,h2,e1,hw]
          repeat' (with_reducible refine And.intro ?_ ?_;exact af)
          all_goals all_goals first|omega|exact Nat.le_refl _|assumption|exact St.le_refl _|(exact af)|(simp only [av,slot,ae,↓R1,RR,seval,q1,q2,q3,h0,h1,h2,e1,hw];all_goals exact bE)|exact bu|(simp_all;done)|skip
          all_goals (refine ak (ag ?_) Nb)
          all_goals (first|((simp only [aq,↓R1,RR,seval,q1,q2,q3,h0,h1,h2,e1,hw]);done)|((simp only [aq,↓R1,RR,seval,q1,q2,q3,h0,h1,h2,e1,hw]);rw [htk]))
        · have q2:decide ((0:Int)<(k:Int))=true:=by rw [decide_eq_true_eq];omega
          have q3:decide ((k:Int)<(s.length:Int))=true:=M3
          have pb:=E0 d
          rw [qd h2]
          cases hb:aJ d with
          | true =>
            rw [hb] at pb
            simp only [q1,htk,↓R1,RR,seval,q1,q2,q3,h0,h1,h2,e1,hw]
            repeat' (with_reducible refine And.intro ?_ ?_;exact af)
            all_goals all_goals first|omega|exact Nat.le_refl _|assumption|exact St.le_refl _|(exact af)|(simp only [av,slot,ae,↓R1,RR,seval,q1,q2,q3,h0,h1,h2,e1,hw];all_goals exact bE)|exact bu|(simp_all;done)|skip
            all_goals (refine ak (ag ?_))
            all_goals (first|((simp only [aq,↓R1,RR,seval,q1,q2,q3,h0,h1,h2,e1,hw]);done)|((simp only [aq,↓R1,RR,seval,q1,q2,q3,h0,h1,h2,e1,hw]);rw [htk]))
          | false =>
            rw [hb] at pb
            simp only [q1,htk,↓R1,RR,seval,q1,q2,q3,h0,h1,h2,e1,hw]
            repeat' (with_reducible refine And.intro ?_ ?_;exact af)
            all_goals all_goals first|omega|exact Nat.le_refl _|assumption|exact St.le_refl _|(exact af)|(simp only [av,slot,ae,↓R1,RR,seval,q1,q2,q3,h0,h1,h2,e1,hw];all_goals exact bE)|exact bu|(simp_all;done)|skip
            all_goals (refine ak (ag ?_))
            all_goals (first|((simp only [aq,↓R1,RR,seval,q1,q2,q3,h0,h1,h2,e1,hw]);done)|((simp only [aq,↓R1,RR,seval,q1,q2,q3,h0,h1,h2,e1,hw]);rw [htk]))
theorem yw {c:UInt8} {r:List UInt8} (h:cj (c::r)=none):(lL (c::r)).2.2=0:=by
 unfold cj at h
 simp only at h
 unfold lL
 simp only
 split at h
 ·rename_i hc
  rw [if_pos hc]
  simp only
  split at h
  ·rename_i t r' hq
   split at h
   ·cases h
   ·rename_i he
    have hlen:=kC hq
    obtain ⟨p,hp⟩:=iN hq
    have hv:(cP r).2=(c::r).length - r'.length:=by simp [cP,hq]
    have hd:(c::r).drop ((c::r).length - r'.length)=r':=by
     rw [←hp,show (c::(p++r')).length - r'.length=(c::p).length by simp;omega,←List.cons_append,List.drop_left'];rfl
    unfold iz
    rw [hv,hd]
    cases r' with
    | nil=>simp [fv] at he
    | cons d r'=>simp only [fv] at he;simp only;rw [if_neg he]
  ·rename_i hq
   have hv:(cP r).2=0:=by simp [cP,hq]
   rw [hv,gn]
 ·rename_i hc
  rw [if_neg hc]
  simp only
  split at h
  ·rename_i he
   rw [List.isEmpty_iff.1 he];exact gn _
  ·split at h
   ·cases h
   ·rename_i he
    have hd:(c::r).drop ((c::r).takeWhile aI).length=(c::r).dropWhile aI:=by
     have h:=List.takeWhile_append_dropWhile (p:=aI) (l:=c::r)
     have e:(c::r).drop ((c::r).takeWhile aI).length=((c::r).takeWhile aI++(c::r).dropWhile aI).drop ((c::r).takeWhile aI).length:=by rw [h]
     rw [e,List.drop_left'];rfl
    unfold iz
    rw [hd]
    cases hx:(c::r).dropWhile aI with
    | nil=>rw [hx] at he;simp [fv] at he
    | cons d r'=>rw [hx] at he;simp only [fv] at he;simp only;rw [if_neg he]
theorem yx {c:UInt8} {r t r':List UInt8} {q:Bool} (h:cj (c::r)=some (q,t,r')):lL (c::r)=(q,t,(c::r).length - r'.length):=by
 unfold cj at h
 simp only at h
 unfold lL
 simp only
 split at h
 ·rename_i hc
  rw [if_pos hc]
  split at h
  ·rename_i t1 r1 hq
   split at h
   ·rename_i he
    cases h
    have hlen:=kC hq
    obtain ⟨p,hp⟩:=iN hq
    have hv:cP r=(t,(c::r).length - r'.length):=by simp [cP,hq]
    have hd:(c::r).drop ((c::r).length - r'.length)=r':=by
     rw [←hp,show (c::(p++r')).length - r'.length=(c::p).length by simp;omega,←List.cons_append,List.drop_left'];rfl
    rw [hv]
    simp only [iz,hd]
    cases r' with
    | nil=>rfl
    | cons d r'=>simp only [fv] at he;simp only;rw [if_pos he]
   ·cases h
  ·cases h
 ·rename_i hc
  rw [if_neg hc]
  split at h
  ·cases h
  ·split at h
   ·rename_i he
    cases h
    have hk:=List.takeWhile_append_dropWhile (p:=aI) (l:=c::r)
    have hd:(c::r).drop ((c::r).takeWhile aI).length=(c::r).dropWhile aI:=by
     have e:(c::r).drop ((c::r).takeWhile aI).length=((c::r).takeWhile aI++(c::r).dropWhile aI).drop ((c::r).takeWhile aI).length:=by rw [hk]
     rw [e,List.drop_left'];rfl
    have hl:((c::r).takeWhile aI).length=(c::r).length - ((c::r).dropWhile aI).length:=by
     have:=congrArg List.length hk;rw [List.length_append] at this;omega
    simp only [iz,hd]
    cases hx:(c::r).dropWhile aI with
    | nil=>rw [hx] at hl;rw [hl]
    | cons d r'=>rw [hx] at he hl;simp only [fv] at he;simp only;rw [if_pos he,hl]
   ·cases h
def iO (e:Except Nat (List Wd)):AV:=match e with
 | .ok ws=> .tup [.sl false ws.length (ws.flatMap cWd), .agg [.int .i64 0, .int .i64 0]]
 | .error p=> .tup [.sl false 0 [], .agg [.int .i64 3, .int .i64 (p:Nat)]]
theorem qe {c:UInt8} {r:List UInt8} (h:aJ c=true) (a:Nat):bL (c::r) a=bL r (a+1):=by
 have hd:=bY aJ r
 rw [fI (c::r),fI r,List.dropWhile_cons,if_pos h]
 congr 1
 simp;omega
theorem gK {c:UInt8} {r:List UInt8} (h:aJ c=false):(c::r).dropWhile aJ=c::r:=by rw [List.dropWhile_cons,if_neg (by rw [h];decide)]
theorem sw {c:UInt8} {r:List UInt8} (h:aJ c=false) (h2:c≠35) (hw:cj (c::r)=none) (a:Nat):bL (c::r) a= .error a:=by
 rw [cG,gK h]
 simp only [if_neg h2,hw,Nat.sub_self,Nat.add_zero]
theorem sx {c:UInt8} {r t r':List UInt8} {q:Bool} (h:aJ c=false) (h2:c≠35) (hw:cj (c::r)=some (q,t,r')) (a:Nat):bL (c::r) a=iZ ⟨q,t,a⟩ (bL r' (a+((c::r).length - r'.length))):=by
 rw [cG,gK h]
 simp only [if_neg h2,hw,Nat.sub_self,Nat.add_zero]
theorem sy {c:UInt8} {r:List UInt8} (h:aJ c=false) (h2:c=35) (a:Nat):bL (c::r) a= .ok []:=by
 rw [cG,gK h]
 simp only [if_pos h2]
theorem uM (a:Nat):bL [] a= .ok []:=rfl
theorem yy (p:List Wd) (w:Wd) (e:Except Nat (List Wd)):im p (iZ w e)=im (p++ [w]) e:=by cases e<;>simp [im,iZ]
theorem qf {a b:St} {τ:Nat} {x:Nat × Nat × Nat} (h:St.le a b):St.le (a.ao τ x) (b.ao τ x):=by
 refine ⟨h.1,fun υ y hy=>?_,h.2.2⟩
 simp only [St.ao,upd] at hy ⊢
 split
 ·rename_i e;rw [if_pos e] at hy;exact hy
 ·rename_i e;rw [if_neg e] at hy;exact h.2.1 _ _ hy
theorem Ci (ws:List Wd) (q:Bool) (t:List UInt8) (k:Nat):(ws++ [Wd.mk q t k]).flatMap cWd=ws.flatMap cWd++ [.bool q, .str t, .int .i64 (k:Nat)]:=by simp [cWd]
theorem _root_.Nw {p:Prop} (h:p:=by first|(simp [ax,rvS];done)|(simp only [ax,rvS,↓R1,RR,seval,q1,h1,e1,hsl,hw,hw2,hov1,hov2,ar];try simp)):p:=h
set_option maxHeartbeats 4000000 in
theorem p99 (s:List UInt8) (a:Nat) (hs:s.length≤800000) (haa:a≤1000000):Pu Tryz.prog 99 [.str s, .int .i64 a] (iO (bL s a)):=by
  have q1:True:=trivial
  have h1:True:=trivial
  have e1:True:=trivial
  have hsl:True:=trivial
  have hw:True:=trivial
  have hw2:True:=trivial
  have hov1:True:=trivial
  have hov2:True:=trivial
  (refine al c99 b99 fun σ=>?_;simp only [c99,↓R1,RR,seval,q1,h1,e1,hsl,hw,hw2,hov1,hov2,ar])
  rw [ai];intro β hβ;simp only [↓R1,RR,seval,q1,h1,e1,hsl,hw,hw2,hov1,hov2,ar]
  refine iL (α:=Nat × List Wd) 6 109 3 0 [] (fun τ x=> [(0, .str s),(1, .int .i64 (a:Nat)),(5, .ptr β 0),(6, .tsl τ x.2.length (x.2.flatMap cWd)),(7, .int .i64 (x.1:Nat))]) (fun τ x=>(σ.aa β [.int .i64 0, .int .i64 0]).ao τ (109,3,x.2.length))
    (fun x=>x.1≤s.length∧x.2.length≤x.1∧bL s a=im x.2 (bL (s.drop x.1) (a+x.1))) (fun x=>s.length - x.1) (0,[]) trivial rfl ⟨by simp,by simp,by simp only [List.drop_zero,Nat.add_zero,rR]⟩ (fun τ hτ=>by simp [av,slot,ae]) (fun τ hτ=>St.le_refl _) ?_
  rintro τ hτ ⟨k,ws⟩ ⟨hk,hkw,hI⟩
  have htt:((σ.aa β [.int .i64 0, .int .i64 0]).ao τ (109,3,ws.length)).tip τ=some (109,3,ws.length):=NK
  simp only at hk hkw hI ⊢
  cases hd:s.drop k with
  | nil =>
    have hke:s.length≤k:=ND
    have q1:decide ((k:Int)<(s.length:Int))=false:=Nk
    rw [hd,uM] at hI
    rw [hI,im,List.append_nil,iO]
    simp only [q1,↓R1,RR,seval,q1,h1,e1,hsl,hw,hw2,hov1,hov2,ar]
    skip
    all_goals all_goals first|omega|exact Nat.le_refl _|assumption|exact St.le_refl _|(intros;(repeat' (with_reducible apply And.intro))<;>first|omega|(simp only [RZ,ar];omega))|(simp only [av,slot,ae,↓R1,RR,seval,q1,h1,e1,hsl,hw,hw2,hov1,hov2,ar];all_goals exact bE)|exact bu|(simp_all;done)|skip
    all_goals (refine ak ?_ Nw)
    all_goals (simp only [aq,↓R1,RR,seval,q1,h1,e1,hsl,hw,hw2,hov1,hov2,ar];all_goals exact cW)
  | cons c r =>
    have hlt:k<s.length:=by
      have:=congrArg List.length hd;rw [List.length_drop] at this;simp at this;omega
    have hrl:r.length=s.length - (k+1):=ND
    have q1:decide ((k:Int)<(s.length:Int))=true:=M3
    obtain ⟨h1,_,hd1'⟩:=b9 hd
    have hw:IntKind.i64.wrap ((k:Int)+1)=((k+1:Nat):Int):=MZ
    have hw2:IntKind.i64.wrap ((a:Int)+(k:Int))=((a+k:Nat):Int):=MZ
    have pb:=E0 c
    rw [hd] at hI
    cases hb:aJ c with
    | true =>
      rw [hb] at pb
      rw [qe hb] at hI
      simp only [q1,↓R1,RR,seval,q1,h1,e1,hsl,hw,hw2,hov1,hov2,ar]
      repeat' (first|(with_reducible refine And.intro ?_ ?_;focus (intros;(repeat' (with_reducible apply And.intro))<;>first|omega|(simp only [RZ,ar];omega)))|((refine Pt (pb) ?_)<;>(try simp only [↓R1,RR,seval,q1,h1,e1,hsl,hw,hw2,hov1,hov2,ar])))
      all_goals all_goals first|omega|exact Nat.le_refl _|assumption|exact St.le_refl _|(intros;(repeat' (with_reducible apply And.intro))<;>first|omega|(simp only [RZ,ar];omega))|(simp only [av,slot,ae,↓R1,RR,seval,q1,h1,e1,hsl,hw,hw2,hov1,hov2,ar];all_goals exact bE)|exact bu|(simp_all;done)|skip
      refine ⟨(k+1,ws),⟨by simp;omega,by simp;omega,by simp only [hd1'];exact hI⟩,?_,St.le_refl _,by simp;omega⟩
      simp [av,slot,ae]
    | false =>
      rw [hb] at pb
      by_cases hc:c=35
      · have e1:((c.toNat:Int) == 35)=true:=by rw [hc];rfl
        rw [sy hb hc] at hI
        rw [hI,im,List.append_nil,iO]
        simp only [q1,↓R1,RR,seval,q1,h1,e1,hsl,hw,hw2,hov1,hov2,ar]
        repeat' (first|(with_reducible refine And.intro ?_ ?_;focus (intros;(repeat' (with_reducible apply And.intro))<;>first|omega|(simp only [RZ,ar];omega)))|((refine Pt (pb) ?_)<;>(try simp only [↓R1,RR,seval,q1,h1,e1,hsl,hw,hw2,hov1,hov2,ar])))
        all_goals all_goals first|omega|exact Nat.le_refl _|assumption|exact St.le_refl _|(intros;(repeat' (with_reducible apply And.intro))<;>first|omega|(simp only [RZ,ar];omega))|(simp only [av,slot,ae,↓R1,RR,seval,q1,h1,e1,hsl,hw,hw2,hov1,hov2,ar];all_goals exact bE)|exact bu|(simp_all;done)|skip
        all_goals (refine ak ?_ Nw)
        all_goals (simp only [aq,↓R1,RR,seval,q1,h1,e1,hsl,hw,hw2,hov1,hov2,ar];all_goals exact cW)
      · have e1:((c.toNat:Int) == 35)=false:=j9 (n:=35) MX hc
        have po:=MM c r MX
        have hsl:(s.drop k).take (s.length - k)=c::r:=by rw [hd];exact List.take_of_length_le Ng
        cases hwd:cj (c::r) with
        | none =>
          have hn:=yw hwd
          rw [sw hb hc hwd] at hI
          rw [hI,im,iO]
          generalize lL (c::r)=ov at po hn
          have hov1:(((ov.2.2:Nat):Int) == 0)=true:=by rw [hn];rfl
          have pf:=p98 3 ((a+k:Nat):Int)
          simp only [q1,↓R1,RR,seval,q1,h1,e1,hsl,hw,hw2,hov1,hov2,ar]
          repeat' (first|(with_reducible rw [ai])|(with_reducible refine And.intro ?_ ?_;focus (intros;(repeat' (with_reducible apply And.intro))<;>first|omega|(simp only [RZ,ar];omega)))|((first|(with_reducible intro β hβ;(try simp only [RB] at hβ);(repeat (obtain ⟨⟨_,_⟩,hβ⟩:=hβ));(try (have hbis:=ah M0 hβ;obtain ⟨_,_⟩:=hbis)))|(refine Pt (pb) ?_)|(refine Pt (po) ?_)|(refine Pt (pf) ?_))<;>(try simp only [↓R1,RR,seval,q1,h1,e1,hsl,hw,hw2,hov1,hov2,ar])))
          all_goals all_goals first|omega|exact Nat.le_refl _|assumption|exact St.le_refl _|(intros;(repeat' (with_reducible apply And.intro))<;>first|omega|(simp only [RZ,ar];omega))|(simp only [av,slot,ae,↓R1,RR,seval,q1,h1,e1,hsl,hw,hw2,hov1,hov2,ar];all_goals exact bE)|exact bu|(simp_all;done)|skip
          all_goals (refine ak ?_ Nw)
          all_goals (simp only [aq,↓R1,RR,seval,q1,h1,e1,hsl,hw,hw2,hov1,hov2,ar];all_goals exact cW)
        | some x =>
          obtain ⟨q,t,r'⟩:=x
          have hn:=yx hwd
          rw [sx hb hc hwd,yy] at hI
          rw [hn] at po
          have hlen:=dF hwd
          have hsuf:=kF hwd
          have hlc:(c::r).length=s.length - k:=by rw [←hd,List.length_drop]
          generalize hnn:(c::r).length - r'.length=n at po hI
          have hdn:s.drop (k+n)=r':=by
            obtain ⟨p,hp⟩:=hsuf
            rw [←List.drop_drop,hd,←hp,show n=p.length by rw [←hnn,←hp];simp,List.drop_left'];rfl
          have hov1:(((n:Nat):Int) == 0)=false:=by rw [beq_eq_false_iff_ne];omega
          have hov2:IntKind.i64.wrap ((k:Int)+(n:Int))=((k+n:Nat):Int):=MZ
          simp only at po
          simp only [q1,↓R1,RR,seval,q1,h1,e1,hsl,hw,hw2,hov1,hov2,ar]
          repeat' (first|(with_reducible rw [ai])|(with_reducible refine And.intro ?_ ?_;focus (intros;(repeat' (with_reducible apply And.intro))<;>first|omega|(simp only [RZ,ar];omega)))|((first|(with_reducible intro β hβ;(try simp only [RB] at hβ);(repeat (obtain ⟨⟨_,_⟩,hβ⟩:=hβ));(try (have hbis:=ah M0 hβ;obtain ⟨_,_⟩:=hbis)))|(refine Pt (pb) ?_)|(refine Pt (po) ?_))<;>(try simp only [↓R1,RR,seval,q1,h1,e1,hsl,hw,hw2,hov1,hov2,ar])))
          all_goals all_goals first|omega|exact Nat.le_refl _|assumption|exact St.le_refl _|(intros;(repeat' (with_reducible apply And.intro))<;>first|omega|(simp only [RZ,ar];omega))|(simp only [av,slot,ae,↓R1,RR,seval,q1,h1,e1,hsl,hw,hw2,hov1,hov2,ar];all_goals exact bE)|exact bu|(simp_all;done)|skip
          refine aV rfl ?_ ?_ ?_ ?_ ?_ ?_
          · simp only [↓R1,RR,seval,q1,h1,e1,hsl,hw,hw2,hov1,hov2,ar]
          · simp only [↓R1,RR,seval,q1,h1,e1,hsl,hw,hw2,hov1,hov2,ar]
          · rfl
          · unfold maxLen;omega
          · omega
          simp only [↓R1,RR,seval,q1,h1,e1,hsl,hw,hw2,hov1,hov2,ar]
          refine ⟨(k+n,ws++ [⟨q,t,a+k⟩]),⟨by simp;omega,by simp;omega,by simp only [hdn];rw [hI,Nat.add_assoc]⟩,?_,?_,by simp;omega⟩
          · simp only [Ci,List.length_append,List.length_singleton];simp [av,slot,ae]
          · simp only [List.length_append,List.length_singleton]
            exact qf (St.aO (St.le_refl _) (St.aE.2 ⟨⟨inferInstance,inferInstance⟩,hβ⟩))
def shE (a:Nat):Except Nat (List Wd)→Except Nat (List Wd)
 | .error b=> .error (a+b)
 | .ok ws=> .ok (ws.map (dc a))
theorem Cj (a:Nat) (w:Wd) (e:Except Nat (List Wd)):shE a (iZ w e)=iZ (dc a w) (shE a e):=by cases e<;>rfl
theorem qg:∀ (n:Nat) (l:List UInt8) (a b:Nat),l.length≤n→bL l (a+b)=shE a (bL l b):=by
  intro n
  induction n with
  | zero =>
    intro l a b h
    have:l= []:=List.eq_nil_of_length_eq_zero MX
    subst this;rfl
  | succ n ih =>
    intro l a b h
    have hd:=bY aJ l
    rw [cG l (a+b),cG l b]
    cases hl:l.dropWhile aJ with
    | nil=>rfl
    | cons c r =>
      rw [hl] at hd
      simp only
      by_cases h35:c=35
      · rw [if_pos h35,if_pos h35];rfl
      · rw [if_neg h35,if_neg h35]
        cases hw:cj (c::r) with
        | none=>simp only [shE,Nat.add_assoc]
        | some q =>
          obtain ⟨q,t,r'⟩:=q
          have hlen:=dF hw
          simp only
          rw [show a+b+(l.length - r'.length)=a+(b+(l.length - r'.length)) by omega,Nat.add_assoc,ih r' a _ MX,Cj]
          congr 1
          simp only [dc]
          congr 1
          omega
theorem yz (l:List UInt8) (a:Nat):bL l a=shE a (cq l):=by
 have:=qg l.length l a 0 (Nat.le_refl _)
 rwa [Nat.add_zero] at this
theorem uN (s:List UInt8) (k m:Nat) (hm:m=(aP (s.drop k)).length) (a:Nat):bU (lines (s.drop k)) a=dr (bF (aP (s.drop k)) a) (bU (lines (s.drop (k+m+1))) (a+m+1)):=by
  have hla:=eE (s.drop k)
  have hdr:(s.drop k).drop m=bM (s.drop k):=by
    have e:(s.drop k).drop m=(aP (s.drop k)++bM (s.drop k)).drop m:=by rw [hla]
    rw [e,hm,List.drop_left'];rfl
  rw [List.drop_drop] at hdr
  rw [jS (s.drop k)]
  cases ha:bM (s.drop k) with
  | nil =>
    rw [ha,List.append_nil] at hla
    have:s.drop (k+m+1)= []:=by
      rw [←List.drop_drop,hdr,ha];rfl
    rw [this]
    simp only [bU,hla]
    have e:bU (lines []) (a+m+1)= .ok []:=by simp [lines,bU,bF,cq,bL,iq,dr]
    rw [e]
  | cons c r =>
    have:s.drop (k+m+1)=r:=by rw [←List.drop_drop,hdr,ha];rfl
    rw [this]
    simp only [bU,hm]
theorem vN {s:List UInt8} {k:Nat} (hk:k≤(aP s).length):(k<(aP s).length↔∃ c,s[k]? =some c∧(c != 10)=true):=by
  unfold aP at *
  induction s generalizing k with
  | nil=>simp
  | cons c s ih =>
    cases hc:(c != 10) with
    | false =>
      simp only [List.takeWhile_cons,hc] at hk ⊢
      simp at hk;subst hk
      simp at hc
      simp [hc]
    | true =>
      simp only [List.takeWhile_cons,hc,if_true,List.length_cons] at hk ⊢
      cases k with
      | zero=>simp at hc;simp [hc]
      | succ k=>simp only [List.getElem?_cons_succ];rw [←ih MX];omega
theorem sA (s:List UInt8):s.take (aP s).length=aP s:=by
 have h:=eE s
 have:s.take (aP s).length=(aP s++bM s).take (aP s).length:=by rw [h]
 rw [this,List.take_left'];rfl
theorem oP (s:List UInt8):(aP s).length≤s.length:=(List.takeWhile_prefix _).length_le
theorem yA (a:Nat):bU (lines []) a= .ok []:=by simp [lines,bU,bF,cq,bL,iq,dr]
theorem uO {p q:List Rw} {x:Except (Nat × Nat) (List Rw)}:dr (.ok p) (dr (.ok q) x)=dr (.ok (p++q)) x:=by rw [←lh];rfl
theorem Ck (rs:List Rw) (a:Nat) (ws:List Wd):(rs++ [Rw.mk a ws]).flatMap cRw=rs.flatMap cRw++ [.int .i64 (a:Nat), .sl false ws.length (ws.flatMap cWd)]:=by simp [cRw]
theorem _root_.Nr {p:Prop} (h:p:=by first|(simp [ax,rvS];done)|(simp only [ax,rvS,↓R1,RR,seval,q1,q2,q3,q4,h1,hsl,hw,hw2,hn0,ar];try simp)):p:=h
set_option maxHeartbeats 4000000 in
theorem p45 (s:List UInt8) (hs:s.length≤800000):Pu Tryz.prog 45 [.str s] (eY (c8 s)):=by
  have q1:True:=trivial
  have q2:True:=trivial
  have q3:True:=trivial
  have q4:True:=trivial
  have h1:True:=trivial
  have hsl:True:=trivial
  have hw:True:=trivial
  have hw2:True:=trivial
  have hn0:True:=trivial
  by_cases hmax:20000<s.length
  · have q1:decide ((20000:Int)<(s.length:Int))=true:=by rw [decide_eq_true_eq];omega
    have pf:=p98 4 20000
    have e:c8 s= .error (4,20000):=if_pos hmax
    rw [e,eY,dy]
    (refine al c45 b45 fun σ=>?_;simp only [c45,↓R1,RR,seval,q1,q2,q3,q4,h1,hsl,hw,hw2,hn0,ar])
    repeat' (first|(with_reducible rw [ai])|((first|(with_reducible intro β hβ;(try simp only [RB] at hβ);(repeat (obtain ⟨⟨_,_⟩,hβ⟩:=hβ));(try (have hbis:=ah M0 hβ;obtain ⟨_,_⟩:=hbis)))|(refine Pt (pf) ?_))<;>(try simp only [↓R1,RR,seval,q1,q2,q3,q4,h1,hsl,hw,hw2,hn0,ar])))
    all_goals all_goals first|omega|exact Nat.le_refl _|assumption|exact St.le_refl _|(intros;(repeat' (with_reducible apply And.intro))<;>first|omega|(simp only [RZ,ar,bx];omega))|(simp only [av,slot,ae,↓R1,RR,seval,q1,q2,q3,q4,h1,hsl,hw,hw2,hn0,ar];all_goals exact bE)|exact bu|(simp_all;done)|skip
    all_goals (refine ak ?_ Nr)
    all_goals (simp only [aq,↓R1,RR,seval,q1,q2,q3,q4,h1,hsl,hw,hw2,hn0,ar];all_goals exact cW)
  · have q1:decide ((20000:Int)<(s.length:Int))=false:=by rw [decide_eq_false_iff_not];omega
    have e0:c8 s=bU (lines (s.drop 0)) 0:=by rw [c8,if_neg hmax];rfl
    (refine al c45 b45 fun σ=>?_;simp only [c45,↓R1,RR,seval,q1,q2,q3,q4,h1,hsl,hw,hw2,hn0,ar])
    rw [ai];intro β hβ;simp only [↓R1,RR,seval,q1,q2,q3,q4,h1,hsl,hw,hw2,hn0,ar]
    refine iL (α:=Nat × List Rw) 4 80 2 0 [] (fun τ x=> [(0, .str s),(3, .ptr β 0),(4, .tsl τ x.2.length (x.2.flatMap cRw)),(5, .int .i64 (x.1:Nat))]) (fun τ x=>(σ.aa β [.int .i64 0, .int .i64 0]).ao τ (80,2,x.2.length))
      (fun x=>x.1≤s.length+1∧x.2.length≤x.1∧c8 s=dr (.ok x.2) (bU (lines (s.drop x.1)) x.1)) (fun x=>s.length+1 - x.1) (0,[]) trivial rfl ⟨by simp,by simp,by rw [e0,kG]⟩ (fun τ hτ=>by simp [av,slot,ae]) (fun τ hτ=>St.le_refl _) ?_
    rintro τ hτ ⟨k,rs⟩ ⟨hk,hkr,hI⟩
    simp only at hk hkr hI ⊢
    by_cases hlt:k<s.length
    · have q2:decide ((k:Int)<(s.length:Int))=true:=by rw [decide_eq_true_eq];omega
      generalize hm:(aP (s.drop k)).length=m
      have hml:m≤s.length - k:=by rw [←hm,←List.length_drop];exact oP _
      rw [uN s k m hm.symm] at hI
      have htk:=sA (s.drop k)
      rw [hm] at htk
      simp only [q2,↓R1,RR,seval,q1,q2,q3,q4,h1,hsl,hw,hw2,hn0,ar]
      refine aQ m (fun j=> [(0, .str s),(3, .ptr β 0),(4, .tsl τ rs.length (rs.flatMap cRw)),(5, .int .i64 (k:Nat)),(6, .int .i64 ((k+j:Nat):Int))]) (fun _=>(σ.aa β [.int .i64 0, .int .i64 0]).ao τ (80,2,rs.length)) (fun _=>True) M8 (St.le_refl _) trivial (fun j hj _=>?_)
      have hst:=vN (s:=s.drop k) (k:=j) (by rw [hm];exact hj)
      rw [hm,List.getElem?_drop] at hst
      by_cases hjl:j<m
      · obtain ⟨d,h1,hd10⟩:=hst.1 hjl
        have q1:decide (((k+j:Nat):Int)<(s.length:Int))=true:=M3
        have q3:((d.toNat:Int) != 10)=true:=by
          have:((d.toNat:Int) == 10)=false:=j9 (n:=10) MX (by simpa using hd10)
          rw [bne,this];rfl
        have hw:IntKind.i64.wrap (((k+j:Nat):Int)+1)=((k+j+1:Nat):Int):=MZ
        simp only [q1,↓R1,RR,seval,q1,q2,q3,q4,h1,hsl,hw,hw2,hn0,ar]
        repeat' (first|(with_reducible refine And.intro ?_ ?_;focus (intros;(repeat' (with_reducible apply And.intro))<;>first|omega|(simp only [RZ,ar,bx];omega)))|(with_reducible apply And.intro))
        all_goals all_goals first|omega|exact Nat.le_refl _|assumption|exact St.le_refl _|(intros;(repeat' (with_reducible apply And.intro))<;>first|omega|(simp only [RZ,ar,bx];omega))|(simp only [av,slot,ae,↓R1,RR,seval,q1,q2,q3,q4,h1,hsl,hw,hw2,hn0,ar];all_goals exact bE)|exact bu|(simp_all;done)|skip
        all_goals first|(simp [av,slot,ae];done)|(simp [av,slot,ae];exact ag (by congr 1))|(exact St.le_refl _)
      · have hje:j=m:=by omega
        subst hje
        have hx:(aP (s.drop k)).length=j:=hm
        generalize hX:aP (s.drop k)=x at hI htk hx
        have hab:(decide (((k+j:Nat):Int)<(s.length:Int))=true∧∃ d,s[k+j]? =some d∧((d.toNat:Int) != 10)=false)∨decide (((k+j:Nat):Int)<(s.length:Int))=false:=by
          by_cases hlj:k+j<s.length
          · refine .inl ⟨by rw [decide_eq_true_eq];omega,_,List.getElem?_eq_getElem hlj,?_⟩
            cases hd:(s[k+j] != 10) with
            | true=>exact (hjl (hst.2 ⟨_,List.getElem?_eq_getElem hlj,hd⟩)).elim
            | false =>
              have:s[k+j]=10:=by simpa using hd
              rw [this];rfl
          · exact .inr Nk
        have hw:IntKind.i64.wrap (((k+j:Nat):Int) - (k:Int))=(j:Nat):=MZ
        have hw2:IntKind.i64.wrap (((k+j:Nat):Int)+1)=((k+j+1:Nat):Int):=MZ
        by_cases hbig:1000<j
        · have q4:decide ((1000:Int)<(j:Int))=true:=by rw [decide_eq_true_eq];omega
          have pf:=p98 4 (k:Nat)
          have e:c8 s= .error (4,k):=by rw [hI,bF,if_pos MX];rfl
          rw [e,eY,dy]
          rcases hab with ⟨q1,d,h1,q3⟩|q1
          all_goals
            simp only [q1,↓R1,RR,seval,q1,q2,q3,q4,h1,hsl,hw,hw2,hn0,ar]
            repeat' (first|(with_reducible refine And.intro ?_ ?_;focus (intros;(repeat' (with_reducible apply And.intro))<;>first|omega|(simp only [RZ,ar,bx];omega)))|(with_reducible apply And.intro)|((refine Pt (pf) ?_)<;>(try simp only [↓R1,RR,seval,q1,q2,q3,q4,h1,hsl,hw,hw2,hn0,ar])))
            all_goals all_goals first|omega|exact Nat.le_refl _|assumption|exact St.le_refl _|(intros;(repeat' (with_reducible apply And.intro))<;>first|omega|(simp only [RZ,ar,bx];omega))|(simp only [av,slot,ae,↓R1,RR,seval,q1,q2,q3,q4,h1,hsl,hw,hw2,hn0,ar];all_goals exact bE)|exact bu|(simp_all;done)|skip
            all_goals (refine ak ?_ Nr)
            all_goals (simp only [aq,↓R1,RR,seval,q1,q2,q3,q4,h1,hsl,hw,hw2,hn0,ar];all_goals exact cW)
        · have q4:decide ((1000:Int)<(j:Int))=false:=by rw [decide_eq_false_iff_not];omega
          have pl:=p99 x k MX MX
          have hsl:(s.drop k).take (k+j - k)=x:=by rw [Nat.add_sub_cancel_left];exact htk
          rw [yz] at pl
          cases hwx:cq x with
          | error b =>
            rw [hwx,shE,iO] at pl
            have e:c8 s= .error (3,k+b):=by rw [hI,bF,if_neg MX,hwx];rfl
            rw [e,eY,dy]
            rcases hab with ⟨q1,d,h1,q3⟩|q1
            all_goals
              simp only [q1,↓R1,RR,seval,q1,q2,q3,q4,h1,hsl,hw,hw2,hn0,ar]
              repeat' (first|(with_reducible rw [ai])|(with_reducible refine And.intro ?_ ?_;focus (intros;(repeat' (with_reducible apply And.intro))<;>first|omega|(simp only [RZ,ar,bx];omega)))|(with_reducible apply And.intro)|((first|(with_reducible intro β hβ;(try simp only [RB] at hβ);(repeat (obtain ⟨⟨_,_⟩,hβ⟩:=hβ));(try (have hbis:=ah M0 hβ;obtain ⟨_,_⟩:=hbis)))|(refine Pt (pl) ?_))<;>(try simp only [↓R1,RR,seval,q1,q2,q3,q4,h1,hsl,hw,hw2,hn0,ar])))
              all_goals all_goals first|omega|exact Nat.le_refl _|assumption|exact St.le_refl _|(intros;(repeat' (with_reducible apply And.intro))<;>first|omega|(simp only [RZ,ar,bx];omega))|(simp only [av,slot,ae,↓R1,RR,seval,q1,q2,q3,q4,h1,hsl,hw,hw2,hn0,ar];all_goals exact bE)|exact bu|(simp_all;done)|skip
              all_goals (refine ak ?_ Nr)
              all_goals (simp only [aq,↓R1,RR,seval,q1,q2,q3,q4,h1,hsl,hw,hw2,hn0,ar];all_goals exact cW)
          | ok ws =>
            rw [hwx,shE,iO] at pl
            cases ws with
            | nil =>
              rw [bF,if_neg MX,hwx,kG] at hI
              simp only [List.map_nil,List.flatMap_nil] at pl
              rcases hab with ⟨q1,d,h1,q3⟩|q1
              all_goals
                simp only [q1,↓R1,RR,seval,q1,q2,q3,q4,h1,hsl,hw,hw2,hn0,ar]
                repeat' (first|(with_reducible rw [ai])|(with_reducible refine And.intro ?_ ?_;focus (intros;(repeat' (with_reducible apply And.intro))<;>first|omega|(simp only [RZ,ar,bx];omega)))|(with_reducible apply And.intro)|((first|(with_reducible intro β hβ;(try simp only [RB] at hβ);(repeat (obtain ⟨⟨_,_⟩,hβ⟩:=hβ));(try (have hbis:=ah M0 hβ;obtain ⟨_,_⟩:=hbis)))|(refine Pt (pl) ?_))<;>(try simp only [↓R1,RR,seval,q1,q2,q3,q4,h1,hsl,hw,hw2,hn0,ar])))
                all_goals all_goals first|omega|exact Nat.le_refl _|assumption|exact St.le_refl _|(intros;(repeat' (with_reducible apply And.intro))<;>first|omega|(simp only [RZ,ar,bx];omega))|(simp only [av,slot,ae,↓R1,RR,seval,q1,q2,q3,q4,h1,hsl,hw,hw2,hn0,ar];all_goals exact bE)|exact bu|(simp_all;done)|skip
                refine ⟨(k+j+1,rs),⟨by simp only;omega,by simp only;omega,by simp only;exact hI⟩,by simp [av,slot,ae],qf (St.aO (St.le_refl _) (St.aE.2 ⟨⟨inferInstance,inferInstance⟩,hβ⟩)),by simp only;omega⟩
            | cons w ws =>
              rw [bF,if_neg MX,hwx] at hI
              simp only at hI
              rw [uO] at hI
              generalize hY:(w::ws).map (dc k)=y at pl hI
              have hyl:0<y.length:=by rw [←hY];simp
              have hn0:decide ((0:Int)<(y.length:Int))=true:=M3
              rcases hab with ⟨q1,d,h1,q3⟩|q1
              all_goals
                simp only [q1,↓R1,RR,seval,q1,q2,q3,q4,h1,hsl,hw,hw2,hn0,ar]
                repeat' (first|(with_reducible rw [ai])|(with_reducible refine And.intro ?_ ?_;focus (intros;(repeat' (with_reducible apply And.intro))<;>first|omega|(simp only [RZ,ar,bx];omega)))|(with_reducible apply And.intro)|((first|(with_reducible intro β hβ;(try simp only [RB] at hβ);(repeat (obtain ⟨⟨_,_⟩,hβ⟩:=hβ));(try (have hbis:=ah M0 hβ;obtain ⟨_,_⟩:=hbis)))|(refine Pt (pl) ?_))<;>(try simp only [↓R1,RR,seval,q1,q2,q3,q4,h1,hsl,hw,hw2,hn0,ar])))
                all_goals all_goals first|omega|exact Nat.le_refl _|assumption|exact St.le_refl _|(intros;(repeat' (with_reducible apply And.intro))<;>first|omega|(simp only [RZ,ar,bx];omega))|(simp only [av,slot,ae,↓R1,RR,seval,q1,q2,q3,q4,h1,hsl,hw,hw2,hn0,ar];all_goals exact bE)|exact bu|(simp_all;done)|skip
                refine aV rfl ?_ ?_ ?_ ?_ ?_ ?_
                · simp only [↓R1,RR,seval,q1,q2,q3,q4,h1,hsl,hw,hw2,hn0,ar]
                · simp only [bx]
                · rfl
                · unfold maxLen;omega
                · omega
                simp only [↓R1,RR,seval,q1,q2,q3,q4,h1,hsl,hw,hw2,hn0,ar]
                skip
                all_goals all_goals first|omega|exact Nat.le_refl _|assumption|exact St.le_refl _|(intros;(repeat' (with_reducible apply And.intro))<;>first|omega|(simp only [RZ,ar,bx];omega))|(simp only [av,slot,ae,↓R1,RR,seval,q1,q2,q3,q4,h1,hsl,hw,hw2,hn0,ar];all_goals exact bE)|exact bu|(simp_all;done)|skip
                refine ⟨(k+j+1,rs++ [⟨k,y⟩]),⟨by simp only;omega,by simp;omega,by simp only;exact hI⟩,?_,?_,by simp only;omega⟩
                · simp only [Ck,List.length_append,List.length_singleton];simp [av,slot,ae]
                · simp only [List.length_append,List.length_singleton]
                  exact qf (St.aO (St.le_refl _) (St.aE.2 ⟨⟨inferInstance,inferInstance⟩,hβ⟩))
    · have q2:decide ((k:Int)<(s.length:Int))=false:=by rw [decide_eq_false_iff_not];omega
      have hdn:s.drop k= []:=List.drop_eq_nil_of_le MX
      rw [hdn,yA,jT] at hI
      rw [hI,eY,dy]
      simp only [q2,↓R1,RR,seval,q1,q2,q3,q4,h1,hsl,hw,hw2,hn0,ar]
      skip
      all_goals all_goals first|omega|exact Nat.le_refl _|assumption|exact St.le_refl _|(intros;(repeat' (with_reducible apply And.intro))<;>first|omega|(simp only [RZ,ar,bx];omega))|(simp only [av,slot,ae,↓R1,RR,seval,q1,q2,q3,q4,h1,hsl,hw,hw2,hn0,ar];all_goals exact bE)|exact bu|(simp_all;done)|skip
      all_goals (refine ak ?_ Nr)
      all_goals (simp only [aq,↓R1,RR,seval,q1,q2,q3,q4,h1,hsl,hw,hw2,hn0,ar];all_goals exact cW)
end Go.Proofs.YtgephffbfiemeaaGreatDoor
