/- Part 18 of the proof of ScriptConfigs: an abstract semantics that is proved sound for the model, contracts of functions in it, and plain facts (LW1 LW2 LR7 LW4 LW5 LR9 EV1 LW6 LR6). No condition. -/
import Derived.Test.YtgephffbfiemeaaGreatDoorKScriptConfigs17
import Derived.Shelf.Spec.TrailingZeros
set_option linter.all false
namespace Go.Proofs.YtgephffbfiemeaaGreatDoor
open Go.Abs
set_option linter.all false
set_option maxRecDepth 100000
def vA:List AV:=Lib.deBruijn64tab.map fun n=>AV.int .u8 (n:Nat)
def gls:List (Nat × List AV):= [(1,vA)]
theorem Gr {σ:St} (h:cY gls σ):σ.glob 1=some vA:=h _ _ rfl
theorem _root_.Rf {p:Prop} (h:p:=by simpa using h):p:=h
theorem Db {a:BitVec 64} (h:a.toNat=0):a=0#64:=BitVec.eq_of_toNat_eq Rf
theorem Dc (l:List Nat) (i c:Nat) (h:i<l.length) (e:l.getD i 0=c):(l.map fun n=>AV.int .u8 (n:Nat))[i]? =some (.int .u8 (c:Int)):=by
 rw [List.getD_eq_getElem?_getD,List.getElem?_eq_getElem h] at e
 rw [List.getElem?_map,List.getElem?_eq_getElem h,←e]
 rfl
theorem Dd (a:BitVec 64) (ha:a≠0#64):∃ idx:Nat,(IntKind.u64.wrap (bits .and .u64 (a.toNat:Int) (IntKind.u64.wrap (0 - (a.toNat:Int)))*285870213051353865)).fdiv (2^min (Int.toNat 58) IntKind.u64.bits)=(idx:Int)∧idx<64∧vA[idx]? =some (.int .u8 ((Lib.ctz 64 a.toNat:Nat):Int)):=by
 have h0:a.toNat≠0:=fun h=>ha (Db h)
 obtain ⟨hlow,hk⟩:=Lib.lowest_bit 64 a.toNat h0 a.isLt
 obtain ⟨hi,htab⟩:=Lib.deBruijn64_at _ hk
 have key:=Go.Proofs.tz64_key a.toNat _ a.isLt h0 hlow
 generalize 2^Lib.ctz 64 a.toNat*285870213051353865 % 18446744073709551616 / 288230376151711744=idx at hi htab key
 obtain ⟨c,hc⟩:∃ c,Lib.ctz 64 a.toNat=c:=⟨_,rfl⟩
 rw [hc] at htab ⊢
 clear hc hlow hk
 refine ⟨idx,?_,hi,?_⟩
 ·have e:(2:Int)^min (Int.toNat 58) IntKind.u64.bits=288230376151711744:=by simp [IntKind.bits]
  rw [e,Int.zero_sub,Int.fdiv_eq_ediv_of_nonneg _ (by decide:(0:Int)≤288230376151711744)];exact key
 ·exact Dc Lib.deBruijn64tab idx c (show idx<64 from hi) htab
theorem De:vA.length=64:=Qg
theorem Gs (a:BitVec 64) (ha:a≠0#64):IntKind.i64.wrap ((Lib.ctz 64 a.toNat:Nat):Int)=((Lib.ctz 64 a.toNat:Nat):Int):=by
 have:=(sK a ha).1
 rw [wrap64 P6 P6]
theorem OT (a:BitVec 64) (ha:a≠0#64):PuG Tryz.prog gls 170 [.int .u64 a.toNat] (.int .i64 ((Lib.ctz 64 a.toNat:Nat):Int)):=by
 have h0:a.toNat≠0:=fun h=>ha (Db h)
 obtain ⟨idx,hidx,hi,ht⟩:=Dd a ha
 have hz:((a.toNat:Int) == 0)=false:=Qr
 (refine cP Je NQ fun σ hσ=>?_;simp only [Je,↓R1,RR,Nat.reduceEqDiff])
 have hg:=Gr hσ
 have hl:=De
 have hd:(List.drop (idx*1) vA)[0]? =some (.int .u8 ((Lib.ctz 64 a.toNat:Nat):Int)):=by
  rw [Nat.mul_one,List.getElem?_drop,Nat.add_zero];exact ht
 simp only [hz,hg,hidx,↓R1,RR,Nat.reduceEqDiff]
 rw [hd]
 refine ⟨by decide,⟨by omega,by omega,by omega⟩,by simp;omega,trivial,?_⟩
 (refine ak (ag ?_))
 (simp only [an,RR,Nat.reduceEqDiff])
 rw [Gs a ha]
theorem OU (b:BitVec 64):((b.toNat:Int) != 0)= !(b == 0#64):=by
 rw [show (0:Int)=((0#64:BitVec 64).toNat:Int) by rfl,bne,IG]
theorem Kg (b:BitVec 64):IntKind.u64.wrap ((b.toNat:Int) - 1)=((b - 1#64).toNat:Int):=by
 rw [IntKind.wrap_u64,BitVec.toNat_sub]
 simp only [BitVec.toNat_ofNat]
 have:=b.isLt
 omega
theorem OV (a:BitVec 64) (σ:St):AC Tryz.prog 111 [.int .u64 a.toNat] σ (fun r s=>∃ β,σ.box β=none∧r= .fn 169 [.ptr β 0]∧s=σ.aa β [.int .u64 a.toNat]):=by
 refine bg IX Nz ?_
 simp only [IX,↓R1,RR,seval]
 intro β hβ
 refine cb ?_
 exact ⟨β,hβ,rfl,rfl⟩
theorem _root_.Qi {p:Prop} (h:p:=by simp [aq,slot,ae]):p:=h
theorem _root_.QP {p:Prop} (h:p:=by simp [av]):p:=h
theorem Gt {prs:List Nat} {asg body:CC} {fr:Fr} {Q:Exit→Fr→St→Prop} {β:Nat} (a:BitVec 64) (T:List Nat→BitVec 64→St) (I:List Nat→Prop) (hps:prs.length=1) (hI0:I [])
  (hb:∀ pre b,(T pre b).box β=some [.int .u64 b.toNat]) (hs:∀ pre b b',(T pre b).aa β [.int .u64 b'.toNat]=T pre b') (hg:∀ pre b,cY gls (T pre b)) (hl:∀ pre b L,(T pre b).lp L=(T [] a).lp L)
  (hround:∀ L (r:Loop) pre k b,(T [] a).lp L=none→I pre→(∃ rest,db a=pre++k::rest)→aC Tryz.prog asg (jL prs [.int .i64 (k:Nat)] fr) ((T pre b).au L (r,fr)) (fun e fr1 σ2=>e= .normal∧σ2=(T pre b).au L (r,fr) ∧
   aC Tryz.prog body fr1 ((T pre b).au L (busy r,fr)) (fun e _ σ3=>match e with
    | .normal=>∃ s,σ3=s.au L (busy r,fr)∧s.lp L=none∧s=T (pre++ [k]) b∧I (pre++ [k])
    | .ret=>∃ s,σ3=s.au L (busy r,fr)∧s.lp L=none∧Q .ret fr s
    | .exit id=>∃ s,σ3=s.au L (busy r,fr)∧s.lp L=none∧Q (.exit id) fr s
    | _=>False)))
  (hend:I (db a)→Q .normal fr (T (db a) 0#64)):RF Tryz.prog 169 [.ptr β 0] prs asg body fr (T [] a) Q:=by
 refine ⟨by kernel_rfl,fun L r hL hr1 hr2 hY=>?_⟩
 have hg':∀ pre b,cY gls ((T pre b).au L (r,fr)):=fun pre b=>hg pre b
 have hb':∀ pre b,((T pre b).au L (r,fr)).box β=some [.int .u64 b.toNat]:=fun pre b=>hb pre b
 have hs':∀ pre b b',((T pre b).au L (r,fr)).aa β [.int .u64 b'.toNat]=(T pre b').au L (r,fr):=fun pre b b'=>by rw [←St.eU,hs]
 have hY':∀ pre k b,I pre→(∃ rest,db a=pre++k::rest)→YC Tryz.prog L [.int .i64 (k:Nat)] ((T pre b).au L (r,fr)) _:=fun pre k b hi hk =>
  CU (by rw [hl,hL]) hY (by simpa using hps.symm) (hround L r pre k b hL hi hk)
 refine bg Jd NP ?_
 simp only [Jd,↓R1,RR,seval]
 refine ca (α:=List Nat × BitVec 64) (fun _=> [(0, .yld L),(1, .ptr β 0)]) (fun z=>(T z.1 z.2).au L (r,fr)) (fun z=>db a=z.1++db z.2∧I z.1) (fun z=>(db z.2).length) ([],a) Qi (St.le_refl _) ⟨rfl,hI0⟩ ?_
 rintro ⟨pre,b⟩ ⟨hI,hIp⟩
 simp only at hI hIp ⊢
 simp only [hb,OU,↓R1,RR,seval]
 refine ar (fun hc=>?_) (fun hc=>?_)
 ·have hb0:b≠0#64:=by simpa using hc
  have hcs:=zk b hb0
  simp only [hb,↓R1,RR,seval]
  refine PuG.to (OT b hb0) (hg' _ _) (ad _) ?_
  simp only [↓R1,RR,seval]
  refine (hY' pre (Lib.ctz 64 b.toNat) b hIp ⟨_,by rw [hI,hcs]⟩).mono ?_
  rintro v s' (⟨rfl,s,rfl,hsl,rfl,hIn⟩|⟨rfl,h2⟩)
  ·simp only [hb,Kg,j5,hs',↓R1,RR,seval]
   refine ⟨(pre++ [Lib.ctz 64 b.toNat],b &&& b - 1#64),⟨by simp only;rw [hI,hcs];simp,hIn⟩,by simp [aq,slot,ae],St.le_refl _,by simp only [hcs,List.length_cons];omega⟩
  ·simp only [↓R1,RR,seval]
   refine cb (.inr ?_) QP
   rcases h2 with ⟨s,rfl,h3,h4⟩|⟨id,s,rfl,h3,h4⟩
   ·exact .inl ⟨St.bf _ _ _,by rw [St.drop_set h3];exact h4⟩
   ·exact .inr ⟨id,St.bf _ _ _,by rw [St.drop_set h3];exact h4⟩
 ·have hb0:b=0#64:=by simpa using hc
  subst hb0
  rw [zj,List.append_nil] at hI
  subst hI
  simp only [↓R1,RR,seval]
  refine cb (.inl ⟨St.bf _ _ _,?_⟩) QP
  rw [St.drop_set (by rw [hl,hL])]
  exact hend hIp
def ints (l:List Nat):List AV:=l.map fun n=>AV.int .i64 (n:Nat)
theorem bN (l:List Nat):(ints l).length=l.length:=by simp [ints]
theorem zN (l:List Nat) (k:Nat):ints l++ [.int .i64 (k:Nat)]=ints (l++ [k]):=by simp [ints]
theorem OW {k:Nat}:decide ((k:Int)<64)=decide (k<64):=QG
theorem Kh (a:BitVec 64) {k:Nat} (h:k≤64):(bits .and .u64 ((a.toNat:Int).fdiv (2^min (IntKind.u64.wrap (k:Int)).toNat IntKind.u64.bits)) 1 == 1)=a.getLsbD k:=by
 have e1:IntKind.u64.wrap (k:Int)=k:=by rw [IntKind.wrap_u64];omega
 have e2:(1:Int)=((1#64:BitVec 64).toNat:Int):=rfl
 rw [e1,Int.toNat_natCast,show IntKind.u64.bits=64 from rfl,Ma a k h,e2,j5,IG,Bool.eq_iff_iff,beq_iff_eq]
 constructor
 ·intro he
  have:((a >>> k) &&& 1#64).getLsbD 0=true:=by rw [he];rfl
  simp only [BitVec.getLsbD_and,Bool.and_eq_true,BitVec.getLsbD_ushiftRight,Nat.add_zero] at this
  exact this.1
 ·intro he
  apply BitVec.eq_of_getLsbD_eq
  intro i hi
  simp only [BitVec.getLsbD_and,BitVec.getLsbD_ushiftRight,BitVec.getLsbD_one]
  cases i with
  | zero=>simp [he]
  | succ i=>simp
theorem OX (a:BitVec 64) (k:Nat) (h:k≤64):Pu Tryz.prog 178 [.int .u64 a.toNat, .int .i64 (k:Nat)] (.bool (a.getLsbD k)):=by
 have hb:=Kh a h
 have e1:IntKind.u64.wrap (k:Int)=k:=by rw [IntKind.wrap_u64];omega
 (refine al Jh NT fun σ=>?_;simp only [Jh,↓R1,RR,seval])
 simp only [hb]
 refine ⟨by omega,?_⟩
 (refine ak (ag ?_))
 (simp only [an,RR,seval])
def ga (a:BitVec 64) (k:Nat):List Nat:=(List.range k).filter a.getLsbD
theorem ml (a:BitVec 64) (k:Nat):ga a (k+1)=if a.getLsbD k=true then ga a k++ [k] else ga a k:=by
 simp only [ga,List.range_succ,List.filter_append,List.filter_cons,List.filter_nil]
 split<;>simp
theorem vB (a:BitVec 64) (k:Nat):(ga a k).length≤k:=Nat.le_trans (List.length_filter_le _ _) Qd
theorem vC (a:BitVec 64):ga a 64=db a:=rfl
theorem _root_.Qp {p:Prop} (h:p:=by simp [av,rvS]):p:=h
theorem _root_.QN {p:Prop} (h:p:=by (simp only [an,RR,seval])):p:=h
theorem OY (a:BitVec 64):Tp Tryz.prog 118 [.int .u64 a.toNat] 3 1 (db a).length (ints (db a)):=by
 intro σ
 (refine bg IZ NA ?_;simp only [IZ,↓R1,RR,seval])
 refine vd 64 3 3 1 0 [] (fun τ k=> [(4, .int .i64 (k:Nat)),(0, .int .u64 a.toNat),(3, .tsl τ (ga a k).length (ints (ga a k)))]) (fun τ k=>σ.ai τ (3,1,(ga a k).length)) (fun _=>True) trivial rfl trivial (fun τ=>by simp [aq,slot,ae,ga,ints]) (fun τ _=>St.le_refl _) (fun τ hτ k hk _=>?_)
 simp only [OW,↓R1,RR,seval]
 refine ar (fun hc=>?_) (fun hc=>?_)
 ·have hlt:k<64:=by simpa using hc
  have hl:=vB a k
  have hm:(ga a k).length+1≤maxLen:=QL
  simp only [↓R1,RR,seval]
  refine (OX a k P6).to (ad _) ?_
  simp only [↓R1,RR,seval]
  refine ar (fun hb=>?_) (fun hb=>?_)
  ·rw [ml,if_pos hb]
   simp only [↓R1,RR,seval]
   repeat' (first|((first|refine ar (fun hc=>?_) (fun hc=>?_)|(with_reducible intro β hβ;(try simp only [St.bq,St.jy,St.b9,St.cV,St.lL,St.nP] at hβ);(repeat (obtain ⟨⟨_,_⟩,hβ⟩:=hβ));(try (have hbis:=aj Qa hβ;obtain ⟨_,_⟩:=hbis)))|((first|(refine bI (.inr rfl) rfl ?_ ?_ ?_ ?_ ?_ ?_;(first|rfl|exact St.bn _ _ _|(simp only [↓R1,RR,seval]));(first|omega|(simp only [bN,List.length_map,List.length_append,List.length_nil,List.length_cons];omega)|(simp only [bN,List.length_map,List.length_append,List.length_nil,List.length_cons]));(first|rfl|first|omega|(simp only [bN,List.length_map,List.length_append,List.length_nil,List.length_cons];omega)|(simp only [bN,List.length_map,List.length_append,List.length_nil,List.length_cons])))|(refine br rfl ?_ ?_ ?_ ?_ ?_ ?_;(first|rfl|exact St.bn _ _ _|(simp only [↓R1,RR,seval]));(first|omega|(simp only [bN];omega)|(simp only [bN,List.length_map,List.length_append,List.length_nil,List.length_cons]));(first|rfl|first|omega|(simp only [bN,List.length_map,List.length_append,List.length_nil,List.length_cons];omega)|(simp only [bN,List.length_map,List.length_append,List.length_nil,List.length_cons]))));(unfold maxLen;omega);omega))<;>(try simp only [↓R1,RR,seval]))|(with_reducible refine And.intro ?_ ?_;(focus (first|omega|(intros;(repeat' (with_reducible apply And.intro))<;>first|omega|(simp only [List.length_append];omega)))))|(with_reducible apply And.intro))
   all_goals first|omega|exact Nat.le_refl _|assumption|exact St.le_refl _|(intros;(repeat' (with_reducible apply And.intro))<;>first|omega|(simp only [List.length_append];omega))|(simp only [aq,slot,ae,RR,seval];all_goals exact bz)|exact aZ|(simp_all;done)|skip
   simp only [zN,aq,slot,ae,RR,seval]
   ·exact ⟨zw P6,ag Qd⟩
   ·simp only [List.length_append,List.length_cons,List.length_nil,Nat.zero_add]
    exact St.le_refl _
  ·rw [ml,if_neg (by simp [hb])]
   simp only [↓R1,RR,seval]
   refine ⟨hlt,?_,St.le_refl _⟩
   simp only [aq,slot,ae,RR,seval]
   exact zw P6
 ·have:k=64:=by simp at hc;omega
  subst this
  simp only [vC,↓R1,RR,seval]
  refine CH τ hτ Qd Qp (ag QN) (St.le_refl _)
theorem _root_.P9 {p:Prop} (h:p:=by rw [wrap64 (by omega) (by omega)];omega):p:=h
theorem Ki {k:Nat} (h:k<200):IntKind.i64.wrap (48+(k:Int))=((48+k:Nat):Int):=P9
theorem Kj {k:Nat} (h:k<200):IntKind.u8.wrap ((48+k:Nat):Int)=((48+k:Nat):Int):=QM
theorem Gu (k:Nat) (h:k<64):Pu Tryz.prog 119 [.int .i64 (k:Nat)] (.str (iR k)):=by
 have h10:decide ((k:Int)<10)=decide (k<10):=QG
 have hd:Int.tdiv (k:Int) 10=((k / 10:Nat):Int):=rfl
 have hm:Int.tmod (k:Int) 10=((k % 10:Nat):Int):=rfl
 have wd:IntKind.i64.wrap ((k / 10:Nat):Int)=((k / 10:Nat):Int):=wrap64 P6 P6
 have wm:IntKind.i64.wrap ((k % 10:Nat):Int)=((k % 10:Nat):Int):=wrap64 P6 P6
 have a1:=Ki (k:=k) P6
 have a2:=Ki (k:=k / 10) P6
 have a3:=Ki (k:=k % 10) P6
 have b1:=Kj (k:=k) P6
 have b2:=Kj (k:=k / 10) P6
 have b3:=Kj (k:=k % 10) P6
 (refine al I0 NB fun σ=>?_;simp only [I0,↓R1,RR,seval])
 simp only [h10,seval]
 refine ar (fun hc=>?_) (fun hc=>?_)
 ·have:k<10:=by simpa using hc
  simp only [↓R1,RR,seval]
  repeat' (first|(with_reducible apply And.intro))
  all_goals first|omega|exact Nat.le_refl _|assumption|exact St.le_refl _|(intros;(repeat' (with_reducible apply And.intro))<;>first|omega|(simp only [bN,List.length_map,List.length_append];omega))|(simp only [aq,slot,ae,↓R1,RR,seval];all_goals exact bz)|exact aZ|(simp_all;done)|skip
  all_goals simp only [a1,b1,seval]
  ·rfl
  ·(refine ak (ag ?_))
   (simp only [an,RR,seval])
   simp only [iR,if_pos this,Go.Abs.byteOf,Int.toNat_natCast]
 ·have:¬ k<10:=by simpa using hc
  simp only [hd,hm,↓R1,RR,seval]
  repeat' (first|(with_reducible apply And.intro))
  all_goals first|omega|exact Nat.le_refl _|assumption|exact St.le_refl _|(intros;(repeat' (with_reducible apply And.intro))<;>first|omega|(simp only [bN,List.length_map,List.length_append];omega))|(simp only [aq,slot,ae,↓R1,RR,seval];all_goals exact bz)|exact aZ|(simp_all;done)|skip
  all_goals simp only [wd,a2,b2,a3,b3,seval]
  ·rfl
  ·(refine ak (ag ?_))
   (simp only [an,RR,seval])
   simp only [iR,if_neg this,Go.Abs.byteOf,Int.toNat_natCast]
theorem mn (x:Nat):∀ m:List Nat,ei (m++ [x])=ei m++44::iR x
 | []=>by simp [ei]
 | k::m=>by simp [ei,mn x m]
theorem vD (x k:Nat) (m:List Nat):eT (k::m++ [x])=eT (k::m)++44::iR x:=by
 simp [eT,mn]
def nT (l:List Nat) (k:Nat):List UInt8:=123::eT (l.take k)
theorem Df (l:List Nat) (h:0<l.length):nT l 0++iR l[0]=nT l 1:=by
 cases l with
 | nil=>simp at h
 | cons x l=>simp [nT,eT,ei]
theorem zO (l:List Nat) {k:Nat} (hk:0<k) (h:k<l.length):nT l k++ [44]++iR l[k]=nT l (k+1):=by
 unfold nT
 rw [←List.take_append_getElem h]
 obtain ⟨x,m,hm⟩:∃ x m,l.take k=x::m:=by
  cases l with
  | nil=>simp at h
  | cons x l=>obtain ⟨j,rfl⟩:∃ j,k=j+1:=⟨k - 1,by omega⟩;exact ⟨x,l.take j,rfl⟩
 rw [hm,vD]
 simp
theorem tc (l:List Nat) (k:Nat):(eT (l.take k)).length≤3*l.length:=by
  cases h:l.take k with
  | nil=>simp [eT]
  | cons x m =>
    have h1:=j6 m
    have h2:=jc x
    have h3:(x::m).length≤l.length:=by rw [←h];simp;omega
    simp only [eT,List.length_append]
    simp only [List.length_cons] at h3
    omega
theorem nU (a:BitVec 64) (k:Nat):(nT (db a) k).length≤193:=by
 have h1:=tc (db a) k
 have h2:=gS a
 simp only [nT,List.length_cons];omega
theorem ints_at (l:List Nat) {k:Nat} (h:k<l.length):(ints l)[k]? =some (.int .i64 (l[k]:Nat)):=by
 simp [ints,h]
theorem Dg (l:List Nat) {k:Nat} (h:k<l.length):List.take 1 (List.drop (k*1) (ints l))= [.int .i64 (l[k]:Nat)]:=by
 have:=ints_at l h
 rw [Nat.mul_one,List.drop_eq_getElem_cons (by rw [bN];exact h)]
 simp [ints]
theorem Gv {k n:Nat}:decide ((k:Int)<(n:Int))=decide (k<n):=Qd
theorem gt0 {k:Nat}:decide ((0:Int)<(k:Int))=decide (0<k):=Qd
theorem p58 (a:BitVec 64):Pu Tryz.prog 58 [.int .u64 a.toNat] (.str (e8 a)):=by
 (refine al c58 b58 fun σ=>?_;simp only [c58,↓R1,RR,seval])
 repeat' (first|(refine Tp.to (OY a) ?_ ?_;(focus exact dN);intro τ hβ;(try simp only [St.bq,St.jy,St.b9,St.cV,St.lL,St.nP] at hβ);(repeat (obtain ⟨⟨_,_⟩,hβ⟩:=hβ));(try (have hbis:=aj Qa hβ;obtain ⟨_,_⟩:=hbis));(try simp only [↓R1,RR,seval])))
 have hcl:=gS a
 refine aS (db a).length (fun k=> [(5, .int .i64 (k:Nat)),(3, .str (nT (db a) k)),(4, .tsl τ (db a).length (ints (db a)))]) (fun _=>σ.ai τ (3,1,(db a).length)) (fun _=>True) (by simp [aq,slot,ae,nT,eT]) (St.le_refl _) trivial (fun k hk _=>?_)
 simp only [Gv,↓R1,RR,seval]
 refine ar (fun hc=>?_) (fun hc=>?_)
 ·have hlt:k<(db a).length:=by simpa using hc
  have hp:=nU a k
  have hp1:=nU a (k+1)
  have hcl2:=gS a
  have hkk:(db a)[k]<64:=qJ (List.getElem_mem hlt)
  simp only [gt0,↓R1,RR,seval]
  have hg:=Dg (db a) hlt
  repeat' (first|((first|refine ar (fun hc=>?_) (fun hc=>?_)|(with_reducible intro β hβ;(try simp only [St.bq,St.jy,St.b9,St.cV,St.lL,St.nP] at hβ);(repeat (obtain ⟨⟨_,_⟩,hβ⟩:=hβ));(try (have hbis:=aj Qa hβ;obtain ⟨_,_⟩:=hbis)))|((first|(refine bI (.inr rfl) rfl ?_ ?_ ?_ ?_ ?_ ?_;(first|rfl|exact St.bn _ _ _|(simp only [↓R1,RR,seval]));(first|omega|(simp only [bN,List.length_map,List.length_append,List.length_nil,List.length_cons];omega)|(simp only [bN,List.length_map,List.length_append,List.length_nil,List.length_cons]));(first|rfl|first|omega|(simp only [bN,List.length_map,List.length_append,List.length_nil,List.length_cons];omega)|(simp only [bN,List.length_map,List.length_append,List.length_nil,List.length_cons])))|(refine br rfl ?_ ?_ ?_ ?_ ?_ ?_;(first|rfl|exact St.bn _ _ _|(simp only [↓R1,RR,seval]));(first|omega|(simp only [bN,List.length_map,List.length_append,List.length_nil,List.length_cons];omega)|(simp only [bN,List.length_map,List.length_append,List.length_nil,List.length_cons]));(first|rfl|first|omega|(simp only [bN,List.length_map,List.length_append,List.length_nil,List.length_cons];omega)|(simp only [bN,List.length_map,List.length_append,List.length_nil,List.length_cons]))));(unfold maxLen;omega);omega))<;>(try simp only [↓R1,RR,seval]))|(with_reducible refine And.intro ?_ ?_;(focus (first|omega|(intros;(repeat' (with_reducible apply And.intro))<;>first|omega|(simp only [bN];omega)))))|(with_reducible apply And.intro))
  all_goals simp only [hg,RR,seval]
  ·have hs:=zO (db a) QC hlt
   repeat' (first|(with_reducible refine And.intro ?_ ?_;(focus (first|omega|(intros;(repeat' (with_reducible apply And.intro))<;>first|omega|(simp only [List.length_append];omega)))))|(with_reducible apply And.intro)|((first|refine Pu.to (Gu _ hkk) (ad _) ?_|refine eI (Gu _ hkk) (ad _) ?_);(try simp only [↓R1,RR,seval])))
   ·have:=jc (db a)[k]
    simp only [List.length_append,List.length_cons,List.length_nil];omega
   ·simp only [aq,slot,ae,hs,RR,seval];exact zw P6
   ·exact St.le_refl _
  ·have:k=0:=by simp at hc;omega
   subst this
   have hs:=Df (db a) hlt
   repeat' (first|(with_reducible refine And.intro ?_ ?_;(focus (first|omega|(intros;(repeat' (with_reducible apply And.intro))<;>first|omega|(simp only [bN,List.length_map,List.length_append];omega)))))|(with_reducible apply And.intro)|((first|refine Pu.to (Gu _ hkk) (ad _) ?_|refine eI (Gu _ hkk) (ad _) ?_);(try simp only [↓R1,RR,seval])))
   ·have:=jc (db a)[0]
    omega
   ·simp only [aq,slot,ae,hs,RR,seval];exact zw P6
   ·exact St.le_refl _
 ·have:k=(db a).length:=by simp at hc;omega
  subst this
  have hp:=nU a (db a).length
  simp only [↓R1,RR,seval]
  refine ⟨by omega,?_⟩
  (refine ak (ag ?_))
  (simp only [an,RR,seval])
  simp [nT,e8]
theorem eq0 (a:BitVec 64):((a.toNat:Int) == 0)=(a == 0#64):=by
 rw [show (0:Int)=((0#64:BitVec 64).toNat:Int) by rfl,IG]
theorem OZ (a b:BitVec 64):Pu Tryz.prog 166 [.int .u64 a.toNat, .int .u64 b.toNat] (.bool (leB a b)):=by
 (refine al Jc NO fun σ=>?_;simp only [Jc,↓R1,RR,seval,gK])
 (refine ak (ag ?_) (by first|(simp [av,rvS];done)|(simp only [av,rvS,↓R1,RR,seval,pJ,j5,gK];try simp)))
 (simp only [an,RR,seval])
 rw [eq0];rfl
def Mw (a:BitVec 64) (i:Nat):Nat:=a.toNat / 2^(56 - 8*i) % 256
def Dh (a:BitVec 64):List UInt8:=(List.range 8).map fun i=>UInt8.ofNat (Mw a i)
theorem k1:(6148914691236517205:Int)=((6148914691236517205#64:BitVec 64).toNat:Int):=rfl
theorem k2:(3689348814741910323:Int)=((3689348814741910323#64:BitVec 64).toNat:Int):=rfl
theorem k3:(1085102592571150095:Int)=((1085102592571150095#64:BitVec 64).toNat:Int):=rfl
def ka (k:Int):Int:=bif decide (k<0)||decide (26≤k) then 11 else 0
def idE (n:Int):Int:=bif decide (n<1)||decide (1099511627776<n) then 2 else 0
def qS (r:RL):AV:= .tup [.int .u64 r.l.toNat, .int .i64 (r.used:Nat), .agg [.int .i64 (r.err:Nat), .int .i64 (r.at_:Nat)]]
theorem _root_.P8 {p:Prop} (h:p:=by first|(simp [av,rvS];done)|(simp only [av,rvS,RR,seval];try simp)):p:=h
theorem Mx (e a:Int):Pu Tryz.prog 272 [.int .i64 e, .int .i64 a] (.tup [.int .u64 0, .int .i64 0, .agg [.int .i64 e, .int .i64 a]]):=by
 (refine al JG Oj fun σ=>?_;simp only [JG,↓R1,RR,seval])
 repeat' (first|(with_reducible rw [ah])|((with_reducible intro β hβ;(try simp only [RB] at hβ);(repeat (obtain ⟨⟨_,_⟩,hβ⟩:=hβ));(try (have hbis:=aj Qa hβ;obtain ⟨_,_⟩:=hbis)))<;>(try simp only [↓R1,RR,seval])))
 (refine ak (ag ?_) P8)
 (simp only [an,RR,seval])
theorem O0 (b:UInt8):Pu Tryz.prog 273 [.int .u8 b.toNat] (.bool (dig b)):=by
 (refine al JH Ok fun σ=>?_;simp only [JH,↓R1,RR,seval,lJ])
 skip
 (refine ak (ag ?_))
 (simp only [an,RR,seval])
theorem _root_.Rc {p:Prop} (h:p:=by rcases Nat.eq_zero_or_pos s.length with h|h;exact (h0 (.inl h)).elim;exact h):p:=h
theorem O4 (s:List UInt8) (hs:s.length≤4611686018427387904):Pu Tryz.prog 248 [.str s] (qS (fJ s)):=by
  (refine al JD Og fun σ=>?_;simp only [JD,↓R1,RR,seval])
  intro β hβ
  (try simp only [↓R1,RR,seval,lI])
  repeat' (first|(with_reducible apply And.intro)|((first|(refine ar (fun hc=>?_) (fun hc=>?_))|(refine Pt (Mx _ _) ?_))<;>(try simp only [↓R1,RR,seval,zm,jd,lK])))
  all_goals (try simp only [St.set_set,↓R1,RR,seval,ltN,zm,zn,eqN,lI,jd,pM,pN,lJ,lK,qL])
  · intro h;simp at h;have:s.length≠0:=fun e=>h (List.eq_nil_of_length_eq_zero e);omega
  · (refine ak (ag ?_) P8)
    (simp only [an,RR,seval])
    have:s.length=0∨bc s 0≠123:=QC
    rw [fJ,if_pos this];rfl
  · intro h;simp at h;omega
  · rename_i hc0
    (refine ak (ag ?_) P8)
    (simp only [an,RR,seval])
    have h0:¬ (s.length=0∨bc s 0≠123):=by simpa using hc0
    have h1:1<s.length∧bc s 1=125:=QC
    rw [fJ,if_neg h0,if_pos h1];rfl
  rename_i hc0
  have h0:¬ (s.length=0∨bc s 0≠123):=by simpa using hc0
  have h1:¬ (1<s.length∧bc s 1=125):=QC
  have hR:fJ s=oW s (s.length+1) 0#64 (-1) 1:=by rw [fJ,if_neg h0,if_neg h1]
  rw [hR]
  obtain ⟨R,hR'⟩:∃ R,oW s (s.length+1) 0#64 (-1) 1=R:=⟨_,rfl⟩
  rw [hR'] at hR ⊢
  have hlen:1≤s.length:=Rc
  clear hc hc0 h0 h1
  refine ca (α:=Nat × BitVec 64 × Int × Nat) (fun z=> [(7, .int .i64 (z.2.2.2:Nat)),(6, .int .i64 z.2.2.1),(0, .str s),(2, .int .u64 z.2.1.toNat),(4, .ptr β 0),(5, .fn 272 [])]) (fun _=>σ.aa β [.int .i64 0, .int .i64 0])
    (fun z=>oW s z.1 z.2.1 z.2.2.1 z.2.2.2=R∧s.length+1<z.1+z.2.2.2∧z.2.2.2≤s.length) (fun z=>z.1) (s.length+1,0#64, -1,1) Qi (St.le_refl _) ⟨hR',by simp only;omega,hlen⟩ ?_
  rintro ⟨f,l,last,a⟩ ⟨hN,hf,ha⟩
  simp only at hN hf ha ⊢
  obtain ⟨f,rfl⟩:∃ g,f=g+1:=⟨f - 1,by omega⟩
  simp only [↓R1,RR,seval]
  obtain ⟨sc,hsc⟩:∃ sc,scan s a (s.length - a) a 0=sc:=⟨_,rfl⟩
  have hN2:=hN
  unfold oW at hN2
  rw [hsc] at hN2
  refine ca (α:=Nat × Nat) (fun z=> [(7, .int .i64 (z.1:Nat)),(9, .int .i64 (z.2:Nat)),(8, .int .i64 (a:Nat)),(6, .int .i64 last),(0, .str s),(2, .int .u64 l.toNat),(4, .ptr β 0),(5, .fn 272 [])]) (fun _=>σ.aa β [.int .i64 0, .int .i64 0])
    (fun z=>scan s a (s.length - z.1) z.1 z.2=sc∧a≤z.1∧z.1≤s.length∧z.2≤1000) (fun z=>s.length - z.1) (a,0) Qi (St.le_refl _) ⟨hsc,by simp,ha,by simp⟩ ?_
  rintro ⟨b,n⟩ ⟨hS,hab,hbl,hn⟩
  simp only at hS hab hbl hn ⊢
  simp only [↓R1,RR,seval,ltN]
  repeat' (first|(with_reducible refine And.intro ?_ ?_;exact af)|(with_reducible apply And.intro)|((first|(refine bL (fun hc=>?_) (fun hc=>?_)<;>(try simp only [hc,↓R1,RR,seval,eqN]))|(refine ar (fun hc=>?_) (fun hc=>?_))|(refine Pt (Mx _ _) ?_)|(refine Pt (O0 _) ?_))<;>(try simp only [↓R1,RR,seval,ltN,zn,eqN,jd,pM,pN])))
  all_goals (simp only [decide_eq_true_eq,decide_eq_false_iff_not,Bool.and_eq_false_iff,Bool.and_eq_true,Bool.not_eq_true',Bool.not_eq_false'] at *)
  all_goals first|omega|(intro h;omega)|skip
  all_goals (have hdd:dig (bc s b)=dig ((s[b]?).getD 0):=rfl)
  all_goals first
    | (have hd : ¬ (b < s.length ∧ dig (bc     s b) = true) := (by rw [hdd]; grind)
       have hA:=lH s a (s.length - b) b n hd
       rw [hS] at hA
       rw [hA] at hN2
       simp only [Bool.true_eq_false,if_false] at hN2
       first
       | ((refine ak    (ag       ?_) (by first | (simp [av,   rvS]; done) | (simp only [av,   rvS, RR, seval]; try simp)))
          (simp only [an,RR,seval])
          rw [←hN2]
          grind [qS,bad])
       | skip)
    | skip
  · rename_i h1 h2
    have h3:=hc
    obtain ⟨d,hd⟩:∃ d,s.length - b=d+1:=⟨s.length - b - 1,by omega⟩
    have hA:=pL s a d b n ⟨by omega,by rw [hdd];exact h2.2⟩ ⟨h3.1,h3.2⟩
    rw [←hd,hS] at hA
    rw [hA] at hN2
    (refine ak (ag ?_) P8)
    (simp only [an,RR,seval])
    rw [←hN2]
    rfl
  · rename_i h1 h2
    have h3:=hc
    have hdg:dig (bc s b)=true:=by rw [hdd];exact h2.2
    obtain ⟨d,hd⟩:∃ d,s.length - b=d+1:=⟨s.length - b - 1,by omega⟩
    have hA:=wQ s a d b n ⟨by omega,hdg⟩ (by intro hz;rcases h3 with h|h;exact h hz.1;exact h hz.2)
    rw [←hd,hS] at hA
    refine ⟨(b+1,min 1000 (10*n+((bc s b).toNat - 48))),⟨?_,by simp only;omega,by simp only;omega,by simp only;omega⟩,?_,St.le_refl _,by simp only;omega⟩
    · simp only;rw [show s.length - (b+1)=d by omega];exact hA.symm
    · simp only [aq,slot,ae,RR,seval]
      exact ⟨ag (by rw [zo P6]),ag (congrArg _ (nL (c:=bc s b) hdg hn))⟩
  · rw [F0 hn];omega
  · (refine ak (ag ?_) P8)
    (simp only [an,RR,seval])
    rw [qM l P6,zo P6,←hN2]
    grind [qS]
  · refine ⟨(f,l ||| 1#64 <<< n,(n:Int),b+1),⟨by simp only;rw [←hN2];grind,by simp only;omega,by simp only;omega⟩,?_,St.le_refl _,by simp only;omega⟩
    simp only [aq,slot,ae,RR,seval]
    exact ⟨ag (by rw [zo P6]),ag (by rw [qM l P6])⟩
  · rw [F0 hn];omega
def wW (s:List UInt8) (a:Nat):Bool:=decide (a<s.length)&&dig (bc s a)
theorem Kk (e a:Int):Pu Tryz.prog 226 [.int .i64 e, .int .i64 a] (.tup [.int .u64 0, .int .i64 0, .agg [.int .i64 e, .int .i64 a]]):=by
 (refine al Jv N6 fun σ=>?_;simp only [Jv,↓R1,RR,seval])
 repeat' (first|(with_reducible rw [ah])|((with_reducible intro β hβ;(try simp only [RB] at hβ);(repeat (obtain ⟨⟨_,_⟩,hβ⟩:=hβ));(try (have hbis:=aj Qa hβ;obtain ⟨_,_⟩:=hbis)))<;>(try simp only [↓R1,RR,seval])))
 (refine ak (ag ?_) P8)
 (simp only [an,RR,seval])
theorem My (s:List UInt8) (a:Nat):Pu Tryz.prog 227 [.str s, .int .i64 (a:Nat)] (.bool (wW s a)):=by
 (refine al Jw N7 fun σ=>?_;simp only [Jw,↓R1,RR,seval,ltN])
 repeat' (with_reducible apply And.intro)
 ·intro h;simp at h;omega
 ·intro h;simp at h;omega
 ·(refine ak (ag ?_))
  (simp only [an,RR,seval])
  refine congrArg AV.bool ?_
  rw [Bool.and_assoc,lJ]
  rfl
theorem O5 (s:List UInt8) (hs:s.length≤4611686018427387904):Pu Tryz.prog 184 [.str s] (qS (fJ s)):=by
  (refine al Jk NW fun σ=>?_;simp only [Jk,↓R1,RR,seval])
  intro β hβ
  (try simp only [↓R1,RR,seval,lI])
  repeat' (first|(with_reducible apply And.intro)|((first|(refine ar (fun hc=>?_) (fun hc=>?_))|(refine Pt (Kk _ _) ?_))<;>(try simp only [↓R1,RR,seval,zm,jd,lK])))
  all_goals (try simp only [St.set_set,↓R1,RR,seval,ltN,zm,zn,eqN,lI,jd,mZ,pM,pN,lJ,lK,qL])
  · intro h;simp at h;have:s.length≠0:=fun e=>h (List.eq_nil_of_length_eq_zero e);omega
  · (refine ak (ag ?_) P8)
    (simp only [an,RR,seval])
    have:s.length=0∨bc s 0≠123:=QC
    rw [fJ,if_pos this];rfl
  · intro h;simp at h;omega
  · rename_i hc0
    (refine ak (ag ?_) P8)
    (simp only [an,RR,seval])
    have h0:¬ (s.length=0∨bc s 0≠123):=by simpa using hc0
    have h1:1<s.length∧bc s 1=125:=QC
    rw [fJ,if_neg h0,if_pos h1];rfl
  rename_i hc0
  have h0:¬ (s.length=0∨bc s 0≠123):=by simpa using hc0
  have h1:¬ (1<s.length∧bc s 1=125):=QC
  have hR:fJ s=oW s (s.length+1) 0#64 (-1) 1:=by rw [fJ,if_neg h0,if_neg h1]
  rw [hR]
  obtain ⟨R,hR'⟩:∃ R,oW s (s.length+1) 0#64 (-1) 1=R:=⟨_,rfl⟩
  rw [hR'] at hR ⊢
  have hlen:1≤s.length:=Rc
  clear hc hc0 h0 h1
  refine ca (α:=Nat × BitVec 64 × Int × Nat) (fun z=> [(7, .int .i64 (z.2.2.2:Nat)),(6, .int .i64 z.2.2.1),(0, .str s),(5, .int .u64 z.2.1.toNat),(4, .ptr β 0)]) (fun _=>σ.aa β [.int .i64 0, .int .i64 0])
    (fun z=>oW s z.1 z.2.1 z.2.2.1 z.2.2.2=R∧s.length+1<z.1+z.2.2.2∧z.2.2.2≤s.length) (fun z=>z.1) (s.length+1,0#64, -1,1) Qi (St.le_refl _) ⟨hR',by simp only;omega,hlen⟩ ?_
  rintro ⟨f,l,last,a⟩ ⟨hN,hf,ha⟩
  simp only at hN hf ha ⊢
  obtain ⟨f,rfl⟩:∃ g,f=g+1:=⟨f - 1,by omega⟩
  simp only [↓R1,RR,seval]
  obtain ⟨sc,hsc⟩:∃ sc,scan s a (s.length - a) a 0=sc:=⟨_,rfl⟩
  have hN2:=hN
  unfold oW at hN2
  rw [hsc] at hN2
  repeat' ((first|(refine ar (fun hc=>?_) (fun hc=>?_))|(refine Pt (Kk _ _) ?_)|(refine Pt (My s a) ?_))<;>(try simp only [↓R1,RR,seval]))
  · have hd:¬ (a<s.length∧dig (bc s a)=true):=by simp [wW] at hc;intro h;rcases hc with h2|h2;omega;rw [h2] at h;exact absurd h.2 Qg
    have hA:=lH s a (s.length - a) a 0 hd
    rw [hsc] at hA
    rw [hA] at hN2
    (try simp only [St.set_set,↓R1,RR,seval,ltN,zm,zn,eqN,lI,jd,mZ,pM,pN,lJ,lK,qL])
    (refine ak (ag ?_) P8)
    (simp only [an,RR,seval])
    rw [←hN2]
    simp [qS,bad]
  have hda:a<s.length∧dig (bc s a)=true:=by simpa [wW] using hc
  clear hc
  refine ca (α:=Nat × Nat) (fun z=> [(7, .int .i64 (z.1:Nat)),(9, .int .i64 (z.2:Nat)),(8, .int .i64 (a:Nat)),(6, .int .i64 last),(0, .str s),(5, .int .u64 l.toNat),(4, .ptr β 0)]) (fun _=>σ.aa β [.int .i64 0, .int .i64 0])
    (fun z=>scan s a (s.length - z.1) z.1 z.2=sc∧a≤z.1∧z.1≤s.length∧z.2≤1000∧(bc s a=48→z.1≤a+1)) (fun z=>s.length - z.1) (a,0) Qi (St.le_refl _) ⟨hsc,by simp,ha,by simp,by simp⟩ ?_
  rintro ⟨b,n⟩ ⟨hS,hab,hbl,hn,hz0⟩
  simp only at hS hab hbl hn hz0 ⊢
  simp only [↓R1,RR,seval]
  have hdd:wW s b=(decide (b<s.length)&&dig (bc s b)):=rfl
  have hab':a<s.length:=hda.1
  have ea:IntKind.i64.wrap ((a:Int)+1)=((a+1:Nat):Int):=zo P6
  have eb:IntKind.i64.wrap ((b:Int)+1)=((b+1:Nat):Int):=zo P6
  have eb2:IntKind.i64.wrap (((b+1:Nat):Int) - 1)=(b:Int):=P9
  repeat' (first|(with_reducible refine And.intro ?_ ?_;exact af)|(with_reducible apply And.intro)|((first|(refine ar (fun hc=>?_) (fun hc=>?_))|(with_reducible intro β hβ;(try simp only [RB] at hβ);(repeat (obtain ⟨⟨_,_⟩,hβ⟩:=hβ));(try (have hbis:=aj Qa hβ;obtain ⟨_,_⟩:=hbis)))|(refine Pt (Kk _ _) ?_)|(refine Pt (My s b) ?_))<;>(try simp only [↓R1,RR,seval,zn,eqN,jd,mZ,pM,pN])))
  all_goals (try simp only [St.set_set,↓R1,RR,seval,ltN,zm,zn,eqN,lI,jd,mZ,pM,pN,lJ,lK,qL])
  all_goals (clear hN)
  all_goals (simp only [ea,eb,eb2,eqN,Int.toNat_natCast] at *)
  all_goals (simp only [hdd,decide_eq_true_eq,decide_eq_false_iff_not,Bool.and_eq_false_iff,Bool.and_eq_true,Bool.or_eq_true,Bool.or_eq_false_iff,Bool.not_eq_true',Bool.not_eq_false'] at *)
  all_goals first|omega|(intro h;omega)|skip
  all_goals first
    | (have hd : ¬ (b < s.length ∧ dig (bc     s b) = true) := (by grind)
       have hA:=lH s a (s.length - b) b n hd
       rw [hS] at hA
       rw [hA] at hN2
       simp only [Bool.true_eq_false,if_false] at hN2
       first
       | ((refine ak    (ag       ?_) (by first | (simp [av,   rvS]; done) | (simp only [av,   rvS, RR, seval]; try simp)))
          (simp only [an,RR,seval])
          rw [←hN2]
          grind [qS,bad])
       | skip)
    | skip
  · obtain ⟨d,hd⟩:∃ d,s.length - b=d+1:=⟨s.length - b - 1,by omega⟩
    have hA:=pL s a d b n (by grind) ⟨by omega,hc.2⟩
    rw [←hd,hS] at hA
    rw [hA] at hN2
    (refine ak (ag ?_) P8)
    (simp only [an,RR,seval])
    rw [←hN2]
    rfl
  · rename_i h2
    have hdg:dig (bc s b)=true:=h2.2
    obtain ⟨d,hd⟩:∃ d,s.length - b=d+1:=⟨s.length - b - 1,by omega⟩
    have hA := wQ      s a d b n h2 (by intro hz; have := hz0 hz.2; have : b = a + 1 := by omega
                                        rcases hc with h|h;exact h this;exact h hz.2)
    rw [←hd,hS] at hA
    refine ⟨(b+1,min 1000 (10*n+((bc s b).toNat - 48))),⟨?_,by simp only;omega,by simp only;omega,by simp only;omega,?_⟩,?_,St.le_refl _,by simp only;omega⟩
    · simp only;rw [show s.length - (b+1)=d by omega];exact hA.symm
    · intro h48
      have:=hz0 h48
      simp only
      rcases hc with h|h
      · omega
      · exact (h h48).elim
    · simp only [aq,slot,ae,RR,seval]
      first
      | exact ⟨ag (by rw [zo P6]),ag (congrArg _ (nL (c:=bc s b) hdg hn))⟩
      | exact ag (congrArg _ (nL (c:=bc s b) hdg hn))
  · rw [F0 hn];omega
  · rename_i β2 hβ2 _;exact ⟨‹¬b=s.length›,‹¬bc s b=44›⟩
  · (refine ak (ag ?_) P8)
    (simp only [an,RR,seval])
    rw [qM l P6,←hN2]
    grind [qS]
  · refine ⟨(f,l ||| 1#64 <<< n,(n:Int),b+1),⟨by simp only;rw [←hN2];grind,by simp only;omega,by simp only;omega⟩,?_,St.le_refl _,by simp only;omega⟩
    simp only [aq,slot,ae,RR,seval]
    exact ag (by rw [qM l P6])
def zP (r:RL):AV:= .tup [.int .u64 r.l.toNat, .agg [.int .i64 (r.err:Nat), .int .i64 (r.at_:Nat)]]
theorem O6 (s:List UInt8) (hs:s.length≤4611686018427387904):Pu Tryz.prog 204 [.str s] (zP (eC s)):=by
 have hr:=O4 s hs
 unfold qS at hr
 (refine al Js N3 fun σ=>?_;simp only [Js,↓R1,RR,seval])
 repeat' (first|(with_reducible rw [ah])|((first|(refine ar (fun hc=>?_) (fun hc=>?_))|(with_reducible intro β hβ;(try simp only [RB] at hβ);(repeat (obtain ⟨⟨_,_⟩,hβ⟩:=hβ));(try (have hbis:=aj Qa hβ;obtain ⟨_,_⟩:=hbis)))|(refine Pt (hr) ?_))<;>(try simp only [↓R1,RR,seval,ltN])))
 all_goals (refine ak (ag ?_) P8)
 all_goals (simp only [an,RR,seval])
 all_goals (simp only [decide_eq_true_eq,decide_eq_false_iff_not,bne_iff_ne,bne_eq_false_iff_eq] at *)
 all_goals grind [zP,eC,bad]
theorem O7 (s:List UInt8) (hs:s.length≤4611686018427387904):Pu Tryz.prog 130 [.str s] (zP (eC s)):=by
 have hr:=O5 s hs
 unfold qS at hr
 (refine al I4 NG fun σ=>?_;simp only [I4,↓R1,RR,seval])
 repeat' (first|(with_reducible rw [ah])|((first|(refine ar (fun hc=>?_) (fun hc=>?_))|(with_reducible intro β hβ;(try simp only [RB] at hβ);(repeat (obtain ⟨⟨_,_⟩,hβ⟩:=hβ));(try (have hbis:=aj Qa hβ;obtain ⟨_,_⟩:=hbis)))|(refine Pt (hr) ?_))<;>(try simp only [↓R1,RR,seval,ltN])))
 all_goals (simp only [Bool.and_eq_true,Bool.and_eq_false_iff,beq_iff_eq,beq_eq_false_iff_ne,decide_eq_true_eq,decide_eq_false_iff_not,bne_iff_ne,bne_eq_false_iff_eq] at *)
 all_goals first|((refine ak (ag ?_) P8);(simp only [an,RR,seval]);grind [zP,eC,bad])|(exfalso;grind)|skip
end Go.Proofs.YtgephffbfiemeaaGreatDoor
