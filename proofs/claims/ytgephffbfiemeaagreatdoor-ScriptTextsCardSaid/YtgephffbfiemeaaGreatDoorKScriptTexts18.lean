/- Part 18 of the proof of ScriptTexts: an abstract semantics that is proved sound for the model, contracts of functions in it, and plain facts (LW1 LW2 LR7 LW4 LW5 LR9 EV1 LW6 LR6). No condition. -/
import Derived.Test.YtgephffbfiemeaaGreatDoorKScriptTexts17
import Derived.Shelf.Spec.TrailingZeros
set_option linter.all false
namespace Go.Proofs.YtgephffbfiemeaaGreatDoor
open Go.Abs
set_option linter.all false
set_option maxRecDepth 100000
def qV:List AV:=Lib.deBruijn64tab.map fun n=>AV.int .u8 (n:Nat)
def gls:List (Nat × List AV):= [(1,qV)]
theorem D1 {σ:St} (h:bY gls σ):σ.glob 1=some qV:=h _ _ rfl
theorem AS {a:BitVec 64} (h:a.toNat=0):a=0#64:=BitVec.eq_of_toNat_eq (by simpa using h)
theorem AU (l:List Nat) (i c:Nat) (h:i<l.length) (e:l.getD i 0=c):(l.map fun n=>AV.int .u8 (n:Nat))[i]? =some (.int .u8 (c:Int)):=by
 rw [List.getD_eq_getElem?_getD,List.getElem?_eq_getElem h] at e
 rw [List.getElem?_map,List.getElem?_eq_getElem h,←e]
 rfl
theorem AW (a:BitVec 64) (ha:a≠0#64):∃ idx:Nat,(IntKind.u64.wrap (bits .and .u64 (a.toNat:Int) (IntKind.u64.wrap (0 - (a.toNat:Int)))*285870213051353865)).fdiv (2^min (Int.toNat 58) IntKind.u64.bits)=(idx:Int)∧idx<64∧qV[idx]? =some (.int .u8 ((Lib.ctz 64 a.toNat:Nat):Int)):=by
 have h0:a.toNat≠0:=fun h=>ha (AS h)
 obtain ⟨hlow,hk⟩:=Lib.lowest_bit 64 a.toNat h0 a.isLt
 obtain ⟨hi,htab⟩:=Lib.deBruijn64_at _ hk
 have key:=Go.Proofs.tz64_key a.toNat _ a.isLt h0 hlow
 generalize 2^Lib.ctz 64 a.toNat*285870213051353865 % 18446744073709551616 / 288230376151711744=idx at hi htab key
 obtain ⟨c,hc⟩:∃ c,Lib.ctz 64 a.toNat=c:=⟨_,rfl⟩
 rw [hc] at htab ⊢
 clear hc hlow hk
 refine ⟨idx,?_,hi,?_⟩
 ·have e:(2:Int)^min (Int.toNat 58) IntKind.u64.bits=288230376151711744:=by simp [IntKind.bits]
  rw [e,Int.zero_sub,Int.fdiv_eq_ediv_of_nonneg _ (by decide:(0:Int)≤288230376151711744)];exact key
 ·exact AU Lib.deBruijn64tab idx c (show idx<64 from hi) htab
theorem AY:qV.length=64:=by decide
theorem D2 (a:BitVec 64) (ha:a≠0#64):IntKind.i64.wrap ((Lib.ctz 64 a.toNat:Nat):Int)=((Lib.ctz 64 a.toNat:Nat):Int):=by
 have:=(qD a ha).1
 rw [wrap64 (by omega) (by omega)]
theorem LH (a:BitVec 64) (ha:a≠0#64):PuG Tryz.prog gls 170 [.int .u64 a.toNat] (.int .i64 ((Lib.ctz 64 a.toNat:Nat):Int)):=by
 have h0:a.toNat≠0:=fun h=>ha (AS h)
 obtain ⟨idx,hidx,hi,ht⟩:=AW a ha
 have hz:((a.toNat:Int) == 0)=false:=by simp;omega
 (refine aP GA KH fun σ hσ=>?_;simp only [GA,↓R1,RR,Nat.reduceEqDiff])
 have hg:=D1 hσ
 have hl:=AY
 have hd:(List.drop (idx*1) qV)[0]? =some (.int .u8 ((Lib.ctz 64 a.toNat:Nat):Int)):=by
  rw [Nat.mul_one,List.getElem?_drop,Nat.add_zero];exact ht
 simp only [hz,hg,hidx,↓R1,RR,Nat.reduceEqDiff]
 rw [hd]
 refine ⟨by decide,⟨by omega,by omega,by omega⟩,by simp;omega,trivial,?_⟩
 (refine ak (af ?_) (by first|(simp [aj,rvS];done)|(simp only [aj,rvS,↓R1,RR,Nat.reduceEqDiff];try simp)))
 (simp only [ao,↓R1,RR,Nat.reduceEqDiff])
 rw [D2 a ha]
theorem LI (b:BitVec 64):((b.toNat:Int) != 0)= !(b == 0#64):=by
 rw [show (0:Int)=((0#64:BitVec 64).toNat:Int) by rfl,bne,FV]
theorem HF (b:BitVec 64):IntKind.u64.wrap ((b.toNat:Int) - 1)=((b - 1#64).toNat:Int):=by
 rw [IntKind.wrap_u64,BitVec.toNat_sub]
 simp only [BitVec.toNat_ofNat]
 have:=b.isLt
 omega
theorem LJ (a:BitVec 64) (σ:St):AC Tryz.prog 111 [.int .u64 a.toNat] σ (fun r s=>∃ β,σ.box β=none∧r= .fn 169 [.ptr β 0]∧s=σ.ad β [.int .u64 a.toNat]):=by
 refine aT Gc Kl ?_
 simp only [Gc,↓R1,RR,seval]
 intro β hβ
 refine cq ?_
 exact ⟨β,hβ,rfl,rfl⟩
theorem D3 {prs:List Nat} {asg body:CC} {fr:Fr} {Q:Exit→Fr→St→Prop} {β:Nat} (a:BitVec 64) (T:List Nat→BitVec 64→St) (I:List Nat→Prop) (hps:prs.length=1) (hI0:I [])
  (hb:∀ pre b,(T pre b).box β=some [.int .u64 b.toNat]) (hs:∀ pre b b',(T pre b).ad β [.int .u64 b'.toNat]=T pre b') (hg:∀ pre b,bY gls (T pre b)) (hl:∀ pre b L,(T pre b).lp L=(T [] a).lp L)
  (hround:∀ L (r:Loop) pre k b,(T [] a).lp L=none→I pre→(∃ rest,cC a=pre++k::rest)→aC Tryz.prog asg (iD prs [.int .i64 (k:Nat)] fr) ((T pre b).av L (r,fr)) (fun e fr1 σ2=>e= .normal∧σ2=(T pre b).av L (r,fr) ∧
   aC Tryz.prog body fr1 ((T pre b).av L (busy r,fr)) (fun e _ σ3=>match e with
    | .normal=>∃ s,σ3=s.av L (busy r,fr)∧s.lp L=none∧s=T (pre++ [k]) b∧I (pre++ [k])
    | .ret=>∃ s,σ3=s.av L (busy r,fr)∧s.lp L=none∧Q .ret fr s
    | .exit id=>∃ s,σ3=s.av L (busy r,fr)∧s.lp L=none∧Q (.exit id) fr s
    | _=>False)))
  (hend:I (cC a)→Q .normal fr (T (cC a) 0#64)):RF Tryz.prog 169 [.ptr β 0] prs asg body fr (T [] a) Q:=by
 refine ⟨by kernel_rfl,fun L r hL hr1 hr2 hY=>?_⟩
 have hg':∀ pre b,bY gls ((T pre b).av L (r,fr)):=fun pre b=>hg pre b
 have hb':∀ pre b,((T pre b).av L (r,fr)).box β=some [.int .u64 b.toNat]:=fun pre b=>hb pre b
 have hs':∀ pre b b',((T pre b).av L (r,fr)).ad β [.int .u64 b'.toNat]=(T pre b').av L (r,fr):=fun pre b b'=>by rw [←St.ef,hs]
 have hY':∀ pre k b,I pre→(∃ rest,cC a=pre++k::rest)→YC Tryz.prog L [.int .i64 (k:Nat)] ((T pre b).av L (r,fr)) _:=fun pre k b hi hk =>
  AE (by rw [hl,hL]) hY (by simpa using hps.symm) (hround L r pre k b hL hi hk)
 refine aT Gz KG ?_
 simp only [Gz,↓R1,RR,seval]
 refine bQ (α:=List Nat × BitVec 64) (fun _=> [(0, .yld L),(1, .ptr β 0)]) (fun z=>(T z.1 z.2).av L (r,fr)) (fun z=>cC a=z.1++cC z.2∧I z.1) (fun z=>(cC z.2).length) ([],a) (by simp [aE,slot,ae]) (St.le_refl _) ⟨rfl,hI0⟩ ?_
 rintro ⟨pre,b⟩ ⟨hI,hIp⟩
 simp only at hI hIp ⊢
 simp only [hb,LI,↓R1,RR,seval]
 refine an (fun hc=>?_) (fun hc=>?_)
 ·have hb0:b≠0#64:=by simpa using hc
  have hcs:=wQ b hb0
  simp only [hb,↓R1,RR,seval]
  refine PuG.to (LH b hb0) (hg' _ _) (aa _) ?_
  simp only [hb,↓R1,RR,seval]
  refine (hY' pre (Lib.ctz 64 b.toNat) b hIp ⟨_,by rw [hI,hcs]⟩).mono ?_
  rintro v s' (⟨rfl,s,rfl,hsl,rfl,hIn⟩|⟨rfl,h2⟩)
  ·simp only [hb,HF,fg,hs',↓R1,RR,seval]
   refine ⟨(pre++ [Lib.ctz 64 b.toNat],b &&& b - 1#64),⟨by simp only;rw [hI,hcs];simp,hIn⟩,by simp [aE,slot,ae],St.le_refl _,by simp only [hcs,List.length_cons];omega⟩
  ·simp only [↓R1,RR,seval]
   refine cq (.inr ?_) (by simp [aj])
   rcases h2 with ⟨s,rfl,h3,h4⟩|⟨id,s,rfl,h3,h4⟩
   ·exact .inl ⟨St.aZ _ _ _,by rw [St.drop_set h3];exact h4⟩
   ·exact .inr ⟨id,St.aZ _ _ _,by rw [St.drop_set h3];exact h4⟩
 ·have hb0:b=0#64:=by simpa using hc
  subst hb0
  rw [nS,List.append_nil] at hI
  subst hI
  simp only [↓R1,RR,seval]
  refine cq (.inl ⟨St.aZ _ _ _,?_⟩) (by simp [aj])
  rw [St.drop_set (by rw [hl,hL])]
  exact hend hIp
def ints (l:List Nat):List AV:=l.map fun n=>AV.int .i64 (n:Nat)
theorem bq (l:List Nat):(ints l).length=l.length:=by simp [ints]
theorem xE (l:List Nat) (k:Nat):ints l++ [.int .i64 (k:Nat)]=ints (l++ [k]):=by simp [ints]
theorem LK {k:Nat}:decide ((k:Int)<64)=decide (k<64):=by rw [Bool.eq_iff_iff];simp;omega
theorem HG (a:BitVec 64) {k:Nat} (h:k≤64):(bits .and .u64 ((a.toNat:Int).fdiv (2^min (IntKind.u64.wrap (k:Int)).toNat IntKind.u64.bits)) 1 == 1)=a.getLsbD k:=by
 have e1:IntKind.u64.wrap (k:Int)=k:=by rw [IntKind.wrap_u64];omega
 have e2:(1:Int)=((1#64:BitVec 64).toNat:Int):=rfl
 rw [e1,Int.toNat_natCast,show IntKind.u64.bits=64 from rfl,Jk a k h,e2,fg,FV,Bool.eq_iff_iff,beq_iff_eq]
 constructor
 ·intro he
  have:((a >>> k) &&& 1#64).getLsbD 0=true:=by rw [he];rfl
  simp only [BitVec.getLsbD_and,Bool.and_eq_true,BitVec.getLsbD_ushiftRight,Nat.add_zero] at this
  exact this.1
 ·intro he
  apply BitVec.eq_of_getLsbD_eq
  intro i hi
  simp only [BitVec.getLsbD_and,BitVec.getLsbD_ushiftRight,BitVec.getLsbD_one]
  cases i with
  | zero=>simp [he]
  | succ i=>simp
theorem LL (a:BitVec 64) (k:Nat) (h:k≤64):Pu Tryz.prog 178 [.int .u64 a.toNat, .int .i64 (k:Nat)] (.bool (a.getLsbD k)):=by
 have hb:=HG a h
 have e1:IntKind.u64.wrap (k:Int)=k:=by rw [IntKind.wrap_u64];omega
 (refine al GD KK fun σ=>?_;simp only [GD,↓R1,RR,seval])
 simp only [hb]
 refine ⟨by omega,?_⟩
 (refine ak (af ?_))
 (simp only [ao,↓R1,RR,seval])
def fi (a:BitVec 64) (k:Nat):List Nat:=(List.range k).filter a.getLsbD
theorem kD (a:BitVec 64) (k:Nat):fi a (k+1)=if a.getLsbD k=true then fi a k++ [k] else fi a k:=by
 simp only [fi,List.range_succ,List.filter_append,List.filter_cons,List.filter_nil]
 split<;>simp
theorem tD (a:BitVec 64) (k:Nat):(fi a k).length≤k:=Nat.le_trans (List.length_filter_le _ _) (by simp)
theorem tE (a:BitVec 64):fi a 64=cC a:=rfl
theorem LM (a:BitVec 64):Tp Tryz.prog 118 [.int .u64 a.toNat] 3 1 (cC a).length (ints (cC a)):=by
 intro σ
 (refine aT Ge Km ?_;simp only [Ge,↓R1,RR,seval])
 refine iZ 64 3 3 1 0 [] (fun τ k=> [(4, .int .i64 (k:Nat)),(0, .int .u64 a.toNat),(3, .tsl τ (fi a k).length (ints (fi a k)))]) (fun τ k=>σ.ai τ (3,1,(fi a k).length)) (fun _=>True) trivial rfl trivial (fun τ=>by simp [aE,slot,ae,fi,ints]) (fun τ _=>St.le_refl _) (fun τ hτ k hk _=>?_)
 simp only [LK,↓R1,RR,seval]
 refine an (fun hc=>?_) (fun hc=>?_)
 ·have hlt:k<64:=by simpa using hc
  have hl:=tD a k
  have hm:(fi a k).length+1≤maxLen:=by unfold maxLen;omega
  simp only [↓R1,RR,seval]
  refine (LL a k (by omega)).to (aa _) ?_
  simp only [↓R1,RR,seval]
  refine an (fun hb=>?_) (fun hb=>?_)
  ·rw [kD,if_pos hb]
   simp only [↓R1,RR,seval]
   repeat' (first|((first|refine an (fun hc=>?_) (fun hc=>?_)|(with_reducible intro β hβ;(try simp only [St.aD,St.bh,St.bx,St.bz,St.ca,St.cg] at hβ);(repeat (obtain ⟨⟨_,_⟩,hβ⟩:=hβ));(try (have hbis:=ag (by assumption) hβ;obtain ⟨_,_⟩:=hbis)))|((first|(refine cD (.inr rfl) rfl ?_ ?_ ?_ ?_ ?_ ?_;(first|rfl|exact St.bm _ _ _|(simp only [↓R1,RR,seval]));(first|omega|(simp only [bq,List.length_map,List.length_append,List.length_nil,List.length_cons];omega)|(simp only [bq,List.length_map,List.length_append,List.length_nil,List.length_cons]));(first|rfl|first|omega|(simp only [bq,List.length_map,List.length_append,List.length_nil,List.length_cons];omega)|(simp only [bq,List.length_map,List.length_append,List.length_nil,List.length_cons])))|(refine bV rfl ?_ ?_ ?_ ?_ ?_ ?_;(first|rfl|exact St.bm _ _ _|(simp only [↓R1,RR,seval]));(first|omega|(simp only [bq,List.length_map,List.length_append,List.length_nil,List.length_cons];omega)|(simp only [bq,List.length_map,List.length_append,List.length_nil,List.length_cons]));(first|rfl|first|omega|(simp only [bq,List.length_map,List.length_append,List.length_nil,List.length_cons];omega)|(simp only [bq,List.length_map,List.length_append,List.length_nil,List.length_cons]))));(unfold maxLen;omega);omega))<;>(try simp only [↓R1,RR,seval]))|(with_reducible refine And.intro ?_ ?_;(focus (first|omega|(intros;(repeat' (with_reducible apply And.intro))<;>first|omega|(simp only [bq,List.length_map,List.length_append];omega)))))|(with_reducible apply And.intro))
   all_goals first|omega|exact Nat.le_refl _|assumption|exact St.le_refl _|(intros;(repeat' (with_reducible apply And.intro))<;>first|omega|(simp only [bq,List.length_map,List.length_append];omega))|(simp only [aE,slot,ae,↓R1,RR,seval];(repeat' (with_reducible apply And.intro))<;>first|exact j4 (by have:=dT;omega)|exact cd _ _ _|exact bw _ _|exact af (congrArg (AV.tsl _ _) (flat_step (by assumption))))|((repeat (first|exact St.le_refl _|(refine St.aM ?_ (by assumption))|(refine St.eI ?_ (by assumption))));done)|(simp_all;done)|skip
   simp only [xE,aE,slot,ae,↓R1,RR,seval]
   ·exact ⟨j4 (by omega),af (by simp)⟩
   ·simp only [List.length_append,List.length_cons,List.length_nil,Nat.zero_add]
    exact St.le_refl _
  ·rw [kD,if_neg (by simp [hb])]
   simp only [↓R1,RR,seval]
   refine ⟨hlt,?_,St.le_refl _⟩
   simp only [aE,slot,ae,↓R1,RR,seval]
   exact j4 (by omega)
 ·have:k=64:=by simp at hc;omega
  subst this
  simp only [tE,↓R1,RR,seval]
  refine ma τ hτ (by simp) (by simp [aj,rvS]) (af (by (simp only [ao,↓R1,RR,seval]))) (St.le_refl _)
theorem HH {k:Nat} (h:k<200):IntKind.i64.wrap (48+(k:Int))=((48+k:Nat):Int):=by rw [wrap64 (by omega) (by omega)];omega
theorem HI {k:Nat} (h:k<200):IntKind.u8.wrap ((48+k:Nat):Int)=((48+k:Nat):Int):=by simp [IntKind.wrap,IntKind.signed,IntKind.bits];omega
theorem D4 (k:Nat) (h:k<64):Pu Tryz.prog 119 [.int .i64 (k:Nat)] (.str (fp k)):=by
 have h10:decide ((k:Int)<10)=decide (k<10):=by rw [Bool.eq_iff_iff];simp;omega
 have hd:Int.tdiv (k:Int) 10=((k / 10:Nat):Int):=rfl
 have hm:Int.tmod (k:Int) 10=((k % 10:Nat):Int):=rfl
 have wd:IntKind.i64.wrap ((k / 10:Nat):Int)=((k / 10:Nat):Int):=wrap64 (by omega) (by omega)
 have wm:IntKind.i64.wrap ((k % 10:Nat):Int)=((k % 10:Nat):Int):=wrap64 (by omega) (by omega)
 have a1:=HH (k:=k) (by omega)
 have a2:=HH (k:=k / 10) (by omega)
 have a3:=HH (k:=k % 10) (by omega)
 have b1:=HI (k:=k) (by omega)
 have b2:=HI (k:=k / 10) (by omega)
 have b3:=HI (k:=k % 10) (by omega)
 (refine al Gf Kn fun σ=>?_;simp only [Gf,↓R1,RR,seval])
 simp only [h10,↓R1,RR,seval]
 refine an (fun hc=>?_) (fun hc=>?_)
 ·have:k<10:=by simpa using hc
  simp only [↓R1,RR,seval]
  repeat' (first|(with_reducible apply And.intro))
  all_goals first|omega|exact Nat.le_refl _|assumption|exact St.le_refl _|(intros;(repeat' (with_reducible apply And.intro))<;>first|omega|(simp only [bq,List.length_map,List.length_append];omega))|(simp only [aE,slot,ae,↓R1,RR,seval];(repeat' (with_reducible apply And.intro))<;>first|exact j4 (by have:=dT;omega)|exact cd _ _ _|exact bw _ _|exact af (congrArg (AV.tsl _ _) (flat_step (by assumption))))|((repeat (first|exact St.le_refl _|(refine St.aM ?_ (by assumption))|(refine St.eI ?_ (by assumption))));done)|(simp_all;done)|skip
  all_goals simp only [a1,b1,↓R1,RR,seval]
  ·rfl
  ·(refine ak (af ?_))
   (simp only [ao,↓R1,RR,seval])
   simp only [fp,if_pos this,Go.Abs.byteOf,Int.toNat_natCast]
 ·have:¬ k<10:=by simpa using hc
  simp only [hd,hm,↓R1,RR,seval]
  repeat' (first|(with_reducible apply And.intro))
  all_goals first|omega|exact Nat.le_refl _|assumption|exact St.le_refl _|(intros;(repeat' (with_reducible apply And.intro))<;>first|omega|(simp only [bq,List.length_map,List.length_append];omega))|(simp only [aE,slot,ae,↓R1,RR,seval];(repeat' (with_reducible apply And.intro))<;>first|exact j4 (by have:=dT;omega)|exact cd _ _ _|exact bw _ _|exact af (congrArg (AV.tsl _ _) (flat_step (by assumption))))|((repeat (first|exact St.le_refl _|(refine St.aM ?_ (by assumption))|(refine St.eI ?_ (by assumption))));done)|(simp_all;done)|skip
  all_goals simp only [hd,hm,wd,wm,a2,b2,a3,b3,↓R1,RR,seval]
  ·rfl
  ·(refine ak (af ?_))
   (simp only [ao,↓R1,RR,seval])
   simp only [fp,if_neg this,Go.Abs.byteOf,Int.toNat_natCast]
theorem kF (x:Nat):∀ m:List Nat,dj (m++ [x])=dj m++44::fp x
 | []=>by simp [dj]
 | k::m=>by simp [dj,kF x m]
theorem tF (x k:Nat) (m:List Nat):dF (k::m++ [x])=dF (k::m)++44::fp x:=by
 simp [dF,kF]
def mc (l:List Nat) (k:Nat):List UInt8:=123::dF (l.take k)
theorem AZ (l:List Nat) (h:0<l.length):mc l 0++fp l[0]=mc l 1:=by
 cases l with
 | nil=>simp at h
 | cons x l=>simp [mc,dF,dj]
theorem xF (l:List Nat) {k:Nat} (hk:0<k) (h:k<l.length):mc l k++ [44]++fp l[k]=mc l (k+1):=by
 unfold mc
 rw [←List.take_append_getElem h]
 obtain ⟨x,m,hm⟩:∃ x m,l.take k=x::m:=by
  cases l with
  | nil=>simp at h
  | cons x l=>obtain ⟨j,rfl⟩:∃ j,k=j+1:=⟨k - 1,by omega⟩;exact ⟨x,l.take j,rfl⟩
 rw [hm,tF]
 simp
theorem qW (l:List Nat) (k:Nat):(dF (l.take k)).length≤3*l.length:=by
  cases h:l.take k with
  | nil=>simp [dF]
  | cons x m =>
    have h1:=iW m
    have h2:=gW x
    have h3:(x::m).length≤l.length:=by rw [←h];simp;omega
    simp only [dF,List.length_append]
    simp only [List.length_cons] at h3
    omega
theorem me (a:BitVec 64) (k:Nat):(mc (cC a) k).length≤193:=by
 have h1:=qW (cC a) k
 have h2:=fM a
 simp only [mc,List.length_cons];omega
theorem ints_at (l:List Nat) {k:Nat} (h:k<l.length):(ints l)[k]? =some (.int .i64 (l[k]:Nat)):=by
 simp [ints,h]
theorem A0 (l:List Nat) {k:Nat} (h:k<l.length):List.take 1 (List.drop (k*1) (ints l))= [.int .i64 (l[k]:Nat)]:=by
 have:=ints_at l h
 rw [Nat.mul_one,List.drop_eq_getElem_cons (by rw [bq];exact h)]
 simp [ints]
theorem D5 {k n:Nat}:decide ((k:Int)<(n:Int))=decide (k<n):=by simp
theorem gt0 {k:Nat}:decide ((0:Int)<(k:Int))=decide (0<k):=by simp
theorem p58 (a:BitVec 64):Pu Tryz.prog 58 [.int .u64 a.toNat] (.str (cT a)):=by
 (refine al c58 b58 fun σ=>?_;simp only [c58,↓R1,RR,seval])
 repeat' (first|(refine Tp.to (LM a) ?_ ?_;(focus ((repeat' (first|exact ae _|exact c7|exact cd _ _ _|exact bw _ _|exact wkL.nil|exact aa _|refine ez ?_|refine dC ?_|refine wkL.cons ?_ ?_));done));intro τ hβ;(try simp only [St.aD,St.bh,St.bx,St.bz,St.ca,St.cg] at hβ);(repeat (obtain ⟨⟨_,_⟩,hβ⟩:=hβ));(try (have hbis:=ag (by assumption) hβ;obtain ⟨_,_⟩:=hbis));(try simp only [↓R1,RR,seval])))
 have hcl:=fM a
 refine bn (cC a).length (fun k=> [(5, .int .i64 (k:Nat)),(3, .str (mc (cC a) k)),(4, .tsl τ (cC a).length (ints (cC a)))]) (fun _=>σ.ai τ (3,1,(cC a).length)) (fun _=>True) (by simp [aE,slot,ae,mc,dF]) (St.le_refl _) trivial (fun k hk _=>?_)
 simp only [D5,↓R1,RR,seval]
 refine an (fun hc=>?_) (fun hc=>?_)
 ·have hlt:k<(cC a).length:=by simpa using hc
  have hp:=me a k
  have hp1:=me a (k+1)
  have hcl2:=fM a
  have hkk:(cC a)[k]<64:=oW (List.getElem_mem hlt)
  simp only [gt0,↓R1,RR,seval]
  have hg:=A0 (cC a) hlt
  repeat' (first|((first|refine an (fun hc=>?_) (fun hc=>?_)|(with_reducible intro β hβ;(try simp only [St.aD,St.bh,St.bx,St.bz,St.ca,St.cg] at hβ);(repeat (obtain ⟨⟨_,_⟩,hβ⟩:=hβ));(try (have hbis:=ag (by assumption) hβ;obtain ⟨_,_⟩:=hbis)))|((first|(refine cD (.inr rfl) rfl ?_ ?_ ?_ ?_ ?_ ?_;(first|rfl|exact St.bm _ _ _|(simp only [↓R1,RR,seval]));(first|omega|(simp only [bq,List.length_map,List.length_append,List.length_nil,List.length_cons];omega)|(simp only [bq,List.length_map,List.length_append,List.length_nil,List.length_cons]));(first|rfl|first|omega|(simp only [bq,List.length_map,List.length_append,List.length_nil,List.length_cons];omega)|(simp only [bq,List.length_map,List.length_append,List.length_nil,List.length_cons])))|(refine bV rfl ?_ ?_ ?_ ?_ ?_ ?_;(first|rfl|exact St.bm _ _ _|(simp only [↓R1,RR,seval]));(first|omega|(simp only [bq,List.length_map,List.length_append,List.length_nil,List.length_cons];omega)|(simp only [bq,List.length_map,List.length_append,List.length_nil,List.length_cons]));(first|rfl|first|omega|(simp only [bq,List.length_map,List.length_append,List.length_nil,List.length_cons];omega)|(simp only [bq,List.length_map,List.length_append,List.length_nil,List.length_cons]))));(unfold maxLen;omega);omega))<;>(try simp only [↓R1,RR,seval]))|(with_reducible refine And.intro ?_ ?_;(focus (first|omega|(intros;(repeat' (with_reducible apply And.intro))<;>first|omega|(simp only [bq,List.length_map,List.length_append];omega)))))|(with_reducible apply And.intro))
  all_goals simp only [hg,↓R1,RR,seval]
  ·have hs:=xF (cC a) (by simpa using hc) hlt
   repeat' (first|(with_reducible refine And.intro ?_ ?_;(focus (first|omega|(intros;(repeat' (with_reducible apply And.intro))<;>first|omega|(simp only [bq,List.length_map,List.length_append];omega)))))|(with_reducible apply And.intro)|((first|refine Pu.to (D4 _ hkk) (aa _) ?_|refine aK (D4 _ hkk) (aa _) ?_);(try simp only [↓R1,RR,seval])))
   ·have:=gW (cC a)[k]
    simp only [List.length_append,List.length_cons,List.length_nil];omega
   ·simp only [aE,slot,ae,hs,↓R1,RR,seval];exact j4 (by omega)
   ·exact St.le_refl _
  ·have:k=0:=by simp at hc;omega
   subst this
   have hs:=AZ (cC a) hlt
   repeat' (first|(with_reducible refine And.intro ?_ ?_;(focus (first|omega|(intros;(repeat' (with_reducible apply And.intro))<;>first|omega|(simp only [bq,List.length_map,List.length_append];omega)))))|(with_reducible apply And.intro)|((first|refine Pu.to (D4 _ hkk) (aa _) ?_|refine aK (D4 _ hkk) (aa _) ?_);(try simp only [↓R1,RR,seval])))
   ·have:=gW (cC a)[0]
    omega
   ·simp only [aE,slot,ae,hs,↓R1,RR,seval];exact j4 (by omega)
   ·exact St.le_refl _
 ·have:k=(cC a).length:=by simp at hc;omega
  subst this
  have hp:=me a (cC a).length
  simp only [↓R1,RR,seval]
  refine ⟨by omega,?_⟩
  (refine ak (af ?_))
  (simp only [ao,↓R1,RR,seval])
  simp [mc,cT]
theorem LN {α:Type} (g:α→AV) (l:List α) (k:Nat) (h:k<l.length):((l.map g).drop (k*1)).take 1= [g l[k]]:=by
 rw [Nat.mul_one,←List.map_drop,List.drop_eq_getElem_cons h,List.map_cons]
 simp
theorem mf {α β:Type} (f:β→α→β) (b:β) (l:List α) (k:Nat) (h:k<l.length):f ((l.take k).foldl f b) l[k]=(l.take (k+1)).foldl f b:=by
 rw [←List.take_append_getElem h,List.foldl_append];rfl
theorem A1 {k n:Nat}:decide ((k:Int)<(n:Int))=decide (k<n):=by simp
theorem eq0 (a:BitVec 64):((a.toNat:Int) == 0)=(a == 0#64):=by
 rw [show (0:Int)=((0#64:BitVec 64).toNat:Int) by rfl,FV]
theorem LP (a b:BitVec 64):Pu Tryz.prog 166 [.int .u64 a.toNat, .int .u64 b.toNat] (.bool (leB a b)):=by
 (refine al Gy KF fun σ=>?_;simp only [Gy,↓R1,RR,seval,fL,fg,fF])
 (refine ak (af ?_) (by first|(simp [aj,rvS];done)|(simp only [aj,rvS,↓R1,RR,seval,fL,fg,fF];try simp)))
 (simp only [ao,↓R1,RR,seval,fL,fg,fF])
 rw [eq0];rfl
def oa (a:BitVec 64) (i:Nat):Nat:=a.toNat / 2^(56 - 8*i) % 256
def ka (a:BitVec 64):List UInt8:=(List.range 8).map fun i=>UInt8.ofNat (oa a i)
theorem k1:(6148914691236517205:Int)=((6148914691236517205#64:BitVec 64).toNat:Int):=rfl
theorem k2:(3689348814741910323:Int)=((3689348814741910323#64:BitVec 64).toNat:Int):=rfl
theorem k3:(1085102592571150095:Int)=((1085102592571150095#64:BitVec 64).toNat:Int):=rfl
def mg (b:BitVec 64) (c:UInt8):BitVec 64:=b <<< 8 ||| BitVec.ofNat 64 c.toNat
theorem E2 (b:BitVec 64) (c:UInt8):bits .or .u64 (IntKind.u64.wrap ((b.toNat:Int)*2^min (Int.toNat 8) IntKind.u64.bits)) (IntKind.u64.wrap ((c.toNat:Nat):Int))=((mg b c).toNat:Int):=by
 have h1:IntKind.u64.wrap ((b.toNat:Int)*2^min (Int.toNat 8) IntKind.u64.bits)=((b <<< 8).toNat:Int):=EY b 8 (by decide)
 have hc:=c.toNat_lt
 have h2:IntKind.u64.wrap ((c.toNat:Nat):Int)=((BitVec.ofNat 64 c.toNat).toNat:Int):=by
  rw [IntKind.wrap_u64,BitVec.toNat_ofNat];omega
 rw [h2,h1,fL]
 rfl
theorem Jz {s:List UInt8} {k:Nat} (h:k<s.length):s[k]?.getD 0=s[k]:=by simp [h]
def fP (a:BitVec 64) (k:Nat):List AV:=(List.range k).map fun i=> .int .u8 (oa a i:Nat)
theorem ax (a:BitVec 64) (k:Nat):(fP a k).length=k:=by simp [fP]
theorem oc (a:BitVec 64) (k:Nat):fP a k++ [.int .u8 (oa a k:Nat)]=fP a (k+1):=by simp [fP,List.range_succ]
theorem mh (a:BitVec 64):(fP a 8).map Go.Abs.byteOf=ka a:=by
 simp only [fP,ka,List.map_map]
 apply List.map_congr_left
 intro i _
 simp [Go.Abs.byteOf]
theorem qX (a:BitVec 64) (k:Nat):(fP a k).all isByte=true:=by
 rw [List.all_eq_true]
 intro x hx
 obtain ⟨i,_,rfl⟩:=List.mem_map.1 hx
 rfl
theorem HJ (a:BitVec 64) (k:Nat):IntKind.u8.wrap ((a.toNat:Int).fdiv (2^min (56 - 8*k) IntKind.u64.bits))=(oa a k:Nat):=by
 have e4:min (56 - 8*k) IntKind.u64.bits=56 - 8*k:=Nat.min_eq_left (by simp [IntKind.bits];omega)
 rw [e4,Int.fdiv_eq_ediv_of_nonneg _ (Int.pow_nonneg (by omega))]
 have e5:((a.toNat:Int) / 2^(56 - 8*k))=((a.toNat / 2^(56 - 8*k):Nat):Int):=by simp
 rw [e5]
 unfold oa
 simp [IntKind.wrap,IntKind.signed,IntKind.bits]
def b6 (k:Int):Int:=bif decide (k<0)||decide (26≤k) then 11 else 0
def idE (n:Int):Int:=bif decide (n<1)||decide (1099511627776<n) then 2 else 0
theorem JA (l k v:Int):Pu Tryz.prog 137 [.agg [.int .u64 l, .int .i64 k, .int .i64 v]] (.int .i64 (b6 k)):=by
 (refine al Gn Kv fun σ=>?_;simp only [Gn,↓R1,RR,seval])
 repeat' ((first|(refine an (fun hc=>?_) (fun hc=>?_))|(with_reducible intro β hβ;(try simp only [RB] at hβ);(repeat (obtain ⟨⟨_,_⟩,hβ⟩:=hβ));(try (have hbis:=ag (by assumption) hβ;obtain ⟨_,_⟩:=hbis))))<;>(try simp only [↓R1,RR,seval]))
 all_goals first|((refine ak (af ?_));(simp only [ao,↓R1,RR,seval]);simp [b6,hc];done)|(exfalso;simp_all;done)|skip
theorem LQ (l n:Int):Pu Tryz.prog 140 [.agg [.int .u64 l, .int .u64 n]] (.int .i64 (idE n)):=by
 (refine al Gr Ky fun σ=>?_;simp only [Gr,↓R1,RR,seval])
 repeat' ((first|(refine an (fun hc=>?_) (fun hc=>?_))|(with_reducible intro β hβ;(try simp only [RB] at hβ);(repeat (obtain ⟨⟨_,_⟩,hβ⟩:=hβ));(try (have hbis:=ag (by assumption) hβ;obtain ⟨_,_⟩:=hbis))))<;>(try simp only [↓R1,RR,seval]))
 all_goals first|((refine ak (af ?_));(simp only [ao,↓R1,RR,seval]);simp [idE,hc];done)|(exfalso;simp_all;done)|skip
theorem LR (l n:Int):Pu Tryz.prog 192 [.agg [.int .u64 l, .int .u64 n]] (.int .i64 (idE n)):=by
 (refine al GN KT fun σ=>?_;simp only [GN,↓R1,RR,seval])
 repeat' ((first|(refine an (fun hc=>?_) (fun hc=>?_))|(with_reducible intro β hβ;(try simp only [RB] at hβ);(repeat (obtain ⟨⟨_,_⟩,hβ⟩:=hβ));(try (have hbis:=ag (by assumption) hβ;obtain ⟨_,_⟩:=hbis))))<;>(try simp only [↓R1,RR,seval]))
 all_goals first|((refine ak (af ?_));(simp only [ao,↓R1,RR,seval]);simp [idE,hc];done)|(exfalso;simp_all;done)|skip
def D6 (r:RL):AV:= .tup [.int .u64 r.l.toNat, .int .i64 (r.used:Nat), .agg [.int .i64 (r.err:Nat), .int .i64 (r.at_:Nat)]]
theorem JB (e a:Int):Pu Tryz.prog 272 [.int .i64 e, .int .i64 a] (.tup [.int .u64 0, .int .i64 0, .agg [.int .i64 e, .int .i64 a]]):=by
 (refine al He Li fun σ=>?_;simp only [He,↓R1,RR,seval,ltN,dK,dL,eqN,bD,bE,cu,cv,bF,bG,bH])
 repeat' (first|(with_reducible rw [ah])|((with_reducible intro β hβ;(try simp only [RB] at hβ);(repeat (obtain ⟨⟨_,_⟩,hβ⟩:=hβ));(try (have hbis:=ag (by assumption) hβ;obtain ⟨_,_⟩:=hbis)))<;>(try simp only [↓R1,RR,seval,ltN,dK,dL,eqN,bD,bE,cu,cv,bF,bG,bH])))
 (refine ak (af ?_) (by first|(simp [aj,rvS];done)|(simp only [aj,rvS,↓R1,RR,seval,ltN,dK,dL,eqN,bD,bE,cu,cv,bF,bG,bH];try simp)))
 (simp only [ao,↓R1,RR,seval,ltN,dK,dL,eqN,bD,bE,cu,cv,bF,bG,bH])
theorem LS (b:UInt8):Pu Tryz.prog 273 [.int .u8 b.toNat] (.bool (dig b)):=by
 (refine al Hf Lj fun σ=>?_;simp only [Hf,↓R1,RR,seval,ltN,dK,dL,eqN,bD,bE,cu,cv,bF,bG,bH])
 skip
 (refine ak (af ?_) (by first|(simp [aj,rvS];done)|(simp only [aj,rvS,↓R1,RR,seval,ltN,dK,dL,eqN,bD,bE,cu,cv,bF,bG,bH];try simp)))
 (simp only [ao,↓R1,RR,seval,ltN,dK,dL,eqN,bD,bE,cu,cv,bF,bG,bH])
theorem LU (s:List UInt8) (hs:s.length≤4611686018427387904):Pu Tryz.prog 248 [.str s] (D6 (fN s)):=by
  (refine al G9 Ld fun σ=>?_;simp only [G9,↓R1,RR,seval,ltN,dK,dL,eqN,bD,bE,cu,cv,bF,bG,bH])
  intro β hβ
  (try simp only [↓R1,RR,seval,ltN,dK,dL,eqN,bD,bE,cu,cv,bF,bG,bH])
  repeat' (first|(with_reducible apply And.intro)|((first|(refine an (fun hc=>?_) (fun hc=>?_))|(refine Pt (JB _ _) ?_))<;>(try simp only [↓R1,RR,seval,ltN,dK,dL,eqN,bD,bE,cu,cv,bF,bG,bH])))
  all_goals (try simp only [St.set_set,↓R1,RR,seval,ltN,dK,dL,eqN,bD,bE,cu,cv,bF,bG,bH])
  · intro h;simp at h;have:s.length≠0:=fun e=>h (List.eq_nil_of_length_eq_zero e);omega
  · (refine ak (af ?_) (by first|(simp [aj,rvS];done)|(simp only [aj,rvS,↓R1,RR,seval,ltN,dK,dL,eqN,bD,bE,cu,cv,bF,bG,bH];try simp)))
    (simp only [ao,↓R1,RR,seval,ltN,dK,dL,eqN,bD,bE,cu,cv,bF,bG,bH])
    have:s.length=0∨bg s 0≠123:=by simpa using hc
    rw [fN,if_pos this];rfl
  · intro h;simp at h;omega
  · rename_i hc0
    (refine ak (af ?_) (by first|(simp [aj,rvS];done)|(simp only [aj,rvS,↓R1,RR,seval,ltN,dK,dL,eqN,bD,bE,cu,cv,bF,bG,bH];try simp)))
    (simp only [ao,↓R1,RR,seval,ltN,dK,dL,eqN,bD,bE,cu,cv,bF,bG,bH])
    have h0:¬ (s.length=0∨bg s 0≠123):=by simpa using hc0
    have h1:1<s.length∧bg s 1=125:=by simpa using hc
    rw [fN,if_neg h0,if_pos h1];rfl
  rename_i hc0
  have h0:¬ (s.length=0∨bg s 0≠123):=by simpa using hc0
  have h1:¬ (1<s.length∧bg s 1=125):=by simpa using hc
  have hR:fN s=la s (s.length+1) 0#64 (-1) 1:=by rw [fN,if_neg h0,if_neg h1]
  rw [hR]
  obtain ⟨R,hR'⟩:∃ R,la s (s.length+1) 0#64 (-1) 1=R:=⟨_,rfl⟩
  rw [hR'] at hR ⊢
  have hlen:1≤s.length:=by rcases Nat.eq_zero_or_pos s.length with h|h;exact (h0 (.inl h)).elim;exact h
  clear hc hc0 h0 h1
  refine bQ (α:=Nat × BitVec 64 × Int × Nat) (fun z=> [(7, .int .i64 (z.2.2.2:Nat)),(6, .int .i64 z.2.2.1),(0, .str s),(2, .int .u64 z.2.1.toNat),(4, .ptr β 0),(5, .fn 272 [])]) (fun _=>σ.ad β [.int .i64 0, .int .i64 0])
    (fun z=>la s z.1 z.2.1 z.2.2.1 z.2.2.2=R∧s.length+1<z.1+z.2.2.2∧z.2.2.2≤s.length) (fun z=>z.1) (s.length+1,0#64, -1,1) (by simp [aE,slot,ae]) (St.le_refl _) ⟨hR',by simp only;omega,hlen⟩ ?_
  rintro ⟨f,l,last,a⟩ ⟨hN,hf,ha⟩
  simp only at hN hf ha ⊢
  obtain ⟨f,rfl⟩:∃ g,f=g+1:=⟨f - 1,by omega⟩
  simp only [↓R1,RR,seval,ltN,dK,dL,eqN,bD,bE,cu,cv,bF,bG,bH]
  obtain ⟨sc,hsc⟩:∃ sc,scan s a (s.length - a) a 0=sc:=⟨_,rfl⟩
  have hN2:=hN
  unfold la at hN2
  rw [hsc] at hN2
  refine bQ (α:=Nat × Nat) (fun z=> [(7, .int .i64 (z.1:Nat)),(9, .int .i64 (z.2:Nat)),(8, .int .i64 (a:Nat)),(6, .int .i64 last),(0, .str s),(2, .int .u64 l.toNat),(4, .ptr β 0),(5, .fn 272 [])]) (fun _=>σ.ad β [.int .i64 0, .int .i64 0])
    (fun z=>scan s a (s.length - z.1) z.1 z.2=sc∧a≤z.1∧z.1≤s.length∧z.2≤1000) (fun z=>s.length - z.1) (a,0) (by simp [aE,slot,ae]) (St.le_refl _) ⟨hsc,by simp,ha,by simp⟩ ?_
  rintro ⟨b,n⟩ ⟨hS,hab,hbl,hn⟩
  simp only at hS hab hbl hn ⊢
  simp only [↓R1,RR,seval,ltN,dK,dL,eqN,bD,bE,cu,cv,bF,bG,bH]
  repeat' (first|(with_reducible refine And.intro ?_ ?_;exact aq)|(with_reducible apply And.intro)|((first|(refine ir (fun hc=>?_) (fun hc=>?_)<;>(try simp only [hc,↓R1,RR,seval,ltN,dK,dL,eqN,bD,bE,cu,cv,bF,bG,bH]))|(refine an (fun hc=>?_) (fun hc=>?_))|(refine Pt (JB _ _) ?_)|(refine Pt (LS _) ?_))<;>(try simp only [↓R1,RR,seval,ltN,dK,dL,eqN,bD,bE,cu,cv,bF,bG,bH])))
  all_goals (simp only [decide_eq_true_eq,decide_eq_false_iff_not,Bool.and_eq_false_iff,Bool.and_eq_true,Bool.not_eq_true',Bool.not_eq_false'] at *)
  all_goals first|omega|(intro h;omega)|skip
  all_goals (have hdd:dig (bg s b)=dig ((s[b]?).getD 0):=rfl)
  all_goals first
    | (have hd : ¬ (b < s.length ∧ dig (bg     s b) = true) := (by rw [hdd]; grind)
       have hA:=iv s a (s.length - b) b n hd
       rw [hS] at hA
       rw [hA] at hN2
       simp only [Bool.true_eq_false,if_false] at hN2
       first
       | ((refine ak    (af       ?_) (by first | (simp [aj,   rvS]; done) | (simp only [aj,   rvS, ↓R1, RR, seval, ltN, dK,   dL,   eqN, bD,     bE,     cu,    cv,    bF,     bG,     bH];     try simp)))
          (simp only [ao,↓R1,RR,seval,ltN,dK,dL,eqN,bD,bE,cu,cv,bF,bG,bH])
          rw [←hN2]
          grind [D6,bad])
       | skip)
    | skip
  · rename_i h1 h2
    have h3:=hc
    obtain ⟨d,hd⟩:∃ d,s.length - b=d+1:=⟨s.length - b - 1,by omega⟩
    have hA:=nU s a d b n ⟨by omega,by rw [hdd];exact h2.2⟩ ⟨h3.1,h3.2⟩
    rw [←hd,hS] at hA
    rw [hA] at hN2
    (refine ak (af ?_) (by first|(simp [aj,rvS];done)|(simp only [aj,rvS,↓R1,RR,seval,ltN,dK,dL,eqN,bD,bE,cu,cv,bF,bG,bH];try simp)))
    (simp only [ao,↓R1,RR,seval,ltN,dK,dL,eqN,bD,bE,cu,cv,bF,bG,bH])
    rw [←hN2]
    rfl
  · rename_i h1 h2
    have h3:=hc
    have hdg:dig (bg s b)=true:=by rw [hdd];exact h2.2
    obtain ⟨d,hd⟩:∃ d,s.length - b=d+1:=⟨s.length - b - 1,by omega⟩
    have hA:=lC s a d b n ⟨by omega,hdg⟩ (by intro hz;rcases h3 with h|h;exact h hz.1;exact h hz.2)
    rw [←hd,hS] at hA
    refine ⟨(b+1,min 1000 (10*n+((bg s b).toNat - 48))),⟨?_,by simp only;omega,by simp only;omega,by simp only;omega⟩,?_,St.le_refl _,by simp only;omega⟩
    · simp only;rw [show s.length - (b+1)=d by omega];exact hA.symm
    · simp only [aE,slot,ae,↓R1,RR,seval,ltN,dK,dL,eqN,bD,bE,cu,cv,bF,bG,bH]
      exact ⟨af (by rw [FX (by omega)]),af (congrArg _ (Ak (c:=bg s b) hdg hn))⟩
  · rw [FW hn];omega
  · (refine ak (af ?_) (by first|(simp [aj,rvS];done)|(simp only [aj,rvS,↓R1,RR,seval,ltN,dK,dL,eqN,bD,bE,cu,cv,bF,bG,bH];try simp)))
    (simp only [ao,↓R1,RR,seval,ltN,dK,dL,eqN,bD,bE,cu,cv,bF,bG,bH])
    rw [Aj l (by omega),FX (by omega),←hN2]
    grind [D6]
  · refine ⟨(f,l ||| 1#64 <<< n,(n:Int),b+1),⟨by simp only;rw [←hN2];grind,by simp only;omega,by simp only;omega⟩,?_,St.le_refl _,by simp only;omega⟩
    simp only [aE,slot,ae,↓R1,RR,seval,ltN,dK,dL,eqN,bD,bE,cu,cv,bF,bG,bH]
    exact ⟨af (by rw [FX (by omega)]),af (by rw [Aj l (by omega)])⟩
  · rw [FW hn];omega
def D7 (r:RL):AV:= .tup [.int .u64 r.l.toNat, .agg [.int .i64 (r.err:Nat), .int .i64 (r.at_:Nat)]]
theorem LV {n:Nat}:((n:Int) != 0)= !decide (n=0):=by rw [Bool.eq_iff_iff];simp
theorem JC (s:List UInt8) (hs:s.length≤4611686018427387904):Pu Tryz.prog 204 [.str s] (D7 (c8 s)):=by
 have hr:=LU s hs
 unfold D6 at hr
 (refine al GV KZ fun σ=>?_;simp only [GV,↓R1,RR,seval,ltN,dK,dL,eqN,bD,bE,cu,cv,bF,bG,bH])
 repeat' (first|(with_reducible rw [ah])|((first|(refine an (fun hc=>?_) (fun hc=>?_))|(with_reducible intro β hβ;(try simp only [RB] at hβ);(repeat (obtain ⟨⟨_,_⟩,hβ⟩:=hβ));(try (have hbis:=ag (by assumption) hβ;obtain ⟨_,_⟩:=hbis)))|(refine Pt (hr) ?_))<;>(try simp only [↓R1,RR,seval,ltN,dK,dL,eqN,bD,bE,cu,cv,bF,bG,bH])))
 all_goals (refine ak (af ?_) (by first|(simp [aj,rvS];done)|(simp only [aj,rvS,↓R1,RR,seval,ltN,dK,dL,eqN,bD,bE,cu,cv,bF,bG,bH];try simp)))
 all_goals (simp only [ao,↓R1,RR,seval,ltN,dK,dL,eqN,bD,bE,cu,cv,bF,bG,bH])
 all_goals (simp only [decide_eq_true_eq,decide_eq_false_iff_not,bne_iff_ne,bne_eq_false_iff_eq] at *)
 all_goals grind [D7,c8,bad]
end Go.Proofs.YtgephffbfiemeaaGreatDoor
