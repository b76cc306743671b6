/- Part 17 of the proof of ScriptBoths: an abstract semantics that is proved sound for the model, contracts of functions in it, and plain facts (LW1 LW2 LR7 LW4 LW5 LR9 EV1). No condition. -/
import Derived.Test.YtgephffbfiemeaaGreatDoorKScriptBoths16
import Derived.Shelf.Spec.TrailingZeros
set_option linter.all false
namespace Go.Proofs.YtgephffbfiemeaaGreatDoor
open Go.Abs
set_option linter.all false
set_option maxRecDepth 100000
def rS:List AV:=Lib.deBruijn64tab.map fun n=>AV.int .u8 (n:Nat)
def gls:List (Nat × List AV):= [(1,rS)]
theorem Et {σ:St} (h:bR gls σ):σ.glob 1=some rS:=h _ _ rfl
theorem _root_.NZ {p:Prop} (h:p:=by simpa using h):p:=h
theorem Bs {a:BitVec 64} (h:a.toNat=0):a=0#64:=BitVec.eq_of_toNat_eq NZ
theorem Bu (l:List Nat) (i c:Nat) (h:i<l.length) (e:l.getD i 0=c):(l.map fun n=>AV.int .u8 (n:Nat))[i]? =some (.int .u8 (c:Int)):=by
 rw [List.getD_eq_getElem?_getD,List.getElem?_eq_getElem h] at e
 rw [List.getElem?_map,List.getElem?_eq_getElem h,←e]
 rfl
theorem Bv (a:BitVec 64) (ha:a≠0#64):∃ idx:Nat,(IntKind.u64.wrap (bits .and .u64 (a.toNat:Int) (IntKind.u64.wrap (0 - (a.toNat:Int)))*285870213051353865)).fdiv (2^min (Int.toNat 58) IntKind.u64.bits)=(idx:Int)∧idx<64∧rS[idx]? =some (.int .u8 ((Lib.ctz 64 a.toNat:Nat):Int)):=by
 have h0:a.toNat≠0:=fun h=>ha (Bs h)
 obtain ⟨hlow,hk⟩:=Lib.lowest_bit 64 a.toNat h0 a.isLt
 obtain ⟨hi,htab⟩:=Lib.deBruijn64_at _ hk
 have key:=Go.Proofs.tz64_key a.toNat _ a.isLt h0 hlow
 generalize 2^Lib.ctz 64 a.toNat*285870213051353865 % 18446744073709551616 / 288230376151711744=idx at hi htab key
 obtain ⟨c,hc⟩:∃ c,Lib.ctz 64 a.toNat=c:=⟨_,rfl⟩
 rw [hc] at htab ⊢
 clear hc hlow hk
 refine ⟨idx,?_,hi,?_⟩
 ·have e:(2:Int)^min (Int.toNat 58) IntKind.u64.bits=288230376151711744:=by simp [IntKind.bits]
  rw [e,Int.zero_sub,Int.fdiv_eq_ediv_of_nonneg _ (by decide:(0:Int)≤288230376151711744)];exact key
 ·exact Bu Lib.deBruijn64tab idx c (show idx<64 from hi) htab
theorem Bw:rS.length=64:=Na
theorem Eu (a:BitVec 64) (ha:a≠0#64):IntKind.i64.wrap ((Lib.ctz 64 a.toNat:Nat):Int)=((Lib.ctz 64 a.toNat:Nat):Int):=by
 have:=(rD a ha).1
 rw [wrap64 MX MX]
theorem L3 (a:BitVec 64) (ha:a≠0#64):PuG Tryz.prog gls 170 [.int .u64 a.toNat] (.int .i64 ((Lib.ctz 64 a.toNat:Nat):Int)):=by
 have h0:a.toNat≠0:=fun h=>ha (Bs h)
 obtain ⟨idx,hidx,hi,ht⟩:=Bv a ha
 have hz:((a.toNat:Int) == 0)=false:=Ng
 (refine aR Hc Lb fun σ hσ=>?_;simp only [Hc,↓R1,RR,Nat.reduceEqDiff])
 have hg:=Et hσ
 have hl:=Bw
 have hd:(List.drop (idx*1) rS)[0]? =some (.int .u8 ((Lib.ctz 64 a.toNat:Nat):Int)):=by
  rw [Nat.mul_one,List.getElem?_drop,Nat.add_zero];exact ht
 simp only [hz,hg,hidx,↓R1,RR,Nat.reduceEqDiff]
 rw [hd]
 refine ⟨by decide,⟨by omega,by omega,by omega⟩,by simp;omega,trivial,?_⟩
 (refine ak (ag ?_))
 (simp only [aq,↓R1,RR,Nat.reduceEqDiff])
 rw [Eu a ha]
theorem L4 (b:BitVec 64):((b.toNat:Int) != 0)= !(b == 0#64):=by
 rw [show (0:Int)=((0#64:BitVec 64).toNat:Int) by rfl,bne,GA]
theorem H4 (b:BitVec 64):IntKind.u64.wrap ((b.toNat:Int) - 1)=((b - 1#64).toNat:Int):=by
 rw [IntKind.wrap_u64,BitVec.toNat_sub]
 simp only [BitVec.toNat_ofNat]
 have:=b.isLt
 omega
theorem L5 (a:BitVec 64) (σ:St):AC Tryz.prog 111 [.int .u64 a.toNat] σ (fun r s=>∃ β,σ.box β=none∧r= .fn 169 [.ptr β 0]∧s=σ.aa β [.int .u64 a.toNat]):=by
 refine bf GQ KR ?_
 simp only [GQ,↓R1,RR,seval]
 intro β hβ
 refine cu ?_
 exact ⟨β,hβ,rfl,rfl⟩
theorem _root_.M8 {p:Prop} (h:p:=by simp [av,slot,ae]):p:=h
theorem _root_.NG {p:Prop} (h:p:=by simp [ax]):p:=h
theorem Ev {prs:List Nat} {asg body:CC} {fr:Fr} {Q:Exit→Fr→St→Prop} {β:Nat} (a:BitVec 64) (T:List Nat→BitVec 64→St) (I:List Nat→Prop) (hps:prs.length=1) (hI0:I [])
  (hb:∀ pre b,(T pre b).box β=some [.int .u64 b.toNat]) (hs:∀ pre b b',(T pre b).aa β [.int .u64 b'.toNat]=T pre b') (hg:∀ pre b,bR gls (T pre b)) (hl:∀ pre b L,(T pre b).lp L=(T [] a).lp L)
  (hround:∀ L (r:Loop) pre k b,(T [] a).lp L=none→I pre→(∃ rest,cL a=pre++k::rest)→aC Tryz.prog asg (iU prs [.int .i64 (k:Nat)] fr) ((T pre b).ay L (r,fr)) (fun e fr1 σ2=>e= .normal∧σ2=(T pre b).ay L (r,fr) ∧
   aC Tryz.prog body fr1 ((T pre b).ay L (busy r,fr)) (fun e _ σ3=>match e with
    | .normal=>∃ s,σ3=s.ay L (busy r,fr)∧s.lp L=none∧s=T (pre++ [k]) b∧I (pre++ [k])
    | .ret=>∃ s,σ3=s.ay L (busy r,fr)∧s.lp L=none∧Q .ret fr s
    | .exit id=>∃ s,σ3=s.ay L (busy r,fr)∧s.lp L=none∧Q (.exit id) fr s
    | _=>False)))
  (hend:I (cL a)→Q .normal fr (T (cL a) 0#64)):RF Tryz.prog 169 [.ptr β 0] prs asg body fr (T [] a) Q:=by
 refine ⟨by kernel_rfl,fun L r hL hr1 hr2 hY=>?_⟩
 have hg':∀ pre b,bR gls ((T pre b).ay L (r,fr)):=fun pre b=>hg pre b
 have hb':∀ pre b,((T pre b).ay L (r,fr)).box β=some [.int .u64 b.toNat]:=fun pre b=>hb pre b
 have hs':∀ pre b b',((T pre b).ay L (r,fr)).aa β [.int .u64 b'.toNat]=(T pre b').ay L (r,fr):=fun pre b b'=>by rw [←St.en,hs]
 have hY':∀ pre k b,I pre→(∃ rest,cL a=pre++k::rest)→YC Tryz.prog L [.int .i64 (k:Nat)] ((T pre b).ay L (r,fr)) _:=fun pre k b hi hk =>
  Bd (by rw [hl,hL]) hY (by simpa using hps.symm) (hround L r pre k b hL hi hk)
 refine bf Hb La ?_
 simp only [Hb,↓R1,RR,seval]
 refine b6 (α:=List Nat × BitVec 64) (fun _=> [(0, .yld L),(1, .ptr β 0)]) (fun z=>(T z.1 z.2).ay L (r,fr)) (fun z=>cL a=z.1++cL z.2∧I z.1) (fun z=>(cL z.2).length) ([],a) M8 (St.le_refl _) ⟨rfl,hI0⟩ ?_
 rintro ⟨pre,b⟩ ⟨hI,hIp⟩
 simp only at hI hIp ⊢
 simp only [hb,L4,↓R1,RR,seval]
 refine an (fun hc=>?_) (fun hc=>?_)
 ·have hb0:b≠0#64:=by simpa using hc
  have hcs:=xL b hb0
  simp only [hb,↓R1,RR,seval]
  refine PuG.to (L3 b hb0) (hg' _ _) (ad _) ?_
  simp only [hb,↓R1,RR,seval]
  refine (hY' pre (Lib.ctz 64 b.toNat) b hIp ⟨_,by rw [hI,hcs]⟩).mono ?_
  rintro v s' (⟨rfl,s,rfl,hsl,rfl,hIn⟩|⟨rfl,h2⟩)
  ·simp only [hb,H4,fu,hs',↓R1,RR,seval]
   refine ⟨(pre++ [Lib.ctz 64 b.toNat],b &&& b - 1#64),⟨by simp only;rw [hI,hcs];simp,hIn⟩,by simp [av,slot,ae],St.le_refl _,by simp only [hcs,List.length_cons];omega⟩
  ·simp only [↓R1,RR,seval]
   refine cu (.inr ?_) NG
   rcases h2 with ⟨s,rfl,h3,h4⟩|⟨id,s,rfl,h3,h4⟩
   ·exact .inl ⟨St.bd _ _ _,by rw [St.drop_set h3];exact h4⟩
   ·exact .inr ⟨id,St.bd _ _ _,by rw [St.drop_set h3];exact h4⟩
 ·have hb0:b=0#64:=by simpa using hc
  subst hb0
  rw [xK,List.append_nil] at hI
  subst hI
  simp only [↓R1,RR,seval]
  refine cu (.inl ⟨St.bd _ _ _,?_⟩) NG
  rw [St.drop_set (by rw [hl,hL])]
  exact hend hIp
def ints (l:List Nat):List AV:=l.map fun n=>AV.int .i64 (n:Nat)
theorem bC (l:List Nat):(ints l).length=l.length:=by simp [ints]
theorem ye (l:List Nat) (k:Nat):ints l++ [.int .i64 (k:Nat)]=ints (l++ [k]):=by simp [ints]
theorem _root_.NJ {p:Prop} (h:p:=by rw [Bool.eq_iff_iff];simp;omega):p:=h
theorem L6 {k:Nat}:decide ((k:Int)<64)=decide (k<64):=NJ
theorem _root_.NM {p:Prop} (h:p:=by rw [IntKind.wrap_u64];omega):p:=h
theorem H5 (a:BitVec 64) {k:Nat} (h:k≤64):(bits .and .u64 ((a.toNat:Int).fdiv (2^min (IntKind.u64.wrap (k:Int)).toNat IntKind.u64.bits)) 1 == 1)=a.getLsbD k:=by
 have e1:IntKind.u64.wrap (k:Int)=k:=NM
 have e2:(1:Int)=((1#64:BitVec 64).toNat:Int):=rfl
 rw [e1,Int.toNat_natCast,show IntKind.u64.bits=64 from rfl,JI a k h,e2,fu,GA,Bool.eq_iff_iff,beq_iff_eq]
 constructor
 ·intro he
  have:((a >>> k) &&& 1#64).getLsbD 0=true:=by rw [he];rfl
  simp only [BitVec.getLsbD_and,Bool.and_eq_true,BitVec.getLsbD_ushiftRight,Nat.add_zero] at this
  exact this.1
 ·intro he
  apply BitVec.eq_of_getLsbD_eq
  intro i hi
  simp only [BitVec.getLsbD_and,BitVec.getLsbD_ushiftRight,BitVec.getLsbD_one]
  cases i with
  | zero=>simp [he]
  | succ i=>simp
theorem L7 (a:BitVec 64) (k:Nat) (h:k≤64):Pu Tryz.prog 178 [.int .u64 a.toNat, .int .i64 (k:Nat)] (.bool (a.getLsbD k)):=by
 have hb:=H5 a h
 have e1:IntKind.u64.wrap (k:Int)=k:=NM
 (refine al Hf Le fun σ=>?_;simp only [Hf,↓R1,RR,seval])
 simp only [hb]
 refine ⟨by omega,?_⟩
 (refine ak (ag ?_))
 (simp only [aq,↓R1,RR,seval])
def fx (a:BitVec 64) (k:Nat):List Nat:=(List.range k).filter a.getLsbD
theorem lf (a:BitVec 64) (k:Nat):fx a (k+1)=if a.getLsbD k=true then fx a k++ [k] else fx a k:=by
 simp only [fx,List.range_succ,List.filter_append,List.filter_cons,List.filter_nil]
 split<;>simp
theorem uj (a:BitVec 64) (k:Nat):(fx a k).length≤k:=Nat.le_trans (List.length_filter_le _ _) M1
theorem uk (a:BitVec 64):fx a 64=cL a:=rfl
theorem _root_.Nd {p:Prop} (h:p:=by simp [ax,rvS]):p:=h
theorem L8 (a:BitVec 64):Tp Tryz.prog 118 [.int .u64 a.toNat] 3 1 (cL a).length (ints (cL a)):=by
 intro σ
 (refine bf GS KS ?_;simp only [GS,↓R1,RR,seval])
 refine tR 64 3 3 1 0 [] (fun τ k=> [(4, .int .i64 (k:Nat)),(0, .int .u64 a.toNat),(3, .tsl τ (fx a k).length (ints (fx a k)))]) (fun τ k=>σ.ao τ (3,1,(fx a k).length)) (fun _=>True) trivial rfl trivial (fun τ=>by simp [av,slot,ae,fx,ints]) (fun τ _=>St.le_refl _) (fun τ hτ k hk _=>?_)
 simp only [L6,↓R1,RR,seval]
 refine an (fun hc=>?_) (fun hc=>?_)
 ·have hlt:k<64:=by simpa using hc
  have hl:=uj a k
  have hm:(fx a k).length+1≤maxLen:=NB
  simp only [↓R1,RR,seval]
  refine (L7 a k MX).to (ad _) ?_
  simp only [↓R1,RR,seval]
  refine an (fun hb=>?_) (fun hb=>?_)
  ·rw [lf,if_pos hb]
   simp only [↓R1,RR,seval]
   repeat' (first|((first|refine an (fun hc=>?_) (fun hc=>?_)|(with_reducible intro β hβ;(try simp only [St.aE,St.bw,St.bI,St.bJ,St.cn,St.cw] at hβ);(repeat (obtain ⟨⟨_,_⟩,hβ⟩:=hβ));(try (have hbis:=ah M0 hβ;obtain ⟨_,_⟩:=hbis)))|((first|(refine bp (.inr rfl) rfl ?_ ?_ ?_ ?_ ?_ ?_;(first|rfl|exact St.aH _ _ _|(simp only [↓R1,RR,seval]));(first|omega|(simp only [bC,List.length_map,List.length_append,List.length_nil,List.length_cons];omega)|(simp only [bC,List.length_map,List.length_append,List.length_nil,List.length_cons]));(first|rfl|first|omega|(simp only [bC,List.length_map,List.length_append,List.length_nil,List.length_cons];omega)|(simp only [bC,List.length_map,List.length_append,List.length_nil,List.length_cons])))|(refine aV rfl ?_ ?_ ?_ ?_ ?_ ?_;(first|rfl|exact St.aH _ _ _|(simp only [↓R1,RR,seval]));(first|omega|(simp only [bC,List.length_map,List.length_append,List.length_nil,List.length_cons];omega)|(simp only [bC,List.length_map,List.length_append,List.length_nil,List.length_cons]));(first|rfl|first|omega|(simp only [bC,List.length_map,List.length_append,List.length_nil,List.length_cons];omega)|(simp only [bC,List.length_map,List.length_append,List.length_nil,List.length_cons]))));(unfold maxLen;omega);omega))<;>(try simp only [↓R1,RR,seval]))|(with_reducible refine And.intro ?_ ?_;(focus (first|omega|(intros;(repeat' (with_reducible apply And.intro))<;>first|omega|(simp only [bC,List.length_map,List.length_append];omega)))))|(with_reducible apply And.intro))
   all_goals first|omega|exact Nat.le_refl _|assumption|exact St.le_refl _|(intros;(repeat' (with_reducible apply And.intro))<;>first|omega|(simp only [bC,List.length_map,List.length_append];omega))|(simp only [av,slot,ae,↓R1,RR,seval];all_goals exact bE)|exact bu|(simp_all;done)|skip
   simp only [ye,av,slot,ae,↓R1,RR,seval]
   ·exact ⟨tQ MX,ag M1⟩
   ·simp only [List.length_append,List.length_cons,List.length_nil,Nat.zero_add]
    exact St.le_refl _
  ·rw [lf,if_neg (by simp [hb])]
   simp only [↓R1,RR,seval]
   refine ⟨hlt,?_,St.le_refl _⟩
   simp only [av,slot,ae,↓R1,RR,seval]
   exact tQ MX
 ·have:k=64:=by simp at hc;omega
  subst this
  simp only [uk,↓R1,RR,seval]
  refine A2 τ hτ M1 Nd (ag (by (simp only [aq,↓R1,RR,seval]))) (St.le_refl _)
theorem _root_.MZ {p:Prop} (h:p:=by rw [wrap64 (by omega) (by omega)];omega):p:=h
theorem H6 {k:Nat} (h:k<200):IntKind.i64.wrap (48+(k:Int))=((48+k:Nat):Int):=MZ
theorem _root_.NP {p:Prop} (h:p:=by simp [IntKind.wrap,IntKind.signed,IntKind.bits];omega):p:=h
theorem H7 {k:Nat} (h:k<200):IntKind.u8.wrap ((48+k:Nat):Int)=((48+k:Nat):Int):=NP
theorem Ew (k:Nat) (h:k<64):Pu Tryz.prog 119 [.int .i64 (k:Nat)] (.str (gU k)):=by
 have h10:decide ((k:Int)<10)=decide (k<10):=NJ
 have hd:Int.tdiv (k:Int) 10=((k / 10:Nat):Int):=rfl
 have hm:Int.tmod (k:Int) 10=((k % 10:Nat):Int):=rfl
 have wd:IntKind.i64.wrap ((k / 10:Nat):Int)=((k / 10:Nat):Int):=wrap64 MX MX
 have wm:IntKind.i64.wrap ((k % 10:Nat):Int)=((k % 10:Nat):Int):=wrap64 MX MX
 have a1:=H6 (k:=k) MX
 have a2:=H6 (k:=k / 10) MX
 have a3:=H6 (k:=k % 10) MX
 have b1:=H7 (k:=k) MX
 have b2:=H7 (k:=k / 10) MX
 have b3:=H7 (k:=k % 10) MX
 (refine al GU KT fun σ=>?_;simp only [GU,↓R1,RR,seval])
 simp only [h10,↓R1,RR,seval]
 refine an (fun hc=>?_) (fun hc=>?_)
 ·have:k<10:=by simpa using hc
  simp only [↓R1,RR,seval]
  repeat' (first|(with_reducible apply And.intro))
  all_goals first|omega|exact Nat.le_refl _|assumption|exact St.le_refl _|(intros;(repeat' (with_reducible apply And.intro))<;>first|omega|(simp only [bC,List.length_map,List.length_append];omega))|(simp only [av,slot,ae,↓R1,RR,seval];all_goals exact bE)|exact bu|(simp_all;done)|skip
  all_goals simp only [a1,b1,↓R1,RR,seval]
  ·rfl
  ·(refine ak (ag ?_))
   (simp only [aq,↓R1,RR,seval])
   simp only [gU,if_pos this,Go.Abs.byteOf,Int.toNat_natCast]
 ·have:¬ k<10:=by simpa using hc
  simp only [hd,hm,↓R1,RR,seval]
  repeat' (first|(with_reducible apply And.intro))
  all_goals first|omega|exact Nat.le_refl _|assumption|exact St.le_refl _|(intros;(repeat' (with_reducible apply And.intro))<;>first|omega|(simp only [bC,List.length_map,List.length_append];omega))|(simp only [av,slot,ae,↓R1,RR,seval];all_goals exact bE)|exact bu|(simp_all;done)|skip
  all_goals simp only [hd,hm,wd,wm,a2,b2,a3,b3,↓R1,RR,seval]
  ·rfl
  ·(refine ak (ag ?_))
   (simp only [aq,↓R1,RR,seval])
   simp only [gU,if_neg this,Go.Abs.byteOf,Int.toNat_natCast]
theorem lg (x:Nat):∀ m:List Nat,dK (m++ [x])=dK m++44::gU x
 | []=>by simp [dK]
 | k::m=>by simp [dK,lg x m]
theorem um (x k:Nat) (m:List Nat):ej (k::m++ [x])=ej (k::m)++44::gU x:=by
 simp [ej,lg]
def mD (l:List Nat) (k:Nat):List UInt8:=123::ej (l.take k)
theorem By (l:List Nat) (h:0<l.length):mD l 0++gU l[0]=mD l 1:=by
 cases l with
 | nil=>simp at h
 | cons x l=>simp [mD,ej,dK]
theorem yf (l:List Nat) {k:Nat} (hk:0<k) (h:k<l.length):mD l k++ [44]++gU l[k]=mD l (k+1):=by
 unfold mD
 rw [←List.take_append_getElem h]
 obtain ⟨x,m,hm⟩:∃ x m,l.take k=x::m:=by
  cases l with
  | nil=>simp at h
  | cons x l=>obtain ⟨j,rfl⟩:∃ j,k=j+1:=⟨k - 1,by omega⟩;exact ⟨x,l.take j,rfl⟩
 rw [hm,um]
 simp
theorem rT (l:List Nat) (k:Nat):(ej (l.take k)).length≤3*l.length:=by
  cases h:l.take k with
  | nil=>simp [ej]
  | cons x m =>
    have h1:=jl m
    have h2:=ic x
    have h3:(x::m).length≤l.length:=by rw [←h];simp;omega
    simp only [ej,List.length_append]
    simp only [List.length_cons] at h3
    omega
theorem mE (a:BitVec 64) (k:Nat):(mD (cL a) k).length≤193:=by
 have h1:=rT (cL a) k
 have h2:=fY a
 simp only [mD,List.length_cons];omega
theorem ints_at (l:List Nat) {k:Nat} (h:k<l.length):(ints l)[k]? =some (.int .i64 (l[k]:Nat)):=by
 simp [ints,h]
theorem Bz (l:List Nat) {k:Nat} (h:k<l.length):List.take 1 (List.drop (k*1) (ints l))= [.int .i64 (l[k]:Nat)]:=by
 have:=ints_at l h
 rw [Nat.mul_one,List.drop_eq_getElem_cons (by rw [bC];exact h)]
 simp [ints]
theorem Ey {k n:Nat}:decide ((k:Int)<(n:Int))=decide (k<n):=M1
theorem gt0 {k:Nat}:decide ((0:Int)<(k:Int))=decide (0<k):=M1
theorem p58 (a:BitVec 64):Pu Tryz.prog 58 [.int .u64 a.toNat] (.str (cO a)):=by
 (refine al c58 b58 fun σ=>?_;simp only [c58,↓R1,RR,seval])
 repeat' (first|(refine Tp.to (L8 a) ?_ ?_;(focus exact cW);intro τ hβ;(try simp only [St.aE,St.bw,St.bI,St.bJ,St.cn,St.cw] at hβ);(repeat (obtain ⟨⟨_,_⟩,hβ⟩:=hβ));(try (have hbis:=ah M0 hβ;obtain ⟨_,_⟩:=hbis));(try simp only [↓R1,RR,seval])))
 have hcl:=fY a
 refine aQ (cL a).length (fun k=> [(5, .int .i64 (k:Nat)),(3, .str (mD (cL a) k)),(4, .tsl τ (cL a).length (ints (cL a)))]) (fun _=>σ.ao τ (3,1,(cL a).length)) (fun _=>True) (by simp [av,slot,ae,mD,ej]) (St.le_refl _) trivial (fun k hk _=>?_)
 simp only [Ey,↓R1,RR,seval]
 refine an (fun hc=>?_) (fun hc=>?_)
 ·have hlt:k<(cL a).length:=by simpa using hc
  have hp:=mE a k
  have hp1:=mE a (k+1)
  have hcl2:=fY a
  have hkk:(cL a)[k]<64:=pE (List.getElem_mem hlt)
  simp only [gt0,↓R1,RR,seval]
  have hg:=Bz (cL a) hlt
  repeat' (first|((first|refine an (fun hc=>?_) (fun hc=>?_)|(with_reducible intro β hβ;(try simp only [St.aE,St.bw,St.bI,St.bJ,St.cn,St.cw] at hβ);(repeat (obtain ⟨⟨_,_⟩,hβ⟩:=hβ));(try (have hbis:=ah M0 hβ;obtain ⟨_,_⟩:=hbis)))|((first|(refine bp (.inr rfl) rfl ?_ ?_ ?_ ?_ ?_ ?_;(first|rfl|exact St.aH _ _ _|(simp only [↓R1,RR,seval]));(first|omega|(simp only [bC,List.length_map,List.length_append,List.length_nil,List.length_cons];omega)|(simp only [bC,List.length_map,List.length_append,List.length_nil,List.length_cons]));(first|rfl|first|omega|(simp only [bC,List.length_map,List.length_append,List.length_nil,List.length_cons];omega)|(simp only [bC,List.length_map,List.length_append,List.length_nil,List.length_cons])))|(refine aV rfl ?_ ?_ ?_ ?_ ?_ ?_;(first|rfl|exact St.aH _ _ _|(simp only [↓R1,RR,seval]));(first|omega|(simp only [bC,List.length_map,List.length_append,List.length_nil,List.length_cons];omega)|(simp only [bC,List.length_map,List.length_append,List.length_nil,List.length_cons]));(first|rfl|first|omega|(simp only [bC,List.length_map,List.length_append,List.length_nil,List.length_cons];omega)|(simp only [bC,List.length_map,List.length_append,List.length_nil,List.length_cons]))));(unfold maxLen;omega);omega))<;>(try simp only [↓R1,RR,seval]))|(with_reducible refine And.intro ?_ ?_;(focus (first|omega|(intros;(repeat' (with_reducible apply And.intro))<;>first|omega|(simp only [bC,List.length_map,List.length_append];omega)))))|(with_reducible apply And.intro))
  all_goals simp only [hg,↓R1,RR,seval]
  ·have hs:=yf (cL a) Nu hlt
   repeat' (first|(with_reducible refine And.intro ?_ ?_;(focus (first|omega|(intros;(repeat' (with_reducible apply And.intro))<;>first|omega|(simp only [bC,List.length_map,List.length_append];omega)))))|(with_reducible apply And.intro)|((first|refine Pu.to (Ew _ hkk) (ad _) ?_|refine bo (Ew _ hkk) (ad _) ?_);(try simp only [↓R1,RR,seval])))
   ·have:=ic (cL a)[k]
    simp only [List.length_append,List.length_cons,List.length_nil];omega
   ·simp only [av,slot,ae,hs,↓R1,RR,seval];exact tQ MX
   ·exact St.le_refl _
  ·have:k=0:=by simp at hc;omega
   subst this
   have hs:=By (cL a) hlt
   repeat' (first|(with_reducible refine And.intro ?_ ?_;(focus (first|omega|(intros;(repeat' (with_reducible apply And.intro))<;>first|omega|(simp only [bC,List.length_map,List.length_append];omega)))))|(with_reducible apply And.intro)|((first|refine Pu.to (Ew _ hkk) (ad _) ?_|refine bo (Ew _ hkk) (ad _) ?_);(try simp only [↓R1,RR,seval])))
   ·have:=ic (cL a)[0]
    omega
   ·simp only [av,slot,ae,hs,↓R1,RR,seval];exact tQ MX
   ·exact St.le_refl _
 ·have:k=(cL a).length:=by simp at hc;omega
  subst this
  have hp:=mE a (cL a).length
  simp only [↓R1,RR,seval]
  refine ⟨by omega,?_⟩
  (refine ak (ag ?_))
  (simp only [aq,↓R1,RR,seval])
  simp [mD,cO]
theorem L9 {α:Type} (g:α→AV) (l:List α) (k:Nat) (h:k<l.length):((l.map g).drop (k*1)).take 1= [g l[k]]:=by
 rw [Nat.mul_one,←List.map_drop,List.drop_eq_getElem_cons h,List.map_cons]
 simp
theorem mF {α β:Type} (f:β→α→β) (b:β) (l:List α) (k:Nat) (h:k<l.length):f ((l.take k).foldl f b) l[k]=(l.take (k+1)).foldl f b:=by
 rw [←List.take_append_getElem h,List.foldl_append];rfl
theorem BA {k n:Nat}:decide ((k:Int)<(n:Int))=decide (k<n):=M1
theorem eq0 (a:BitVec 64):((a.toNat:Int) == 0)=(a == 0#64):=by
 rw [show (0:Int)=((0#64:BitVec 64).toNat:Int) by rfl,GA]
theorem Ma (a b:BitVec 64):Pu Tryz.prog 166 [.int .u64 a.toNat, .int .u64 b.toNat] (.bool (leB a b)):=by
 (refine al Ha K9 fun σ=>?_;simp only [Ha,↓R1,RR,seval,iJ,fu,eN])
 (refine ak (ag ?_) (by first|(simp [ax,rvS];done)|(simp only [ax,rvS,↓R1,RR,seval,iJ,fu,eN];try simp)))
 (simp only [aq,↓R1,RR,seval,iJ,fu,eN])
 rw [eq0];rfl
def JZ (a:BitVec 64) (i:Nat):Nat:=a.toNat / 2^(56 - 8*i) % 256
def BB (a:BitVec 64):List UInt8:=(List.range 8).map fun i=>UInt8.ofNat (JZ a i)
theorem k1:(6148914691236517205:Int)=((6148914691236517205#64:BitVec 64).toNat:Int):=rfl
theorem k2:(3689348814741910323:Int)=((3689348814741910323#64:BitVec 64).toNat:Int):=rfl
theorem k3:(1085102592571150095:Int)=((1085102592571150095#64:BitVec 64).toNat:Int):=rfl
def mG (b:BitVec 64) (c:UInt8):BitVec 64:=b <<< 8 ||| BitVec.ofNat 64 c.toNat
theorem FD (b:BitVec 64) (c:UInt8):bits .or .u64 (IntKind.u64.wrap ((b.toNat:Int)*2^min (Int.toNat 8) IntKind.u64.bits)) (IntKind.u64.wrap ((c.toNat:Nat):Int))=((mG b c).toNat:Int):=by
 have h1:IntKind.u64.wrap ((b.toNat:Int)*2^min (Int.toNat 8) IntKind.u64.bits)=((b <<< 8).toNat:Int):=JJ b 8 Na
 have hc:=c.toNat_lt
 have h2:IntKind.u64.wrap ((c.toNat:Nat):Int)=((BitVec.ofNat 64 c.toNat).toNat:Int):=by
  rw [IntKind.wrap_u64,BitVec.toNat_ofNat];omega
 rw [h2,h1,iJ]
 rfl
theorem J0 {s:List UInt8} {k:Nat} (h:k<s.length):s[k]?.getD 0=s[k]:=by simp [h]
def cz (k:Int):Int:=bif decide (k<0)||decide (26≤k) then 11 else 0
def idE (n:Int):Int:=bif decide (n<1)||decide (1099511627776<n) then 2 else 0
theorem Mb (l k v:Int):Pu Tryz.prog 137 [.agg [.int .u64 l, .int .i64 k, .int .i64 v]] (.int .i64 (cz k)):=by
 (refine al G1 K0 fun σ=>?_;simp only [G1,↓R1,RR,seval])
 repeat' ((first|(refine an (fun hc=>?_) (fun hc=>?_))|(with_reducible intro β hβ;(try simp only [RB] at hβ);(repeat (obtain ⟨⟨_,_⟩,hβ⟩:=hβ));(try (have hbis:=ah M0 hβ;obtain ⟨_,_⟩:=hbis))))<;>(try simp only [↓R1,RR,seval]))
 all_goals first|((refine ak (ag ?_));(simp only [aq,↓R1,RR,seval]);simp [cz,hc];done)|(exfalso;simp_all;done)|skip
theorem Mc (l n:Int):Pu Tryz.prog 140 [.agg [.int .u64 l, .int .u64 n]] (.int .i64 (idE n)):=by
 (refine al G4 K3 fun σ=>?_;simp only [G4,↓R1,RR,seval])
 repeat' ((first|(refine an (fun hc=>?_) (fun hc=>?_))|(with_reducible intro β hβ;(try simp only [RB] at hβ);(repeat (obtain ⟨⟨_,_⟩,hβ⟩:=hβ));(try (have hbis:=ah M0 hβ;obtain ⟨_,_⟩:=hbis))))<;>(try simp only [↓R1,RR,seval]))
 all_goals first|((refine ak (ag ?_));(simp only [aq,↓R1,RR,seval]);simp [idE,hc];done)|(exfalso;simp_all;done)|skip
theorem Md (l n:Int):Pu Tryz.prog 192 [.agg [.int .u64 l, .int .u64 n]] (.int .i64 (idE n)):=by
 (refine al Ho Ln fun σ=>?_;simp only [Ho,↓R1,RR,seval])
 repeat' ((first|(refine an (fun hc=>?_) (fun hc=>?_))|(with_reducible intro β hβ;(try simp only [RB] at hβ);(repeat (obtain ⟨⟨_,_⟩,hβ⟩:=hβ));(try (have hbis:=ah M0 hβ;obtain ⟨_,_⟩:=hbis))))<;>(try simp only [↓R1,RR,seval]))
 all_goals first|((refine ak (ag ?_));(simp only [aq,↓R1,RR,seval]);simp [idE,hc];done)|(exfalso;simp_all;done)|skip
end Go.Proofs.YtgephffbfiemeaaGreatDoor
