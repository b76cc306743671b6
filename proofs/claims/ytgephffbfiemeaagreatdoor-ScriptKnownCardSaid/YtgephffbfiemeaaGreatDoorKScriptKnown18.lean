/- Part 18 of the proof of ScriptKnown: an abstract semantics that is proved sound for the model, contracts of functions in it, and plain facts (LW1 LW2 LW4 LW5 LR9 EV1 LW6 LR6). No condition. -/
import Derived.Test.YtgephffbfiemeaaGreatDoorKScriptKnown17
import Derived.Shelf.Spec.TrailingZeros
set_option linter.all false
namespace Go.Proofs.YtgephffbfiemeaaGreatDoor
open Go.Abs
set_option linter.all false
set_option maxRecDepth 100000
def rD:List AV:=Lib.deBruijn64tab.map fun n=>AV.int .u8 (n:Nat)
def gls:List (Nat × List AV):= [(1,rD)]
theorem E8 {σ:St} (h:bw gls σ):σ.glob 1=some rD:=h _ _ rfl
theorem _root_.Py {p:Prop} (h:p:=by simpa using h):p:=h
theorem BK {a:BitVec 64} (h:a.toNat=0):a=0#64:=BitVec.eq_of_toNat_eq Py
theorem BL (l:List Nat) (i c:Nat) (h:i<l.length) (e:l.getD i 0=c):(l.map fun n=>AV.int .u8 (n:Nat))[i]? =some (.int .u8 (c:Int)):=by
 rw [List.getD_eq_getElem?_getD,List.getElem?_eq_getElem h] at e
 rw [List.getElem?_map,List.getElem?_eq_getElem h,←e]
 rfl
theorem BM (a:BitVec 64) (ha:a≠0#64):∃ idx:Nat,(IntKind.u64.wrap (bits .and .u64 (a.toNat:Int) (IntKind.u64.wrap (0 - (a.toNat:Int)))*285870213051353865)).fdiv (2^min (Int.toNat 58) IntKind.u64.bits)=(idx:Int)∧idx<64∧rD[idx]? =some (.int .u8 ((Lib.ctz 64 a.toNat:Nat):Int)):=by
 have h0:a.toNat≠0:=fun h=>ha (BK h)
 obtain ⟨hlow,hk⟩:=Lib.lowest_bit 64 a.toNat h0 a.isLt
 obtain ⟨hi,htab⟩:=Lib.deBruijn64_at _ hk
 have key:=Go.Proofs.tz64_key a.toNat _ a.isLt h0 hlow
 generalize 2^Lib.ctz 64 a.toNat*285870213051353865 % 18446744073709551616 / 288230376151711744=idx at hi htab key
 obtain ⟨c,hc⟩:∃ c,Lib.ctz 64 a.toNat=c:=⟨_,rfl⟩
 rw [hc] at htab ⊢
 clear hc hlow hk
 refine ⟨idx,?_,hi,?_⟩
 ·have e:(2:Int)^min (Int.toNat 58) IntKind.u64.bits=288230376151711744:=by simp [IntKind.bits]
  rw [e,Int.zero_sub,Int.fdiv_eq_ediv_of_nonneg _ (by decide:(0:Int)≤288230376151711744)];exact key
 ·exact BL Lib.deBruijn64tab idx c (show idx<64 from hi) htab
theorem BN:rD.length=64:=OK
theorem E9 (a:BitVec 64) (ha:a≠0#64):IntKind.i64.wrap ((Lib.ctz 64 a.toNat:Nat):Int)=((Lib.ctz 64 a.toNat:Nat):Int):=by
 have:=(qW a ha).1
 rw [wrap64 Oz Oz]
theorem Nj (a:BitVec 64) (ha:a≠0#64):PuG Tryz.prog gls 170 [.int .u64 a.toNat] (.int .i64 ((Lib.ctz 64 a.toNat:Nat):Int)):=by
 have h0:a.toNat≠0:=fun h=>ha (BK h)
 obtain ⟨idx,hidx,hi,ht⟩:=BM a ha
 have hz:((a.toNat:Int) == 0)=false:=OS
 (refine aO HO Mf fun σ hσ=>?_;simp only [HO,↓R1,RR,Nat.reduceEqDiff])
 have hg:=E8 hσ
 have hl:=BN
 have hd:(List.drop (idx*1) rD)[0]? =some (.int .u8 ((Lib.ctz 64 a.toNat:Nat):Int)):=by
  rw [Nat.mul_one,List.getElem?_drop,Nat.add_zero];exact ht
 simp only [hz,hg,hidx,↓R1,RR,Nat.reduceEqDiff]
 rw [hd]
 refine ⟨by decide,⟨by omega,by omega,by omega⟩,by simp;omega,trivial,?_⟩
 (refine aq (af ?_))
 (simp only [ar,RR,Nat.reduceEqDiff])
 rw [E9 a ha]
theorem Nk (b:BitVec 64):((b.toNat:Int) != 0)= !(b == 0#64):=by
 rw [show (0:Int)=((0#64:BitVec 64).toNat:Int) by rfl,bne,KG]
theorem IZ (b:BitVec 64):IntKind.u64.wrap ((b.toNat:Int) - 1)=((b - 1#64).toNat:Int):=by
 rw [IntKind.wrap_u64,BitVec.toNat_sub]
 simp only [BitVec.toNat_ofNat]
 have:=b.isLt
 omega
theorem Nl (a:BitVec 64) (σ:St):AC Tryz.prog 111 [.int .u64 a.toNat] σ (fun r s=>∃ β,σ.box β=none∧r= .fn 169 [.ptr β 0]∧s=σ.ad β [.int .u64 a.toNat]):=by
 refine aT Hy LZ ?_
 simp only [Hy,↓R1,RR,seval]
 intro β hβ
 refine b7 ?_
 exact ⟨β,hβ,rfl,rfl⟩
theorem _root_.OP {p:Prop} (h:p:=by simp [aK,slot,ae]):p:=h
theorem _root_.Pj {p:Prop} (h:p:=by simp [aw]):p:=h
theorem Fb {prs:List Nat} {asg body:CC} {fr:Fr} {Q:Exit→Fr→St→Prop} {β:Nat} (a:BitVec 64) (T:List Nat→BitVec 64→St) (I:List Nat→Prop) (hps:prs.length=1) (hI0:I [])
  (hb:∀ pre b,(T pre b).box β=some [.int .u64 b.toNat]) (hs:∀ pre b b',(T pre b).ad β [.int .u64 b'.toNat]=T pre b') (hg:∀ pre b,bw gls (T pre b)) (hl:∀ pre b L,(T pre b).lp L=(T [] a).lp L)
  (hround:∀ L (r:Loop) pre k b,(T [] a).lp L=none→I pre→(∃ rest,eW a=pre++k::rest)→aC Tryz.prog asg (iL prs [.int .i64 (k:Nat)] fr) ((T pre b).au L (r,fr)) (fun e fr1 σ2=>e= .normal∧σ2=(T pre b).au L (r,fr) ∧
   aC Tryz.prog body fr1 ((T pre b).au L (busy r,fr)) (fun e _ σ3=>match e with
    | .normal=>∃ s,σ3=s.au L (busy r,fr)∧s.lp L=none∧s=T (pre++ [k]) b∧I (pre++ [k])
    | .ret=>∃ s,σ3=s.au L (busy r,fr)∧s.lp L=none∧Q .ret fr s
    | .exit id=>∃ s,σ3=s.au L (busy r,fr)∧s.lp L=none∧Q (.exit id) fr s
    | _=>False)))
  (hend:I (eW a)→Q .normal fr (T (eW a) 0#64)):RF Tryz.prog 169 [.ptr β 0] prs asg body fr (T [] a) Q:=by
 refine ⟨by kernel_rfl,fun L r hL hr1 hr2 hY=>?_⟩
 have hg':∀ pre b,bw gls ((T pre b).au L (r,fr)):=fun pre b=>hg pre b
 have hb':∀ pre b,((T pre b).au L (r,fr)).box β=some [.int .u64 b.toNat]:=fun pre b=>hb pre b
 have hs':∀ pre b b',((T pre b).au L (r,fr)).ad β [.int .u64 b'.toNat]=(T pre b').au L (r,fr):=fun pre b b'=>by rw [←St.ei,hs]
 have hY':∀ pre k b,I pre→(∃ rest,eW a=pre++k::rest)→YC Tryz.prog L [.int .i64 (k:Nat)] ((T pre b).au L (r,fr)) _:=fun pre k b hi hk =>
  Bs (by rw [hl,hL]) hY (by simpa using hps.symm) (hround L r pre k b hL hi hk)
 refine aT HN Me ?_
 simp only [HN,↓R1,RR,seval]
 refine cn (α:=List Nat × BitVec 64) (fun _=> [(0, .yld L),(1, .ptr β 0)]) (fun z=>(T z.1 z.2).au L (r,fr)) (fun z=>eW a=z.1++eW z.2∧I z.1) (fun z=>(eW z.2).length) ([],a) OP (St.le_refl _) ⟨rfl,hI0⟩ ?_
 rintro ⟨pre,b⟩ ⟨hI,hIp⟩
 simp only at hI hIp ⊢
 simp only [hb,Nk,↓R1,RR,seval]
 refine aj (fun hc=>?_) (fun hc=>?_)
 ·have hb0:b≠0#64:=by simpa using hc
  have hcs:=xQ b hb0
  simp only [hb,↓R1,RR,seval]
  refine PuG.to (Nj b hb0) (hg' _ _) (aa _) ?_
  simp only [↓R1,RR,seval]
  refine (hY' pre (Lib.ctz 64 b.toNat) b hIp ⟨_,by rw [hI,hcs]⟩).mono ?_
  rintro v s' (⟨rfl,s,rfl,hsl,rfl,hIn⟩|⟨rfl,h2⟩)
  ·simp only [hb,IZ,mo,hs',↓R1,RR,seval]
   refine ⟨(pre++ [Lib.ctz 64 b.toNat],b &&& b - 1#64),⟨by simp only;rw [hI,hcs];simp,hIn⟩,by simp [aK,slot,ae],St.le_refl _,by simp only [hcs,List.length_cons];omega⟩
  ·simp only [↓R1,RR,seval]
   refine b7 (.inr ?_) Pj
   rcases h2 with ⟨s,rfl,h3,h4⟩|⟨id,s,rfl,h3,h4⟩
   ·exact .inl ⟨St.aY _ _ _,by rw [St.drop_set h3];exact h4⟩
   ·exact .inr ⟨id,St.aY _ _ _,by rw [St.drop_set h3];exact h4⟩
 ·have hb0:b=0#64:=by simpa using hc
  subst hb0
  rw [oj,List.append_nil] at hI
  subst hI
  simp only [↓R1,RR,seval]
  refine b7 (.inl ⟨St.aY _ _ _,?_⟩) Pj
  rw [St.drop_set (by rw [hl,hL])]
  exact hend hIp
theorem Nn {α:Type} (g:α→AV) (l:List α) (k:Nat) (h:k<l.length):((l.map g).drop (k*1)).take 1= [g l[k]]:=by
 rw [Nat.mul_one,←List.map_drop,List.drop_eq_getElem_cons h,List.map_cons]
 simp
theorem um {α β:Type} (f:β→α→β) (b:β) (l:List α) (k:Nat) (h:k<l.length):f ((l.take k).foldl f b) l[k]=(l.take (k+1)).foldl f b:=by
 rw [←List.take_append_getElem h,List.foldl_append];rfl
theorem I0 {k n:Nat}:decide ((k:Int)<(n:Int))=decide (k<n):=OF
theorem eq0 (a:BitVec 64):((a.toNat:Int) == 0)=(a == 0#64):=by
 rw [show (0:Int)=((0#64:BitVec 64).toNat:Int) by rfl,KG]
theorem No (a b:BitVec 64):Pu Tryz.prog 166 [.int .u64 a.toNat, .int .u64 b.toNat] (.bool (leB a b)):=by
 (refine av HM Md fun σ=>?_;simp only [HM,↓R1,RR,seval,iS])
 (refine aq (af ?_) (by first|(simp [aw,rvS];done)|(simp only [aw,rvS,↓R1,RR,seval,kr,mo,iS];try simp)))
 (simp only [ar,RR,seval])
 rw [eq0];rfl
def iU (a:BitVec 64) (i:Nat):Nat:=a.toNat / 2^(56 - 8*i) % 256
def fq (a:BitVec 64):List UInt8:=(List.range 8).map fun i=>UInt8.ofNat (iU a i)
def mC (a:BitVec 64) (k:Nat):List AV:=(List.range 8).map fun i=> .int .u8 (if i<k then (iU a i:Nat) else 0:Int)
theorem yj (a:BitVec 64) {k:Nat} (h:k<8):(mC a k).take k++ [.int .u8 (iU a k:Nat)]++(mC a k).drop (k+1)=mC a (k+1):=by
 rcases (by omega:k=0∨k=1∨k=2∨k=3∨k=4∨k=5∨k=6∨k=7) with rfl|rfl|rfl|rfl|rfl|rfl|rfl|rfl<;>rfl
theorem uo (a:BitVec 64):(mC a 8).map Go.Abs.byteOf=fq a:=by
 simp only [mC,fq,List.map_map]
 apply List.map_congr_left
 intro i hi
 have:i<8:=PD
 simp [Go.Abs.byteOf,this]
theorem rE (a:BitVec 64) (k:Nat):(mC a k).all isByte=true:=by
 rw [List.all_eq_true]
 intro x hx
 obtain ⟨i,_,rfl⟩:=List.mem_map.1 hx
 rfl
theorem mD (a:BitVec 64) (k:Nat):(mC a k).length=8:=by simp [mC]
theorem _root_.OD {p:Prop} (h:p:=by rw [wrap64 (by omega) (by omega)];omega):p:=h
theorem BO (a:BitVec 64) {k:Nat} (h:k<8):IntKind.u8.wrap ((a.toNat:Int).fdiv (2^min (IntKind.u64.wrap (IntKind.i64.wrap (56 - IntKind.i64.wrap (8*(k:Int))))).toNat IntKind.u64.bits))=(iU a k:Nat):=by
 have e1:IntKind.i64.wrap (8*(k:Int))=8*k:=PK
 have e2:IntKind.i64.wrap (56 - 8*(k:Int))=((56 - 8*k:Nat):Int):=OD
 have e3:IntKind.u64.wrap ((56 - 8*k:Nat):Int)=((56 - 8*k:Nat):Int):=by rw [IntKind.wrap_u64];omega
 rw [e1,e2,e3,Int.toNat_natCast]
 have e4:min (56 - 8*k) IntKind.u64.bits=56 - 8*k:=Nat.min_eq_left (by simp [IntKind.bits];omega)
 rw [e4,Int.fdiv_eq_ediv_of_nonneg _ (Int.pow_nonneg Oz)]
 have e5:((a.toNat:Int) / 2^(56 - 8*k))=((a.toNat / 2^(56 - 8*k):Nat):Int):=OF
 rw [e5]
 unfold iU
 simp [IntKind.wrap,IntKind.signed,IntKind.bits]
theorem k1:(6148914691236517205:Int)=((6148914691236517205#64:BitVec 64).toNat:Int):=rfl
theorem k2:(3689348814741910323:Int)=((3689348814741910323#64:BitVec 64).toNat:Int):=rfl
theorem k3:(1085102592571150095:Int)=((1085102592571150095#64:BitVec 64).toNat:Int):=rfl
def rF (b:BitVec 64) (c:UInt8):BitVec 64:=b <<< 8 ||| BitVec.ofNat 64 c.toNat
theorem KY (b:BitVec 64) (c:UInt8):bits .or .u64 (IntKind.u64.wrap ((b.toNat:Int)*2^min (Int.toNat 8) IntKind.u64.bits)) (IntKind.u64.wrap ((c.toNat:Nat):Int))=((rF b c).toNat:Int):=by
 have h1:IntKind.u64.wrap ((b.toNat:Int)*2^min (Int.toNat 8) IntKind.u64.bits)=((b <<< 8).toNat:Int):=Gi b 8 OK
 have hc:=c.toNat_lt
 have h2:IntKind.u64.wrap ((c.toNat:Nat):Int)=((BitVec.ofNat 64 c.toNat).toNat:Int):=by
  rw [IntKind.wrap_u64,BitVec.toNat_ofNat];omega
 rw [h2,h1,kr]
 rfl
theorem Np {s:List UInt8} {k:Nat} (h:k<s.length):s[k]?.getD 0=s[k]:=by simp [h]
def fV (a:BitVec 64) (k:Nat):List AV:=(List.range k).map fun i=> .int .u8 (iU a i:Nat)
theorem ay (a:BitVec 64) (k:Nat):(fV a k).length=k:=by simp [fV]
theorem oE (a:BitVec 64) (k:Nat):fV a k++ [.int .u8 (iU a k:Nat)]=fV a (k+1):=by simp [fV,List.range_succ]
theorem mE (a:BitVec 64):(fV a 8).map Go.Abs.byteOf=fq a:=by
 simp only [fV,fq,List.map_map]
 apply List.map_congr_left
 intro i _
 simp [Go.Abs.byteOf]
theorem rG (a:BitVec 64) (k:Nat):(fV a k).all isByte=true:=by
 rw [List.all_eq_true]
 intro x hx
 obtain ⟨i,_,rfl⟩:=List.mem_map.1 hx
 rfl
theorem I1 (a:BitVec 64) (k:Nat):IntKind.u8.wrap ((a.toNat:Int).fdiv (2^min (56 - 8*k) IntKind.u64.bits))=(iU a k:Nat):=by
 have e4:min (56 - 8*k) IntKind.u64.bits=56 - 8*k:=Nat.min_eq_left (by simp [IntKind.bits];omega)
 rw [e4,Int.fdiv_eq_ediv_of_nonneg _ (Int.pow_nonneg Oz)]
 have e5:((a.toNat:Int) / 2^(56 - 8*k))=((a.toNat / 2^(56 - 8*k):Nat):Int):=OF
 rw [e5]
 unfold iU
 simp [IntKind.wrap,IntKind.signed,IntKind.bits]
def bI (k:Int):Int:=bif decide (k<0)||decide (26≤k) then 11 else 0
def idE (n:Int):Int:=bif decide (n<1)||decide (1099511627776<n) then 2 else 0
theorem KZ (l k v:Int):Pu Tryz.prog 137 [.agg [.int .u64 l, .int .i64 k, .int .i64 v]] (.int .i64 (bI k)):=by
 (refine av HD L4 fun σ=>?_;simp only [HD,↓R1,RR,seval])
 repeat' ((first|(refine aj (fun hc=>?_) (fun hc=>?_))|(with_reducible intro β hβ;(try simp only [RB] at hβ);(repeat (obtain ⟨⟨_,_⟩,hβ⟩:=hβ));(try (have hbis:=ag OB hβ;obtain ⟨_,_⟩:=hbis))))<;>(try simp only [↓R1,RR,seval]))
 all_goals first|((refine aq (af ?_));(simp only [ar,RR,seval]);simp [bI,hc];done)|(exfalso;simp_all;done)|skip
theorem p84 (l k v:Int):Pu Tryz.prog 84 [.agg [.int .u64 l, .int .i64 k, .int .i64 v]] (.int .i64 (bI k)):=by
 (refine av c84 b84 fun σ=>?_;simp only [c84,↓R1,RR,seval])
 repeat' ((first|(refine aj (fun hc=>?_) (fun hc=>?_))|(with_reducible intro β hβ;(try simp only [RB] at hβ);(repeat (obtain ⟨⟨_,_⟩,hβ⟩:=hβ));(try (have hbis:=ag OB hβ;obtain ⟨_,_⟩:=hbis))))<;>(try simp only [↓R1,RR,seval]))
 all_goals first|((refine aq (af ?_));(simp only [ar,RR,seval]);simp [bI,hc];done)|(exfalso;simp_all;done)|skip
theorem Nq (l n:Int):Pu Tryz.prog 140 [.agg [.int .u64 l, .int .u64 n]] (.int .i64 (idE n)):=by
 (refine av HG L7 fun σ=>?_;simp only [HG,↓R1,RR,seval])
 repeat' ((first|(refine aj (fun hc=>?_) (fun hc=>?_))|(with_reducible intro β hβ;(try simp only [RB] at hβ);(repeat (obtain ⟨⟨_,_⟩,hβ⟩:=hβ));(try (have hbis:=ag OB hβ;obtain ⟨_,_⟩:=hbis))))<;>(try simp only [↓R1,RR,seval]))
 all_goals first|((refine aq (af ?_));(simp only [ar,RR,seval]);simp [idE,hc];done)|(exfalso;simp_all;done)|skip
def Fc (r:RL):AV:= .tup [.int .u64 r.l.toNat, .int .i64 (r.used:Nat), .agg [.int .i64 (r.err:Nat), .int .i64 (r.at_:Nat)]]
theorem _root_.OE {p:Prop} (h:p:=by first|(simp [aw,rvS];done)|(simp only [aw,rvS,RR,seval];try simp)):p:=h
theorem K0 (e a:Int):Pu Tryz.prog 272 [.int .i64 e, .int .i64 a] (.tup [.int .u64 0, .int .i64 0, .agg [.int .i64 e, .int .i64 a]]):=by
 (refine av Iq MO fun σ=>?_;simp only [Iq,↓R1,RR,seval])
 repeat' (first|(with_reducible rw [ah])|((with_reducible intro β hβ;(try simp only [RB] at hβ);(repeat (obtain ⟨⟨_,_⟩,hβ⟩:=hβ));(try (have hbis:=ag OB hβ;obtain ⟨_,_⟩:=hbis)))<;>(try simp only [↓R1,RR,seval])))
 (refine aq (af ?_) OE)
 (simp only [ar,RR,seval])
theorem Nr (b:UInt8):Pu Tryz.prog 273 [.int .u8 b.toNat] (.bool (dig b)):=by
 (refine av Ir MP fun σ=>?_;simp only [Ir,↓R1,RR,seval,A6])
 skip
 (refine aq (af ?_))
 (simp only [ar,RR,seval])
theorem Ns (s:List UInt8) (hs:s.length≤4611686018427387904):Pu Tryz.prog 248 [.str s] (Fc (fU s)):=by
  (refine av Ij MJ fun σ=>?_;simp only [Ij,↓R1,RR,seval])
  intro β hβ
  (try simp only [↓R1,RR,seval,A5])
  repeat' (first|(with_reducible apply And.intro)|((first|(refine aj (fun hc=>?_) (fun hc=>?_))|(refine Pt (K0 _ _) ?_))<;>(try simp only [↓R1,RR,seval,KH,tP,A7])))
  all_goals (try simp only [St.set_set,↓R1,RR,seval,ltN,KH,KI,eqN,A5,tP,Gj,Gk,A6,A7,Hg])
  · intro h;simp at h;have:s.length≠0:=fun e=>h (List.eq_nil_of_length_eq_zero e);omega
  · (refine aq (af ?_) OE)
    (simp only [ar,RR,seval])
    have:s.length=0∨bf s 0≠123:=Pg
    rw [fU,if_pos this];rfl
  · intro h;simp at h;omega
  · rename_i hc0
    (refine aq (af ?_) OE)
    (simp only [ar,RR,seval])
    have h0:¬ (s.length=0∨bf s 0≠123):=by simpa using hc0
    have h1:1<s.length∧bf s 1=125:=Pg
    rw [fU,if_neg h0,if_pos h1];rfl
  rename_i hc0
  have h0:¬ (s.length=0∨bf s 0≠123):=by simpa using hc0
  have h1:¬ (1<s.length∧bf s 1=125):=Pg
  have hR:fU s=lx s (s.length+1) 0#64 (-1) 1:=by rw [fU,if_neg h0,if_neg h1]
  rw [hR]
  obtain ⟨R,hR'⟩:∃ R,lx s (s.length+1) 0#64 (-1) 1=R:=⟨_,rfl⟩
  rw [hR'] at hR ⊢
  have hlen:1≤s.length:=by rcases Nat.eq_zero_or_pos s.length with h|h;exact (h0 (.inl h)).elim;exact h
  clear hc hc0 h0 h1
  refine cn (α:=Nat × BitVec 64 × Int × Nat) (fun z=> [(7, .int .i64 (z.2.2.2:Nat)),(6, .int .i64 z.2.2.1),(0, .str s),(2, .int .u64 z.2.1.toNat),(4, .ptr β 0),(5, .fn 272 [])]) (fun _=>σ.ad β [.int .i64 0, .int .i64 0])
    (fun z=>lx s z.1 z.2.1 z.2.2.1 z.2.2.2=R∧s.length+1<z.1+z.2.2.2∧z.2.2.2≤s.length) (fun z=>z.1) (s.length+1,0#64, -1,1) OP (St.le_refl _) ⟨hR',by simp only;omega,hlen⟩ ?_
  rintro ⟨f,l,last,a⟩ ⟨hN,hf,ha⟩
  simp only at hN hf ha ⊢
  obtain ⟨f,rfl⟩:∃ g,f=g+1:=⟨f - 1,by omega⟩
  simp only [↓R1,RR,seval]
  obtain ⟨sc,hsc⟩:∃ sc,scan s a (s.length - a) a 0=sc:=⟨_,rfl⟩
  have hN2:=hN
  unfold lx at hN2
  rw [hsc] at hN2
  refine cn (α:=Nat × Nat) (fun z=> [(7, .int .i64 (z.1:Nat)),(9, .int .i64 (z.2:Nat)),(8, .int .i64 (a:Nat)),(6, .int .i64 last),(0, .str s),(2, .int .u64 l.toNat),(4, .ptr β 0),(5, .fn 272 [])]) (fun _=>σ.ad β [.int .i64 0, .int .i64 0])
    (fun z=>scan s a (s.length - z.1) z.1 z.2=sc∧a≤z.1∧z.1≤s.length∧z.2≤1000) (fun z=>s.length - z.1) (a,0) OP (St.le_refl _) ⟨hsc,by simp,ha,by simp⟩ ?_
  rintro ⟨b,n⟩ ⟨hS,hab,hbl,hn⟩
  simp only at hS hab hbl hn ⊢
  simp only [↓R1,RR,seval,ltN]
  repeat' (first|(with_reducible refine And.intro ?_ ?_;exact ak)|(with_reducible apply And.intro)|((first|(refine b8 (fun hc=>?_) (fun hc=>?_)<;>(try simp only [hc,↓R1,RR,seval,eqN]))|(refine aj (fun hc=>?_) (fun hc=>?_))|(refine Pt (K0 _ _) ?_)|(refine Pt (Nr _) ?_))<;>(try simp only [↓R1,RR,seval,ltN,KI,eqN,tP,Gj,Gk])))
  all_goals (simp only [decide_eq_true_eq,decide_eq_false_iff_not,Bool.and_eq_false_iff,Bool.and_eq_true,Bool.not_eq_true',Bool.not_eq_false'] at *)
  all_goals first|omega|(intro h;omega)|skip
  all_goals (have hdd:dig (bf s b)=dig ((s[b]?).getD 0):=rfl)
  all_goals first
    | (have hd : ¬ (b < s.length ∧ dig (bf     s b) = true) := (by rw [hdd]; grind)
       have hA:=iA s a (s.length - b) b n hd
       rw [hS] at hA
       rw [hA] at hN2
       simp only [Bool.true_eq_false,if_false] at hN2
       first
       | ((refine aq    (af       ?_) (by first | (simp [aw,   rvS]; done) | (simp only [aw,   rvS, RR, seval]; try simp)))
          (simp only [ar,RR,seval])
          rw [←hN2]
          grind [Fc,bad])
       | skip)
    | skip
  · rename_i h1 h2
    have h3:=hc
    obtain ⟨d,hd⟩:∃ d,s.length - b=d+1:=⟨s.length - b - 1,by omega⟩
    have hA:=oo s a d b n ⟨by omega,by rw [hdd];exact h2.2⟩ ⟨h3.1,h3.2⟩
    rw [←hd,hS] at hA
    rw [hA] at hN2
    (refine aq (af ?_) OE)
    (simp only [ar,RR,seval])
    rw [←hN2]
    rfl
  · rename_i h1 h2
    have h3:=hc
    have hdg:dig (bf s b)=true:=by rw [hdd];exact h2.2
    obtain ⟨d,hd⟩:∃ d,s.length - b=d+1:=⟨s.length - b - 1,by omega⟩
    have hA:=lO s a d b n ⟨by omega,hdg⟩ (by intro hz;rcases h3 with h|h;exact h hz.1;exact h hz.2)
    rw [←hd,hS] at hA
    refine ⟨(b+1,min 1000 (10*n+((bf s b).toNat - 48))),⟨?_,by simp only;omega,by simp only;omega,by simp only;omega⟩,?_,St.le_refl _,by simp only;omega⟩
    · simp only;rw [show s.length - (b+1)=d by omega];exact hA.symm
    · simp only [aK,slot,ae,RR,seval]
      exact ⟨af (by rw [Hi Oz]),af (congrArg _ (A9 (c:=bf s b) hdg hn))⟩
  · rw [Hh hn];omega
  · (refine aq (af ?_) OE)
    (simp only [ar,RR,seval])
    rw [A8 l Oz,Hi Oz,←hN2]
    grind [Fc]
  · refine ⟨(f,l ||| 1#64 <<< n,(n:Int),b+1),⟨by simp only;rw [←hN2];grind,by simp only;omega,by simp only;omega⟩,?_,St.le_refl _,by simp only;omega⟩
    simp only [aK,slot,ae,RR,seval]
    exact ⟨af (by rw [Hi Oz]),af (by rw [A8 l Oz])⟩
  · rw [Hh hn];omega
def Fe (r:RL):AV:= .tup [.int .u64 r.l.toNat, .agg [.int .i64 (r.err:Nat), .int .i64 (r.at_:Nat)]]
theorem Nt {n:Nat}:((n:Int) != 0)= !decide (n=0):=by rw [Bool.eq_iff_iff];simp
theorem K1 (s:List UInt8) (hs:s.length≤4611686018427387904):Pu Tryz.prog 204 [.str s] (Fe (cR s)):=by
 have hr:=Ns s hs
 unfold Fc at hr
 (refine av H0 Mr fun σ=>?_;simp only [H0,↓R1,RR,seval])
 repeat' (first|(with_reducible rw [ah])|((first|(refine aj (fun hc=>?_) (fun hc=>?_))|(with_reducible intro β hβ;(try simp only [RB] at hβ);(repeat (obtain ⟨⟨_,_⟩,hβ⟩:=hβ));(try (have hbis:=ag OB hβ;obtain ⟨_,_⟩:=hbis)))|(refine Pt (hr) ?_))<;>(try simp only [↓R1,RR,seval,ltN])))
 all_goals (refine aq (af ?_) OE)
 all_goals (simp only [ar,RR,seval])
 all_goals (simp only [decide_eq_true_eq,decide_eq_false_iff_not,bne_iff_ne,bne_eq_false_iff_eq] at *)
 all_goals grind [Fe,cR,bad]
end Go.Proofs.YtgephffbfiemeaaGreatDoor
