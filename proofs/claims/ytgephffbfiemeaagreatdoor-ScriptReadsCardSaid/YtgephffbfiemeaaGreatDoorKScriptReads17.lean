/- Part 17 of the proof of ScriptReads: an abstract semantics that is proved sound for the model, contracts of functions in it, and plain facts (LW1 LW2 LW4 LW5 LR9 EV1 LW6 LR6). No condition. -/
import Derived.Test.YtgephffbfiemeaaGreatDoorKScriptReads16
import Derived.Shelf.Spec.TrailingZeros
set_option linter.all false
namespace Go.Proofs.YtgephffbfiemeaaGreatDoor
open Go.Abs
set_option linter.all false
set_option maxRecDepth 100000
def um:List AV:=Lib.deBruijn64tab.map fun n=>AV.int .u8 (n:Nat)
def gls:List (Nat × List AV):= [(1,um)]
theorem En {σ:St} (h:cG gls σ):σ.glob 1=some um:=h _ _ rfl
theorem Bu {a:BitVec 64} (h:a.toNat=0):a=0#64:=BitVec.eq_of_toNat_eq (by simpa using h)
theorem Bv (l:List Nat) (i c:Nat) (h:i<l.length) (e:l.getD i 0=c):(l.map fun n=>AV.int .u8 (n:Nat))[i]? =some (.int .u8 (c:Int)):=by
 rw [List.getD_eq_getElem?_getD,List.getElem?_eq_getElem h] at e
 rw [List.getElem?_map,List.getElem?_eq_getElem h,←e]
 rfl
theorem Bw (a:BitVec 64) (ha:a≠0#64):∃ idx:Nat,(IntKind.u64.wrap (bits .and .u64 (a.toNat:Int) (IntKind.u64.wrap (0 - (a.toNat:Int)))*285870213051353865)).fdiv (2^min (Int.toNat 58) IntKind.u64.bits)=(idx:Int)∧idx<64∧um[idx]? =some (.int .u8 ((Lib.ctz 64 a.toNat:Nat):Int)):=by
 have h0:a.toNat≠0:=fun h=>ha (Bu h)
 obtain ⟨hlow,hk⟩:=Lib.lowest_bit 64 a.toNat h0 a.isLt
 obtain ⟨hi,htab⟩:=Lib.deBruijn64_at _ hk
 have key:=Go.Proofs.tz64_key a.toNat _ a.isLt h0 hlow
 generalize 2^Lib.ctz 64 a.toNat*285870213051353865 % 18446744073709551616 / 288230376151711744=idx at hi htab key
 obtain ⟨c,hc⟩:∃ c,Lib.ctz 64 a.toNat=c:=⟨_,rfl⟩
 rw [hc] at htab ⊢
 clear hc hlow hk
 refine ⟨idx,?_,hi,?_⟩
 ·have e:(2:Int)^min (Int.toNat 58) IntKind.u64.bits=288230376151711744:=by simp [IntKind.bits]
  rw [e,Int.zero_sub,Int.fdiv_eq_ediv_of_nonneg _ (by decide:(0:Int)≤288230376151711744)];exact key
 ·exact Bv Lib.deBruijn64tab idx c (show idx<64 from hi) htab
theorem Bx:um.length=64:=by decide
theorem Eo (a:BitVec 64) (ha:a≠0#64):IntKind.i64.wrap ((Lib.ctz 64 a.toNat:Nat):Int)=((Lib.ctz 64 a.toNat:Nat):Int):=by
 have:=(qX a ha).1
 rw [wrap64 (by omega) (by omega)]
theorem LD (a:BitVec 64) (ha:a≠0#64):PuG Tryz.prog gls 170 [.int .u64 a.toNat] (.int .i64 ((Lib.ctz 64 a.toNat:Nat):Int)):=by
 have h0:a.toNat≠0:=fun h=>ha (Bu h)
 obtain ⟨idx,hidx,hi,ht⟩:=Bw a ha
 have hz:((a.toNat:Int) == 0)=false:=by simp;omega
 (refine b9 GO KH fun σ hσ=>?_;simp only [GO,↓R1,RR,Nat.reduceEqDiff])
 have hg:=En hσ
 have hl:=Bx
 have hd:(List.drop (idx*1) um)[0]? =some (.int .u8 ((Lib.ctz 64 a.toNat:Nat):Int)):=by
  rw [Nat.mul_one,List.getElem?_drop,Nat.add_zero];exact ht
 simp only [hz,hg,hidx,↓R1,RR,Nat.reduceEqDiff]
 rw [hd]
 refine ⟨by decide,⟨by omega,by omega,by omega⟩,by simp;omega,trivial,?_⟩
 (refine ak (ad ?_) (by first|(simp [aj,rvS];done)|(simp only [aj,rvS,↓R1,RR,Nat.reduceEqDiff];try simp)))
 (simp only [ao,↓R1,RR,Nat.reduceEqDiff])
 rw [Eo a ha]
theorem LF (b:BitVec 64):((b.toNat:Int) != 0)= !(b == 0#64):=by
 rw [show (0:Int)=((0#64:BitVec 64).toNat:Int) by rfl,bne,Ju]
theorem HS (b:BitVec 64):IntKind.u64.wrap ((b.toNat:Int) - 1)=((b - 1#64).toNat:Int):=by
 rw [IntKind.wrap_u64,BitVec.toNat_sub]
 simp only [BitVec.toNat_ofNat]
 have:=b.isLt
 omega
theorem LG (a:BitVec 64) (σ:St):AC Tryz.prog 111 [.int .u64 a.toNat] σ (fun r s=>∃ β,σ.box β=none∧r= .fn 169 [.ptr β 0]∧s=σ.ae β [.int .u64 a.toNat]):=by
 refine bw Gy Ks ?_
 simp only [Gy,↓R1,RR,seval]
 intro β hβ
 refine ct ?_
 exact ⟨β,hβ,rfl,rfl⟩
theorem Ep {prs:List Nat} {asg body:CC} {fr:Fr} {Q:Exit→Fr→St→Prop} {β:Nat} (a:BitVec 64) (T:List Nat→BitVec 64→St) (I:List Nat→Prop) (hps:prs.length=1) (hI0:I [])
  (hb:∀ pre b,(T pre b).box β=some [.int .u64 b.toNat]) (hs:∀ pre b b',(T pre b).ae β [.int .u64 b'.toNat]=T pre b') (hg:∀ pre b,cG gls (T pre b)) (hl:∀ pre b L,(T pre b).lp L=(T [] a).lp L)
  (hround:∀ L (r:Loop) pre k b,(T [] a).lp L=none→I pre→(∃ rest,ff a=pre++k::rest)→aC Tryz.prog asg (jt prs [.int .i64 (k:Nat)] fr) ((T pre b).aB L (r,fr)) (fun e fr1 σ2=>e= .normal∧σ2=(T pre b).aB L (r,fr) ∧
   aC Tryz.prog body fr1 ((T pre b).aB L (busy r,fr)) (fun e _ σ3=>match e with
    | .normal=>∃ s,σ3=s.aB L (busy r,fr)∧s.lp L=none∧s=T (pre++ [k]) b∧I (pre++ [k])
    | .ret=>∃ s,σ3=s.aB L (busy r,fr)∧s.lp L=none∧Q .ret fr s
    | .exit id=>∃ s,σ3=s.aB L (busy r,fr)∧s.lp L=none∧Q (.exit id) fr s
    | _=>False)))
  (hend:I (ff a)→Q .normal fr (T (ff a) 0#64)):RF Tryz.prog 169 [.ptr β 0] prs asg body fr (T [] a) Q:=by
 refine ⟨by kernel_rfl,fun L r hL hr1 hr2 hY=>?_⟩
 have hg':∀ pre b,cG gls ((T pre b).aB L (r,fr)):=fun pre b=>hg pre b
 have hb':∀ pre b,((T pre b).aB L (r,fr)).box β=some [.int .u64 b.toNat]:=fun pre b=>hb pre b
 have hs':∀ pre b b',((T pre b).aB L (r,fr)).ae β [.int .u64 b'.toNat]=(T pre b').aB L (r,fr):=fun pre b b'=>by rw [←St.eG,hs]
 have hY':∀ pre k b,I pre→(∃ rest,ff a=pre++k::rest)→YC Tryz.prog L [.int .i64 (k:Nat)] ((T pre b).aB L (r,fr)) _:=fun pre k b hi hk =>
  Bd (by rw [hl,hL]) hY (by simpa using hps.symm) (hround L r pre k b hL hi hk)
 refine bw GN KG ?_
 simp only [GN,↓R1,RR,seval]
 refine cS (α:=List Nat × BitVec 64) (fun _=> [(0, .yld L),(1, .ptr β 0)]) (fun z=>(T z.1 z.2).aB L (r,fr)) (fun z=>ff a=z.1++ff z.2∧I z.1) (fun z=>(ff z.2).length) ([],a) (by simp [az,slot,af]) (St.le_refl _) ⟨rfl,hI0⟩ ?_
 rintro ⟨pre,b⟩ ⟨hI,hIp⟩
 simp only at hI hIp ⊢
 simp only [hb,LF,↓R1,RR,seval]
 refine ar (fun hc=>?_) (fun hc=>?_)
 ·have hb0:b≠0#64:=by simpa using hc
  have hcs:=xK b hb0
  simp only [hb,↓R1,RR,seval]
  refine PuG.to (LD b hb0) (hg' _ _) (aa _) ?_
  simp only [hb,↓R1,RR,seval]
  refine (hY' pre (Lib.ctz 64 b.toNat) b hIp ⟨_,by rw [hI,hcs]⟩).mono ?_
  rintro v s' (⟨rfl,s,rfl,hsl,rfl,hIn⟩|⟨rfl,h2⟩)
  ·simp only [hb,HS,hU,hs',↓R1,RR,seval]
   refine ⟨(pre++ [Lib.ctz 64 b.toNat],b &&& b - 1#64),⟨by simp only;rw [hI,hcs];simp,hIn⟩,by simp [az,slot,af],St.le_refl _,by simp only [hcs,List.length_cons];omega⟩
  ·simp only [↓R1,RR,seval]
   refine ct (.inr ?_) (by simp [aj])
   rcases h2 with ⟨s,rfl,h3,h4⟩|⟨id,s,rfl,h3,h4⟩
   ·exact .inl ⟨St.bA _ _ _,by rw [St.drop_set h3];exact h4⟩
   ·exact .inr ⟨id,St.bA _ _ _,by rw [St.drop_set h3];exact h4⟩
 ·have hb0:b=0#64:=by simpa using hc
  subst hb0
  rw [oz,List.append_nil] at hI
  subst hI
  simp only [↓R1,RR,seval]
  refine ct (.inl ⟨St.bA _ _ _,?_⟩) (by simp [aj])
  rw [St.drop_set (by rw [hl,hL])]
  exact hend hIp
theorem uo {k n:Nat}:decide ((k:Int)<(n:Int))=decide (k<n):=by simp
theorem eq0 (a:BitVec 64):((a.toNat:Int) == 0)=(a == 0#64):=by
 rw [show (0:Int)=((0#64:BitVec 64).toNat:Int) by rfl,Ju]
theorem LH (a b:BitVec 64):Pu Tryz.prog 166 [.int .u64 a.toNat, .int .u64 b.toNat] (.bool (leB a b)):=by
 (refine an GM KF fun σ=>?_;simp only [GM,↓R1,RR,seval,ji,hU,gv])
 (refine ak (ad ?_) (by first|(simp [aj,rvS];done)|(simp only [aj,rvS,↓R1,RR,seval,ji,hU,gv];try simp)))
 (simp only [ao,↓R1,RR,seval,ji,hU,gv])
 rw [eq0];rfl
def jA (a:BitVec 64) (i:Nat):Nat:=a.toNat / 2^(56 - 8*i) % 256
def fL (a:BitVec 64):List UInt8:=(List.range 8).map fun i=>UInt8.ofNat (jA a i)
def lX (a:BitVec 64) (k:Nat):List AV:=(List.range 8).map fun i=> .int .u8 (if i<k then (jA a i:Nat) else 0:Int)
theorem yg (a:BitVec 64) {k:Nat} (h:k<8):(lX a k).take k++ [.int .u8 (jA a k:Nat)]++(lX a k).drop (k+1)=lX a (k+1):=by
 rcases (by omega:k=0∨k=1∨k=2∨k=3∨k=4∨k=5∨k=6∨k=7) with rfl|rfl|rfl|rfl|rfl|rfl|rfl|rfl<;>rfl
theorem uq (a:BitVec 64):(lX a 8).map Go.Abs.byteOf=fL a:=by
 simp only [lX,fL,List.map_map]
 apply List.map_congr_left
 intro i hi
 have:i<8:=by simpa using hi
 simp [Go.Abs.byteOf,this]
theorem rI (a:BitVec 64) (k:Nat):(lX a k).all isByte=true:=by
 rw [List.all_eq_true]
 intro x hx
 obtain ⟨i,_,rfl⟩:=List.mem_map.1 hx
 rfl
theorem mU (a:BitVec 64) (k:Nat):(lX a k).length=8:=by simp [lX]
theorem By (a:BitVec 64) {k:Nat} (h:k<8):IntKind.u8.wrap ((a.toNat:Int).fdiv (2^min (IntKind.u64.wrap (IntKind.i64.wrap (56 - IntKind.i64.wrap (8*(k:Int))))).toNat IntKind.u64.bits))=(jA a k:Nat):=by
 have e1:IntKind.i64.wrap (8*(k:Int))=8*k:=by rw [wrap64 (by omega) (by omega)]
 have e2:IntKind.i64.wrap (56 - 8*(k:Int))=((56 - 8*k:Nat):Int):=by rw [wrap64 (by omega) (by omega)];omega
 have e3:IntKind.u64.wrap ((56 - 8*k:Nat):Int)=((56 - 8*k:Nat):Int):=by rw [IntKind.wrap_u64];omega
 rw [e1,e2,e3,Int.toNat_natCast]
 have e4:min (56 - 8*k) IntKind.u64.bits=56 - 8*k:=Nat.min_eq_left (by simp [IntKind.bits];omega)
 rw [e4,Int.fdiv_eq_ediv_of_nonneg _ (Int.pow_nonneg (by omega))]
 have e5:((a.toNat:Int) / 2^(56 - 8*k))=((a.toNat / 2^(56 - 8*k):Nat):Int):=by simp
 rw [e5]
 unfold jA
 simp [IntKind.wrap,IntKind.signed,IntKind.bits]
theorem k1:(6148914691236517205:Int)=((6148914691236517205#64:BitVec 64).toNat:Int):=rfl
theorem k2:(3689348814741910323:Int)=((3689348814741910323#64:BitVec 64).toNat:Int):=rfl
theorem k3:(1085102592571150095:Int)=((1085102592571150095#64:BitVec 64).toNat:Int):=rfl
def gH (a:BitVec 64) (k:Nat):List AV:=(List.range k).map fun i=> .int .u8 (jA a i:Nat)
theorem aE (a:BitVec 64) (k:Nat):(gH a k).length=k:=by simp [gH]
theorem oJ (a:BitVec 64) (k:Nat):gH a k++ [.int .u8 (jA a k:Nat)]=gH a (k+1):=by simp [gH,List.range_succ]
theorem mV (a:BitVec 64):(gH a 8).map Go.Abs.byteOf=fL a:=by
 simp only [gH,fL,List.map_map]
 apply List.map_congr_left
 intro i _
 simp [Go.Abs.byteOf]
theorem rJ (a:BitVec 64) (k:Nat):(gH a k).all isByte=true:=by
 rw [List.all_eq_true]
 intro x hx
 obtain ⟨i,_,rfl⟩:=List.mem_map.1 hx
 rfl
theorem HT (a:BitVec 64) (k:Nat):IntKind.u8.wrap ((a.toNat:Int).fdiv (2^min (56 - 8*k) IntKind.u64.bits))=(jA a k:Nat):=by
 have e4:min (56 - 8*k) IntKind.u64.bits=56 - 8*k:=Nat.min_eq_left (by simp [IntKind.bits];omega)
 rw [e4,Int.fdiv_eq_ediv_of_nonneg _ (Int.pow_nonneg (by omega))]
 have e5:((a.toNat:Int) / 2^(56 - 8*k))=((a.toNat / 2^(56 - 8*k):Nat):Int):=by simp
 rw [e5]
 unfold jA
 simp [IntKind.wrap,IntKind.signed,IntKind.bits]
def eH (k:Int):Int:=bif decide (k<0)||decide (26≤k) then 11 else 0
def idE (n:Int):Int:=bif decide (n<1)||decide (1099511627776<n) then 2 else 0
theorem LI (l k v:Int):Pu Tryz.prog 137 [.agg [.int .u64 l, .int .i64 k, .int .i64 v]] (.int .i64 (eH k)):=by
 (refine an GC Kw fun σ=>?_;simp only [GC,↓R1,RR,seval])
 repeat' ((first|(refine ar (fun hc=>?_) (fun hc=>?_))|(with_reducible intro β hβ;(try simp only [RB] at hβ);(repeat (obtain ⟨⟨_,_⟩,hβ⟩:=hβ));(try (have hbis:=ah (by assumption) hβ;obtain ⟨_,_⟩:=hbis))))<;>(try simp only [↓R1,RR,seval]))
 all_goals first|((refine ak (ad ?_));(simp only [ao,↓R1,RR,seval]);simp [eH,hc];done)|(exfalso;simp_all;done)|skip
theorem p84 (l k v:Int):Pu Tryz.prog 84 [.agg [.int .u64 l, .int .i64 k, .int .i64 v]] (.int .i64 (eH k)):=by
 (refine an c84 b84 fun σ=>?_;simp only [c84,↓R1,RR,seval])
 repeat' ((first|(refine ar (fun hc=>?_) (fun hc=>?_))|(with_reducible intro β hβ;(try simp only [RB] at hβ);(repeat (obtain ⟨⟨_,_⟩,hβ⟩:=hβ));(try (have hbis:=ah (by assumption) hβ;obtain ⟨_,_⟩:=hbis))))<;>(try simp only [↓R1,RR,seval]))
 all_goals first|((refine ak (ad ?_));(simp only [ao,↓R1,RR,seval]);simp [eH,hc];done)|(exfalso;simp_all;done)|skip
theorem LJ (l n:Int):Pu Tryz.prog 140 [.agg [.int .u64 l, .int .u64 n]] (.int .i64 (idE n)):=by
 (refine an GD Kx fun σ=>?_;simp only [GD,↓R1,RR,seval])
 repeat' ((first|(refine ar (fun hc=>?_) (fun hc=>?_))|(with_reducible intro β hβ;(try simp only [RB] at hβ);(repeat (obtain ⟨⟨_,_⟩,hβ⟩:=hβ));(try (have hbis:=ah (by assumption) hβ;obtain ⟨_,_⟩:=hbis))))<;>(try simp only [↓R1,RR,seval]))
 all_goals first|((refine ak (ad ?_));(simp only [ao,↓R1,RR,seval]);simp [idE,hc];done)|(exfalso;simp_all;done)|skip
theorem LK (l n:Int):Pu Tryz.prog 192 [.agg [.int .u64 l, .int .u64 n]] (.int .i64 (idE n)):=by
 (refine an GW KO fun σ=>?_;simp only [GW,↓R1,RR,seval])
 repeat' ((first|(refine ar (fun hc=>?_) (fun hc=>?_))|(with_reducible intro β hβ;(try simp only [RB] at hβ);(repeat (obtain ⟨⟨_,_⟩,hβ⟩:=hβ));(try (have hbis:=ah (by assumption) hβ;obtain ⟨_,_⟩:=hbis))))<;>(try simp only [↓R1,RR,seval]))
 all_goals first|((refine ak (ad ?_));(simp only [ao,↓R1,RR,seval]);simp [idE,hc];done)|(exfalso;simp_all;done)|skip
def pQ (r:RL):AV:= .tup [.int .u64 r.l.toNat, .int .i64 (r.used:Nat), .agg [.int .i64 (r.err:Nat), .int .i64 (r.at_:Nat)]]
theorem JL (e a:Int):Pu Tryz.prog 272 [.int .i64 e, .int .i64 a] (.tup [.int .u64 0, .int .i64 0, .agg [.int .i64 e, .int .i64 a]]):=by
 (refine an Hm Ld fun σ=>?_;simp only [Hm,↓R1,RR,seval,ltN,bX,bY,eqN,aO,aP,bq,br,aM,aQ,aR])
 repeat' (first|(with_reducible rw [ai])|((with_reducible intro β hβ;(try simp only [RB] at hβ);(repeat (obtain ⟨⟨_,_⟩,hβ⟩:=hβ));(try (have hbis:=ah (by assumption) hβ;obtain ⟨_,_⟩:=hbis)))<;>(try simp only [↓R1,RR,seval,ltN,bX,bY,eqN,aO,aP,bq,br,aM,aQ,aR])))
 (refine ak (ad ?_) (by first|(simp [aj,rvS];done)|(simp only [aj,rvS,↓R1,RR,seval,ltN,bX,bY,eqN,aO,aP,bq,br,aM,aQ,aR];try simp)))
 (simp only [ao,↓R1,RR,seval,ltN,bX,bY,eqN,aO,aP,bq,br,aM,aQ,aR])
theorem LL (b:UInt8):Pu Tryz.prog 273 [.int .u8 b.toNat] (.bool (dig b)):=by
 (refine an Hn Le fun σ=>?_;simp only [Hn,↓R1,RR,seval,ltN,bX,bY,eqN,aO,aP,bq,br,aM,aQ,aR])
 skip
 (refine ak (ad ?_) (by first|(simp [aj,rvS];done)|(simp only [aj,rvS,↓R1,RR,seval,ltN,bX,bY,eqN,aO,aP,bq,br,aM,aQ,aR];try simp)))
 (simp only [ao,↓R1,RR,seval,ltN,bX,bY,eqN,aO,aP,bq,br,aM,aQ,aR])
theorem LM (s:List UInt8) (hs:s.length≤4611686018427387904):Pu Tryz.prog 248 [.str s] (pQ (eL s)):=by
  (refine an Hh K8 fun σ=>?_;simp only [Hh,↓R1,RR,seval,ltN,bX,bY,eqN,aO,aP,bq,br,aM,aQ,aR])
  intro β hβ
  (try simp only [↓R1,RR,seval,ltN,bX,bY,eqN,aO,aP,bq,br,aM,aQ,aR])
  repeat' (first|(with_reducible apply And.intro)|((first|(refine ar (fun hc=>?_) (fun hc=>?_))|(refine Pt (JL _ _) ?_))<;>(try simp only [↓R1,RR,seval,ltN,bX,bY,eqN,aO,aP,bq,br,aM,aQ,aR])))
  all_goals (try simp only [St.set_set,↓R1,RR,seval,ltN,bX,bY,eqN,aO,aP,bq,br,aM,aQ,aR])
  · intro h;simp at h;have:s.length≠0:=fun e=>h (List.eq_nil_of_length_eq_zero e);omega
  · (refine ak (ad ?_) (by first|(simp [aj,rvS];done)|(simp only [aj,rvS,↓R1,RR,seval,ltN,bX,bY,eqN,aO,aP,bq,br,aM,aQ,aR];try simp)))
    (simp only [ao,↓R1,RR,seval,ltN,bX,bY,eqN,aO,aP,bq,br,aM,aQ,aR])
    have:s.length=0∨aY s 0≠123:=by simpa using hc
    rw [eL,if_pos this];rfl
  · intro h;simp at h;omega
  · rename_i hc0
    (refine ak (ad ?_) (by first|(simp [aj,rvS];done)|(simp only [aj,rvS,↓R1,RR,seval,ltN,bX,bY,eqN,aO,aP,bq,br,aM,aQ,aR];try simp)))
    (simp only [ao,↓R1,RR,seval,ltN,bX,bY,eqN,aO,aP,bq,br,aM,aQ,aR])
    have h0:¬ (s.length=0∨aY s 0≠123):=by simpa using hc0
    have h1:1<s.length∧aY s 1=125:=by simpa using hc
    rw [eL,if_neg h0,if_pos h1];rfl
  rename_i hc0
  have h0:¬ (s.length=0∨aY s 0≠123):=by simpa using hc0
  have h1:¬ (1<s.length∧aY s 1=125):=by simpa using hc
  have hR:eL s=jv s (s.length+1) 0#64 (-1) 1:=by rw [eL,if_neg h0,if_neg h1]
  rw [hR]
  obtain ⟨R,hR'⟩:∃ R,jv s (s.length+1) 0#64 (-1) 1=R:=⟨_,rfl⟩
  rw [hR'] at hR ⊢
  have hlen:1≤s.length:=by rcases Nat.eq_zero_or_pos s.length with h|h;exact (h0 (.inl h)).elim;exact h
  clear hc hc0 h0 h1
  refine cS (α:=Nat × BitVec 64 × Int × Nat) (fun z=> [(7, .int .i64 (z.2.2.2:Nat)),(6, .int .i64 z.2.2.1),(0, .str s),(2, .int .u64 z.2.1.toNat),(4, .ptr β 0),(5, .fn 272 [])]) (fun _=>σ.ae β [.int .i64 0, .int .i64 0])
    (fun z=>jv s z.1 z.2.1 z.2.2.1 z.2.2.2=R∧s.length+1<z.1+z.2.2.2∧z.2.2.2≤s.length) (fun z=>z.1) (s.length+1,0#64, -1,1) (by simp [az,slot,af]) (St.le_refl _) ⟨hR',by simp only;omega,hlen⟩ ?_
  rintro ⟨f,l,last,a⟩ ⟨hN,hf,ha⟩
  simp only at hN hf ha ⊢
  obtain ⟨f,rfl⟩:∃ g,f=g+1:=⟨f - 1,by omega⟩
  simp only [↓R1,RR,seval,ltN,bX,bY,eqN,aO,aP,bq,br,aM,aQ,aR]
  obtain ⟨sc,hsc⟩:∃ sc,scan s a (s.length - a) a 0=sc:=⟨_,rfl⟩
  have hN2:=hN
  unfold jv at hN2
  rw [hsc] at hN2
  refine cS (α:=Nat × Nat) (fun z=> [(7, .int .i64 (z.1:Nat)),(9, .int .i64 (z.2:Nat)),(8, .int .i64 (a:Nat)),(6, .int .i64 last),(0, .str s),(2, .int .u64 l.toNat),(4, .ptr β 0),(5, .fn 272 [])]) (fun _=>σ.ae β [.int .i64 0, .int .i64 0])
    (fun z=>scan s a (s.length - z.1) z.1 z.2=sc∧a≤z.1∧z.1≤s.length∧z.2≤1000) (fun z=>s.length - z.1) (a,0) (by simp [az,slot,af]) (St.le_refl _) ⟨hsc,by simp,ha,by simp⟩ ?_
  rintro ⟨b,n⟩ ⟨hS,hab,hbl,hn⟩
  simp only at hS hab hbl hn ⊢
  simp only [↓R1,RR,seval,ltN,bX,bY,eqN,aO,aP,bq,br,aM,aQ,aR]
  repeat' (first|(with_reducible refine And.intro ?_ ?_;exact ag)|(with_reducible apply And.intro)|((first|(refine cZ (fun hc=>?_) (fun hc=>?_)<;>(try simp only [hc,↓R1,RR,seval,ltN,bX,bY,eqN,aO,aP,bq,br,aM,aQ,aR]))|(refine ar (fun hc=>?_) (fun hc=>?_))|(refine Pt (JL _ _) ?_)|(refine Pt (LL _) ?_))<;>(try simp only [↓R1,RR,seval,ltN,bX,bY,eqN,aO,aP,bq,br,aM,aQ,aR])))
  all_goals (simp only [decide_eq_true_eq,decide_eq_false_iff_not,Bool.and_eq_false_iff,Bool.and_eq_true,Bool.not_eq_true',Bool.not_eq_false'] at *)
  all_goals first|omega|(intro h;omega)|skip
  all_goals (have hdd:dig (aY s b)=dig ((s[b]?).getD 0):=rfl)
  all_goals first
    | (have hd : ¬ (b < s.length ∧ dig (aY     s b) = true) := (by rw [hdd]; grind)
       have hA:=fD s a (s.length - b) b n hd
       rw [hS] at hA
       rw [hA] at hN2
       simp only [Bool.true_eq_false,if_false] at hN2
       first
       | ((refine ak    (ad       ?_) (by first | (simp [aj,   rvS]; done) | (simp only [aj,   rvS, ↓R1, RR, seval, ltN, bX,   bY,   eqN, aO,     aP,     bq,    br,    aM,     aQ,     aR];     try simp)))
          (simp only [ao,↓R1,RR,seval,ltN,bX,bY,eqN,aO,aP,bq,br,aM,aQ,aR])
          rw [←hN2]
          grind [pQ,bad])
       | skip)
    | skip
  · rename_i h1 h2
    have h3:=hc
    obtain ⟨d,hd⟩:∃ d,s.length - b=d+1:=⟨s.length - b - 1,by omega⟩
    have hA:=kU s a d b n ⟨by omega,by rw [hdd];exact h2.2⟩ ⟨h3.1,h3.2⟩
    rw [←hd,hS] at hA
    rw [hA] at hN2
    (refine ak (ad ?_) (by first|(simp [aj,rvS];done)|(simp only [aj,rvS,↓R1,RR,seval,ltN,bX,bY,eqN,aO,aP,bq,br,aM,aQ,aR];try simp)))
    (simp only [ao,↓R1,RR,seval,ltN,bX,bY,eqN,aO,aP,bq,br,aM,aQ,aR])
    rw [←hN2]
    rfl
  · rename_i h1 h2
    have h3:=hc
    have hdg:dig (aY s b)=true:=by rw [hdd];exact h2.2
    obtain ⟨d,hd⟩:∃ d,s.length - b=d+1:=⟨s.length - b - 1,by omega⟩
    have hA:=kc s a d b n ⟨by omega,hdg⟩ (by intro hz;rcases h3 with h|h;exact h hz.1;exact h hz.2)
    rw [←hd,hS] at hA
    refine ⟨(b+1,min 1000 (10*n+((aY s b).toNat - 48))),⟨?_,by simp only;omega,by simp only;omega,by simp only;omega⟩,?_,St.le_refl _,by simp only;omega⟩
    · simp only;rw [show s.length - (b+1)=d by omega];exact hA.symm
    · simp only [az,slot,af,↓R1,RR,seval,ltN,bX,bY,eqN,aO,aP,bq,br,aM,aQ,aR]
      exact ⟨ad (by rw [xL (by omega)]),ad (congrArg _ (mO (c:=aY s b) hdg hn))⟩
  · rw [D0 hn];omega
  · (refine ak (ad ?_) (by first|(simp [aj,rvS];done)|(simp only [aj,rvS,↓R1,RR,seval,ltN,bX,bY,eqN,aO,aP,bq,br,aM,aQ,aR];try simp)))
    (simp only [ao,↓R1,RR,seval,ltN,bX,bY,eqN,aO,aP,bq,br,aM,aQ,aR])
    rw [pG l (by omega),xL (by omega),←hN2]
    grind [pQ]
  · refine ⟨(f,l ||| 1#64 <<< n,(n:Int),b+1),⟨by simp only;rw [←hN2];grind,by simp only;omega,by simp only;omega⟩,?_,St.le_refl _,by simp only;omega⟩
    simp only [az,slot,af,↓R1,RR,seval,ltN,bX,bY,eqN,aO,aP,bq,br,aM,aQ,aR]
    exact ⟨ad (by rw [xL (by omega)]),ad (by rw [pG l (by omega)])⟩
  · rw [D0 hn];omega
def vz (s:List UInt8) (a:Nat):Bool:=decide (a<s.length)&&dig (aY s a)
theorem HU (e a:Int):Pu Tryz.prog 226 [.int .i64 e, .int .i64 a] (.tup [.int .u64 0, .int .i64 0, .agg [.int .i64 e, .int .i64 a]]):=by
 (refine an G9 K0 fun σ=>?_;simp only [G9,↓R1,RR,seval,ltN,bX,bY,eqN,aO,aP,bu,bq,br,aM,aQ,aR])
 repeat' (first|(with_reducible rw [ai])|((with_reducible intro β hβ;(try simp only [RB] at hβ);(repeat (obtain ⟨⟨_,_⟩,hβ⟩:=hβ));(try (have hbis:=ah (by assumption) hβ;obtain ⟨_,_⟩:=hbis)))<;>(try simp only [↓R1,RR,seval,ltN,bX,bY,eqN,aO,aP,bu,bq,br,aM,aQ,aR])))
 (refine ak (ad ?_) (by first|(simp [aj,rvS];done)|(simp only [aj,rvS,↓R1,RR,seval,ltN,bX,bY,eqN,aO,aP,bu,bq,br,aM,aQ,aR];try simp)))
 (simp only [ao,↓R1,RR,seval,ltN,bX,bY,eqN,aO,aP,bu,bq,br,aM,aQ,aR])
theorem JM (s:List UInt8) (a:Nat):Pu Tryz.prog 227 [.str s, .int .i64 (a:Nat)] (.bool (vz s a)):=by
 (refine an Ha K1 fun σ=>?_;simp only [Ha,↓R1,RR,seval,ltN,bX,bY,eqN,aO,aP,bu,bq,br,aM,aQ,aR])
 repeat' (with_reducible apply And.intro)
 ·intro h;simp at h;omega
 ·intro h;simp at h;omega
 ·(refine ak (ad ?_) (by first|(simp [aj,rvS];done)|(simp only [aj,rvS,↓R1,RR,seval,ltN,bX,bY,eqN,aO,aP,bu,bq,br,aM,aQ,aR];try simp)))
  (simp only [ao,↓R1,RR,seval,ltN,bX,bY,eqN,aO,aP,bu,bq,br,aM,aQ,aR])
  refine congrArg AV.bool ?_
  rw [Bool.and_assoc,aM]
  rfl
theorem LN (s:List UInt8) (hs:s.length≤4611686018427387904):Pu Tryz.prog 184 [.str s] (pQ (eL s)):=by
  (refine an GS KL fun σ=>?_;simp only [GS,↓R1,RR,seval,ltN,bX,bY,eqN,aO,aP,bu,bq,br,aM,aQ,aR])
  intro β hβ
  (try simp only [↓R1,RR,seval,ltN,bX,bY,eqN,aO,aP,bu,bq,br,aM,aQ,aR])
  repeat' (first|(with_reducible apply And.intro)|((first|(refine ar (fun hc=>?_) (fun hc=>?_))|(refine Pt (HU _ _) ?_))<;>(try simp only [↓R1,RR,seval,ltN,bX,bY,eqN,aO,aP,bu,bq,br,aM,aQ,aR])))
  all_goals (try simp only [St.set_set,↓R1,RR,seval,ltN,bX,bY,eqN,aO,aP,bu,bq,br,aM,aQ,aR])
  · intro h;simp at h;have:s.length≠0:=fun e=>h (List.eq_nil_of_length_eq_zero e);omega
  · (refine ak (ad ?_) (by first|(simp [aj,rvS];done)|(simp only [aj,rvS,↓R1,RR,seval,ltN,bX,bY,eqN,aO,aP,bu,bq,br,aM,aQ,aR];try simp)))
    (simp only [ao,↓R1,RR,seval,ltN,bX,bY,eqN,aO,aP,bu,bq,br,aM,aQ,aR])
    have:s.length=0∨aY s 0≠123:=by simpa using hc
    rw [eL,if_pos this];rfl
  · intro h;simp at h;omega
  · rename_i hc0
    (refine ak (ad ?_) (by first|(simp [aj,rvS];done)|(simp only [aj,rvS,↓R1,RR,seval,ltN,bX,bY,eqN,aO,aP,bu,bq,br,aM,aQ,aR];try simp)))
    (simp only [ao,↓R1,RR,seval,ltN,bX,bY,eqN,aO,aP,bu,bq,br,aM,aQ,aR])
    have h0:¬ (s.length=0∨aY s 0≠123):=by simpa using hc0
    have h1:1<s.length∧aY s 1=125:=by simpa using hc
    rw [eL,if_neg h0,if_pos h1];rfl
  rename_i hc0
  have h0:¬ (s.length=0∨aY s 0≠123):=by simpa using hc0
  have h1:¬ (1<s.length∧aY s 1=125):=by simpa using hc
  have hR:eL s=jv s (s.length+1) 0#64 (-1) 1:=by rw [eL,if_neg h0,if_neg h1]
  rw [hR]
  obtain ⟨R,hR'⟩:∃ R,jv s (s.length+1) 0#64 (-1) 1=R:=⟨_,rfl⟩
  rw [hR'] at hR ⊢
  have hlen:1≤s.length:=by rcases Nat.eq_zero_or_pos s.length with h|h;exact (h0 (.inl h)).elim;exact h
  clear hc hc0 h0 h1
  refine cS (α:=Nat × BitVec 64 × Int × Nat) (fun z=> [(7, .int .i64 (z.2.2.2:Nat)),(6, .int .i64 z.2.2.1),(0, .str s),(5, .int .u64 z.2.1.toNat),(4, .ptr β 0)]) (fun _=>σ.ae β [.int .i64 0, .int .i64 0])
    (fun z=>jv s z.1 z.2.1 z.2.2.1 z.2.2.2=R∧s.length+1<z.1+z.2.2.2∧z.2.2.2≤s.length) (fun z=>z.1) (s.length+1,0#64, -1,1) (by simp [az,slot,af]) (St.le_refl _) ⟨hR',by simp only;omega,hlen⟩ ?_
  rintro ⟨f,l,last,a⟩ ⟨hN,hf,ha⟩
  simp only at hN hf ha ⊢
  obtain ⟨f,rfl⟩:∃ g,f=g+1:=⟨f - 1,by omega⟩
  simp only [↓R1,RR,seval,ltN,bX,bY,eqN,aO,aP,bu,bq,br,aM,aQ,aR]
  obtain ⟨sc,hsc⟩:∃ sc,scan s a (s.length - a) a 0=sc:=⟨_,rfl⟩
  have hN2:=hN
  unfold jv at hN2
  rw [hsc] at hN2
  repeat' ((first|(refine ar (fun hc=>?_) (fun hc=>?_))|(refine Pt (HU _ _) ?_)|(refine Pt (JM s a) ?_))<;>(try simp only [↓R1,RR,seval,ltN,bX,bY,eqN,aO,aP,bu,bq,br,aM,aQ,aR]))
  · have hd:¬ (a<s.length∧dig (aY s a)=true):=by simp [vz] at hc;intro h;rcases hc with h2|h2;omega;rw [h2] at h;exact absurd h.2 (by decide)
    have hA:=fD s a (s.length - a) a 0 hd
    rw [hsc] at hA
    rw [hA] at hN2
    (try simp only [St.set_set,↓R1,RR,seval,ltN,bX,bY,eqN,aO,aP,bu,bq,br,aM,aQ,aR])
    (refine ak (ad ?_) (by first|(simp [aj,rvS];done)|(simp only [aj,rvS,↓R1,RR,seval,ltN,bX,bY,eqN,aO,aP,bu,bq,br,aM,aQ,aR];try simp)))
    (simp only [ao,↓R1,RR,seval,ltN,bX,bY,eqN,aO,aP,bu,bq,br,aM,aQ,aR])
    rw [←hN2]
    simp [pQ,bad]
  have hda:a<s.length∧dig (aY s a)=true:=by simpa [vz] using hc
  clear hc
  refine cS (α:=Nat × Nat) (fun z=> [(7, .int .i64 (z.1:Nat)),(9, .int .i64 (z.2:Nat)),(8, .int .i64 (a:Nat)),(6, .int .i64 last),(0, .str s),(5, .int .u64 l.toNat),(4, .ptr β 0)]) (fun _=>σ.ae β [.int .i64 0, .int .i64 0])
    (fun z=>scan s a (s.length - z.1) z.1 z.2=sc∧a≤z.1∧z.1≤s.length∧z.2≤1000∧(aY s a=48→z.1≤a+1)) (fun z=>s.length - z.1) (a,0) (by simp [az,slot,af]) (St.le_refl _) ⟨hsc,by simp,ha,by simp,by simp⟩ ?_
  rintro ⟨b,n⟩ ⟨hS,hab,hbl,hn,hz0⟩
  simp only at hS hab hbl hn hz0 ⊢
  simp only [↓R1,RR,seval,ltN,bX,bY,eqN,aO,aP,bu,bq,br,aM,aQ,aR]
  have hdd:vz s b=(decide (b<s.length)&&dig (aY s b)):=rfl
  have hab':a<s.length:=hda.1
  have ea:IntKind.i64.wrap ((a:Int)+1)=((a+1:Nat):Int):=xL (by omega)
  have eb:IntKind.i64.wrap ((b:Int)+1)=((b+1:Nat):Int):=xL (by omega)
  have eb2:IntKind.i64.wrap (((b+1:Nat):Int) - 1)=(b:Int):=by rw [wrap64 (by omega) (by omega)];omega
  repeat' (first|(with_reducible refine And.intro ?_ ?_;exact ag)|(with_reducible apply And.intro)|((first|(refine ar (fun hc=>?_) (fun hc=>?_))|(with_reducible intro β hβ;(try simp only [RB] at hβ);(repeat (obtain ⟨⟨_,_⟩,hβ⟩:=hβ));(try (have hbis:=ah (by assumption) hβ;obtain ⟨_,_⟩:=hbis)))|(refine Pt (HU _ _) ?_)|(refine Pt (JM s b) ?_))<;>(try simp only [↓R1,RR,seval,ltN,bX,bY,eqN,aO,aP,bu,bq,br,aM,aQ,aR])))
  all_goals (try simp only [St.set_set,↓R1,RR,seval,ltN,bX,bY,eqN,aO,aP,bu,bq,br,aM,aQ,aR])
  all_goals (clear hN)
  all_goals (simp only [ea,eb,eb2,eqN,Int.toNat_natCast] at *)
  all_goals (simp only [hdd,decide_eq_true_eq,decide_eq_false_iff_not,Bool.and_eq_false_iff,Bool.and_eq_true,Bool.or_eq_true,Bool.or_eq_false_iff,Bool.not_eq_true',Bool.not_eq_false'] at *)
  all_goals first|omega|(intro h;omega)|skip
  all_goals first
    | (have hd : ¬ (b < s.length ∧ dig (aY     s b) = true) := (by grind)
       have hA:=fD s a (s.length - b) b n hd
       rw [hS] at hA
       rw [hA] at hN2
       simp only [Bool.true_eq_false,if_false] at hN2
       first
       | ((refine ak    (ad       ?_) (by first | (simp [aj,   rvS]; done) | (simp only [aj,   rvS, ↓R1, RR, seval, ltN, bX,   bY,   eqN, aO,     aP,     bu,      bq,    br,    aM,     aQ,     aR];     try simp)))
          (simp only [ao,↓R1,RR,seval,ltN,bX,bY,eqN,aO,aP,bu,bq,br,aM,aQ,aR])
          rw [←hN2]
          grind [pQ,bad])
       | skip)
    | skip
  · obtain ⟨d,hd⟩:∃ d,s.length - b=d+1:=⟨s.length - b - 1,by omega⟩
    have hA:=kU s a d b n (by grind) ⟨by omega,hc.2⟩
    rw [←hd,hS] at hA
    rw [hA] at hN2
    (refine ak (ad ?_) (by first|(simp [aj,rvS];done)|(simp only [aj,rvS,↓R1,RR,seval,ltN,bX,bY,eqN,aO,aP,bu,bq,br,aM,aQ,aR];try simp)))
    (simp only [ao,↓R1,RR,seval,ltN,bX,bY,eqN,aO,aP,bu,bq,br,aM,aQ,aR])
    rw [←hN2]
    rfl
  · rename_i h2
    have hdg:dig (aY s b)=true:=h2.2
    obtain ⟨d,hd⟩:∃ d,s.length - b=d+1:=⟨s.length - b - 1,by omega⟩
    have hA := kc      s a d b n h2 (by intro hz; have := hz0 hz.2; have : b = a + 1 := by omega
                                        rcases hc with h|h;exact h this;exact h hz.2)
    rw [←hd,hS] at hA
    refine ⟨(b+1,min 1000 (10*n+((aY s b).toNat - 48))),⟨?_,by simp only;omega,by simp only;omega,by simp only;omega,?_⟩,?_,St.le_refl _,by simp only;omega⟩
    · simp only;rw [show s.length - (b+1)=d by omega];exact hA.symm
    · intro h48
      have:=hz0 h48
      simp only
      rcases hc with h|h
      · omega
      · exact (h h48).elim
    · simp only [az,slot,af,↓R1,RR,seval,ltN,bX,bY,eqN,aO,aP,bu,bq,br,aM,aQ,aR]
      first
      | exact ⟨ad (by rw [xL (by omega)]),ad (congrArg _ (mO (c:=aY s b) hdg hn))⟩
      | exact ad (congrArg _ (mO (c:=aY s b) hdg hn))
  · rw [D0 hn];omega
  · rename_i β2 hβ2 _;exact ⟨‹¬b=s.length›,‹¬aY s b=44›⟩
  · (refine ak (ad ?_) (by first|(simp [aj,rvS];done)|(simp only [aj,rvS,↓R1,RR,seval,ltN,bX,bY,eqN,aO,aP,bu,bq,br,aM,aQ,aR];try simp)))
    (simp only [ao,↓R1,RR,seval,ltN,bX,bY,eqN,aO,aP,bu,bq,br,aM,aQ,aR])
    rw [pG l (by omega),←hN2]
    grind [pQ]
  · refine ⟨(f,l ||| 1#64 <<< n,(n:Int),b+1),⟨by simp only;rw [←hN2];grind,by simp only;omega,by simp only;omega⟩,?_,St.le_refl _,by simp only;omega⟩
    simp only [az,slot,af,↓R1,RR,seval,ltN,bX,bY,eqN,aO,aP,bu,bq,br,aM,aQ,aR]
    exact ad (by rw [pG l (by omega)])
def rK (r:RL):AV:= .tup [.int .u64 r.l.toNat, .agg [.int .i64 (r.err:Nat), .int .i64 (r.at_:Nat)]]
theorem LP {n:Nat}:((n:Int) != 0)= !decide (n=0):=by rw [Bool.eq_iff_iff];simp
theorem JN (s:List UInt8) (hs:s.length≤4611686018427387904):Pu Tryz.prog 204 [.str s] (rK (cb s)):=by
 have hr:=LM s hs
 unfold pQ at hr
 (refine an G3 KU fun σ=>?_;simp only [G3,↓R1,RR,seval,ltN,bX,bY,eqN,aO,aP,bu,bq,br,aM,aQ,aR])
 repeat' (first|(with_reducible rw [ai])|((first|(refine ar (fun hc=>?_) (fun hc=>?_))|(with_reducible intro β hβ;(try simp only [RB] at hβ);(repeat (obtain ⟨⟨_,_⟩,hβ⟩:=hβ));(try (have hbis:=ah (by assumption) hβ;obtain ⟨_,_⟩:=hbis)))|(refine Pt (hr) ?_))<;>(try simp only [↓R1,RR,seval,ltN,bX,bY,eqN,aO,aP,bu,bq,br,aM,aQ,aR])))
 all_goals (refine ak (ad ?_) (by first|(simp [aj,rvS];done)|(simp only [aj,rvS,↓R1,RR,seval,ltN,bX,bY,eqN,aO,aP,bu,bq,br,aM,aQ,aR];try simp)))
 all_goals (simp only [ao,↓R1,RR,seval,ltN,bX,bY,eqN,aO,aP,bu,bq,br,aM,aQ,aR])
 all_goals (simp only [decide_eq_true_eq,decide_eq_false_iff_not,bne_iff_ne,bne_eq_false_iff_eq] at *)
 all_goals grind [rK,cb,bad]
theorem JO (s:List UInt8) (hs:s.length≤4611686018427387904):Pu Tryz.prog 130 [.str s] (rK (cb s)):=by
 have hr:=LN s hs
 unfold pQ at hr
 (refine an Gz Kt fun σ=>?_;simp only [Gz,↓R1,RR,seval,ltN,bX,bY,eqN,aO,aP,bu,bq,br,aM,aQ,aR])
 repeat' (first|(with_reducible rw [ai])|((first|(refine ar (fun hc=>?_) (fun hc=>?_))|(with_reducible intro β hβ;(try simp only [RB] at hβ);(repeat (obtain ⟨⟨_,_⟩,hβ⟩:=hβ));(try (have hbis:=ah (by assumption) hβ;obtain ⟨_,_⟩:=hbis)))|(refine Pt (hr) ?_))<;>(try simp only [↓R1,RR,seval,ltN,bX,bY,eqN,aO,aP,bu,bq,br,aM,aQ,aR])))
 all_goals (simp only [Bool.and_eq_true,Bool.and_eq_false_iff,beq_iff_eq,beq_eq_false_iff_ne,decide_eq_true_eq,decide_eq_false_iff_not,bne_iff_ne,bne_eq_false_iff_eq] at *)
 all_goals first|((refine ak (ad ?_) (by first|(simp [aj,rvS];done)|(simp only [aj,rvS,↓R1,RR,seval,ltN,bX,bY,eqN,aO,aP,bu,bq,br,aM,aQ,aR];try simp)));(simp only [ao,↓R1,RR,seval,ltN,bX,bY,eqN,aO,aP,bu,bq,br,aM,aQ,aR]);grind [rK,cb,bad])|(exfalso;grind)|skip
end Go.Proofs.YtgephffbfiemeaaGreatDoor
