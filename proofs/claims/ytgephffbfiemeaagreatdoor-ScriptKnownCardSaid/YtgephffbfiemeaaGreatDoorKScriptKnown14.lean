/- Part 14 of the proof of ScriptKnown: an abstract semantics that is proved sound for the model, contracts of functions in it, and plain facts (LS2 LS4 LS6). No condition. -/
import Derived.Test.YtgephffbfiemeaaGreatDoorKScriptKnown13
import Derived.Lib.TrailingZeros
set_option linter.all false
namespace Go.Proofs.YtgephffbfiemeaaGreatDoor
open Go.Abs
def eW (a:BitVec 64):List Nat:=(List.range 64).filter a.getLsbD
theorem oj:eW 0#64= []:=by simp [eW]
theorem mq (a:BitVec 64):(eW a).length≤64:=Nat.le_trans (List.length_filter_le _ _) OF
theorem vm {a:BitVec 64} {i:Nat} (h:i∈eW a):i<64:=by
 have:=(List.mem_filter.1 h).1
 simpa using this
theorem pC {n k:Nat} {p q:Nat→Bool} (hk:k<n) (hpk:p k=true) (hlt:∀ i,i<k→p i=false) (hqk:q k=false) (hqlt:∀ i,i<k→q i=false) (hgt:∀ i,k<i→i<n→q i=p i) :
  (List.range n).filter p=k::(List.range n).filter q:=by
 obtain ⟨d,rfl⟩:∃ d,n=k+(1+d):=⟨n - k - 1,by omega⟩
 have e:List.range (k+(1+d))=List.range k++([k]++(List.range d).map (k+1 + ·)):=by
  rw [List.range_add,List.range_add]
  simp only [List.map_append,List.map_map]
  congr 1
  congr 1
  exact List.map_congr_left fun x _=>by simp only [Function.comp];omega
 rw [e,List.filter_append,List.filter_append,List.filter_append,List.filter_append]
 have h1:∀ r:Nat→Bool,(∀ i,i<k→r i=false)→(List.range k).filter r= []:=fun r hr=>by
  rw [List.filter_eq_nil_iff]
  intro x hx
  simp [hr x (by simpa using hx)]
 rw [h1 p hlt,h1 q hqlt]
 simp only [List.nil_append,List.filter_cons,hpk,hqk,List.filter_nil,if_true,Bool.false_eq_true,if_false,List.cons_append,List.nil_append]
 congr 1
 apply List.filter_congr
 intro x hx
 obtain ⟨y,hy,rfl⟩:=List.mem_map.1 hx
 have:=List.mem_range.1 hy
 exact (hgt _ Oz Oz).symm
theorem qW (b:BitVec 64) (h:b≠0#64):Lib.ctz 64 b.toNat<64∧b.getLsbD (Lib.ctz 64 b.toNat)=true∧(∀ i,i<Lib.ctz 64 b.toNat→b.getLsbD i=false)∧∀ i,(b &&& (b - 1#64)).getLsbD i=(b.getLsbD i&&i != Lib.ctz 64 b.toNat):=by
 have h0:b.toNat≠0:=fun e=>h (BitVec.eq_of_toNat_eq (by simpa using e))
 have e0:Lib.ctz 64 b.toNat=Lib.ctzFrom 64 b.toNat:=by simp [Lib.ctz,h0]
 obtain ⟨m,hm,hk⟩:=Lib.ctzFrom_spec 64 b.toNat Oz b.isLt
 rw [e0]
 generalize Lib.ctzFrom 64 b.toNat=k at hm hk
 have hb:∀ i,b.getLsbD i=(decide (k≤i)&&(2*m+1).testBit (i - k)):=fun i=>by
  show b.toNat.testBit i=_
  rw [hm,Nat.mul_comm,Nat.testBit_mul_two_pow]
 have h1:(b - 1#64).toNat=2^k*(2*m)+(2^k - 1):=by
  have hp:=Nat.two_pow_pos k
  have:(b - 1#64).toNat=b.toNat - 1:=by
   rw [BitVec.toNat_sub]
   have:=b.isLt
   simp only [BitVec.toNat_ofNat]
   omega
  rw [this,hm,Nat.mul_add]
  omega
 have hs:∀ i,(b - 1#64).getLsbD i=if k≤i then (2*m).testBit (i - k) else true:=fun i=>by
  show (b - 1#64).toNat.testBit i=_
  have hlt:2^k - 1<2^k:=by have:=Nat.two_pow_pos k;omega
  rw [h1,Nat.testBit_two_pow_mul_add _ hlt]
  by_cases hik:k≤i
  ·rw [if_pos hik,if_neg Oz]
  ·rw [if_neg hik,if_pos Oz,Nat.testBit_two_pow_sub_one];simp;omega
 refine ⟨hk,?_,fun i hi=>?_,fun i=>?_⟩
 ·rw [hb];simp [Nat.testBit_zero]
 ·rw [hb];simp [Nat.not_le_of_lt hi]
 ·rw [BitVec.getLsbD_and,hs,hb]
  rcases Nat.lt_trichotomy i k with h2|rfl|h2
  ·simp [Nat.not_le_of_lt h2]
  ·simp [Nat.testBit_zero]
  ·obtain ⟨d,rfl⟩:∃ d,i=k+(d+1):=⟨i - k - 1,by omega⟩
   have e3:k+(d+1) - k=d+1:=Oz
   have d1:(2*m+1) / 2=m:=Oz
   have d2:(2*m) / 2=m:=Oz
   have hne:(k+(d+1) != k)=true:=OF
   rw [e3,Nat.testBit_succ,Nat.testBit_succ,d1,d2,hne]
   simp
theorem xQ (b:BitVec 64) (h:b≠0#64):eW b=Lib.ctz 64 b.toNat::eW (b &&& (b - 1#64)):=by
 obtain ⟨h1,h2,h3,h4⟩:=qW b h
 refine pC h1 h2 h3 ?_ (fun i hi=>?_) (fun i hi _=>?_)
 ·rw [h4];simp
 ·rw [h4,h3 i hi];rfl
 ·rw [h4]
  have:(i != Lib.ctz 64 b.toNat)=true:=OS
  rw [this,Bool.and_true]
def mr (l:List Nat):BitVec 64:=l.foldl (fun b c=>b ||| 1#64 <<< c) 0#64
theorem kS:∀ (l:List Nat) (b:BitVec 64) (i:Nat),(l.foldl (fun b c=>b ||| 1#64 <<< c) b).getLsbD i=(b.getLsbD i||(decide (i<64)&&decide (i∈l)))
  | [],b,i=>by simp
  | c :: l, b, i => by
    rw [List.foldl_cons,kS l]
    by_cases hi:i<64
    · simp only [BitVec.getLsbD_or,BitVec.getLsbD_shiftLeft,hi,decide_true,Bool.true_and,List.mem_cons]
      by_cases hc:i=c
      · subst hc;simp
      · by_cases hlt:i<c
        · simp [hlt,hc]
        · have:(1#64).getLsbD (i - c)=false:=by
            obtain ⟨d,hd⟩:∃ d,i - c=d+1:=⟨i - c - 1,by omega⟩
            rw [BitVec.getLsbD_ofNat,hd,Nat.testBit_succ]
            simp
          simp [hc,this]
    · rw [BitVec.getLsbD_of_ge _ _ Oz,BitVec.getLsbD_of_ge _ _ Oz]
      simp [hi]
def jk (k:Nat):List UInt8:=if k<10 then [UInt8.ofNat (48+k)] else [UInt8.ofNat (48+k / 10),UInt8.ofNat (48+k % 10)]
def eB:List Nat→List UInt8
 | []=> []
 | k::l=>44::(jk k++eB l)
def gO:List Nat→List UInt8
 | []=> []
 | k::l=>jk k++eB l
def dI (a:BitVec 64):List UInt8:=123::(gO (eW a)++ [125])
theorem qX (k:Nat):1≤(jk k).length∧(jk k).length≤2:=by unfold jk;split<;>simp
theorem mu:∀ l,(eB l).length≤3*l.length
  | []=>by simp [eB]
  | k :: l => by
    have:=mu l
    have:=qX k
    simp only [eB,List.length_cons,List.length_append]
    omega
theorem om (a:BitVec 64):(gO (eW a)).length≤192:=by
  have:=mq a
  cases h:eW a with
  | nil=>simp [gO]
  | cons k l =>
    have h1:=mu l
    have h2:=qX k
    rw [h] at this
    simp only [List.length_cons] at this
    simp only [gO,List.length_append]
    omega
def dig (b:UInt8):Bool:=decide (48≤b.toNat)&&decide (b.toNat≤57)
def bf (s:List UInt8) (i:Nat):UInt8:=(s[i]?).getD 0
def scan (s:List UInt8) (from_:Nat):Nat→Nat→Nat→(Bool × Nat × Nat)
  | 0,at_,n=>(true,at_,n)
  | f + 1, at_, n =>
    if at_<s.length∧dig (bf s at_)=true then
      if from_<at_∧bf s from_=48 then (false,at_,n) else scan s from_ f (at_+1) (min 1000 (10*n+((bf s at_).toNat - 48)))
    else (true,at_,n)
structure RL where
 l:BitVec 64
 used:Nat
 err:Nat
 at_:Nat
def bad (e a:Nat):RL:=⟨0#64,0,e,a⟩
def lx (s:List UInt8):Nat→BitVec 64→Int→Nat→RL
  | 0,_,_,a=>bad 3 a
  | f + 1, l, last, a =>
    if (scan s a (s.length - a) a 0).1=false then bad 3 (scan s a (s.length - a) a 0).2.1
    else if (scan s a (s.length - a) a 0).2.1=a then bad 3 a
    else if 63<(scan s a (s.length - a) a 0).2.2 then bad 2 a
    else if ((scan s a (s.length - a) a 0).2.2:Int)≤last then bad 9 a
    else if (scan s a (s.length - a) a 0).2.1=s.length then bad 3 s.length
    else if bf s (scan s a (s.length - a) a 0).2.1=125 then ⟨l ||| (1#64 <<< (scan s a (s.length - a) a 0).2.2),(scan s a (s.length - a) a 0).2.1+1,0,0⟩
    else if bf s (scan s a (s.length - a) a 0).2.1≠44 then bad 3 (scan s a (s.length - a) a 0).2.1
    else lx s f (l ||| (1#64 <<< (scan s a (s.length - a) a 0).2.2)) (scan s a (s.length - a) a 0).2.2 ((scan s a (s.length - a) a 0).2.1+1)
def fU (s:List UInt8):RL :=
 if s.length=0∨bf s 0≠123 then bad 3 0
 else if 1<s.length∧bf s 1=125 then ⟨0#64,2,0,0⟩
 else lx s (s.length+1) 0#64 (-1) 1
def cR (s:List UInt8):RL :=
 if (fU s).err≠0 then ⟨0#64,0,(fU s).err,(fU s).at_⟩
 else if (fU s).used<s.length then bad 4 (fU s).used else ⟨(fU s).l,0,0,0⟩
theorem vn (s:List UInt8) (from_:Nat):∀ (f a n:Nat),a≤s.length→(scan s from_ f a n).2.1≤s.length
  | 0,a,n,h=>h
  | f + 1, a, n, h => by
    unfold scan
    split
    · rename_i hh
      split
      · exact h
      · exact vn s from_ f (a+1) _ Oz
    · exact h
theorem iA (s:List UInt8) (from_ f a n:Nat) (h:¬ (a<s.length∧dig (bf s a)=true)):scan s from_ f a n=(true,a,n):=by
 cases f with
 | zero=>rfl
 | succ f=>unfold scan;rw [if_neg h]
theorem oo (s:List UInt8) (from_ f a n:Nat) (h:a<s.length∧dig (bf s a)=true) (hz:from_<a∧bf s from_=48):scan s from_ (f+1) a n=(false,a,n):=by
 unfold scan;rw [if_pos h,if_pos hz]
theorem lO (s:List UInt8) (from_ f a n:Nat) (h:a<s.length∧dig (bf s a)=true) (hz:¬ (from_<a∧bf s from_=48)):scan s from_ (f+1) a n=scan s from_ f (a+1) (min 1000 (10*n+((bf s a).toNat - 48))):=by
 conv=>lhs;unfold scan
 rw [if_pos h,if_neg hz]
theorem tO (s:List UInt8) (i:Nat) (k:UInt8):((((s[i]?).getD 0).toNat:Int) == (k.toNat:Int))=decide (bf s i=k):=by
 unfold bf
 rw [Bool.eq_iff_iff]
 simp only [beq_iff_eq,decide_eq_true_eq,Int.natCast_inj,UInt8.toNat_inj]
theorem A4 (s:List UInt8) (i:Nat) (k:UInt8):((((s[i]?).getD 0).toNat:Int) != (k.toNat:Int))= !decide (bf s i=k):=by
 rw [bne,tO]
theorem A5 (s:List UInt8) (i:Nat):((((s[i]?).getD 0).toNat:Int) != 123)= !decide (bf s i=123):=A4 s i 123
theorem tP (s:List UInt8) (i:Nat):((((s[i]?).getD 0).toNat:Int) == 125)=decide (bf s i=125):=tO s i 125
theorem Gj (s:List UInt8) (i:Nat):((((s[i]?).getD 0).toNat:Int) != 44)= !decide (bf s i=44):=A4 s i 44
theorem Gk (s:List UInt8) (i:Nat):((((s[i]?).getD 0).toNat:Int) == 48)=decide (bf s i=48):=tO s i 48
theorem A6 (b:UInt8):(decide (48≤(b.toNat:Int))&&decide ((b.toNat:Int)≤57))=dig b:=by
 unfold dig;rw [Bool.eq_iff_iff];simp;omega
theorem A7:Int.toNat 1=1:=rfl
theorem Hg:Int.toNat 0=0:=rfl
theorem ltN {k n:Nat}:decide ((k:Int)<(n:Int))=decide (k<n):=OF
theorem _root_.Ph {p:Prop} (h:p:=by rw [Bool.eq_iff_iff];simp;omega):p:=h
theorem KH {n:Nat}:decide ((1:Int)<(n:Int))=decide (1<n):=Ph
theorem KI {n:Nat}:decide ((63:Int)<(n:Int))=decide (63<n):=Ph
theorem eqN {k n:Nat}:((k:Int) == (n:Int))=decide (k=n):=Ph
theorem Hh {n:Nat} (h:n≤1000):IntKind.u64.wrap (n:Int)=n:=by rw [IntKind.wrap_u64];omega
theorem Hi {b:Nat} (h:b≤4611686018427387904):IntKind.i64.wrap ((b:Int)+1)=((b+1:Nat):Int):=by rw [wrap64 Oz Oz];simp
theorem A8 (l:BitVec 64) {n:Nat} (h:n≤63):bits .or .u64 (l.toNat:Int) (IntKind.u64.wrap (1*2^min (IntKind.u64.wrap (n:Int)).toNat IntKind.u64.bits))=((l ||| 1#64 <<< n).toNat:Int):=by
 rw [Hh Oz,Int.toNat_natCast]
 have e:(1:Int)=((1#64:BitVec 64).toNat:Int):=rfl
 have:=Gi (1#64) n Oz
 rw [e,show IntKind.u64.bits=64 from rfl,this,kr]
theorem _root_.PK {p:Prop} (h:p:=by rw [wrap64 (by omega) (by omega)]):p:=h
theorem A9 {c:UInt8} {n:Nat} (h:dig c=true) (hn:n≤1000):(if IntKind.i64.wrap (IntKind.i64.wrap (10*(n:Int))+IntKind.i64.wrap (IntKind.u8.wrap ((c.toNat:Int) - 48)))<1000 then IntKind.i64.wrap (IntKind.i64.wrap (10*(n:Int))+IntKind.i64.wrap (IntKind.u8.wrap ((c.toNat:Int) - 48))) else 1000)=((min 1000 (10*n+(c.toNat - 48)):Nat):Int):=by
 have hd:48≤c.toNat∧c.toNat≤57:=by simpa [dig] using h
 have e1:IntKind.u8.wrap ((c.toNat:Int) - 48)=((c.toNat - 48:Nat):Int):=by simp [IntKind.wrap,IntKind.signed,IntKind.bits];omega
 have e2:IntKind.i64.wrap ((c.toNat - 48:Nat):Int)=((c.toNat - 48:Nat):Int):=PK
 have e3:IntKind.i64.wrap (10*(n:Int))=10*n:=PK
 have e4:IntKind.i64.wrap (10*(n:Int)+((c.toNat - 48:Nat):Int))=((10*n+(c.toNat - 48):Nat):Int):=by rw [wrap64 Oz Oz];simp
 rw [e1,e2,e3,e4]
 split<;>omega
theorem dm {s:List UInt8} {a:Nat} (h:a<s.length):s.drop a=bf s a::s.drop (a+1):=by
 rw [List.drop_eq_getElem_cons h]
 simp [bf,h]
theorem oq {d:Nat} (h:d<10):dig (UInt8.ofNat (48+d))=true∧(UInt8.ofNat (48+d)).toNat=48+d:=by
 have e:(UInt8.ofNat (48+d)).toNat=48+d:=OS
 refine ⟨?_,e⟩
 simp only [dig,e,Bool.and_eq_true,decide_eq_true_eq];omega
theorem ot {c:UInt8} (h:dig c=true):∃ d,d<10∧c=UInt8.ofNat (48+d):=by
 simp only [dig,Bool.and_eq_true,decide_eq_true_eq] at h
 refine ⟨c.toNat - 48,by omega,?_⟩
 apply UInt8.toNat_inj.1
 simp;omega
theorem qY (s:List UInt8) (f0:Nat):∀ (f a n:Nat),100≤n→100≤(scan s f0 f a n).2.2
  | 0,_,_,h=>h
  | f + 1, a, n, h => by
    unfold scan
    split
    · split
      · exact h
      · exact qY s f0 f (a+1) _ Oz
    · exact h
theorem xR {s:List UInt8} {a b n:Nat} (h:scan s a (s.length - a) a 0=(true,b,n)) (hb:b≠a) (hn:n≤63):s.drop a=jk n++s.drop b:=by
 by_cases h0:a<s.length∧dig (bf s a)=true
 ·obtain ⟨d0,hd0,e0⟩:=ot h0.2
  obtain ⟨f,hf⟩:∃ f,s.length - a=f+1:=⟨s.length - a - 1,by omega⟩
  rw [hf,lO s a f a 0 h0 Oz] at h
  have v0:min 1000 (10*0+((bf s a).toNat - 48))=d0:=by rw [e0,(oq hd0).2];omega
  rw [v0] at h
  by_cases h1:a+1<s.length∧dig (bf s (a+1))=true
  ·obtain ⟨d1,hd1,e1⟩:=ot h1.2
   obtain ⟨f2,rfl⟩:∃ f2,f=f2+1:=⟨f - 1,by omega⟩
   by_cases hz:bf s a=48
   ·rw [oo s a f2 (a+1) d0 h1 ⟨by omega,hz⟩] at h;cases h
   ·have hd0':d0≠0:=by rintro rfl;exact hz e0
    rw [lO s a f2 (a+1) d0 h1 (fun hh=>hz hh.2)] at h
    have v1:min 1000 (10*d0+((bf s (a+1)).toNat - 48))=10*d0+d1:=by rw [e1,(oq hd1).2];omega
    rw [v1] at h
    by_cases h2:a+1+1<s.length∧dig (bf s (a+1+1))=true
    ·obtain ⟨f3,rfl⟩:∃ f3,f2=f3+1:=⟨f2 - 1,by omega⟩
     rw [lO s a f3 (a+1+1) _ h2 (fun hh=>hz hh.2)] at h
     have:=qY s a f3 (a+1+1+1) (min 1000 (10*(10*d0+d1)+((bf s (a+1+1)).toNat - 48))) Oz
     rw [h] at this
     simp at this;omega
    ·rw [iA _ _ _ _ _ h2] at h
     cases h
     rw [dm h0.1,dm h1.1,e0,e1,jk,if_neg Oz,show (10*d0+d1) / 10=d0 by omega,show (10*d0+d1) % 10=d1 by omega]
     rfl
  ·rw [iA _ _ _ _ _ h1] at h
   cases h
   rw [dm h0.1,e0,jk,if_pos hd0]
   rfl
 ·rw [iA _ _ _ _ _ h0] at h
  cases h;exact (hb rfl).elim
def Inc (last:Int):List Nat→Prop
 | []=>True
 | k::ks=>last<(k:Int)∧k≤63∧Inc (k:Int) ks
def pD (l:BitVec 64) (ks:List Nat):BitVec 64:=ks.foldl (fun b c=>b ||| 1#64 <<< c) l
theorem ou (s:List UInt8):∀ (f:Nat) (l:BitVec 64) (last:Int) (a:Nat),a≤s.length→(lx s f l last a).err=0 →
    ∃ k ks,Inc last (k::ks)∧(lx s f l last a).l=pD l (k::ks)∧s.drop a=jk k++(eB ks++125::s.drop (lx s f l last a).used)
  | 0,_,_,_,_,h=>by simp [lx,bad] at h
  | f + 1, l, last, a, ha, h => by
    obtain ⟨⟨ok,b,n⟩,hsc⟩:∃ x,scan s a (s.length - a) a 0=x:=⟨_,rfl⟩
    have hle:=vn s a (s.length - a) a 0 ha
    unfold lx at h ⊢
    rw [hsc] at h hle ⊢
    simp only at h hle ⊢
    split at h
    · simp [bad] at h
    rename_i h1
    rw [if_neg h1]
    split at h
    · simp [bad] at h
    rename_i h2
    rw [if_neg h2]
    split at h
    · simp [bad] at h
    rename_i h3
    rw [if_neg h3]
    split at h
    · simp [bad] at h
    rename_i h4
    rw [if_neg h4]
    split at h
    · simp [bad] at h
    rename_i h5
    rw [if_neg h5]
    obtain rfl:ok=true:=by simpa using h1
    have hdr:=xR hsc h2 Oz
    have hb:b<s.length:=Oz
    split at h
    · rename_i h6
      rw [if_pos h6]
      refine ⟨n,[],⟨by omega,by omega,trivial⟩,by simp [pD],?_⟩
      rw [hdr,dm hb,h6];rfl
    rename_i h6
    rw [if_neg h6]
    split at h
    · simp [bad] at h
    rename_i h7
    rw [if_neg h7]
    obtain ⟨k,ks,q1,q2,q3⟩:=ou s f _ _ _ Oz h
    refine ⟨n,k::ks,⟨by omega,by omega,q1⟩,by rw [q2];simp [pD],?_⟩
    have h8:bf s b=44:=by simpa using h7
    rw [hdr,dm hb,h8,q3]
    simp [eB]
theorem Inc.all:∀ {ks:List Nat} {last:Int},Inc last ks→∀ x∈ks,last<(x:Int)∧x≤63
  | k :: ks, last, h, x, hx => by
    obtain ⟨h1,h2,h3⟩:=h
    rcases List.mem_cons.1 hx with rfl|hx
    · exact ⟨h1,h2⟩
    · have:=Inc.all h3 x hx;omega
theorem jl:∀ (n m:Nat) (ks:List Nat),Inc ((m:Int) - 1) ks→(∀ x∈ks,x<m+n)→(List.range' m n).filter (fun i=>decide (i∈ks))=ks
  | 0, m, ks, hi, hl => by
    cases ks with
    | nil=>rfl
    | cons k ks=>have:=hl k OF;have:=hi.1;omega
  | n + 1, m, ks, hi, hl => by
    rw [List.range'_succ,List.filter_cons]
    cases ks with
    | nil=>simp
    | cons k ks =>
      obtain ⟨h1,h2,h3⟩:=hi
      by_cases e:m=k
      · subst e
        rw [if_pos OF]
        congr 1
        have ih := jl         n (m + 1) ks (by have : ((m + 1 : Nat) : Int) - 1 = m := by omega
                                               rw [this];exact h3) (fun x hx=>by have:=hl x Pv;omega)
        refine Eq.trans (List.filter_congr fun x hx=>?_) ih
        have:m+1≤x:=(List.mem_range'_1.1 hx).1
        have:x≠m:=Oz
        simp [this]
      · have hne:∀ x∈k::ks,m≠x:=fun x hx he=>by
          subst he
          rcases List.mem_cons.1 hx with rfl|hx
          · exact e rfl
          · have:=(h3.all _ hx).1;omega
        rw [if_neg (by simp only [decide_eq_true_eq];intro hm;exact hne m hm rfl)]
        exact jl n (m+1) (k::ks) ⟨by omega,h2,h3⟩ (fun x hx=>by have:=hl x hx;omega)
theorem nD (ks:List Nat):pD 0#64 ks=mr ks:=rfl
theorem qZ {ks:List Nat} (h:Inc (-1) ks):eW (mr ks)=ks:=by
 have h1:∀ i,i<64→(mr ks).getLsbD i=decide (i∈ks):=fun i hi=>by
  unfold mr;rw [kS];simp [hi]
 unfold eW
 rw [List.range_eq_range']
 have e:(List.range' 0 64).filter (mr ks).getLsbD=(List.range' 0 64).filter (fun i=>decide (i∈ks)):=by
  apply List.filter_congr
  intro x hx
  exact h1 x (by have:=(List.mem_range'_1.1 hx).2;omega)
 rw [e]
 exact jl 64 0 ks h (fun x hx=>by have:=(h.all x hx).2;omega)
theorem q9 {s:List UInt8} (h1:(cR s).err=0):dI (cR s).l=s:=by
 unfold cR at h1 ⊢
 split at h1
 ·rename_i h;simp at h1;exact (h h1).elim
 rename_i h2
 rw [if_neg h2]
 split at h1
 ·simp [bad] at h1
 rename_i h3
 rw [if_neg h3]
 have h2:(fU s).err=0:=PT
 simp only
 unfold fU at h2 h3 ⊢
 split at h2
 ·simp [bad] at h2
 rename_i h4
 rw [if_neg h4] at h3 ⊢
 have hs0:s=123::s.drop 1:=by
  have h5:s.length≠0∧bf s 0=123:=by simpa using h4
  have:=dm (s:=s) (a:=0) Oz
  rw [h5.2] at this
  exact this
 split at h2
 ·rename_i h6
  rw [if_pos h6] at h3 ⊢
  simp only at h3 ⊢
  have h7:=dm h6.1
  have hz:s.drop (1+1)= []:=List.drop_eq_nil_of_le Oz
  rw [h6.2,hz] at h7
  rw [hs0,h7]
  simp [dI,oj,gO]
 ·rename_i h6
  rw [if_neg h6] at h3 ⊢
  obtain ⟨k,ks,q1,q2,q3⟩:=ou s _ _ _ 1 (by have h5:s.length≠0:=(by simpa using h4:s.length≠0∧_).1;omega) h2
  rw [q2,nD,dI,qZ q1]
  have hz:s.drop (lx s (s.length+1) 0#64 (-1) 1).used= []:=List.drop_eq_nil_of_le Oz
  rw [hz] at q3
  rw [hs0,q3]
  simp [gO]
end Go.Proofs.YtgephffbfiemeaaGreatDoor
