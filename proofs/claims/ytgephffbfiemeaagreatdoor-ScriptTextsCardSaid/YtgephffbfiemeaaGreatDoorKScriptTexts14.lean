/- Part 14 of the proof of ScriptTexts: an abstract semantics that is proved sound for the model, contracts of functions in it, and plain facts (LS2 LS4 LS6). No condition. -/
import Derived.Test.YtgephffbfiemeaaGreatDoorKScriptTexts13
import Derived.Lib.TrailingZeros
set_option linter.all false
namespace Go.Proofs.YtgephffbfiemeaaGreatDoor
open Go.Abs
def cC (a:BitVec 64):List Nat:=(List.range 64).filter a.getLsbD
theorem nS:cC 0#64= []:=by simp [cC]
theorem fM (a:BitVec 64):(cC a).length≤64:=Nat.le_trans (List.length_filter_le _ _) (by simp)
theorem oW {a:BitVec 64} {i:Nat} (h:i∈cC a):i<64:=by
 have:=(List.mem_filter.1 h).1
 simpa using this
theorem oY {n k:Nat} {p q:Nat→Bool} (hk:k<n) (hpk:p k=true) (hlt:∀ i,i<k→p i=false) (hqk:q k=false) (hqlt:∀ i,i<k→q i=false) (hgt:∀ i,k<i→i<n→q i=p i) :
  (List.range n).filter p=k::(List.range n).filter q:=by
 obtain ⟨d,rfl⟩:∃ d,n=k+(1+d):=⟨n - k - 1,by omega⟩
 have e:List.range (k+(1+d))=List.range k++([k]++(List.range d).map (k+1 + ·)):=by
  rw [List.range_add,List.range_add]
  simp only [List.map_append,List.map_map]
  congr 1
  congr 1
  exact List.map_congr_left fun x _=>by simp only [Function.comp];omega
 rw [e,List.filter_append,List.filter_append,List.filter_append,List.filter_append]
 have h1:∀ r:Nat→Bool,(∀ i,i<k→r i=false)→(List.range k).filter r= []:=fun r hr=>by
  rw [List.filter_eq_nil_iff]
  intro x hx
  simp [hr x (by simpa using hx)]
 rw [h1 p hlt,h1 q hqlt]
 simp only [List.nil_append,List.filter_cons,hpk,hqk,List.filter_nil,if_true,Bool.false_eq_true,if_false,List.cons_append,List.nil_append]
 congr 1
 apply List.filter_congr
 intro x hx
 obtain ⟨y,hy,rfl⟩:=List.mem_map.1 hx
 have:=List.mem_range.1 hy
 exact (hgt _ (by omega) (by omega)).symm
theorem qD (b:BitVec 64) (h:b≠0#64):Lib.ctz 64 b.toNat<64∧b.getLsbD (Lib.ctz 64 b.toNat)=true∧(∀ i,i<Lib.ctz 64 b.toNat→b.getLsbD i=false)∧∀ i,(b &&& (b - 1#64)).getLsbD i=(b.getLsbD i&&i != Lib.ctz 64 b.toNat):=by
 have h0:b.toNat≠0:=fun e=>h (BitVec.eq_of_toNat_eq (by simpa using e))
 have e0:Lib.ctz 64 b.toNat=Lib.ctzFrom 64 b.toNat:=by simp [Lib.ctz,h0]
 obtain ⟨m,hm,hk⟩:=Lib.ctzFrom_spec 64 b.toNat (by omega) b.isLt
 rw [e0]
 generalize Lib.ctzFrom 64 b.toNat=k at hm hk
 have hb:∀ i,b.getLsbD i=(decide (k≤i)&&(2*m+1).testBit (i - k)):=fun i=>by
  show b.toNat.testBit i=_
  rw [hm,Nat.mul_comm,Nat.testBit_mul_two_pow]
 have h1:(b - 1#64).toNat=2^k*(2*m)+(2^k - 1):=by
  have hp:=Nat.two_pow_pos k
  have:(b - 1#64).toNat=b.toNat - 1:=by
   rw [BitVec.toNat_sub]
   have:=b.isLt
   simp only [BitVec.toNat_ofNat]
   omega
  rw [this,hm,Nat.mul_add]
  omega
 have hs:∀ i,(b - 1#64).getLsbD i=if k≤i then (2*m).testBit (i - k) else true:=fun i=>by
  show (b - 1#64).toNat.testBit i=_
  have hlt:2^k - 1<2^k:=by have:=Nat.two_pow_pos k;omega
  rw [h1,Nat.testBit_two_pow_mul_add _ hlt]
  by_cases hik:k≤i
  ·rw [if_pos hik,if_neg (by omega)]
  ·rw [if_neg hik,if_pos (by omega),Nat.testBit_two_pow_sub_one];simp;omega
 refine ⟨hk,?_,fun i hi=>?_,fun i=>?_⟩
 ·rw [hb];simp [Nat.testBit_zero]
 ·rw [hb];simp [Nat.not_le_of_lt hi]
 ·rw [BitVec.getLsbD_and,hs,hb]
  rcases Nat.lt_trichotomy i k with h2|rfl|h2
  ·simp [Nat.not_le_of_lt h2]
  ·simp [Nat.testBit_zero]
  ·obtain ⟨d,rfl⟩:∃ d,i=k+(d+1):=⟨i - k - 1,by omega⟩
   have e3:k+(d+1) - k=d+1:=by omega
   have d1:(2*m+1) / 2=m:=by omega
   have d2:(2*m) / 2=m:=by omega
   have hne:(k+(d+1) != k)=true:=by simp
   rw [e3,Nat.testBit_succ,Nat.testBit_succ,d1,d2,hne]
   simp
theorem wQ (b:BitVec 64) (h:b≠0#64):cC b=Lib.ctz 64 b.toNat::cC (b &&& (b - 1#64)):=by
 obtain ⟨h1,h2,h3,h4⟩:=qD b h
 refine oY h1 h2 h3 ?_ (fun i hi=>?_) (fun i hi _=>?_)
 ·rw [h4];simp
 ·rw [h4,h3 i hi];rfl
 ·rw [h4]
  have:(i != Lib.ctz 64 b.toNat)=true:=by simp;omega
  rw [this,Bool.and_true]
def l8 (l:List Nat):BitVec 64:=l.foldl (fun b c=>b ||| 1#64 <<< c) 0#64
theorem kv:∀ (l:List Nat) (b:BitVec 64) (i:Nat),(l.foldl (fun b c=>b ||| 1#64 <<< c) b).getLsbD i=(b.getLsbD i||(decide (i<64)&&decide (i∈l)))
  | [],b,i=>by simp
  | c :: l, b, i => by
    rw [List.foldl_cons,kv l]
    by_cases hi:i<64
    · simp only [BitVec.getLsbD_or,BitVec.getLsbD_shiftLeft,hi,decide_true,Bool.true_and,List.mem_cons]
      by_cases hc:i=c
      · subst hc;simp
      · by_cases hlt:i<c
        · simp [hlt,hc]
        · have:(1#64).getLsbD (i - c)=false:=by
            obtain ⟨d,hd⟩:∃ d,i - c=d+1:=⟨i - c - 1,by omega⟩
            rw [BitVec.getLsbD_ofNat,hd,Nat.testBit_succ]
            simp
          simp [hc,this]
    · rw [BitVec.getLsbD_of_ge _ _ (by omega),BitVec.getLsbD_of_ge _ _ (by omega)]
      simp [hi]
def fp (k:Nat):List UInt8:=if k<10 then [UInt8.ofNat (48+k)] else [UInt8.ofNat (48+k / 10),UInt8.ofNat (48+k % 10)]
def dj:List Nat→List UInt8
 | []=> []
 | k::l=>44::(fp k++dj l)
def dF:List Nat→List UInt8
 | []=> []
 | k::l=>fp k++dj l
def cT (a:BitVec 64):List UInt8:=123::(dF (cC a)++ [125])
theorem gW (k:Nat):1≤(fp k).length∧(fp k).length≤2:=by unfold fp;split<;>simp
theorem iW:∀ l,(dj l).length≤3*l.length
  | []=>by simp [dj]
  | k :: l => by
    have:=iW l
    have:=gW k
    simp only [dj,List.length_cons,List.length_append]
    omega
theorem nT (a:BitVec 64):(dF (cC a)).length≤192:=by
  have:=fM a
  cases h:cC a with
  | nil=>simp [dF]
  | cons k l =>
    have h1:=iW l
    have h2:=gW k
    rw [h] at this
    simp only [List.length_cons] at this
    simp only [dF,List.length_append]
    omega
def dig (b:UInt8):Bool:=decide (48≤b.toNat)&&decide (b.toNat≤57)
def bg (s:List UInt8) (i:Nat):UInt8:=(s[i]?).getD 0
def scan (s:List UInt8) (from_:Nat):Nat→Nat→Nat→(Bool × Nat × Nat)
  | 0,at_,n=>(true,at_,n)
  | f + 1, at_, n =>
    if at_<s.length∧dig (bg s at_)=true then
      if from_<at_∧bg s from_=48 then (false,at_,n) else scan s from_ f (at_+1) (min 1000 (10*n+((bg s at_).toNat - 48)))
    else (true,at_,n)
structure RL where
 l:BitVec 64
 used:Nat
 err:Nat
 at_:Nat
def bad (e a:Nat):RL:=⟨0#64,0,e,a⟩
def la (s:List UInt8):Nat→BitVec 64→Int→Nat→RL
  | 0,_,_,a=>bad 3 a
  | f + 1, l, last, a =>
    if (scan s a (s.length - a) a 0).1=false then bad 3 (scan s a (s.length - a) a 0).2.1
    else if (scan s a (s.length - a) a 0).2.1=a then bad 3 a
    else if 63<(scan s a (s.length - a) a 0).2.2 then bad 2 a
    else if ((scan s a (s.length - a) a 0).2.2:Int)≤last then bad 9 a
    else if (scan s a (s.length - a) a 0).2.1=s.length then bad 3 s.length
    else if bg s (scan s a (s.length - a) a 0).2.1=125 then ⟨l ||| (1#64 <<< (scan s a (s.length - a) a 0).2.2),(scan s a (s.length - a) a 0).2.1+1,0,0⟩
    else if bg s (scan s a (s.length - a) a 0).2.1≠44 then bad 3 (scan s a (s.length - a) a 0).2.1
    else la s f (l ||| (1#64 <<< (scan s a (s.length - a) a 0).2.2)) (scan s a (s.length - a) a 0).2.2 ((scan s a (s.length - a) a 0).2.1+1)
def fN (s:List UInt8):RL :=
 if s.length=0∨bg s 0≠123 then bad 3 0
 else if 1<s.length∧bg s 1=125 then ⟨0#64,2,0,0⟩
 else la s (s.length+1) 0#64 (-1) 1
def c8 (s:List UInt8):RL :=
 if (fN s).err≠0 then ⟨0#64,0,(fN s).err,(fN s).at_⟩
 else if (fN s).used<s.length then bad 4 (fN s).used else ⟨(fN s).l,0,0,0⟩
theorem uM (s:List UInt8) (from_:Nat):∀ (f a n:Nat),a≤s.length→(scan s from_ f a n).2.1≤s.length
  | 0,a,n,h=>h
  | f + 1, a, n, h => by
    unfold scan
    split
    · rename_i hh
      split
      · exact h
      · exact uM s from_ f (a+1) _ (by omega)
    · exact h
theorem iv (s:List UInt8) (from_ f a n:Nat) (h:¬ (a<s.length∧dig (bg s a)=true)):scan s from_ f a n=(true,a,n):=by
 cases f with
 | zero=>rfl
 | succ f=>unfold scan;rw [if_neg h]
theorem nU (s:List UInt8) (from_ f a n:Nat) (h:a<s.length∧dig (bg s a)=true) (hz:from_<a∧bg s from_=48):scan s from_ (f+1) a n=(false,a,n):=by
 unfold scan;rw [if_pos h,if_pos hz]
theorem lC (s:List UInt8) (from_ f a n:Nat) (h:a<s.length∧dig (bg s a)=true) (hz:¬ (from_<a∧bg s from_=48)):scan s from_ (f+1) a n=scan s from_ f (a+1) (min 1000 (10*n+((bg s a).toNat - 48))):=by
 conv=>lhs;unfold scan
 rw [if_pos h,if_neg hz]
theorem s8 (s:List UInt8) (i:Nat) (k:UInt8):((((s[i]?).getD 0).toNat:Int) == (k.toNat:Int))=decide (bg s i=k):=by
 unfold bg
 rw [Bool.eq_iff_iff]
 simp only [beq_iff_eq,decide_eq_true_eq,Int.natCast_inj,UInt8.toNat_inj]
theorem Ai (s:List UInt8) (i:Nat) (k:UInt8):((((s[i]?).getD 0).toNat:Int) != (k.toNat:Int))= !decide (bg s i=k):=by
 rw [bne,s8]
theorem bD (s:List UInt8) (i:Nat):((((s[i]?).getD 0).toNat:Int) != 123)= !decide (bg s i=123):=Ai s i 123
theorem bE (s:List UInt8) (i:Nat):((((s[i]?).getD 0).toNat:Int) == 125)=decide (bg s i=125):=s8 s i 125
theorem cu (s:List UInt8) (i:Nat):((((s[i]?).getD 0).toNat:Int) != 44)= !decide (bg s i=44):=Ai s i 44
theorem cv (s:List UInt8) (i:Nat):((((s[i]?).getD 0).toNat:Int) == 48)=decide (bg s i=48):=s8 s i 48
theorem bF (b:UInt8):(decide (48≤(b.toNat:Int))&&decide ((b.toNat:Int)≤57))=dig b:=by
 unfold dig;rw [Bool.eq_iff_iff];simp;omega
theorem bG:Int.toNat 1=1:=rfl
theorem bH:Int.toNat 0=0:=rfl
theorem ltN {k n:Nat}:decide ((k:Int)<(n:Int))=decide (k<n):=by simp
theorem dK {n:Nat}:decide ((1:Int)<(n:Int))=decide (1<n):=by rw [Bool.eq_iff_iff];simp;omega
theorem dL {n:Nat}:decide ((63:Int)<(n:Int))=decide (63<n):=by rw [Bool.eq_iff_iff];simp;omega
theorem eqN {k n:Nat}:((k:Int) == (n:Int))=decide (k=n):=by rw [Bool.eq_iff_iff];simp;omega
theorem FW {n:Nat} (h:n≤1000):IntKind.u64.wrap (n:Int)=n:=by rw [IntKind.wrap_u64];omega
theorem FX {b:Nat} (h:b≤4611686018427387904):IntKind.i64.wrap ((b:Int)+1)=((b+1:Nat):Int):=by rw [wrap64 (by omega) (by omega)];simp
theorem Aj (l:BitVec 64) {n:Nat} (h:n≤63):bits .or .u64 (l.toNat:Int) (IntKind.u64.wrap (1*2^min (IntKind.u64.wrap (n:Int)).toNat IntKind.u64.bits))=((l ||| 1#64 <<< n).toNat:Int):=by
 rw [FW (by omega),Int.toNat_natCast]
 have e:(1:Int)=((1#64:BitVec 64).toNat:Int):=rfl
 have:=EY (1#64) n (by omega)
 rw [e,show IntKind.u64.bits=64 from rfl,this,fL]
theorem Ak {c:UInt8} {n:Nat} (h:dig c=true) (hn:n≤1000):(if IntKind.i64.wrap (IntKind.i64.wrap (10*(n:Int))+IntKind.i64.wrap (IntKind.u8.wrap ((c.toNat:Int) - 48)))<1000 then IntKind.i64.wrap (IntKind.i64.wrap (10*(n:Int))+IntKind.i64.wrap (IntKind.u8.wrap ((c.toNat:Int) - 48))) else 1000)=((min 1000 (10*n+(c.toNat - 48)):Nat):Int):=by
 have hd:48≤c.toNat∧c.toNat≤57:=by simpa [dig] using h
 have e1:IntKind.u8.wrap ((c.toNat:Int) - 48)=((c.toNat - 48:Nat):Int):=by simp [IntKind.wrap,IntKind.signed,IntKind.bits];omega
 have e2:IntKind.i64.wrap ((c.toNat - 48:Nat):Int)=((c.toNat - 48:Nat):Int):=by rw [wrap64 (by omega) (by omega)]
 have e3:IntKind.i64.wrap (10*(n:Int))=10*n:=by rw [wrap64 (by omega) (by omega)]
 have e4:IntKind.i64.wrap (10*(n:Int)+((c.toNat - 48:Nat):Int))=((10*n+(c.toNat - 48):Nat):Int):=by rw [wrap64 (by omega) (by omega)];simp
 rw [e1,e2,e3,e4]
 split<;>omega
theorem dt {s:List UInt8} {a:Nat} (h:a<s.length):s.drop a=bg s a::s.drop (a+1):=by
 rw [List.drop_eq_getElem_cons h]
 simp [bg,h]
theorem nV {d:Nat} (h:d<10):dig (UInt8.ofNat (48+d))=true∧(UInt8.ofNat (48+d)).toNat=48+d:=by
 have e:(UInt8.ofNat (48+d)).toNat=48+d:=by simp;omega
 refine ⟨?_,e⟩
 simp only [dig,e,Bool.and_eq_true,decide_eq_true_eq];omega
theorem nW {c:UInt8} (h:dig c=true):∃ d,d<10∧c=UInt8.ofNat (48+d):=by
 simp only [dig,Bool.and_eq_true,decide_eq_true_eq] at h
 refine ⟨c.toNat - 48,by omega,?_⟩
 apply UInt8.toNat_inj.1
 simp;omega
theorem qE (s:List UInt8) (f0:Nat):∀ (f a n:Nat),100≤n→100≤(scan s f0 f a n).2.2
  | 0,_,_,h=>h
  | f + 1, a, n, h => by
    unfold scan
    split
    · split
      · exact h
      · exact qE s f0 f (a+1) _ (by omega)
    · exact h
theorem wR {s:List UInt8} {a b n:Nat} (h:scan s a (s.length - a) a 0=(true,b,n)) (hb:b≠a) (hn:n≤63):s.drop a=fp n++s.drop b:=by
 by_cases h0:a<s.length∧dig (bg s a)=true
 ·obtain ⟨d0,hd0,e0⟩:=nW h0.2
  obtain ⟨f,hf⟩:∃ f,s.length - a=f+1:=⟨s.length - a - 1,by omega⟩
  rw [hf,lC s a f a 0 h0 (by omega)] at h
  have v0:min 1000 (10*0+((bg s a).toNat - 48))=d0:=by rw [e0,(nV hd0).2];omega
  rw [v0] at h
  by_cases h1:a+1<s.length∧dig (bg s (a+1))=true
  ·obtain ⟨d1,hd1,e1⟩:=nW h1.2
   obtain ⟨f2,rfl⟩:∃ f2,f=f2+1:=⟨f - 1,by omega⟩
   by_cases hz:bg s a=48
   ·rw [nU s a f2 (a+1) d0 h1 ⟨by omega,hz⟩] at h;cases h
   ·have hd0':d0≠0:=by rintro rfl;exact hz e0
    rw [lC s a f2 (a+1) d0 h1 (fun hh=>hz hh.2)] at h
    have v1:min 1000 (10*d0+((bg s (a+1)).toNat - 48))=10*d0+d1:=by rw [e1,(nV hd1).2];omega
    rw [v1] at h
    by_cases h2:a+1+1<s.length∧dig (bg s (a+1+1))=true
    ·obtain ⟨f3,rfl⟩:∃ f3,f2=f3+1:=⟨f2 - 1,by omega⟩
     rw [lC s a f3 (a+1+1) _ h2 (fun hh=>hz hh.2)] at h
     have:=qE s a f3 (a+1+1+1) (min 1000 (10*(10*d0+d1)+((bg s (a+1+1)).toNat - 48))) (by omega)
     rw [h] at this
     simp at this;omega
    ·rw [iv _ _ _ _ _ h2] at h
     cases h
     rw [dt h0.1,dt h1.1,e0,e1,fp,if_neg (by omega),show (10*d0+d1) / 10=d0 by omega,show (10*d0+d1) % 10=d1 by omega]
     rfl
  ·rw [iv _ _ _ _ _ h1] at h
   cases h
   rw [dt h0.1,e0,fp,if_pos hd0]
   rfl
 ·rw [iv _ _ _ _ _ h0] at h
  cases h;exact (hb rfl).elim
def Inc (last:Int):List Nat→Prop
 | []=>True
 | k::ks=>last<(k:Int)∧k≤63∧Inc (k:Int) ks
def oZ (l:BitVec 64) (ks:List Nat):BitVec 64:=ks.foldl (fun b c=>b ||| 1#64 <<< c) l
theorem nX (s:List UInt8):∀ (f:Nat) (l:BitVec 64) (last:Int) (a:Nat),a≤s.length→(la s f l last a).err=0 →
    ∃ k ks,Inc last (k::ks)∧(la s f l last a).l=oZ l (k::ks)∧s.drop a=fp k++(dj ks++125::s.drop (la s f l last a).used)
  | 0,_,_,_,_,h=>by simp [la,bad] at h
  | f + 1, l, last, a, ha, h => by
    obtain ⟨⟨ok,b,n⟩,hsc⟩:∃ x,scan s a (s.length - a) a 0=x:=⟨_,rfl⟩
    have hle:=uM s a (s.length - a) a 0 ha
    unfold la at h ⊢
    rw [hsc] at h hle ⊢
    simp only at h hle ⊢
    split at h
    · simp [bad] at h
    rename_i h1
    rw [if_neg h1]
    split at h
    · simp [bad] at h
    rename_i h2
    rw [if_neg h2]
    split at h
    · simp [bad] at h
    rename_i h3
    rw [if_neg h3]
    split at h
    · simp [bad] at h
    rename_i h4
    rw [if_neg h4]
    split at h
    · simp [bad] at h
    rename_i h5
    rw [if_neg h5]
    obtain rfl:ok=true:=by simpa using h1
    have hdr:=wR hsc h2 (by omega)
    have hb:b<s.length:=by omega
    split at h
    · rename_i h6
      rw [if_pos h6]
      refine ⟨n,[],⟨by omega,by omega,trivial⟩,by simp [oZ],?_⟩
      rw [hdr,dt hb,h6];rfl
    rename_i h6
    rw [if_neg h6]
    split at h
    · simp [bad] at h
    rename_i h7
    rw [if_neg h7]
    obtain ⟨k,ks,q1,q2,q3⟩:=nX s f _ _ _ (by omega) h
    refine ⟨n,k::ks,⟨by omega,by omega,q1⟩,by rw [q2];simp [oZ],?_⟩
    have h8:bg s b=44:=by simpa using h7
    rw [hdr,dt hb,h8,q3]
    simp [dj]
theorem Inc.all:∀ {ks:List Nat} {last:Int},Inc last ks→∀ x∈ks,last<(x:Int)∧x≤63
  | k :: ks, last, h, x, hx => by
    obtain ⟨h1,h2,h3⟩:=h
    rcases List.mem_cons.1 hx with rfl|hx
    · exact ⟨h1,h2⟩
    · have:=Inc.all h3 x hx;omega
theorem iX:∀ (n m:Nat) (ks:List Nat),Inc ((m:Int) - 1) ks→(∀ x∈ks,x<m+n)→(List.range' m n).filter (fun i=>decide (i∈ks))=ks
  | 0, m, ks, hi, hl => by
    cases ks with
    | nil=>rfl
    | cons k ks=>have:=hl k (by simp);have:=hi.1;omega
  | n + 1, m, ks, hi, hl => by
    rw [List.range'_succ,List.filter_cons]
    cases ks with
    | nil=>simp
    | cons k ks =>
      obtain ⟨h1,h2,h3⟩:=hi
      by_cases e:m=k
      · subst e
        rw [if_pos (by simp)]
        congr 1
        have ih := iX         n (m + 1) ks (by have : ((m + 1 : Nat) : Int) - 1 = m := by omega
                                               rw [this];exact h3) (fun x hx=>by have:=hl x (by simp [hx]);omega)
        refine Eq.trans (List.filter_congr fun x hx=>?_) ih
        have:m+1≤x:=(List.mem_range'_1.1 hx).1
        have:x≠m:=by omega
        simp [this]
      · have hne:∀ x∈k::ks,m≠x:=fun x hx he=>by
          subst he
          rcases List.mem_cons.1 hx with rfl|hx
          · exact e rfl
          · have:=(h3.all _ hx).1;omega
        rw [if_neg (by simp only [decide_eq_true_eq];intro hm;exact hne m hm rfl)]
        exact iX n (m+1) (k::ks) ⟨by omega,h2,h3⟩ (fun x hx=>by have:=hl x hx;omega)
theorem nh (ks:List Nat):oZ 0#64 ks=l8 ks:=rfl
theorem qF {ks:List Nat} (h:Inc (-1) ks):cC (l8 ks)=ks:=by
 have h1:∀ i,i<64→(l8 ks).getLsbD i=decide (i∈ks):=fun i hi=>by
  unfold l8;rw [kv];simp [hi]
 unfold cC
 rw [List.range_eq_range']
 have e:(List.range' 0 64).filter (l8 ks).getLsbD=(List.range' 0 64).filter (fun i=>decide (i∈ks)):=by
  apply List.filter_congr
  intro x hx
  exact h1 x (by have:=(List.mem_range'_1.1 hx).2;omega)
 rw [e]
 exact iX 64 0 ks h (fun x hx=>by have:=(h.all x hx).2;omega)
theorem qG {s:List UInt8} (h1:(c8 s).err=0):cT (c8 s).l=s:=by
 unfold c8 at h1 ⊢
 split at h1
 ·rename_i h;simp at h1;exact (h h1).elim
 rename_i h2
 rw [if_neg h2]
 split at h1
 ·simp [bad] at h1
 rename_i h3
 rw [if_neg h3]
 have h2:(fN s).err=0:=by simpa using h2
 simp only
 unfold fN at h2 h3 ⊢
 split at h2
 ·simp [bad] at h2
 rename_i h4
 rw [if_neg h4] at h3 ⊢
 have hs0:s=123::s.drop 1:=by
  have h5:s.length≠0∧bg s 0=123:=by simpa using h4
  have:=dt (s:=s) (a:=0) (by omega)
  rw [h5.2] at this
  exact this
 split at h2
 ·rename_i h6
  rw [if_pos h6] at h3 ⊢
  simp only at h3 ⊢
  have h7:=dt h6.1
  have hz:s.drop (1+1)= []:=List.drop_eq_nil_of_le (by omega)
  rw [h6.2,hz] at h7
  rw [hs0,h7]
  simp [cT,nS,dF]
 ·rename_i h6
  rw [if_neg h6] at h3 ⊢
  obtain ⟨k,ks,q1,q2,q3⟩:=nX s _ _ _ 1 (by have h5:s.length≠0:=(by simpa using h4:s.length≠0∧_).1;omega) h2
  rw [q2,nh,cT,qF q1]
  have hz:s.drop (la s (s.length+1) 0#64 (-1) 1).used= []:=List.drop_eq_nil_of_le (by omega)
  rw [hz] at q3
  rw [hs0,q3]
  simp [dF]
end Go.Proofs.YtgephffbfiemeaaGreatDoor
