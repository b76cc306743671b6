/- Part 14 of the proof of ScriptConfigs: an abstract semantics that is proved sound for the model, contracts of functions in it, and plain facts (LS2 LS4). No condition. -/
import Derived.Test.YtgephffbfiemeaaGreatDoorKScriptConfigs13
import Derived.Lib.TrailingZeros
set_option linter.all false
namespace Go.Proofs.YtgephffbfiemeaaGreatDoor
open Go.Abs
def db (a:BitVec 64):List Nat:=(List.range 64).filter a.getLsbD
theorem zj:db 0#64= []:=by simp [db]
theorem gS (a:BitVec 64):(db a).length≤64:=Nat.le_trans (List.length_filter_le _ _) Qd
theorem qJ {a:BitVec 64} {i:Nat} (h:i∈db a):i<64:=by
 have:=(List.mem_filter.1 h).1
 simpa using this
theorem qK {n k:Nat} {p q:Nat→Bool} (hk:k<n) (hpk:p k=true) (hlt:∀ i,i<k→p i=false) (hqk:q k=false) (hqlt:∀ i,i<k→q i=false) (hgt:∀ i,k<i→i<n→q i=p i) :
  (List.range n).filter p=k::(List.range n).filter q:=by
 obtain ⟨d,rfl⟩:∃ d,n=k+(1+d):=⟨n - k - 1,by omega⟩
 have e:List.range (k+(1+d))=List.range k++([k]++(List.range d).map (k+1 + ·)):=by
  rw [List.range_add,List.range_add]
  simp only [List.map_append,List.map_map]
  congr 1
  congr 1
  exact List.map_congr_left fun x _=>by simp only [Function.comp];omega
 rw [e,List.filter_append,List.filter_append,List.filter_append,List.filter_append]
 have h1:∀ r:Nat→Bool,(∀ i,i<k→r i=false)→(List.range k).filter r= []:=fun r hr=>by
  rw [List.filter_eq_nil_iff]
  intro x hx
  simp [hr x (by simpa using hx)]
 rw [h1 p hlt,h1 q hqlt]
 simp only [List.nil_append,List.filter_cons,hpk,hqk,List.filter_nil,if_true,Bool.false_eq_true,if_false,List.cons_append,List.nil_append]
 congr 1
 apply List.filter_congr
 intro x hx
 obtain ⟨y,hy,rfl⟩:=List.mem_map.1 hx
 have:=List.mem_range.1 hy
 exact (hgt _ P6 P6).symm
theorem sK (b:BitVec 64) (h:b≠0#64):Lib.ctz 64 b.toNat<64∧b.getLsbD (Lib.ctz 64 b.toNat)=true∧(∀ i,i<Lib.ctz 64 b.toNat→b.getLsbD i=false)∧∀ i,(b &&& (b - 1#64)).getLsbD i=(b.getLsbD i&&i != Lib.ctz 64 b.toNat):=by
 have h0:b.toNat≠0:=fun e=>h (BitVec.eq_of_toNat_eq (by simpa using e))
 have e0:Lib.ctz 64 b.toNat=Lib.ctzFrom 64 b.toNat:=by simp [Lib.ctz,h0]
 obtain ⟨m,hm,hk⟩:=Lib.ctzFrom_spec 64 b.toNat P6 b.isLt
 rw [e0]
 generalize Lib.ctzFrom 64 b.toNat=k at hm hk
 have hb:∀ i,b.getLsbD i=(decide (k≤i)&&(2*m+1).testBit (i - k)):=fun i=>by
  show b.toNat.testBit i=_
  rw [hm,Nat.mul_comm,Nat.testBit_mul_two_pow]
 have h1:(b - 1#64).toNat=2^k*(2*m)+(2^k - 1):=by
  have hp:=Nat.two_pow_pos k
  have:(b - 1#64).toNat=b.toNat - 1:=by
   rw [BitVec.toNat_sub]
   have:=b.isLt
   simp only [BitVec.toNat_ofNat]
   omega
  rw [this,hm,Nat.mul_add]
  omega
 have hs:∀ i,(b - 1#64).getLsbD i=if k≤i then (2*m).testBit (i - k) else true:=fun i=>by
  show (b - 1#64).toNat.testBit i=_
  have hlt:2^k - 1<2^k:=by have:=Nat.two_pow_pos k;omega
  rw [h1,Nat.testBit_two_pow_mul_add _ hlt]
  by_cases hik:k≤i
  ·rw [if_pos hik,if_neg P6]
  ·rw [if_neg hik,if_pos P6,Nat.testBit_two_pow_sub_one];simp;omega
 refine ⟨hk,?_,fun i hi=>?_,fun i=>?_⟩
 ·rw [hb];simp [Nat.testBit_zero]
 ·rw [hb];simp [Nat.not_le_of_lt hi]
 ·rw [BitVec.getLsbD_and,hs,hb]
  rcases Nat.lt_trichotomy i k with h2|rfl|h2
  ·simp [Nat.not_le_of_lt h2]
  ·simp [Nat.testBit_zero]
  ·obtain ⟨d,rfl⟩:∃ d,i=k+(d+1):=⟨i - k - 1,by omega⟩
   have e3:k+(d+1) - k=d+1:=P6
   have d1:(2*m+1) / 2=m:=P6
   have d2:(2*m) / 2=m:=P6
   have hne:(k+(d+1) != k)=true:=Qd
   rw [e3,Nat.testBit_succ,Nat.testBit_succ,d1,d2,hne]
   simp
theorem zk (b:BitVec 64) (h:b≠0#64):db b=Lib.ctz 64 b.toNat::db (b &&& (b - 1#64)):=by
 obtain ⟨h1,h2,h3,h4⟩:=sK b h
 refine qK h1 h2 h3 ?_ (fun i hi=>?_) (fun i hi _=>?_)
 ·rw [h4];simp
 ·rw [h4,h3 i hi];rfl
 ·rw [h4]
  have:(i != Lib.ctz 64 b.toNat)=true:=Qr
  rw [this,Bool.and_true]
def iR (k:Nat):List UInt8:=if k<10 then [UInt8.ofNat (48+k)] else [UInt8.ofNat (48+k / 10),UInt8.ofNat (48+k % 10)]
def ei:List Nat→List UInt8
 | []=> []
 | k::l=>44::(iR k++ei l)
def eT:List Nat→List UInt8
 | []=> []
 | k::l=>iR k++ei l
def e8 (a:BitVec 64):List UInt8:=123::(eT (db a)++ [125])
theorem jc (k:Nat):1≤(iR k).length∧(iR k).length≤2:=by unfold iR;split<;>simp
theorem j6:∀ l,(ei l).length≤3*l.length
  | []=>by simp [ei]
  | k :: l => by
    have:=j6 l
    have:=jc k
    simp only [ei,List.length_cons,List.length_append]
    omega
theorem pK (a:BitVec 64):(eT (db a)).length≤192:=by
  have:=gS a
  cases h:db a with
  | nil=>simp [eT]
  | cons k l =>
    have h1:=j6 l
    have h2:=jc k
    rw [h] at this
    simp only [List.length_cons] at this
    simp only [eT,List.length_append]
    omega
def dig (b:UInt8):Bool:=decide (48≤b.toNat)&&decide (b.toNat≤57)
def bc (s:List UInt8) (i:Nat):UInt8:=(s[i]?).getD 0
def scan (s:List UInt8) (from_:Nat):Nat→Nat→Nat→(Bool × Nat × Nat)
  | 0,at_,n=>(true,at_,n)
  | f + 1, at_, n =>
    if at_<s.length∧dig (bc s at_)=true then
      if from_<at_∧bc s from_=48 then (false,at_,n) else scan s from_ f (at_+1) (min 1000 (10*n+((bc s at_).toNat - 48)))
    else (true,at_,n)
structure RL where
 l:BitVec 64
 used:Nat
 err:Nat
 at_:Nat
def bad (e a:Nat):RL:=⟨0#64,0,e,a⟩
def oW (s:List UInt8):Nat→BitVec 64→Int→Nat→RL
  | 0,_,_,a=>bad 3 a
  | f + 1, l, last, a =>
    if (scan s a (s.length - a) a 0).1=false then bad 3 (scan s a (s.length - a) a 0).2.1
    else if (scan s a (s.length - a) a 0).2.1=a then bad 3 a
    else if 63<(scan s a (s.length - a) a 0).2.2 then bad 2 a
    else if ((scan s a (s.length - a) a 0).2.2:Int)≤last then bad 9 a
    else if (scan s a (s.length - a) a 0).2.1=s.length then bad 3 s.length
    else if bc s (scan s a (s.length - a) a 0).2.1=125 then ⟨l ||| (1#64 <<< (scan s a (s.length - a) a 0).2.2),(scan s a (s.length - a) a 0).2.1+1,0,0⟩
    else if bc s (scan s a (s.length - a) a 0).2.1≠44 then bad 3 (scan s a (s.length - a) a 0).2.1
    else oW s f (l ||| (1#64 <<< (scan s a (s.length - a) a 0).2.2)) (scan s a (s.length - a) a 0).2.2 ((scan s a (s.length - a) a 0).2.1+1)
def fJ (s:List UInt8):RL :=
 if s.length=0∨bc s 0≠123 then bad 3 0
 else if 1<s.length∧bc s 1=125 then ⟨0#64,2,0,0⟩
 else oW s (s.length+1) 0#64 (-1) 1
def eC (s:List UInt8):RL :=
 if (fJ s).err≠0 then ⟨0#64,0,(fJ s).err,(fJ s).at_⟩
 else if (fJ s).used<s.length then bad 4 (fJ s).used else ⟨(fJ s).l,0,0,0⟩
theorem lH (s:List UInt8) (from_ f a n:Nat) (h:¬ (a<s.length∧dig (bc s a)=true)):scan s from_ f a n=(true,a,n):=by
 cases f with
 | zero=>rfl
 | succ f=>unfold scan;rw [if_neg h]
theorem pL (s:List UInt8) (from_ f a n:Nat) (h:a<s.length∧dig (bc s a)=true) (hz:from_<a∧bc s from_=48):scan s from_ (f+1) a n=(false,a,n):=by
 unfold scan;rw [if_pos h,if_pos hz]
theorem wQ (s:List UInt8) (from_ f a n:Nat) (h:a<s.length∧dig (bc s a)=true) (hz:¬ (from_<a∧bc s from_=48)):scan s from_ (f+1) a n=scan s from_ f (a+1) (min 1000 (10*n+((bc s a).toNat - 48))):=by
 conv=>lhs;unfold scan
 rw [if_pos h,if_neg hz]
theorem u7 (s:List UInt8) (i:Nat) (k:UInt8):((((s[i]?).getD 0).toNat:Int) == (k.toNat:Int))=decide (bc s i=k):=by
 unfold bc
 rw [Bool.eq_iff_iff]
 simp only [beq_iff_eq,decide_eq_true_eq,Int.natCast_inj,UInt8.toNat_inj]
theorem u9 (s:List UInt8) (i:Nat) (k:UInt8):((((s[i]?).getD 0).toNat:Int) != (k.toNat:Int))= !decide (bc s i=k):=by
 rw [bne,u7]
theorem lI (s:List UInt8) (i:Nat):((((s[i]?).getD 0).toNat:Int) != 123)= !decide (bc s i=123):=u9 s i 123
theorem jd (s:List UInt8) (i:Nat):((((s[i]?).getD 0).toNat:Int) == 125)=decide (bc s i=125):=u7 s i 125
theorem mZ (s:List UInt8) (i:Nat):((((s[i]?).getD 0).toNat:Int) != 125)= !decide (bc s i=125):=u9 s i 125
theorem pM (s:List UInt8) (i:Nat):((((s[i]?).getD 0).toNat:Int) != 44)= !decide (bc s i=44):=u9 s i 44
theorem pN (s:List UInt8) (i:Nat):((((s[i]?).getD 0).toNat:Int) == 48)=decide (bc s i=48):=u7 s i 48
theorem lJ (b:UInt8):(decide (48≤(b.toNat:Int))&&decide ((b.toNat:Int)≤57))=dig b:=by
 unfold dig;rw [Bool.eq_iff_iff];simp;omega
theorem lK:Int.toNat 1=1:=rfl
theorem qL:Int.toNat 0=0:=rfl
theorem ltN {k n:Nat}:decide ((k:Int)<(n:Int))=decide (k<n):=Qd
theorem _root_.QG {p:Prop} (h:p:=by rw [Bool.eq_iff_iff];simp;omega):p:=h
theorem zm {n:Nat}:decide ((1:Int)<(n:Int))=decide (1<n):=QG
theorem zn {n:Nat}:decide ((63:Int)<(n:Int))=decide (63<n):=QG
theorem eqN {k n:Nat}:((k:Int) == (n:Int))=decide (k=n):=QG
theorem F0 {n:Nat} (h:n≤1000):IntKind.u64.wrap (n:Int)=n:=by rw [IntKind.wrap_u64];omega
theorem zo {b:Nat} (h:b≤4611686018427387904):IntKind.i64.wrap ((b:Int)+1)=((b+1:Nat):Int):=by rw [wrap64 P6 P6];simp
theorem qM (l:BitVec 64) {n:Nat} (h:n≤63):bits .or .u64 (l.toNat:Int) (IntKind.u64.wrap (1*2^min (IntKind.u64.wrap (n:Int)).toNat IntKind.u64.bits))=((l ||| 1#64 <<< n).toNat:Int):=by
 rw [F0 P6,Int.toNat_natCast]
 have e:(1:Int)=((1#64:BitVec 64).toNat:Int):=rfl
 have:=Mb (1#64) n P6
 rw [e,show IntKind.u64.bits=64 from rfl,this,pJ]
theorem _root_.QM {p:Prop} (h:p:=by simp [IntKind.wrap,IntKind.signed,IntKind.bits];omega):p:=h
theorem nL {c:UInt8} {n:Nat} (h:dig c=true) (hn:n≤1000):(if IntKind.i64.wrap (IntKind.i64.wrap (10*(n:Int))+IntKind.i64.wrap (IntKind.u8.wrap ((c.toNat:Int) - 48)))<1000 then IntKind.i64.wrap (IntKind.i64.wrap (10*(n:Int))+IntKind.i64.wrap (IntKind.u8.wrap ((c.toNat:Int) - 48))) else 1000)=((min 1000 (10*n+(c.toNat - 48)):Nat):Int):=by
 have hd:48≤c.toNat∧c.toNat≤57:=by simpa [dig] using h
 have e1:IntKind.u8.wrap ((c.toNat:Int) - 48)=((c.toNat - 48:Nat):Int):=QM
 have e2:IntKind.i64.wrap ((c.toNat - 48:Nat):Int)=((c.toNat - 48:Nat):Int):=by rw [wrap64 P6 P6]
 have e3:IntKind.i64.wrap (10*(n:Int))=10*n:=by rw [wrap64 P6 P6]
 have e4:IntKind.i64.wrap (10*(n:Int)+((c.toNat - 48:Nat):Int))=((10*n+(c.toNat - 48):Nat):Int):=by rw [wrap64 P6 P6];simp
 rw [e1,e2,e3,e4]
 split<;>omega
end Go.Proofs.YtgephffbfiemeaaGreatDoor
