/- Part 13 of the proof of ScriptBoths: an abstract semantics that is proved sound for the model, contracts of functions in it, and plain facts (LS2 LS4). No condition. -/
import Derived.Test.YtgephffbfiemeaaGreatDoorKScriptBoths12
import Derived.Lib.TrailingZeros
set_option linter.all false
namespace Go.Proofs.YtgephffbfiemeaaGreatDoor
open Go.Abs
def cL (a:BitVec 64):List Nat:=(List.range 64).filter a.getLsbD
theorem xK:cL 0#64= []:=by simp [cL]
theorem fY (a:BitVec 64):(cL a).length≤64:=Nat.le_trans (List.length_filter_le _ _) M1
theorem pE {a:BitVec 64} {i:Nat} (h:i∈cL a):i<64:=by
 have:=(List.mem_filter.1 h).1
 simpa using this
theorem pF {n k:Nat} {p q:Nat→Bool} (hk:k<n) (hpk:p k=true) (hlt:∀ i,i<k→p i=false) (hqk:q k=false) (hqlt:∀ i,i<k→q i=false) (hgt:∀ i,k<i→i<n→q i=p i) :
  (List.range n).filter p=k::(List.range n).filter q:=by
 obtain ⟨d,rfl⟩:∃ d,n=k+(1+d):=⟨n - k - 1,by omega⟩
 have e:List.range (k+(1+d))=List.range k++([k]++(List.range d).map (k+1 + ·)):=by
  rw [List.range_add,List.range_add]
  simp only [List.map_append,List.map_map]
  congr 1
  congr 1
  exact List.map_congr_left fun x _=>by simp only [Function.comp];omega
 rw [e,List.filter_append,List.filter_append,List.filter_append,List.filter_append]
 have h1:∀ r:Nat→Bool,(∀ i,i<k→r i=false)→(List.range k).filter r= []:=fun r hr=>by
  rw [List.filter_eq_nil_iff]
  intro x hx
  simp [hr x (by simpa using hx)]
 rw [h1 p hlt,h1 q hqlt]
 simp only [List.nil_append,List.filter_cons,hpk,hqk,List.filter_nil,if_true,Bool.false_eq_true,if_false,List.cons_append,List.nil_append]
 congr 1
 apply List.filter_congr
 intro x hx
 obtain ⟨y,hy,rfl⟩:=List.mem_map.1 hx
 have:=List.mem_range.1 hy
 exact (hgt _ MX MX).symm
theorem rD (b:BitVec 64) (h:b≠0#64):Lib.ctz 64 b.toNat<64∧b.getLsbD (Lib.ctz 64 b.toNat)=true∧(∀ i,i<Lib.ctz 64 b.toNat→b.getLsbD i=false)∧∀ i,(b &&& (b - 1#64)).getLsbD i=(b.getLsbD i&&i != Lib.ctz 64 b.toNat):=by
 have h0:b.toNat≠0:=fun e=>h (BitVec.eq_of_toNat_eq (by simpa using e))
 have e0:Lib.ctz 64 b.toNat=Lib.ctzFrom 64 b.toNat:=by simp [Lib.ctz,h0]
 obtain ⟨m,hm,hk⟩:=Lib.ctzFrom_spec 64 b.toNat MX b.isLt
 rw [e0]
 generalize Lib.ctzFrom 64 b.toNat=k at hm hk
 have hb:∀ i,b.getLsbD i=(decide (k≤i)&&(2*m+1).testBit (i - k)):=fun i=>by
  show b.toNat.testBit i=_
  rw [hm,Nat.mul_comm,Nat.testBit_mul_two_pow]
 have h1:(b - 1#64).toNat=2^k*(2*m)+(2^k - 1):=by
  have hp:=Nat.two_pow_pos k
  have:(b - 1#64).toNat=b.toNat - 1:=by
   rw [BitVec.toNat_sub]
   have:=b.isLt
   simp only [BitVec.toNat_ofNat]
   omega
  rw [this,hm,Nat.mul_add]
  omega
 have hs:∀ i,(b - 1#64).getLsbD i=if k≤i then (2*m).testBit (i - k) else true:=fun i=>by
  show (b - 1#64).toNat.testBit i=_
  have hlt:2^k - 1<2^k:=by have:=Nat.two_pow_pos k;omega
  rw [h1,Nat.testBit_two_pow_mul_add _ hlt]
  by_cases hik:k≤i
  ·rw [if_pos hik,if_neg MX]
  ·rw [if_neg hik,if_pos MX,Nat.testBit_two_pow_sub_one];simp;omega
 refine ⟨hk,?_,fun i hi=>?_,fun i=>?_⟩
 ·rw [hb];simp [Nat.testBit_zero]
 ·rw [hb];simp [Nat.not_le_of_lt hi]
 ·rw [BitVec.getLsbD_and,hs,hb]
  rcases Nat.lt_trichotomy i k with h2|rfl|h2
  ·simp [Nat.not_le_of_lt h2]
  ·simp [Nat.testBit_zero]
  ·obtain ⟨d,rfl⟩:∃ d,i=k+(d+1):=⟨i - k - 1,by omega⟩
   have e3:k+(d+1) - k=d+1:=MX
   have d1:(2*m+1) / 2=m:=MX
   have d2:(2*m) / 2=m:=MX
   have hne:(k+(d+1) != k)=true:=M1
   rw [e3,Nat.testBit_succ,Nat.testBit_succ,d1,d2,hne]
   simp
theorem xL (b:BitVec 64) (h:b≠0#64):cL b=Lib.ctz 64 b.toNat::cL (b &&& (b - 1#64)):=by
 obtain ⟨h1,h2,h3,h4⟩:=rD b h
 refine pF h1 h2 h3 ?_ (fun i hi=>?_) (fun i hi _=>?_)
 ·rw [h4];simp
 ·rw [h4,h3 i hi];rfl
 ·rw [h4]
  have:(i != Lib.ctz 64 b.toNat)=true:=Ng
  rw [this,Bool.and_true]
def gU (k:Nat):List UInt8:=if k<10 then [UInt8.ofNat (48+k)] else [UInt8.ofNat (48+k / 10),UInt8.ofNat (48+k % 10)]
def dK:List Nat→List UInt8
 | []=> []
 | k::l=>44::(gU k++dK l)
def ej:List Nat→List UInt8
 | []=> []
 | k::l=>gU k++dK l
def cO (a:BitVec 64):List UInt8:=123::(ej (cL a)++ [125])
theorem ic (k:Nat):1≤(gU k).length∧(gU k).length≤2:=by unfold gU;split<;>simp
theorem jl:∀ l,(dK l).length≤3*l.length
  | []=>by simp [dK]
  | k :: l => by
    have:=jl l
    have:=ic k
    simp only [dK,List.length_cons,List.length_append]
    omega
theorem ox (a:BitVec 64):(ej (cL a)).length≤192:=by
  have:=fY a
  cases h:cL a with
  | nil=>simp [ej]
  | cons k l =>
    have h1:=jl l
    have h2:=ic k
    rw [h] at this
    simp only [List.length_cons] at this
    simp only [ej,List.length_append]
    omega
def dig (b:UInt8):Bool:=decide (48≤b.toNat)&&decide (b.toNat≤57)
def jm (s:List UInt8) (i:Nat):UInt8:=(s[i]?).getD 0
def scan (s:List UInt8) (from_:Nat):Nat→Nat→Nat→(Bool × Nat × Nat)
  | 0,at_,n=>(true,at_,n)
  | f + 1, at_, n =>
    if at_<s.length∧dig (jm s at_)=true then
      if from_<at_∧jm s from_=48 then (false,at_,n) else scan s from_ f (at_+1) (min 1000 (10*n+((jm s at_).toNat - 48)))
    else (true,at_,n)
structure RL where
 l:BitVec 64
 used:Nat
 err:Nat
 at_:Nat
def bad (e a:Nat):RL:=⟨0#64,0,e,a⟩
def JK (s:List UInt8):Nat→BitVec 64→Int→Nat→RL
  | 0,_,_,a=>bad 3 a
  | f + 1, l, last, a =>
    if (scan s a (s.length - a) a 0).1=false then bad 3 (scan s a (s.length - a) a 0).2.1
    else if (scan s a (s.length - a) a 0).2.1=a then bad 3 a
    else if 63<(scan s a (s.length - a) a 0).2.2 then bad 2 a
    else if ((scan s a (s.length - a) a 0).2.2:Int)≤last then bad 9 a
    else if (scan s a (s.length - a) a 0).2.1=s.length then bad 3 s.length
    else if jm s (scan s a (s.length - a) a 0).2.1=125 then ⟨l ||| (1#64 <<< (scan s a (s.length - a) a 0).2.2),(scan s a (s.length - a) a 0).2.1+1,0,0⟩
    else if jm s (scan s a (s.length - a) a 0).2.1≠44 then bad 3 (scan s a (s.length - a) a 0).2.1
    else JK s f (l ||| (1#64 <<< (scan s a (s.length - a) a 0).2.2)) (scan s a (s.length - a) a 0).2.2 ((scan s a (s.length - a) a 0).2.1+1)
def oy (s:List UInt8):RL :=
 if s.length=0∨jm s 0≠123 then bad 3 0
 else if 1<s.length∧jm s 1=125 then ⟨0#64,2,0,0⟩
 else JK s (s.length+1) 0#64 (-1) 1
def pG (s:List UInt8):RL :=
 if (oy s).err≠0 then ⟨0#64,0,(oy s).err,(oy s).at_⟩
 else if (oy s).used<s.length then bad 4 (oy s).used else ⟨(oy s).l,0,0,0⟩
end Go.Proofs.YtgephffbfiemeaaGreatDoor
