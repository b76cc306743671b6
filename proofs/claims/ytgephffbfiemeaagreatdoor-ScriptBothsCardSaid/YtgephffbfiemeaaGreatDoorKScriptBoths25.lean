/- Part 25 of the proof of ScriptBoths: an abstract semantics that is proved sound for the model, contracts of functions in it, and plain facts (EK EV15 EP). No condition. -/
import Derived.Test.YtgephffbfiemeaaGreatDoorKScriptBoths24
import Derived.Laws.RangeString
import Derived.LoopTactic
import Derived.WalkKit
import Derived.BigCall
set_option linter.all false
namespace Go.Proofs.YtgephffbfiemeaaGreatDoor
open Go.Abs Go.Lib
set_option linter.all false
set_option maxRecDepth 100000
def BT:List UInt8:= [65,66,67,68,69,70,71,72,73,74,75,76,77,78,79,80,81,82,83,84,85,86,87,88,89,90]
def BU (t:List UInt8):Nat→Nat→Int × Int
 | 0,_=>(0,11)
 | b+1,k=>bif t == [BT[k]?.getD 0] then ((k:Int),0) else BU t b (k+1)
def Kd (t:List UInt8):Int:=(BU t 26 0).1
def Ke (t:List UInt8):Int:=(BU t 26 0).2
theorem BV (b:UInt8):(iW [b]).toNat=b.toNat:=by
 have h:∀ n:Fin 256,(iW [UInt8.ofNat n.val]).toNat=n.val:=by decide +kernel
 have:=h ⟨b.toNat,b.toNat_lt⟩
 simpa using this
theorem mR (n:Nat):(cz (n:Int) == 0)=decide (n<26):=by
 simp only [cz,Bool.cond_eq_ite];grind
theorem BX (s:List UInt8):lJ s=fK s∧lK s=ga s:=by
 rcases Nat.lt_or_ge s.length 8 with h8|h8
 ·have e1:rd1 s=⟨s,0,5,0⟩:=by simp [rd1,rd0,cd,h8]
  have e2:rd2 s=⟨s,0,5,0⟩:=by simp [rd2,e1,cd]
  have ek:eu s=0:=by simp [eu,e1,cX,iW];decide
  have e3:rd3 s=⟨s,0,5,0⟩:=by simp [rd3,e2,ek,cz]
  have e4:rd4 s=⟨s,0,5,0⟩:=by simp [rd4,e3,cd]
  simp [lJ,lK,fK,ga,e4,ez,dO,h8,show (s.length == 17)=false by simp;omega]
 ·have e1:rd1 s=⟨s,8,0,0⟩:=by simp [rd1,rd0,cd,Nat.not_lt.2 h8]
  rcases Nat.lt_or_ge s.length 9 with h9|h9
  ·have e2:rd2 s=⟨s,8,5,8⟩:=by simp [rd2,e1,cd,h9]
   have ek:eu s=0:=by simp [eu,e1,cX,iW,h9];decide
   have e3:rd3 s=⟨s,8,5,8⟩:=by simp [rd3,e2,ek,cz]
   have e4:rd4 s=⟨s,8,5,8⟩:=by simp [rd4,e3,cd]
   simp [lJ,lK,fK,ga,e4,ez,dO,h9,show ¬ s.length<8 by omega,show (s.length == 17)=false by simp;omega]
  ·have e2:rd2 s=⟨s,9,0,0⟩:=by simp [rd2,e1,cd,Nat.not_lt.2 h9]
   have et:cX (rd1 s) 1= [s[8]?.getD 0]:=by
    simp [cX,e1,Nat.not_lt.2 h9]
    rw [List.drop_eq_getElem_cons MX,List.getElem?_eq_getElem MX];rfl
   have ek:eu s=(s[8]?.getD 0).toNat:=by rw [eu,et,BV];exact oK _
   have n8:¬ s.length<8:=MX
   have n9:¬ s.length<9:=MX
   have hm:min 8 s.length=8:=MX
   by_cases hk:26≤(s[8]?.getD 0).toNat
   ·have hc:(cz (eu s) == 0)=false:=by
     rw [ek,mR];simpa using hk
    have e3:rd3 s=⟨s,9,11,8⟩:=by simp only [rd3,hc,cond_false];rw [e2,hm];rfl
    have e4:rd4 s=⟨s,9,11,8⟩:=by rw [rd4,e3];rfl
    have e5:(ez (rd4 s)).e=11∧(ez (rd4 s)).fa=8:=by
     rw [e4];cases h:decide (9<s.length)<;>simp only [ez,dO,h]<;>exact ⟨rfl,rfl⟩
    simp [lJ,lK,fK,ga,e5.1,e5.2,hk,n8,n9,show ¬ (s[8]?.getD 0).toNat<26 by omega]
   ·have hc:(cz (eu s) == 0)=true:=by
     rw [ek,mR];simpa using hk
    have e3:rd3 s=⟨s,9,0,0⟩:=by simp only [rd3,hc,cond_true];exact e2
    have k26:(s[8]?.getD 0).toNat<26:=MX
    rcases Nat.lt_or_ge s.length 17 with h17|h17
    ·have e4:rd4 s=⟨s,9,5,9⟩:=by simp [rd4,e3,cd,h17]
     have e5:(ez (rd4 s)).e=5∧(ez (rd4 s)).fa=9:=by
      rw [e4];cases h:decide (9<s.length)<;>simp only [ez,dO,h]<;>exact ⟨rfl,rfl⟩
     simp [lJ,lK,fK,ga,e5.1,e5.2,hk,n8,n9,k26,h17,show (s.length == 17)=false by simp;omega]
    ·have n17:¬ s.length<17:=by omega
     have e4:rd4 s=⟨s,17,0,0⟩:=by simp [rd4,e3,cd,n17]
     by_cases hl:17<s.length
     ·have e5:(ez (rd4 s)).e=4∧(ez (rd4 s)).fa=17:=by
       rw [e4];simp [ez,dO,hl]
      simp [lJ,lK,fK,ga,e5.1,e5.2,hk,n8,n9,k26,n17,hl,show (s.length == 17)=false by simp;omega]
     ·have h17':s.length=17:=by omega
      have e5:(ez (rd4 s)).e=0∧(ez (rd4 s)).fa=0:=by
       rw [e4];simp [ez,hl]
      have t0:cX (rd0 s) 8=s.take 8:=by simp [cX,rd0,n8]
      have t3:cX (rd3 s) 8=s.drop 9:=by
       rw [e3];simp only [cX,beq_self_eq_true,cond_true]
       rw [show decide (s.length<9+8)=false by simp;omega,cond_false]
       exact List.take_of_length_le Ng
      have d8:decide ((s[8]?.getD 0).toNat<26)=true:=by simpa using k26
      have d9:decide (26≤(s[8]?.getD 0).toNat)=false:=by simpa using hk
      have z:((0:Int) == 0)=true:=rfl
      simp only [lJ,lK,fK,ga,e5.1,n8,n9,n17,hl,d8,d9,h17',t0,t3,ek,z,cond_true]
      simp
end Go.Proofs.YtgephffbfiemeaaGreatDoor
