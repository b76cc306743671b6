/- Part 26 of the proof of ScriptKnown: an abstract semantics that is proved sound for the model, contracts of functions in it, and plain facts (EK EV15 EP). No condition. -/
import Derived.Test.YtgephffbfiemeaaGreatDoorKScriptKnown25
import Derived.Laws.RangeString
import Derived.LoopTactic
import Derived.WalkKit
import Derived.BigCall
set_option linter.all false
namespace Go.Proofs.YtgephffbfiemeaaGreatDoor
open Go.Abs Go.Lib
set_option linter.all false
set_option maxRecDepth 100000
def bM:List UInt8:= [65,66,67,68,69,70,71,72,73,74,75,76,77,78,79,80,81,82,83,84,85,86,87,88,89,90]
def lb (t:List UInt8):Nat→Nat→AV
 | 0,_=> .tup [.int .i64 0, .int .i64 11]
 | b+1,k=>bif t == [bM[k]?.getD 0] then .tup [.int .i64 k, .int .i64 0] else lb t b (k+1)
def iQ (t:List UInt8):AV:=lb t 26 0
theorem Cc (t:List UInt8) (k:Nat) (hk:k<26) (h:(t == [bM[k]?.getD 0])=true):lb t (26 - k) k= .tup [.int .i64 k, .int .i64 0]:=by
 rw [show 26 - k=(25 - k)+1 by omega]
 show (bif t == [bM[k]?.getD 0] then _ else _)=_
 rw [h];rfl
theorem Ce (t:List UInt8) (k:Nat) (hk:k<26) (h:(t == [bM[k]?.getD 0])=false):lb t (26 - k) k=lb t (26 - (k+1)) (k+1):=by
 rw [show 26 - k=(25 - k)+1 by omega,show 26 - (k+1)=25 - k by omega]
 show (bif t == [bM[k]?.getD 0] then _ else _)=_
 rw [h];rfl
theorem K8:∀ k (hk:k<ByteArray.size ⟨bM.toArray⟩),Utf8.encode (((ByteArray.mk bM.toArray)[k].toNat:Nat):Int)=⟨[bM[k]?.getD 0].toArray⟩:=OK
set_option maxHeartbeats 4000000 in
theorem NO (t:List UInt8) (w:World) :
  Calls Tryz.prog 209 #[.string ⟨t.toArray⟩] w fun e w'=>∃ pos i x,iQ t= .tup [.int .i64 i, .int .i64 x]∧e= .returned (.tuple #[.int .i64 i, .int .i64 x])∧w'=w.iter ⟨bM.toArray⟩ pos:=by
 have hbs:∀ k (hk:k<ByteArray.size ⟨bM.toArray⟩),(ByteArray.mk bM.toArray)[k].toNat<128:=OK
 go_enter Tryz.func209,Tryz.ntmps209
 go_wp2
 go_loopw [4] (fun _ w'=>∃ pos:Nat,pos≤26∧w'=w.iter ⟨bM.toArray⟩ pos∧lb t (26 - pos) pos=iQ t) (fun _ w'=>26 - w'.iterPos w.heap.size)
 case atStart=>exact ⟨0,by omega,rfl,rfl⟩
 case round =>
  obtain ⟨pos,hp,rfl,hc⟩:=hrel
  by_cases hp:pos<26
  ·have hnx:∀ ty,(Instr.next (.pointer (some ⟨w.heap.size,0,none⟩)) true ty).run Tryz.prog (w.iter ⟨bM.toArray⟩ pos)=_:=fun ty=>run_next_ascii w ⟨bM.toArray⟩ pos ty hp (hbs pos hp)
   go_wp2
   ·rename_i hq
    rw [K8 pos hp] at hq
    go_ret2
    exact ⟨_,_,_,by rw [←hc,Cc t pos hp (by simpa using hq)],rfl,rfl⟩
   ·rename_i hq
    rw [K8 pos hp] at hq
    refine ⟨⟨pos+1,by omega,rfl,?_⟩,?_⟩
    ·rw [←Ce t pos hp (by simpa using hq)];exact hc
    ·simp [World.iterPos,World.iter_heap];omega
  ·have hnx:∀ ty,(Instr.next (.pointer (some ⟨w.heap.size,0,none⟩)) true ty).run Tryz.prog (w.iter ⟨bM.toArray⟩ pos)=_:=fun ty=>run_next_end w ⟨bM.toArray⟩ pos ty hp
   go_wp2
   go_ret2
   have:pos=26:=Oz
   subst this
   exact ⟨_,_,_,hc.symm,rfl,rfl⟩
theorem NP (t:List UInt8):Pu Tryz.prog 209 [.str t] (iQ t):=by
 intro σ
 refine AC.eX (Go.Proofs.enters_of Tryz.func209 OA rfl) ?_
 intro g w vs hI hv
 obtain ⟨v1,vs,rfl,r1,hv⟩:=hv.cons_inv
 rw [hv.bK,r1.cF]
 refine (NO t w).mono ?_
 rintro e w' ⟨pos,i,x,hk,rfl,rfl⟩
 rw [hk]
 exact ⟨_,rfl,(Go.RowKit.Below.refl _ w).alloc (Nat.le_refl _) _,fun g' _=>Rel.dA (.cons (.int _ _) (.cons (.int _ _) .nil))⟩
def oK (t:List UInt8):Nat→Nat→Int × Int
 | 0,_=>(0,11)
 | b+1,k=>bif t == [bM[k]?.getD 0] then ((k:Int),0) else oK t b (k+1)
def Cf (t:List UInt8):Int:=(oK t 26 0).1
def Cg (t:List UInt8):Int:=(oK t 26 0).2
theorem Ch (t:List UInt8):iQ t= .tup [.int .i64 (Cf t), .int .i64 (Cg t)]:=by
  have:∀ b k,lb t b k= .tup [.int .i64 (oK t b k).1, .int .i64 (oK t b k).2]:=by
    intro b
    induction b with
    | zero=>intro k;rfl
    | succ b ih =>
      intro k
      unfold lb oK
      cases (t == [bM[k]?.getD 0])
      · exact ih _
      · rfl
  exact this _ _
theorem Ci (b:UInt8):(jo [b]).toNat=b.toNat:=by
 have h:∀ n:Fin 256,(jo [UInt8.ofNat n.val]).toNat=n.val:=by decide +kernel
 have:=h ⟨b.toNat,b.toNat_lt⟩
 simpa using this
theorem mP (n:Nat):(bI (n:Int) == 0)=decide (n<26):=by
 simp only [bI,Bool.cond_eq_ite];grind
theorem Cj (s:List UInt8):ly s=gR s∧lz s=ig s:=by
 rcases Nat.lt_or_ge s.length 8 with h8|h8
 ·have e1:rd1 s=⟨s,0,5,0⟩:=by simp [rd1,rd0,bR,h8]
  have e2:rd2 s=⟨s,0,5,0⟩:=by simp [rd2,e1,bR]
  have ek:ej s=0:=by simp [ej,e1,cJ,jo];decide
  have e3:rd3 s=⟨s,0,5,0⟩:=by simp [rd3,e2,ek,bI]
  have e4:rd4 s=⟨s,0,5,0⟩:=by simp [rd4,e3,bR]
  simp [ly,lz,gR,ig,e4,ew,dJ,h8,show (s.length == 17)=false by simp;omega]
 ·have e1:rd1 s=⟨s,8,0,0⟩:=by simp [rd1,rd0,bR,Nat.not_lt.2 h8]
  rcases Nat.lt_or_ge s.length 9 with h9|h9
  ·have e2:rd2 s=⟨s,8,5,8⟩:=by simp [rd2,e1,bR,h9]
   have ek:ej s=0:=by simp [ej,e1,cJ,jo,h9];decide
   have e3:rd3 s=⟨s,8,5,8⟩:=by simp [rd3,e2,ek,bI]
   have e4:rd4 s=⟨s,8,5,8⟩:=by simp [rd4,e3,bR]
   simp [ly,lz,gR,ig,e4,ew,dJ,h9,show ¬ s.length<8 by omega,show (s.length == 17)=false by simp;omega]
  ·have e2:rd2 s=⟨s,9,0,0⟩:=by simp [rd2,e1,bR,Nat.not_lt.2 h9]
   have et:cJ (rd1 s) 1= [s[8]?.getD 0]:=by
    simp [cJ,e1,Nat.not_lt.2 h9]
    rw [List.drop_eq_getElem_cons Oz,List.getElem?_eq_getElem Oz];rfl
   have ek:ej s=(s[8]?.getD 0).toNat:=by rw [ej,et,Ci];exact yv _
   have n8:¬ s.length<8:=Oz
   have n9:¬ s.length<9:=Oz
   have hm:min 8 s.length=8:=Oz
   by_cases hk:26≤(s[8]?.getD 0).toNat
   ·have hc:(bI (ej s) == 0)=false:=by
     rw [ek,mP];simpa using hk
    have e3:rd3 s=⟨s,9,11,8⟩:=by simp only [rd3,hc,cond_false];rw [e2,hm];rfl
    have e4:rd4 s=⟨s,9,11,8⟩:=by rw [rd4,e3];rfl
    have e5:(ew (rd4 s)).e=11∧(ew (rd4 s)).fa=8:=by
     rw [e4];cases h:decide (9<s.length)<;>simp only [ew,dJ,h]<;>exact ⟨rfl,rfl⟩
    simp [ly,lz,gR,ig,e5.1,e5.2,hk,n8,n9,show ¬ (s[8]?.getD 0).toNat<26 by omega]
   ·have hc:(bI (ej s) == 0)=true:=by
     rw [ek,mP];simpa using hk
    have e3:rd3 s=⟨s,9,0,0⟩:=by simp only [rd3,hc,cond_true];exact e2
    have k26:(s[8]?.getD 0).toNat<26:=Oz
    rcases Nat.lt_or_ge s.length 17 with h17|h17
    ·have e4:rd4 s=⟨s,9,5,9⟩:=by simp [rd4,e3,bR,h17]
     have e5:(ew (rd4 s)).e=5∧(ew (rd4 s)).fa=9:=by
      rw [e4];cases h:decide (9<s.length)<;>simp only [ew,dJ,h]<;>exact ⟨rfl,rfl⟩
     simp [ly,lz,gR,ig,e5.1,e5.2,hk,n8,n9,k26,h17,show (s.length == 17)=false by simp;omega]
    ·have n17:¬ s.length<17:=by omega
     have e4:rd4 s=⟨s,17,0,0⟩:=by simp [rd4,e3,bR,n17]
     by_cases hl:17<s.length
     ·have e5:(ew (rd4 s)).e=4∧(ew (rd4 s)).fa=17:=by
       rw [e4];simp [ew,dJ,hl]
      simp [ly,lz,gR,ig,e5.1,e5.2,hk,n8,n9,k26,n17,hl,show (s.length == 17)=false by simp;omega]
     ·have h17':s.length=17:=by omega
      have e5:(ew (rd4 s)).e=0∧(ew (rd4 s)).fa=0:=by
       rw [e4];simp [ew,hl]
      have t0:cJ (rd0 s) 8=s.take 8:=by simp [cJ,rd0,n8]
      have t3:cJ (rd3 s) 8=s.drop 9:=by
       rw [e3];simp only [cJ,beq_self_eq_true,cond_true]
       rw [show decide (s.length<9+8)=false by simp;omega,cond_false]
       exact List.take_of_length_le OS
      have d8:decide ((s[8]?.getD 0).toNat<26)=true:=by simpa using k26
      have d9:decide (26≤(s[8]?.getD 0).toNat)=false:=by simpa using hk
      have z:((0:Int) == 0)=true:=rfl
      simp only [ly,lz,gR,ig,e5.1,n8,n9,n17,hl,d8,d9,h17',t0,t3,ek,z,cond_true]
      simp
end Go.Proofs.YtgephffbfiemeaaGreatDoor
