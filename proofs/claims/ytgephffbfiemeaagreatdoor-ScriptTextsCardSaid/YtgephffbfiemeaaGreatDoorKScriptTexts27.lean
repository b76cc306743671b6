/- Part 27 of the proof of ScriptTexts: an abstract semantics that is proved sound for the model, contracts of functions in it, and plain facts (EK EV15 EP). No condition. -/
import Derived.Test.YtgephffbfiemeaaGreatDoorKScriptTexts26
import Derived.Laws.RangeString
import Derived.LoopTactic
import Derived.WalkKit
import Derived.BigCall
set_option linter.all false
namespace Go.Proofs.YtgephffbfiemeaaGreatDoor
open Go.Abs Go.Lib
set_option linter.all false
set_option maxRecDepth 100000
def bU:List UInt8:= [65,66,67,68,69,70,71,72,73,74,75,76,77,78,79,80,81,82,83,84,85,86,87,88,89,90]
def kQ (t:List UInt8):Nat→Nat→AV
 | 0,_=> .tup [.int .i64 0, .int .i64 11]
 | b+1,k=>bif t == [bU[k]?.getD 0] then .tup [.int .i64 k, .int .i64 0] else kQ t b (k+1)
def iI (t:List UInt8):AV:=kQ t 26 0
theorem Bs (t:List UInt8) (k:Nat) (hk:k<26) (h:(t == [bU[k]?.getD 0])=true):kQ t (26 - k) k= .tup [.int .i64 k, .int .i64 0]:=by
 rw [show 26 - k=(25 - k)+1 by omega]
 show (bif t == [bU[k]?.getD 0] then _ else _)=_
 rw [h];rfl
theorem Bu (t:List UInt8) (k:Nat) (hk:k<26) (h:(t == [bU[k]?.getD 0])=false):kQ t (26 - k) k=kQ t (26 - (k+1)) (k+1):=by
 rw [show 26 - k=(25 - k)+1 by omega,show 26 - (k+1)=25 - k by omega]
 show (bif t == [bU[k]?.getD 0] then _ else _)=_
 rw [h];rfl
theorem JO:∀ k (hk:k<ByteArray.size ⟨bU.toArray⟩),Utf8.encode (((ByteArray.mk bU.toArray)[k].toNat:Nat):Int)=⟨[bU[k]?.getD 0].toArray⟩:=by decide
set_option maxHeartbeats 4000000 in
theorem Mh (t:List UInt8) (w:World) :
  Calls Tryz.prog 209 #[.string ⟨t.toArray⟩] w fun e w'=>∃ pos i x,iI t= .tup [.int .i64 i, .int .i64 x]∧e= .returned (.tuple #[.int .i64 i, .int .i64 x])∧w'=w.iter ⟨bU.toArray⟩ pos:=by
 have hbs:∀ k (hk:k<ByteArray.size ⟨bU.toArray⟩),(ByteArray.mk bU.toArray)[k].toNat<128:=by decide
 go_enter Tryz.func209,Tryz.ntmps209
 go_wp2
 go_loopw [4] (fun _ w'=>∃ pos:Nat,pos≤26∧w'=w.iter ⟨bU.toArray⟩ pos∧kQ t (26 - pos) pos=iI t) (fun _ w'=>26 - w'.iterPos w.heap.size)
 case atStart=>exact ⟨0,by omega,rfl,rfl⟩
 case round =>
  obtain ⟨pos,hp,rfl,hc⟩:=hrel
  by_cases hp:pos<26
  ·have hnx:∀ ty,(Instr.next (.pointer (some ⟨w.heap.size,0,none⟩)) true ty).run Tryz.prog (w.iter ⟨bU.toArray⟩ pos)=_:=fun ty=>run_next_ascii w ⟨bU.toArray⟩ pos ty hp (hbs pos hp)
   go_wp2
   ·rename_i hq
    rw [JO pos hp] at hq
    go_ret2
    exact ⟨_,_,_,by rw [←hc,Bs t pos hp (by simpa using hq)],rfl,rfl⟩
   ·rename_i hq
    rw [JO pos hp] at hq
    refine ⟨⟨pos+1,by omega,rfl,?_⟩,?_⟩
    ·rw [←Bu t pos hp (by simpa using hq)];exact hc
    ·simp [World.iterPos,World.iter_heap];omega
  ·have hnx:∀ ty,(Instr.next (.pointer (some ⟨w.heap.size,0,none⟩)) true ty).run Tryz.prog (w.iter ⟨bU.toArray⟩ pos)=_:=fun ty=>run_next_end w ⟨bU.toArray⟩ pos ty hp
   go_wp2
   go_ret2
   have:pos=26:=by omega
   subst this
   exact ⟨_,_,_,hc.symm,rfl,rfl⟩
theorem Mj (t:List UInt8):Pu Tryz.prog 209 [.str t] (iI t):=by
 intro σ
 refine AC.eO (Go.Proofs.enters_of Tryz.func209 (by kernel_rfl) rfl) ?_
 intro g w vs hI hv
 obtain ⟨v1,vs,rfl,r1,hv⟩:=hv.cons_inv
 rw [hv.bO,r1.cN]
 refine (Mh t w).mono ?_
 rintro e w' ⟨pos,i,x,hk,rfl,rfl⟩
 rw [hk]
 exact ⟨_,rfl,(Go.RowKit.Below.refl _ w).alloc (Nat.le_refl _) _,fun g' _=>Rel.dz (.cons (.int _ _) (.cons (.int _ _) .nil))⟩
def oq (t:List UInt8):Nat→Nat→Int × Int
 | 0,_=>(0,11)
 | b+1,k=>bif t == [bU[k]?.getD 0] then ((k:Int),0) else oq t b (k+1)
def Bv (t:List UInt8):Int:=(oq t 26 0).1
def Bw (t:List UInt8):Int:=(oq t 26 0).2
theorem By (t:List UInt8):iI t= .tup [.int .i64 (Bv t), .int .i64 (Bw t)]:=by
  have:∀ b k,kQ t b k= .tup [.int .i64 (oq t b k).1, .int .i64 (oq t b k).2]:=by
    intro b
    induction b with
    | zero=>intro k;rfl
    | succ b ih =>
      intro k
      unfold kQ oq
      cases (t == [bU[k]?.getD 0])
      · exact ih _
      · rfl
  exact this _ _
theorem Bz (b:UInt8):(iG [b]).toNat=b.toNat:=by
 have h:∀ n:Fin 256,(iG [UInt8.ofNat n.val]).toNat=n.val:=by decide +kernel
 have:=h ⟨b.toNat,b.toNat_lt⟩
 simpa using this
theorem my (n:Nat):(b6 (n:Int) == 0)=decide (n<26):=by
 simp only [b6,Bool.cond_eq_ite];grind
theorem BA (s:List UInt8):lf s=fy s∧lg s=fQ s:=by
 rcases Nat.lt_or_ge s.length 8 with h8|h8
 ·have e1:rd1 s=⟨s,0,5,0⟩:=by simp [rd1,rd0,b9,h8]
  have e2:rd2 s=⟨s,0,5,0⟩:=by simp [rd2,e1,b9]
  have ek:eh s=0:=by simp [eh,e1,cV,iG];decide
  have e3:rd3 s=⟨s,0,5,0⟩:=by simp [rd3,e2,ek,b6]
  have e4:rd4 s=⟨s,0,5,0⟩:=by simp [rd4,e3,b9]
  simp [lf,lg,fy,fQ,e4,en,dG,h8,show (s.length == 17)=false by simp;omega]
 ·have e1:rd1 s=⟨s,8,0,0⟩:=by simp [rd1,rd0,b9,Nat.not_lt.2 h8]
  rcases Nat.lt_or_ge s.length 9 with h9|h9
  ·have e2:rd2 s=⟨s,8,5,8⟩:=by simp [rd2,e1,b9,h9]
   have ek:eh s=0:=by simp [eh,e1,cV,iG,h9];decide
   have e3:rd3 s=⟨s,8,5,8⟩:=by simp [rd3,e2,ek,b6]
   have e4:rd4 s=⟨s,8,5,8⟩:=by simp [rd4,e3,b9]
   simp [lf,lg,fy,fQ,e4,en,dG,h9,show ¬ s.length<8 by omega,show (s.length == 17)=false by simp;omega]
  ·have e2:rd2 s=⟨s,9,0,0⟩:=by simp [rd2,e1,b9,Nat.not_lt.2 h9]
   have et:cV (rd1 s) 1= [s[8]?.getD 0]:=by
    simp [cV,e1,Nat.not_lt.2 h9]
    rw [List.drop_eq_getElem_cons (by omega),List.getElem?_eq_getElem (by omega)];rfl
   have ek:eh s=(s[8]?.getD 0).toNat:=by rw [eh,et,Bz];exact oo _
   have n8:¬ s.length<8:=by omega
   have n9:¬ s.length<9:=by omega
   have hm:min 8 s.length=8:=by omega
   by_cases hk:26≤(s[8]?.getD 0).toNat
   ·have hc:(b6 (eh s) == 0)=false:=by
     rw [ek,my];simpa using hk
    have e3:rd3 s=⟨s,9,11,8⟩:=by simp only [rd3,hc,cond_false];rw [e2,hm];rfl
    have e4:rd4 s=⟨s,9,11,8⟩:=by rw [rd4,e3];rfl
    have e5:(en (rd4 s)).e=11∧(en (rd4 s)).fa=8:=by
     rw [e4];cases h:decide (9<s.length)<;>simp only [en,dG,h]<;>exact ⟨rfl,rfl⟩
    simp [lf,lg,fy,fQ,e5.1,e5.2,hk,n8,n9,show ¬ (s[8]?.getD 0).toNat<26 by omega]
   ·have hc:(b6 (eh s) == 0)=true:=by
     rw [ek,my];simpa using hk
    have e3:rd3 s=⟨s,9,0,0⟩:=by simp only [rd3,hc,cond_true];exact e2
    have k26:(s[8]?.getD 0).toNat<26:=by omega
    rcases Nat.lt_or_ge s.length 17 with h17|h17
    ·have e4:rd4 s=⟨s,9,5,9⟩:=by simp [rd4,e3,b9,h17]
     have e5:(en (rd4 s)).e=5∧(en (rd4 s)).fa=9:=by
      rw [e4];cases h:decide (9<s.length)<;>simp only [en,dG,h]<;>exact ⟨rfl,rfl⟩
     simp [lf,lg,fy,fQ,e5.1,e5.2,hk,n8,n9,k26,h17,show (s.length == 17)=false by simp;omega]
    ·have n17:¬ s.length<17:=by omega
     have e4:rd4 s=⟨s,17,0,0⟩:=by simp [rd4,e3,b9,n17]
     by_cases hl:17<s.length
     ·have e5:(en (rd4 s)).e=4∧(en (rd4 s)).fa=17:=by
       rw [e4];simp [en,dG,hl]
      simp [lf,lg,fy,fQ,e5.1,e5.2,hk,n8,n9,k26,n17,hl,show (s.length == 17)=false by simp;omega]
     ·have h17':s.length=17:=by omega
      have e5:(en (rd4 s)).e=0∧(en (rd4 s)).fa=0:=by
       rw [e4];simp [en,hl]
      have t0:cV (rd0 s) 8=s.take 8:=by simp [cV,rd0,n8]
      have t3:cV (rd3 s) 8=s.drop 9:=by
       rw [e3];simp only [cV,beq_self_eq_true,cond_true]
       rw [show decide (s.length<9+8)=false by simp;omega,cond_false]
       exact List.take_of_length_le (by simp;omega)
      have d8:decide ((s[8]?.getD 0).toNat<26)=true:=by simpa using k26
      have d9:decide (26≤(s[8]?.getD 0).toNat)=false:=by simpa using hk
      have z:((0:Int) == 0)=true:=rfl
      simp only [lf,lg,fy,fQ,e5.1,n8,n9,n17,hl,d8,d9,h17',t0,t3,ek,z,cond_true]
      simp
end Go.Proofs.YtgephffbfiemeaaGreatDoor
