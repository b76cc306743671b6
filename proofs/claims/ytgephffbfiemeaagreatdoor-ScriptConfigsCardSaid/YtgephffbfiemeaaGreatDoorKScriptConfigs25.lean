/- Part 25 of the proof of ScriptConfigs: an abstract semantics that is proved sound for the model, contracts of functions in it, and plain facts (EK EV15). No condition. -/
import Derived.Test.YtgephffbfiemeaaGreatDoorKScriptConfigs24
import Derived.Laws.RangeString
import Derived.LoopTactic
import Derived.WalkKit
import Derived.BigCall
set_option linter.all false
namespace Go.Proofs.YtgephffbfiemeaaGreatDoor
open Go.Abs Go.Lib
set_option linter.all false
set_option maxRecDepth 100000
def bJ:List UInt8:= [65,66,67,68,69,70,71,72,73,74,75,76,77,78,79,80,81,82,83,84,85,86,87,88,89,90]
def kQ (t:List UInt8):Nat→Nat→AV
 | 0,_=> .tup [.int .i64 0, .int .i64 11]
 | b+1,k=>bif t == [bJ[k]?.getD 0] then .tup [.int .i64 k, .int .i64 0] else kQ t b (k+1)
def iJ (t:List UInt8):AV:=kQ t 26 0
theorem tB (t:List UInt8) (k:Nat) (hk:k<26) (h:(t == [bJ[k]?.getD 0])=true):kQ t (26 - k) k= .tup [.int .i64 k, .int .i64 0]:=by
 rw [show 26 - k=(25 - k)+1 by omega]
 show (bif t == [bJ[k]?.getD 0] then _ else _)=_
 rw [h];rfl
theorem tC (t:List UInt8) (k:Nat) (hk:k<26) (h:(t == [bJ[k]?.getD 0])=false):kQ t (26 - k) k=kQ t (26 - (k+1)) (k+1):=by
 rw [show 26 - k=(25 - k)+1 by omega,show 26 - (k+1)=25 - k by omega]
 show (bif t == [bJ[k]?.getD 0] then _ else _)=_
 rw [h];rfl
theorem Pd (t:List UInt8):Pu Tryz.prog 160 [.str t] (iJ t):=by
 have hsl:∀ k,k<26→List.take (k+1 - k) (List.drop k bJ)= [bJ[k]?.getD 0]:=Qg
 (refine al Jb NN fun σ=>?_;simp only [Jb,↓R1,RR,Nat.reduceEqDiff])
 refine aS 26 (fun k=> [(0, .str t),(4, .int .i64 k)]) (fun _=>σ) (fun k=>kQ t (26 - k) k=iJ t) Qi (St.le_refl _) rfl (fun k hk hI=>?_)
 simp only [↓R1,RR,Nat.reduceEqDiff]
 refine ar (fun hc=>?_) (fun hc=>?_)
 ·have hlt:k<26:=by simp at hc;omega
  have hw:IntKind.i64.wrap ((k:Int)+1)=((k+1:Nat):Int):=P9
  have h1:=hsl k hlt
  simp only [hw,↓R1,RR,Nat.reduceEqDiff]
  have hl:bJ= [65,66,67,68,69,70,71,72,73,74,75,76,77,78,79,80,81,82,83,84,85,86,87,88,89,90]:=rfl
  have hcm:(List.take (k+1 - k) (List.drop k [65,66,67,68,69,70,71,72,73,74,75,76,77,78,79,80,81,82,83,84,85,86,87,88,89,90]) == t)=(t == [bJ[k]?.getD 0]):=by
   rw [←hl,h1,Bool.eq_iff_iff];simp only [beq_iff_eq];exact ⟨fun h=>h.symm,fun h=>h.symm⟩
  repeat' (first|(with_reducible refine And.intro ?_ ?_;exact af)|(with_reducible apply And.intro)|((refine ar (fun hc=>?_) (fun hc=>?_))<;>(try simp only [↓R1,RR,Nat.reduceEqDiff])))
  ·rw [hcm] at hc
   have:=tB t k hlt hc
   rw [hI] at this
   (refine ak (ag ?_))
   (simp only [an,RR,Nat.reduceEqDiff])
   rw [this]
  ·rw [hcm] at hc
   rw [←tC t k hlt hc];exact hI
  ·simp only [aq,slot,ae,RR,Nat.reduceEqDiff];exact zw P6
  ·exact St.le_refl _
 ·have:k=26:=by simp at hc;omega
  subst this
  simp only [↓R1,RR]
  skip
  (refine ak (ag ?_))
  (simp only [an,RR,Nat.reduceEqDiff])
  rw [←hI];rfl
theorem MI:∀ k (hk:k<ByteArray.size ⟨bJ.toArray⟩),Utf8.encode (((ByteArray.mk bJ.toArray)[k].toNat:Nat):Int)=⟨[bJ[k]?.getD 0].toArray⟩:=Qg
set_option maxHeartbeats 4000000 in
theorem Pe (t:List UInt8) (w:World) :
  Calls Tryz.prog 209 #[.string ⟨t.toArray⟩] w fun e w'=>∃ pos i x,iJ t= .tup [.int .i64 i, .int .i64 x]∧e= .returned (.tuple #[.int .i64 i, .int .i64 x])∧w'=w.iter ⟨bJ.toArray⟩ pos:=by
 have hbs:∀ k (hk:k<ByteArray.size ⟨bJ.toArray⟩),(ByteArray.mk bJ.toArray)[k].toNat<128:=Qg
 go_enter Tryz.func209,Tryz.ntmps209
 go_wp2
 go_loopw [4] (fun _ w'=>∃ pos:Nat,pos≤26∧w'=w.iter ⟨bJ.toArray⟩ pos∧kQ t (26 - pos) pos=iJ t) (fun _ w'=>26 - w'.iterPos w.heap.size)
 case atStart=>exact ⟨0,by omega,rfl,rfl⟩
 case round =>
  obtain ⟨pos,hp,rfl,hc⟩:=hrel
  by_cases hp:pos<26
  ·have hnx:∀ ty,(Instr.next (.pointer (some ⟨w.heap.size,0,none⟩)) true ty).run Tryz.prog (w.iter ⟨bJ.toArray⟩ pos)=_:=fun ty=>run_next_ascii w ⟨bJ.toArray⟩ pos ty hp (hbs pos hp)
   go_wp2
   ·rename_i hq
    rw [MI pos hp] at hq
    go_ret2
    exact ⟨_,_,_,by rw [←hc,tB t pos hp (by simpa using hq)],rfl,rfl⟩
   ·rename_i hq
    rw [MI pos hp] at hq
    refine ⟨⟨pos+1,by omega,rfl,?_⟩,?_⟩
    ·rw [←tC t pos hp (by simpa using hq)];exact hc
    ·simp [World.iterPos,World.iter_heap];omega
  ·have hnx:∀ ty,(Instr.next (.pointer (some ⟨w.heap.size,0,none⟩)) true ty).run Tryz.prog (w.iter ⟨bJ.toArray⟩ pos)=_:=fun ty=>run_next_end w ⟨bJ.toArray⟩ pos ty hp
   go_wp2
   go_ret2
   have:pos=26:=P6
   subst this
   exact ⟨_,_,_,hc.symm,rfl,rfl⟩
theorem Pf (t:List UInt8):Pu Tryz.prog 209 [.str t] (iJ t):=by
 intro σ
 refine AC.gV (Go.Proofs.enters_of Tryz.func209 P7 rfl) ?_
 intro g w vs hI hv
 obtain ⟨v1,vs,rfl,r1,hv⟩:=hv.cons_inv
 rw [hv.cG,r1.dI]
 refine (Pe t w).mono ?_
 rintro e w' ⟨pos,i,x,hk,rfl,rfl⟩
 rw [hk]
 exact ⟨_,rfl,(Go.RowKit.Below.refl _ w).alloc (Nat.le_refl _) _,fun g' _=>Rel.eN (.cons (.int _ _) (.cons (.int _ _) .nil))⟩
def pZ (t:List UInt8):Nat→Nat→Int × Int
 | 0,_=>(0,11)
 | b+1,k=>bif t == [bJ[k]?.getD 0] then ((k:Int),0) else pZ t b (k+1)
def tD (t:List UInt8):Int:=(pZ t 26 0).1
def Dz (t:List UInt8):Int:=(pZ t 26 0).2
theorem tE (t:List UInt8):iJ t= .tup [.int .i64 (tD t), .int .i64 (Dz t)]:=by
  have:∀ b k,kQ t b k= .tup [.int .i64 (pZ t b k).1, .int .i64 (pZ t b k).2]:=by
    intro b
    induction b with
    | zero=>intro k;rfl
    | succ b ih =>
      intro k
      unfold kQ pZ
      cases (t == [bJ[k]?.getD 0])
      · exact ih _
      · rfl
  exact this _ _
end Go.Proofs.YtgephffbfiemeaaGreatDoor
