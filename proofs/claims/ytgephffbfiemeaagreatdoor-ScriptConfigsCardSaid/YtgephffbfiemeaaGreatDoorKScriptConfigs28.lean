/- Part 28 of the proof of ScriptConfigs: an abstract semantics that is proved sound for the model, contracts of functions in it, and plain facts (RN1 RN2 RN3 Y1 Y2 Y3 Y4 Y5). No condition. -/
import Derived.Test.YtgephffbfiemeaaGreatDoorKScriptConfigs27
set_option linter.all false
namespace Go.Proofs.YtgephffbfiemeaaGreatDoor
open Go.Abs
set_option linter.all false
set_option maxRecDepth 100000
def fa (b:UInt8):Bool:= !(decide ((b.toNat:Int)<48)||decide ((57:Int)<b.toNat))
def bO (l:List UInt8):Nat:=l.foldl (fun v b=>10*v+(b.toNat - 48)) 0
def dr (l:List UInt8):Bool:=decide (l.length≤20)&&(match l with | []=>false|c::r=> !(c == 48&& !r.isEmpty))&&l.all fa
def iS (l:List UInt8):AV:=bif dr l then .tup [.int .u64 ((bO l % 18446744073709551616:Nat):Int), .bool (decide (18446744073709551616≤bO l)), .bool true] else .tup [.int .u64 0, .bool false, .bool false]
theorem qa (l:List UInt8) {k:Nat} (h:k<l.length):bO (l.take (k+1))=10*bO (l.take k)+(l[k].toNat - 48):=by
 rw [←List.take_append_getElem h,bO,List.foldl_append];rfl
theorem mF (n:Nat):IntKind.u64.wrap (n:Int)=((n % 18446744073709551616:Nat):Int):=by
 rw [IntKind.wrap_u64];omega
theorem qb {b:UInt8}:fa b=true↔48≤b.toNat∧b.toNat≤57:=by
 simp only [fa,Bool.not_eq_true',Bool.or_eq_false_iff,decide_eq_false_iff_not];omega
def jE:List UInt8→Bool
 | []=>false
 | c::r=> !(c == 48&& !r.isEmpty)
theorem gf (l:List UInt8):dr l=(decide (l.length≤20)&&jE l&&l.all fa):=by
 cases l<;>rfl
theorem Pw (n:Nat):IntKind.u64.wrap ((n:Int)*2^min (Int.toNat 3) IntKind.u64.bits)=((8*n % 18446744073709551616:Nat):Int):=by
 rw [show ((n:Int)*2^min (Int.toNat 3) IntKind.u64.bits)=((8*n:Nat):Int) by rw [show (2:Int)^min (Int.toNat 3) IntKind.u64.bits=8 from rfl];omega,mF]
theorem MQ (n:Nat):IntKind.u64.wrap ((n:Int)*2^min (Int.toNat 1) IntKind.u64.bits)=((2*n % 18446744073709551616:Nat):Int):=by
 rw [show ((n:Int)*2^min (Int.toNat 1) IntKind.u64.bits)=((2*n:Nat):Int) by rw [show (2:Int)^min (Int.toNat 1) IntKind.u64.bits=2 from rfl];omega,mF]
theorem add_mod (n:Nat):IntKind.u64.wrap (((8*n % 18446744073709551616:Nat):Int)+((2*n % 18446744073709551616:Nat):Int))=((10*n % 18446744073709551616:Nat):Int):=by
 rw [show (((8*n % 18446744073709551616:Nat):Int)+((2*n % 18446744073709551616:Nat):Int))=((8*n % 18446744073709551616+2*n % 18446744073709551616:Nat):Int) by omega,mF]
 congr 1;omega
theorem tR (V d:Nat):IntKind.u64.wrap (((10*(V % 18446744073709551616) % 18446744073709551616:Nat):Int)+(d:Int))=(((10*V+d) % 18446744073709551616:Nat):Int):=by
 rw [show (((10*(V % 18446744073709551616) % 18446744073709551616:Nat):Int)+(d:Int))=((10*(V % 18446744073709551616) % 18446744073709551616+d:Nat):Int) by omega,mF]
 congr 1;omega
theorem vU (V d:Nat) (hd:d≤9):((decide (18446744073709551616≤V)||decide ((1844674407370955161:Int)<((V % 18446744073709551616:Nat):Int)))||decide ((((10*V+d) % 18446744073709551616:Nat):Int)<((10*(V % 18446744073709551616) % 18446744073709551616:Nat):Int)))=decide (18446744073709551616≤10*V+d):=by
 rw [Bool.eq_iff_iff]
 simp only [Bool.or_eq_true,decide_eq_true_eq]
 by_cases hV:18446744073709551616≤V
 ·simp only [hV,true_or,true_iff];omega
 ·rw [Nat.mod_eq_of_lt (show V<18446744073709551616 by omega)]
  by_cases hb:1844674407370955161<V
  ·have h1:(1844674407370955161:Int)<(V:Int):=by omega
   simp only [h1,or_true,true_or,true_iff];omega
  ·rw [Nat.mod_eq_of_lt (show 10*V<18446744073709551616 by omega)]
   omega
theorem xx {b:UInt8} (h:fa b=true):IntKind.u8.wrap ((b.toNat:Int) - 48)=((b.toNat - 48:Nat):Int)∧b.toNat - 48≤9∧IntKind.u64.wrap ((b.toNat - 48:Nat):Int)=((b.toNat - 48:Nat):Int):=by
 have:=qb.1 h
 refine ⟨by simp [IntKind.wrap,IntKind.signed,IntKind.bits];omega,by omega,by rw [mF];congr 1;omega⟩
theorem _root_.Qs {p:Prop} (h:p:=by rw [decide_eq_false_iff_not];omega):p:=h
set_option maxHeartbeats 4000000 in
theorem MR (l:List UInt8) (hl:l.length≤1000000):Pu Tryz.prog 250 [.str l] (iS l):=by
  have q1:True:=trivial
  have q2:True:=trivial
  have q3:True:=trivial
  have q4:True:=trivial
  have q5:True:=trivial
  have q6:True:=trivial
  have q7:True:=trivial
  have hw:True:=trivial
  have hd:True:=trivial
  have e1:True:=trivial
  have e2:True:=trivial
  have e3:True:=trivial
  have e4:True:=trivial
  have e5:True:=trivial
  by_cases hnil:l= []
  · subst hnil
    have q1:(([]:List UInt8) == [])=true:=rfl
    have e:iS []= .tup [.int .u64 0, .bool false, .bool false]:=rfl
    rw [e]
    (refine al qR Gq fun σ=>?_;simp only [qR,↓R1,RR,Nat.reduceEqDiff,reduceCtorEq])
    skip
    (refine ak (ag ?_))
    (simp only [an,RR,Nat.reduceEqDiff])
  · obtain ⟨c,m,e⟩:∃ c m,l=c::m:=by
      cases l with
      | nil=>exact (hnil rfl).elim
      | cons c m=>exact ⟨c,m,rfl⟩
    have q1:(l == [])=false:=Q7
    have hd:l[0]? =some c:=Q7
    have hl1:0<l.length:=by rw [e];simp
    by_cases h20:20<l.length
    · have q2:decide ((20:Int)<(l.length:Int))=true:=by rw [decide_eq_true_eq];omega
      have e:iS l= .tup [.int .u64 0, .bool false, .bool false]:=by
        have:decide (l.length≤20)=false:=Qs
        rw [iS,gf,this];rfl
      rw [e]
      (refine al qR Gq fun σ=>?_;simp only [qR,↓R1,RR,Nat.reduceEqDiff,reduceCtorEq,q1,q2,hd])
      skip
      (refine ak (ag ?_))
      (simp only [an,RR,Nat.reduceEqDiff])
    · have q2:decide ((20:Int)<(l.length:Int))=false:=by rw [decide_eq_false_iff_not];omega
      have hd20:decide (l.length≤20)=true:=Qf
      have q3:((c.toNat:Int) == 48)=decide (c=48):=oa c 48
      have hfo:jE l= !(decide (c=48)&&decide ((1:Int)<(l.length:Int))):=by
        rw [e]
        show (!(c == 48&& !m.isEmpty))=_
        have h1:(c == 48)=decide (c=48):=by rw [Bool.eq_iff_iff];simp
        have h2:(!m.isEmpty)=decide ((1:Int)<((c::m).length:Int)):=by
          cases m with
          | nil=>rfl
          | cons x m=>rw [Bool.eq_iff_iff];simp;omega
        rw [h1,h2]
      by_cases hz:(decide (c=48)&&decide ((1:Int)<(l.length:Int)))=true
      · have e:iS l= .tup [.int .u64 0, .bool false, .bool false]:=by
          rw [iS,gf,hfo,hz];simp
        rw [Bool.and_eq_true] at hz
        have q4:=hz.1
        have q5:=hz.2
        rw [e]
        (refine al qR Gq fun σ=>?_;simp only [qR,↓R1,RR,Nat.reduceEqDiff,reduceCtorEq,q1,q2,q3,q4,q5,hd])
        repeat' (with_reducible refine And.intro ?_ ?_;exact af)
        all_goals first|omega|skip
        (refine ak (ag ?_))
        (simp only [an,RR,Nat.reduceEqDiff])
      · have q4:(decide (c=48)&&decide ((1:Int)<(l.length:Int)))=false:=by simpa using hz
        have hno:jE l=true:=by rw [hfo,q4];rfl
        have hnv:iS l=bif l.all fa then .tup [.int .u64 ((bO l % 18446744073709551616:Nat):Int), .bool (decide (18446744073709551616≤bO l)), .bool true] else .tup [.int .u64 0, .bool false, .bool false]:=by
          rw [iS,gf,hno,hd20,Bool.true_and,Bool.true_and]
        rw [hnv]
        (refine al qR Gq fun σ=>?_;simp only [qR,↓R1,RR,Nat.reduceEqDiff,reduceCtorEq,q1,q2,q3,q4,hd])
        repeat' (with_reducible refine And.intro ?_ ?_;exact af)
        all_goals first|omega|(rw [q4];done)|skip
        clear hd
        refine aS l.length (fun k=> [(2, .int .u64 ((bO (l.take k) % 18446744073709551616:Nat):Int)),(3, .bool (decide (18446744073709551616≤bO (l.take k)))),(26, .sl false l.length (l.map fun b=> .int .u8 b.toNat)),(27, .int .i64 (l.length:Nat)),(28, .int .i64 (k:Nat))]) (fun _=>σ) (fun k=>(l.take k).all fa=true) (by simp [aq,slot,ae,bO]) (St.le_refl _) Qd (fun k hk hI=>?_)
        by_cases hlt:k<l.length
        · have q6:decide ((k:Int)<(l.length:Int))=true:=by rw [decide_eq_true_eq];omega
          have hd:=kd l hlt
          have hw:IntKind.i64.wrap ((k:Int)+1)=((k+1:Nat):Int):=P9
          cases hb:fa l[k] with
          | true =>
            have q7:(decide ((l[k].toNat:Int)<48)||decide ((57:Int)<(l[k].toNat:Int)))=false:=by
              simp only [fa,Bool.not_eq_true'] at hb;exact hb
            obtain ⟨d1,d2,d3⟩:=xx hb
            have e1:=Pw (bO (l.take k) % 18446744073709551616)
            have e2:=MQ (bO (l.take k) % 18446744073709551616)
            have e3:=add_mod (bO (l.take k) % 18446744073709551616)
            have e4:=tR (bO (l.take k)) (l[k].toNat - 48)
            have e5:=d1
            have q5:=d3
            have hg:=vU (bO (l.take k)) (l[k].toNat - 48) d2
            have hv:=qa l hlt
            simp only [↓R1,RR,Nat.reduceEqDiff,q5,q6,q7,hw,hd,e1,e2,e3,e4,e5]
            repeat' (first|(with_reducible refine And.intro ?_ ?_;exact af)|(with_reducible apply And.intro))
            all_goals first|(simp only [List.length_map];omega)|omega|skip
            · rw [jD _ _ hlt,hI,hb];rfl
            · rw [hv,←hg];simp [aq,slot,ae]
            · exact St.le_refl _
          | false =>
            have q7:(decide ((l[k].toNat:Int)<48)||decide ((57:Int)<(l[k].toNat:Int)))=true:=by
              simp only [fa,Bool.not_eq_false'] at hb;exact hb
            have hall:l.all fa=false:=by
              rw [←Bool.not_eq_true,List.all_eq_true]
              intro h
              have:=h l[k] (List.getElem_mem hlt)
              rw [hb] at this;cases this
            rw [hall]
            simp only [↓R1,RR,Nat.reduceEqDiff,q6,q7,hd]
            repeat' (with_reducible refine And.intro ?_ ?_;exact af)
            all_goals first|(simp only [List.length_map];omega)|omega|skip
            (refine ak (ag ?_))
            (simp only [an,RR,Nat.reduceEqDiff])
            all_goals rfl
        · have hke:k=l.length:=by omega
          subst hke
          have q6:decide ((l.length:Int)<(l.length:Int))=false:=Qd
          rw [List.take_length] at hI ⊢
          rw [hI]
          simp only [↓R1,RR,Nat.reduceEqDiff,q6]
          skip
          (refine ak (ag ?_))
          (simp only [an,RR,Nat.reduceEqDiff])
          all_goals rfl
theorem GV {d:Nat} (h:d≤9):IntKind.u64.wrap (18446744073709551615 - (d:Int))=((18446744073709551615 - d:Nat):Int):=by
 rw [show (18446744073709551615 - (d:Int))=((18446744073709551615 - d:Nat):Int) by omega,mF];congr 1;omega
theorem MS (n:Nat) (h:n<18446744073709551616:=by omega):IntKind.u64.wrap (Int.tdiv (n:Int) 10)=((n / 10:Nat):Int):=by
 rw [show Int.tdiv (n:Int) 10=((n / 10:Nat):Int) from rfl,mF];congr 1;omega
theorem MT (V:Nat):IntKind.u64.wrap (10*((V % 18446744073709551616:Nat):Int))=((10*(V % 18446744073709551616) % 18446744073709551616:Nat):Int):=by
 rw [show (10*((V % 18446744073709551616:Nat):Int))=((10*(V % 18446744073709551616):Nat):Int) by omega,mF]
theorem zY (V d:Nat) (hd:d≤9):(decide (18446744073709551616≤V)||decide ((((18446744073709551615 - d) / 10:Nat):Int)<((V % 18446744073709551616:Nat):Int)))=decide (18446744073709551616≤10*V+d):=by
 rw [Bool.eq_iff_iff]
 simp only [Bool.or_eq_true,decide_eq_true_eq]
 by_cases hV:18446744073709551616≤V
 ·simp only [hV,true_or,true_iff];omega
 ·rw [Nat.mod_eq_of_lt (show V<18446744073709551616 by omega)]
  omega
set_option maxHeartbeats 4000000 in
theorem MU (l:List UInt8) (hl:l.length≤1000000):Pu Tryz.prog 183 [.str l] (iS l):=by
  have q1:True:=trivial
  have q2:True:=trivial
  have q3:True:=trivial
  have q4:True:=trivial
  have q5:True:=trivial
  have q6:True:=trivial
  have q7:True:=trivial
  have hw:True:=trivial
  have hd:True:=trivial
  have e1:True:=trivial
  have e2:True:=trivial
  have e3:True:=trivial
  have e4:True:=trivial
  have e5:True:=trivial
  by_cases hnil:l= []
  · subst hnil
    have q1:(([]:List UInt8) == [])=true:=rfl
    have e:iS []= .tup [.int .u64 0, .bool false, .bool false]:=rfl
    rw [e]
    (refine al qQ Gn fun σ=>?_;simp only [qQ,↓R1,RR,Nat.reduceEqDiff,reduceCtorEq])
    skip
    (refine ak (ag ?_))
    (simp only [an,RR,Nat.reduceEqDiff])
  · obtain ⟨c,m,e⟩:∃ c m,l=c::m:=by
      cases l with
      | nil=>exact (hnil rfl).elim
      | cons c m=>exact ⟨c,m,rfl⟩
    have q1:(l == [])=false:=Q7
    have hd:l[0]? =some c:=Q7
    have hl1:0<l.length:=by rw [e];simp
    by_cases h20:20<l.length
    · have q2:decide ((20:Int)<(l.length:Int))=true:=by rw [decide_eq_true_eq];omega
      have e:iS l= .tup [.int .u64 0, .bool false, .bool false]:=by
        have:decide (l.length≤20)=false:=Qs
        rw [iS,gf,this];rfl
      rw [e]
      (refine al qQ Gn fun σ=>?_;simp only [qQ,↓R1,RR,Nat.reduceEqDiff,reduceCtorEq,q1,q2,hd])
      skip
      (refine ak (ag ?_))
      (simp only [an,RR,Nat.reduceEqDiff])
    · have q2:decide ((20:Int)<(l.length:Int))=false:=by rw [decide_eq_false_iff_not];omega
      have hd20:decide (l.length≤20)=true:=Qf
      have q3:((c.toNat:Int) == 48)=decide (c=48):=oa c 48
      have hfo:jE l= !(decide (c=48)&&decide ((1:Int)<(l.length:Int))):=by
        rw [e]
        show (!(c == 48&& !m.isEmpty))=_
        have h1:(c == 48)=decide (c=48):=by rw [Bool.eq_iff_iff];simp
        have h2:(!m.isEmpty)=decide ((1:Int)<((c::m).length:Int)):=by
          cases m with
          | nil=>rfl
          | cons x m=>rw [Bool.eq_iff_iff];simp;omega
        rw [h1,h2]
      by_cases hz:(decide (c=48)&&decide ((1:Int)<(l.length:Int)))=true
      · have e:iS l= .tup [.int .u64 0, .bool false, .bool false]:=by
          rw [iS,gf,hfo,hz];simp
        rw [Bool.and_eq_true] at hz
        have q4:=hz.1
        have q5:=hz.2
        rw [e]
        (refine al qQ Gn fun σ=>?_;simp only [qQ,↓R1,RR,Nat.reduceEqDiff,reduceCtorEq,q1,q2,q3,q4,q5,hd])
        repeat' (with_reducible refine And.intro ?_ ?_;exact af)
        all_goals first|omega|skip
        (refine ak (ag ?_))
        (simp only [an,RR,Nat.reduceEqDiff])
      · have q4:(decide (c=48)&&decide ((1:Int)<(l.length:Int)))=false:=by simpa using hz
        have q5:(decide ((1:Int)<(l.length:Int))&&decide (c=48))=false:=by rw [Bool.and_comm];exact q4
        have hno:jE l=true:=by rw [hfo,q4];rfl
        have hnv:iS l=bif l.all fa then .tup [.int .u64 ((bO l % 18446744073709551616:Nat):Int), .bool (decide (18446744073709551616≤bO l)), .bool true] else .tup [.int .u64 0, .bool false, .bool false]:=by
          rw [iS,gf,hno,hd20,Bool.true_and,Bool.true_and]
        rw [hnv]
        (refine al qQ Gn fun σ=>?_;simp only [qQ,↓R1,RR,Nat.reduceEqDiff,reduceCtorEq,q1,q2,q3,q5,hd])
        repeat' (with_reducible refine And.intro ?_ ?_;exact af)
        all_goals first|omega|(rw [q4];done)|skip
        clear hd
        refine aS l.length (fun k=> [(0, .str l),(5, .int .u64 ((bO (l.take k) % 18446744073709551616:Nat):Int)),(6, .bool (decide (18446744073709551616≤bO (l.take k)))),(7, .int .i64 (k:Nat))]) (fun _=>σ) (fun k=>(l.take k).all fa=true) (by simp [aq,slot,ae,bO]) (St.le_refl _) Qd (fun k hk hI=>?_)
        by_cases hlt:k<l.length
        · have q6:decide ((k:Int)<(l.length:Int))=true:=by rw [decide_eq_true_eq];omega
          have hd:=byte_at l hlt
          have hw:IntKind.i64.wrap ((k:Int)+1)=((k+1:Nat):Int):=P9
          cases hb:fa l[k] with
          | true =>
            have q7:(decide ((l[k].toNat:Int)<48)||decide ((57:Int)<(l[k].toNat:Int)))=false:=by
              simp only [fa,Bool.not_eq_true'] at hb;exact hb
            obtain ⟨d1,d2,d3⟩:=xx hb
            have e1:=GV d2
            have e2:=MS (18446744073709551615 - (l[k].toNat - 48))
            have e3:=MT (bO (l.take k))
            have e4:=tR (bO (l.take k)) (l[k].toNat - 48)
            have e5:=d1
            have q5:=d3
            have hg:=zY (bO (l.take k)) (l[k].toNat - 48) d2
            have hv:=qa l hlt
            have hstep:(l.take (k+1)).all fa=true:=by rw [jD _ _ hlt,hI,hb];rfl
            simp only [↓R1,RR,Nat.reduceEqDiff,reduceCtorEq,q5,q6,q7,hd,e1,e2,e5]
            repeat' (first|(with_reducible refine And.intro ?_ ?_;exact af)|(with_reducible apply And.intro)|((refine ar (fun hc=>?_) (fun hc=>?_))<;>(try simp only [↓R1,RR,Nat.reduceEqDiff,reduceCtorEq,hw,e3,e4])))
            all_goals first|omega|exact hstep|exact St.le_refl _|skip
            all_goals (rw [hv,←hg];simp only [hc,Bool.or_true,Bool.or_false];simp [aq,slot,ae])
          | false =>
            have q7:(decide ((l[k].toNat:Int)<48)||decide ((57:Int)<(l[k].toNat:Int)))=true:=by
              simp only [fa,Bool.not_eq_false'] at hb;exact hb
            have hall:l.all fa=false:=by
              rw [←Bool.not_eq_true,List.all_eq_true]
              intro h
              have:=h l[k] (List.getElem_mem hlt)
              rw [hb] at this;cases this
            rw [hall]
            simp only [↓R1,RR,Nat.reduceEqDiff,reduceCtorEq,q6,q7,hd]
            repeat' (with_reducible refine And.intro ?_ ?_;exact af)
            all_goals first|omega|skip
            (refine ak (ag ?_))
            (simp only [an,RR,Nat.reduceEqDiff])
            all_goals rfl
        · have hke:k=l.length:=by omega
          subst hke
          have q6:decide ((l.length:Int)<(l.length:Int))=false:=Qd
          rw [List.take_length] at hI ⊢
          rw [hI]
          simp only [↓R1,RR,Nat.reduceEqDiff,reduceCtorEq,q6]
          skip
          (refine ak (ag ?_))
          (simp only [an,RR,Nat.reduceEqDiff])
          all_goals rfl
def zZ (q:Bool) (t:List UInt8) (lo hi:Int):AV :=
 bif q|| !dr t then .tup [.int .u64 0, .int .i64 3]
 else bif (decide (18446744073709551616≤bO t)||decide (((bO t % 18446744073709551616:Nat):Int)<lo))||decide (hi<((bO t % 18446744073709551616:Nat):Int)) then .tup [.int .u64 0, .int .i64 2]
 else .tup [.int .u64 ((bO t % 18446744073709551616:Nat):Int), .int .i64 0]
def rnN (l:List UInt8):Int:=bif dr l then ((bO l % 18446744073709551616:Nat):Int) else 0
def rnG (l:List UInt8):Bool:=dr l&&decide (18446744073709551616≤bO l)
theorem ng (l:List UInt8):iS l= .tup [.int .u64 (rnN l), .bool (rnG l), .bool (dr l)]:=by
 unfold iS rnN rnG;cases dr l<;>rfl
theorem xy (q:Bool) (t:List UInt8) (lo hi:Int):zZ q t lo hi=bif !dr t||q then .tup [.int .u64 0, .int .i64 3] else bif (rnG t||decide (rnN t<lo))||decide (hi<rnN t) then .tup [.int .u64 0, .int .i64 2] else .tup [.int .u64 (rnN t), .int .i64 0]:=by
 unfold zZ rnN rnG;cases dr t<;>cases q<;>rfl
set_option maxHeartbeats 2000000 in
theorem Px (q:Bool) (t:List UInt8) (a lo hi:Int) (hl:t.length≤1000000):Pu Tryz.prog 225 [.agg [.bool q, .str t, .int .i64 a], .int .u64 lo, .int .u64 hi] (zZ q t lo hi):=by
 have hp:=MR t hl
 rw [ng] at hp
 (refine al Ju N5 fun σ=>?_;simp only [Ju,↓R1,RR,Nat.reduceEqDiff,Nat.reduceAdd,Nat.reduceLT,reduceCtorEq])
 repeat' ((first|(refine ar (fun hc=>?_) (fun hc=>?_))|(with_reducible intro β hβ;(try simp only [RB] at hβ);(repeat (obtain ⟨⟨_,_⟩,hβ⟩:=hβ));(try (have hbis:=aj Qa hβ;obtain ⟨_,_⟩:=hbis)))|(refine Pt (hp) ?_))<;>(try simp only [↓R1,RR,Nat.reduceEqDiff,Nat.reduceAdd,Nat.reduceLT]))
 all_goals (refine ak (ag ?_))
 all_goals (simp only [an,RR,Nat.reduceEqDiff])
 all_goals simp only [xy, *,cond_true,cond_false]
set_option maxHeartbeats 2000000 in
theorem Py (q:Bool) (t:List UInt8) (a lo hi:Int) (hl:t.length≤1000000):Pu Tryz.prog 129 [.agg [.bool q, .str t, .int .i64 a], .int .u64 lo, .int .u64 hi] (zZ q t lo hi):=by
 have hp:=MU t hl
 rw [ng] at hp
 (refine al I3 NF fun σ=>?_;simp only [I3,↓R1,RR,Nat.reduceEqDiff,Nat.reduceAdd,Nat.reduceLT,reduceCtorEq])
 repeat' ((first|(refine ar (fun hc=>?_) (fun hc=>?_))|(with_reducible intro β hβ;(try simp only [RB] at hβ);(repeat (obtain ⟨⟨_,_⟩,hβ⟩:=hβ));(try (have hbis:=aj Qa hβ;obtain ⟨_,_⟩:=hbis)))|(refine Pt (hp) ?_))<;>(try simp only [↓R1,RR,Nat.reduceEqDiff,Nat.reduceAdd,Nat.reduceLT]))
 all_goals (refine ak (ag ?_))
 all_goals (simp only [an,RR,Nat.reduceEqDiff])
 all_goals simp only [xy,Bool.or_comm (!dr t) q, *,cond_true,cond_false]
def eW (t:List UInt8):Bool:=match t with
 | c::_=>decide (c=45)
 | []=>false
def bZ (t:List UInt8):List UInt8:=bif eW t then t.drop 1 else t
theorem Pz (t:List UInt8) (hl:t.length≤1000000):Pu Tryz.prog 288 [.str t, .str [45]] (.bool (eW t)):=by
  cases t with
  | nil =>
    (refine al C3 Mn fun σ=>?_;simp only [C3,↓R1,RR,Nat.reduceEqDiff,Nat.reduceAdd,reduceCtorEq])
    repeat' (with_reducible apply And.intro)
    all_goals first|(intro h;simp at h;done)|skip
    (refine ak (ag ?_))
    (simp only [an,RR,Nat.reduceEqDiff,reduceCtorEq])
    rfl
  | cons c r =>
    (refine al C3 Mn fun σ=>?_;simp only [C3,↓R1,RR,Nat.reduceEqDiff,Nat.reduceAdd,reduceCtorEq])
    repeat' (with_reducible refine And.intro ?_ ?_;exact af)
    all_goals first|(intro h;simp at h;done)|skip
    (refine ak (ag ?_))
    (simp only [an,RR,Nat.reduceEqDiff,reduceCtorEq])
    refine congrArg AV.bool ?_
    rw [Bool.eq_iff_iff]
    simp [eW]
    omega
theorem PA (t:List UInt8) (hl:t.length≤1000000):Pu Tryz.prog 274 [.str t, .str [45]] (.tup [.str (bZ t), .bool (eW t)]):=by
  have hp:=Pz t hl
  cases hn:eW t with
  | false =>
    rw [hn] at hp
    (refine al C2 Mm fun σ=>?_;simp only [C2,↓R1,RR,Nat.reduceEqDiff,Nat.reduceAdd,reduceCtorEq])
    repeat' ((refine Pt (hp) ?_)<;>(try simp only [↓R1,RR,Nat.reduceEqDiff,reduceCtorEq]))
    (refine ak (ag ?_))
    (simp only [an,RR,Nat.reduceEqDiff,reduceCtorEq])
    simp [bZ,hn]
  | true =>
    rw [hn] at hp
    have hl1:1≤t.length:=by
      cases t with
      | nil=>simp [eW] at hn
      | cons c r=>simp
    (refine al C2 Mm fun σ=>?_;simp only [C2,↓R1,RR,Nat.reduceEqDiff,Nat.reduceAdd,reduceCtorEq])
    repeat' (first|(with_reducible refine And.intro ?_ ?_;exact af)|((refine Pt (hp) ?_)<;>(try simp only [↓R1,RR,Nat.reduceEqDiff,reduceCtorEq])))
    all_goals first|omega|skip
    (refine ak (ag ?_))
    (simp only [an,RR,Nat.reduceEqDiff,reduceCtorEq])
    have e:(t.drop 1).take (t.length - 1)=t.drop 1:=List.take_of_length_le Qd
    simp only [e,bZ,hn,cond_true]
theorem PB (t:List UInt8) (hl:t.length≤1000000):Pu Tryz.prog 249 [.str t, .str [45]] (.tup [.str (bZ t), .bool (eW t)]):=by
 (refine al JE Oh fun σ=>?_;simp only [JE,↓R1,RR,Nat.reduceEqDiff,Nat.reduceAdd,reduceCtorEq])
 repeat' ((refine Pt (PA t hl) ?_)<;>(try simp only [↓R1,RR,Nat.reduceEqDiff,Nat.reduceAdd,Nat.reduceLT,reduceCtorEq]))
 (refine ak (ag ?_))
 (simp only [an,RR,Nat.reduceEqDiff,reduceCtorEq])
theorem DN (l:List UInt8) (v:Nat):v≤l.foldl (fun v b=>10*v+(b.toNat - 48)) v:=by
 induction l generalizing v with
 | nil=>exact Nat.le_refl _
 | cons b l ih=>exact Nat.le_trans P6 (ih (10*v+(b.toNat - 48)))
theorem z7 {l:List UInt8} (h:dr l=true):decide (bO l=0)=(l == [48]):=by
  rw [gf] at h
  simp only [Bool.and_eq_true] at h
  obtain ⟨⟨_,h1⟩,h2⟩:=h
  cases l with
  | nil=>cases h1
  | cons c r =>
    have hc:=qb.1 (List.all_eq_true.1 h2 c Qd)
    cases r with
    | nil =>
      rw [Bool.eq_iff_iff]
      simp only [decide_eq_true_eq,beq_iff_eq,List.cons.injEq,and_true]
      show 10*0+(c.toNat - 48)=0↔_
      rw [←UInt8.toNat_inj]
      show _↔c.toNat=48
      omega
    | cons d r =>
      have h48:c≠48:=by
        rintro rfl
        simp [jE] at h1
      have h49:c.toNat≠48:=fun e=>h48 (UInt8.toNat_inj.1 e)
      have hg:=DN (d::r) (10*0+(c.toNat - 48))
      have hv:bO (c::d::r)=(d::r).foldl (fun v b=>10*v+(b.toNat - 48)) (10*0+(c.toNat - 48)):=rfl
      have h0:decide (bO (c::d::r)=0)=false:=by rw [decide_eq_false_iff_not,hv];omega
      rw [h0,eq_comm,←Bool.not_eq_true,beq_iff_eq]
      simp
def qc (q:Bool) (t:List UInt8):AV :=
 bif (q|| !dr (bZ t))||(eW t&&decide (bO (bZ t)=0)) then .tup [.int .i64 0, .int .i64 3]
 else bif (decide (18446744073709551616≤bO (bZ t))||decide (9223372036854775808<bO (bZ t)))||(decide (bO (bZ t)=9223372036854775808)&& !eW t) then .tup [.int .i64 0, .int .i64 2]
 else .tup [.int .i64 (bif eW t then -((bO (bZ t):Nat):Int) else ((bO (bZ t):Nat):Int)), .int .i64 0]
theorem tT (q:Bool) (t:List UInt8):qc q t=bif (!dr (bZ t)||q)||(eW t&&(rnN (bZ t) == 0)&& !rnG (bZ t)) then .tup [.int .i64 0, .int .i64 3] else bif (rnG (bZ t)||decide (9223372036854775808<rnN (bZ t)))||((rnN (bZ t) == 9223372036854775808)&& !eW t) then .tup [.int .i64 0, .int .i64 2] else .tup [.int .i64 (bif eW t then -(rnN (bZ t)) else rnN (bZ t)), .int .i64 0]:=by
 unfold qc rnN rnG
 generalize bO (bZ t)=V
 cases dr (bZ t)
 ·simp
 by_cases hg:18446744073709551616≤V
 ·have h0:decide (V=0)=false:=by rw [decide_eq_false_iff_not];omega
  simp [hg,h0]
 ·have e:V % 18446744073709551616=V:=Nat.mod_eq_of_lt P6
  have e1:((V:Int) == 0)=decide (V=0):=by rw [Bool.eq_iff_iff];simp
  have e2:decide ((9223372036854775808:Int)<(V:Int))=decide (9223372036854775808<V):=QG
  have e3:((V:Int) == 9223372036854775808)=decide (V=9223372036854775808):=QG
  simp only [cond_true,e,e1,e2,e3,Bool.not_true,Bool.false_or,Bool.true_and,show decide (18446744073709551616≤V)=false from decide_eq_false hg,Bool.not_false,Bool.and_true,Bool.or_comm q]
theorem HJ (l:List UInt8):0≤rnN l∧rnN l<18446744073709551616∧(dr l=false→rnN l=0∧rnG l=false):=by
 unfold rnN rnG;cases dr l<;>simp<;>omega
theorem DO {N:Int} (h:0≤N∧N≤9223372036854775808):IntKind.i64.wrap (0 - IntKind.i64.wrap N)= -N:=by
 simp [IntKind.wrap,IntKind.signed,IntKind.bits];omega
theorem Aa {N:Int} (h:1≤N∧N≤9223372036854775808):IntKind.i64.wrap (IntKind.i64.wrap (0 - IntKind.i64.wrap (IntKind.u64.wrap (N - 1))) - 1)= -N:=by
 simp [IntKind.wrap,IntKind.signed,IntKind.bits];omega
set_option maxHeartbeats 8000000 in
theorem PC (q:Bool) (t:List UInt8) (a:Int) (hl:t.length≤1000000):Pu Tryz.prog 206 [.agg [.bool q, .str t, .int .i64 a]] (qc q t):=by
 have hal:(bZ t).length≤1000000:=by
  unfold bZ
  cases eW t<;>simp<;>omega
 have hcp:=PB t hl
 have hp:=MR (bZ t) hal
 rw [ng] at hp
 rw [tT]
 obtain ⟨h1,h2,h3⟩:=HJ (bZ t)
 generalize rnN (bZ t)=N at *
 generalize rnG (bZ t)=G at *
 generalize dr (bZ t)=K at *
 generalize eW t=n at *
 have q1:True:=trivial
 have q2:True:=trivial
 have q3:True:=trivial
 have leaf:K=false∨(K=true∧q=true)∨(K=true∧q=false∧G=true)∨(K=true∧q=false∧G=false∧n=true∧(N == 0)=true)∨(K=true∧q=false∧G=false∧n=true∧(N == 0)=false∧decide (9223372036854775808<N)=true)∨(K=true∧q=false∧G=false∧n=true∧(N == 0)=false∧decide (9223372036854775808<N)=false) ∨
   (K=true∧q=false∧G=false∧n=false∧decide (9223372036854775808<N)=true)∨(K=true∧q=false∧G=false∧n=false∧decide (9223372036854775808<N)=false∧(N == 9223372036854775808)=true)∨(K=true∧q=false∧G=false∧n=false∧decide (9223372036854775808<N)=false∧(N == 9223372036854775808)=false):=by
  cases K<;>cases q<;>cases G<;>cases n<;>simp<;>omega
 rcases leaf with rfl|⟨rfl,rfl⟩|⟨rfl,rfl,rfl⟩|⟨rfl,rfl,rfl,rfl,q1⟩|⟨rfl,rfl,rfl,rfl,q1,q2⟩|⟨rfl,rfl,rfl,rfl,q1,q2⟩|⟨rfl,rfl,rfl,rfl,q2⟩|⟨rfl,rfl,rfl,rfl,q2,q3⟩|⟨rfl,rfl,rfl,rfl,q2,q3⟩
 all_goals
  (refine al Jt N4 fun σ=>?_;simp only [Jt,↓R1,RR,Nat.reduceEqDiff,Nat.reduceAdd,Nat.reduceLT,reduceCtorEq,q1,q2,q3])
  repeat' ((first|(with_reducible intro β hβ;(try simp only [RB] at hβ);(repeat (obtain ⟨⟨_,_⟩,hβ⟩:=hβ));(try (have hbis:=aj Qa hβ;obtain ⟨_,_⟩:=hbis)))|(refine Pt (hcp) ?_)|(refine Pt (hp) ?_))<;>(try simp only [↓R1,RR,Nat.reduceEqDiff,Nat.reduceAdd,Nat.reduceLT,reduceCtorEq,q1,q2,q3]))
  all_goals (refine ak (ag ?_))
  all_goals (simp only [an,RR,Nat.reduceEqDiff])
  all_goals (try simp at q2 q3;first|rw [DO P6]|rw [wrap64 P6 P6])
set_option maxHeartbeats 8000000 in
theorem PD (q:Bool) (t:List UInt8) (a:Int) (hl:t.length≤1000000):Pu Tryz.prog 159 [.agg [.bool q, .str t, .int .i64 a]] (qc q t):=by
  have hneg:(decide ((0:Int)<(t.length:Int))&&(((t[0]?).getD 0).toNat:Int) == 45)=eW t:=by
    cases t with
    | nil=>rfl
    | cons c r =>
      have:=oa c 45
      simp only [List.length_cons,List.getElem?_cons_zero,Option.getD_some,eW]
      rw [show ((c.toNat:Int) == 45)=decide (c=45) from this]
      have h0:decide ((0:Int)<((r.length+1:Nat):Int))=true:=Qf
      rw [h0];rfl
  have hlen:eW t=true→1≤t.length:=fun h=>by
    cases t with
    | nil=>cases h
    | cons c r=>simp
  have habs:eW t=true→List.take (t.length - Int.toNat 1) (List.drop (Int.toNat 1) t)=bZ t:=fun h=>by
    rw [bZ,h,cond_true];exact List.take_of_length_le Qd
  have habs2:eW t=false→bZ t=t:=fun h=>by rw [bZ,h];rfl
  have hal:(bZ t).length≤1000000:=by
    unfold bZ
    cases eW t<;>simp<;>omega
  have hp:=MU (bZ t) hal
  rw [ng] at hp
  rw [tT]
  obtain ⟨h1,h2,h3⟩:=HJ (bZ t)
  have h4:dr (bZ t)=true→((bZ t) == [48])=((rnN (bZ t) == 0)&& !rnG (bZ t)):=fun h=>by
    rw [←z7 h,rnN,rnG,h,cond_true,Bool.eq_iff_iff];simp;omega
  generalize rnN (bZ t)=N at *
  generalize rnG (bZ t)=G at *
  generalize dr (bZ t)=K at *
  have q1:True:=trivial
  have q2:True:=trivial
  have q3:True:=trivial
  have q6:=hneg
  have q7:(eW t=false→bZ t=t)∧(eW t=true→(t.drop (Int.toNat 1)).take (t.length - Int.toNat 1)=bZ t):=⟨habs2,habs⟩
  have hl2:=hlen
  generalize eW t=n at *
  generalize bZ t=s at *
  obtain ⟨b,q4⟩:∃ b,(s == [48])=b:=⟨_,rfl⟩
  rw [q4] at h4
  have leaf:(n=false∧K=false)∨(n=false∧K=true∧q=true)∨(n=false∧K=true∧q=false∧G=true)∨(n=false∧K=true∧q=false∧G=false∧decide (9223372036854775808<N)=true)∨(n=false∧K=true∧q=false∧G=false∧decide (9223372036854775808<N)=false∧(N == 9223372036854775808)=true)∨(n=false∧K=true∧q=false∧G=false∧decide (9223372036854775808<N)=false∧(N == 9223372036854775808)=false) ∨
      (n=true∧K=false)∨(n=true∧K=true∧q=true)∨(n=true∧K=true∧q=false∧b=true∧G=false∧(N == 0)=true)∨(n=true∧K=true∧q=false∧b=false∧G=true)∨(n=true∧K=true∧q=false∧b=false∧G=false∧(N == 0)=false∧decide (9223372036854775808<N)=true)∨(n=true∧K=true∧q=false∧b=false∧G=false∧(N == 0)=false∧decide (9223372036854775808<N)=false):=by
    cases K<;>cases q<;>cases G<;>cases n<;>cases b<;>simp at h4 ⊢ <;>omega
  rcases leaf with ⟨rfl,rfl⟩|⟨rfl,rfl,rfl⟩|⟨rfl,rfl,rfl,rfl⟩|⟨rfl,rfl,rfl,rfl,q2⟩|⟨rfl,rfl,rfl,rfl,q2,q3⟩|⟨rfl,rfl,rfl,rfl,q2,q3⟩|⟨rfl,rfl⟩|⟨rfl,rfl,rfl⟩|⟨rfl,rfl,rfl,rfl,rfl,q1⟩|⟨rfl,rfl,rfl,rfl,rfl⟩|⟨rfl,rfl,rfl,rfl,rfl,q1,q2⟩|⟨rfl,rfl,rfl,rfl,rfl,q1,q2⟩
  all_goals
    simp only [true_implies,false_implies,Bool.false_eq_true,Bool.true_eq_false,and_true,true_and] at q7 hl2
    (try rw [q7] at hp)
    (refine al Ja NM fun σ=>?_;simp only [Ja,↓R1,RR,Nat.reduceEqDiff,Nat.reduceAdd,Nat.reduceLT,reduceCtorEq,q1,q2,q3,q6,q7])
    repeat' (first|(with_reducible refine And.intro ?_ ?_;exact af)|(with_reducible apply And.intro)|((first|(with_reducible intro β hβ;(try simp only [RB] at hβ);(repeat (obtain ⟨⟨_,_⟩,hβ⟩:=hβ));(try (have hbis:=aj Qa hβ;obtain ⟨_,_⟩:=hbis)))|(refine Pt (hp) ?_))<;>(try simp only [↓R1,RR,Nat.reduceEqDiff,Nat.reduceAdd,Nat.reduceLT,reduceCtorEq,q2,q3,q4])))
    all_goals first|exact fun h=>⟨by omega,of_decide_eq_true h⟩|omega|skip
    all_goals (refine ak (ag ?_))
    all_goals (simp only [an,RR,Nat.reduceEqDiff])
    all_goals (try simp at q1 q2 q3;first|rw [Aa P6]|rw [wrap64 P6 P6])
def dc (t:List UInt8):List (List UInt8)→Nat→Option Nat
 | [],_=>none
 | n::l,i=>bif n == t then some i else dc t l (i+1)
def oj (q:Bool) (t:List UInt8) (l:List (List UInt8)):AV :=
 match (bif q then none else dc t l 0) with
 | some i=> .tup [.int .i64 (i:Nat), .int .i64 0]
 | none=> .tup [.int .i64 0, .int .i64 7]
theorem jk (t:List UInt8) (l:List (List UInt8)) {k:Nat} (h:k<l.length) (j:Nat):dc t (l.drop k) j=bif l[k] == t then some j else dc t (l.drop (k+1)) (j+1):=by
 rw [List.drop_eq_getElem_cons h];rfl
set_option maxHeartbeats 2000000 in
theorem p64 (q:Bool) (t:List UInt8) (a:Int) (l:List (List UInt8)) (hl:l.length≤1000):Pu Tryz.prog 64 [.agg [.bool q, .str t, .int .i64 a], .sl false l.length (l.map AV.str)] (oj q t l):=by
  have q1:True:=trivial
  have q2:True:=trivial
  have hw:True:=trivial
  have hd:True:=trivial
  (refine al c64 b64 fun σ=>?_;simp only [c64,↓R1,RR,seval])
  intro β hβ
  refine aS l.length (fun k=> [(1, .sl false l.length (l.map AV.str)),(2, .ptr β 0),(6, .int .i64 (k:Nat))]) (fun _=>σ.aa β [.bool q, .str t, .int .i64 a]) (fun k=>(bif q then none else dc t l 0)=(bif q then none else dc t (l.drop k) k)) Qi (St.le_refl _) Qd (fun k hk hI=>?_)
  by_cases hlt:k<l.length
  · have q1:decide ((k:Int)<(l.length:Int))=true:=by rw [decide_eq_true_eq];omega
    have hd:=kW l hlt
    have hw:IntKind.i64.wrap ((k:Int)+1)=((k+1:Nat):Int):=P9
    rw [jk t l hlt] at hI
    cases q with
    | true =>
      rw [oj];simp only [cond_true]
      simp only [↓R1,RR,seval,q1]
      skip
      refine ak (ag QN) Qp (St.aB (St.le_refl _) hβ)
    | false =>
      cases he:l[k] == t with
      | true =>
        rw [he] at hI
        simp only [cond_true,cond_false] at hI
        have q2:=he
        rw [oj];simp only [cond_false];rw [hI]
        simp only [↓R1,RR,seval,q1,q2,hd]
        repeat' (with_reducible refine And.intro ?_ ?_;exact af)
        all_goals first|(rw [List.length_map];omega)|skip
        refine ak (ag QN) Qp (St.aB (St.le_refl _) hβ)
      | false =>
        rw [he] at hI
        have q2:=he
        simp only [↓R1,RR,seval,q1,q2,hw,hd]
        repeat' (first|(with_reducible refine And.intro ?_ ?_;exact af)|(with_reducible apply And.intro))
        all_goals first|(rw [List.length_map];omega)|skip
        · simpa using hI
        · simp [aq,slot,ae]
        · exact St.le_refl _
  · have hke:k=l.length:=by omega
    subst hke
    have q1:decide ((l.length:Int)<(l.length:Int))=false:=Qd
    rw [List.drop_length] at hI
    rw [oj,hI]
    have e:(bif q then none else dc t [] l.length)=none:=by cases q<;>rfl
    rw [e]
    simp only [↓R1,RR,seval,q1]
    skip
    refine ak (ag QN) Qp (St.aB (St.le_refl _) hβ)
theorem GW (b:UInt8):Pu Tryz.prog 157 [.int .u8 b.toNat] (.bool (aH b)):=by
 (refine al JZ OF fun σ=>?_;simp only [JZ,↓R1,RR,seval])
 skip
 all_goals (refine ak (ag ?_))
 all_goals (simp only [an,RR,seval])
 all_goals rfl
theorem p98 (e a:Int):Pu Tryz.prog 98 [.int .i64 e, .int .i64 a] (.agg [.int .i64 e, .int .i64 a]):=by
 (refine al c98 b98 fun σ=>?_;simp only [c98,↓R1,RR,seval])
 repeat' (first|(with_reducible rw [ah])|((with_reducible intro β hβ;(try simp only [RB] at hβ);(repeat (obtain ⟨⟨_,_⟩,hβ⟩:=hβ));(try (have hbis:=aj Qa hβ;obtain ⟨_,_⟩:=hbis)))<;>(try simp only [↓R1,RR,seval])))
 all_goals (refine ak (ag ?_) P8)
 all_goals (simp only [an,RR,seval])
def vV (b:UInt8):Int:=if fA b<16 then fA b else -1
def KF (n:Nat):Int :=
 bif decide ((48:Int)≤n)&&decide ((n:Int)≤57) then IntKind.i64.wrap (IntKind.u8.wrap ((n:Int) - 48))
 else bif decide ((97:Int)≤n)&&decide ((n:Int)≤102) then IntKind.i64.wrap (IntKind.i64.wrap (IntKind.u8.wrap ((n:Int) - 97))+10)
 else bif decide ((65:Int)≤n)&&decide ((n:Int)≤70) then IntKind.i64.wrap (IntKind.i64.wrap (IntKind.u8.wrap ((n:Int) - 65))+10) else -1
theorem DP:((List.range 256).all fun n=>KF n == (let h:=(if 48≤n∧n≤57 then n - 48 else if 97≤n∧n≤102 then n - 87 else if 65≤n∧n≤70 then n - 55 else 16:Nat);if h<16 then (h:Int) else -1))=true:=P7
theorem GX (b:UInt8):KF b.toNat=vV b:=by
 have:=List.all_eq_true.1 DP b.toNat (List.mem_range.2 (kR b))
 exact beq_iff_eq.1 this
theorem MV (b:UInt8):Pu Tryz.prog 277 [.int .u8 b.toNat] (.int .i64 (vV b)):=by
 rw [←GX]
 (refine al C9 Mt fun σ=>?_;simp only [C9,↓R1,RR,seval])
 repeat' ((refine ar (fun hc=>?_) (fun hc=>?_))<;>(try simp only [↓R1,RR,seval]))
 all_goals (refine ak (ag ?_))
 all_goals (simp only [an,RR,seval])
 all_goals simp only [KF, *,cond_true,cond_false]
def gY (l:List UInt8):UInt8 × Bool:=match fK l with
 | some (x,_)=>(x,true)
 | none=>(0,false)
theorem Ab:((List.range 256).all fun k=>IntKind.u8.wrap (IntKind.i64.wrap (IntKind.i64.wrap (16*((k / 16:Nat):Int))+((k % 16:Nat):Int))) == ((UInt8.ofNat k).toNat:Int))=true:=P7
theorem DQ {a b:Nat} (ha:a<16) (hb:b<16):IntKind.u8.wrap (IntKind.i64.wrap (IntKind.i64.wrap (16*(a:Int))+(b:Int)))=((UInt8.ofNat (16*a+b)).toNat:Int):=by
 have:=List.all_eq_true.1 Ab (16*a+b) (List.mem_range.2 P6)
 rw [beq_iff_eq,show (16*a+b) / 16=a by omega,show (16*a+b) % 16=b by omega] at this
 exact this
theorem tU (b:UInt8):decide (vV b<0)= !decide (fA b<16):=by
 unfold vV
 split
 ·rename_i h;simp [h]
 ·rename_i h;simp [h]
theorem xz {b:UInt8} (h:fA b<16):vV b=fA b∧decide (vV b<0)=false:=⟨if_pos h,by rw [tU];simp [h]⟩
theorem xA {b:UInt8} (h:¬ fA b<16):decide (vV b<0)=true:=by rw [tU];simp [h]
theorem PE (s:List UInt8) (k:Nat) (hs:s.length≤1000000) (hk:k≤1000003):Pu Tryz.prog 253 [.str s, .int .i64 k] (.tup [.int .u8 (gY (s.drop k)).1.toNat, .bool (gY (s.drop k)).2]):=by
  have h0:True:=trivial
  have h1:True:=trivial
  have h2:True:=trivial
  have h3:True:=trivial
  have hw2:True:=trivial
  have hw:IntKind.i64.wrap ((k:Int)+2)=((k+2:Nat):Int):=P9
  by_cases hlt:k+2≤s.length
  · have q1:decide ((s.length:Int)<((k+2:Nat):Int))=false:=by rw [decide_eq_false_iff_not];omega
    obtain ⟨a,ha⟩:∃ a,s[k]? =some a:=⟨_,List.getElem?_eq_getElem P6⟩
    obtain ⟨b,hb⟩:∃ b,s[k+1]? =some b:=⟨_,List.getElem?_eq_getElem P6⟩
    have hd:s.drop k=a::b::s.drop (k+2):=by
      obtain ⟨h1,h2⟩:=List.getElem?_eq_some_iff.1 ha
      obtain ⟨h3,h4⟩:=List.getElem?_eq_some_iff.1 hb
      rw [List.drop_eq_getElem_cons h1,h2,List.drop_eq_getElem_cons h3,h4]
    have h0:=ha
    have h1:=hb
    have hw2:IntKind.i64.wrap ((k:Int)+1)=((k+1:Nat):Int):=P9
    have pa:=MV a
    have pb:=MV b
    rw [hd]
    by_cases hA:fA a<16
    · obtain ⟨e1,h2⟩:=xz hA
      by_cases hB:fA b<16
      · obtain ⟨e2,h3⟩:=xz hB
        have e:gY (a::b::s.drop (k+2))=(UInt8.ofNat (16*fA a+fA b),true):=by simp [gY,fK,hA,hB]
        rw [e]
        have e3:=DQ hA hB
        (refine al kK wV fun σ=>?_;simp only [kK,↓R1,RR,seval,q1,h0,hw])
        repeat' (first|(with_reducible refine And.intro ?_ ?_;exact af)|((first|(refine Pt (pa) ?_)|(refine Ct (pa) ?_)|(refine Pt (pb) ?_)|(refine Ct (pb) ?_))<;>(try simp only [↓R1,RR,seval,h0,h1,h2,h3,hw2])))
        all_goals (refine ak (ag ?_))
        all_goals ((simp only [an,RR,seval]))
        all_goals (rw [e1,e2,e3])
      · have h3:=xA hB
        have e:gY (a::b::s.drop (k+2))=(0,false):=by simp [gY,fK,hB]
        rw [e]
        (refine al kK wV fun σ=>?_;simp only [kK,↓R1,RR,seval,q1,h0,hw])
        repeat' (first|(with_reducible refine And.intro ?_ ?_;exact af)|((first|(refine Pt (pa) ?_)|(refine Pt (pb) ?_))<;>(try simp only [↓R1,RR,seval,h1,h2,h3,hw2])))
        all_goals (refine ak (ag ?_))
        all_goals ((simp only [an,RR,seval]))
        all_goals rfl
    · have h2:=xA hA
      have e:gY (a::b::s.drop (k+2))=(0,false):=by simp [gY,fK,hA]
      rw [e]
      (refine al kK wV fun σ=>?_;simp only [kK,↓R1,RR,seval,q1,h0,hw])
      repeat' (first|(with_reducible refine And.intro ?_ ?_;exact af)|((refine Pt (pa) ?_)<;>(try simp only [↓R1,RR,seval,h1,h2,hw2])))
      all_goals all_goals first|omega|exact Nat.le_refl _|assumption|exact St.le_refl _|(exact af)|(simp only [aq,slot,ae,↓R1,RR,seval,q1,h0,h1,h2,h3,hw,hw2];all_goals exact bz)|exact aZ|(simp_all;done)|skip
      all_goals (refine ak (ag ?_))
      all_goals ((simp only [an,RR,seval]))
      all_goals rfl
  · have q1:decide ((s.length:Int)<((k+2:Nat):Int))=true:=by rw [decide_eq_true_eq];omega
    have e:gY (s.drop k)=(0,false):=by
      have:(s.drop k).length≤1:=by rw [List.length_drop];omega
      cases hd:s.drop k with
      | nil=>rfl
      | cons a r =>
        cases r with
        | nil=>rfl
        | cons b r=>rw [hd] at this;simp at this
    rw [e]
    (refine al kK wV fun σ=>?_;simp only [kK,↓R1,RR,seval,q1,hw])
    skip
    all_goals (refine ak (ag ?_))
    all_goals ((simp only [an,RR,seval]))
    all_goals rfl
def u8A (b:UInt8):AV:= .int .u8 b.toNat
theorem dH (l:List UInt8):(l.map u8A).map Go.Abs.byteOf=l:=by
 induction l with
 | nil=>rfl
 | cons c l ih=>simp only [List.map_cons,ih];simp [u8A,Go.Abs.byteOf]
theorem fq (l:List UInt8):(l.map u8A).all isByte=true:=by
  induction l with
  | nil=>rfl
  | cons c l ih =>
    have:=kR c
    simp only [List.map_cons,List.all_cons,ih,Bool.and_true];simp [u8A,isByte]
theorem dn (l:List UInt8) (c:UInt8):l.map u8A++ [.int .u8 c.toNat]=(l++ [c]).map u8A:=by simp [u8A]
def dh (l:List UInt8):List UInt8 × Nat:=match ed l with
 | some (t,r)=>(t,l.length+1 - r.length)
 | none=>([],0)
theorem vW {l:List UInt8} {x:UInt8} {r:List UInt8} (h:fK l=some (x,r)):r=l.drop 2∧2≤l.length:=by
 unfold fK at h
 split at h
 ·split at h
  ·cases h;simp
  ·cases h
 ·cases h
theorem eq_int (c:UInt8) (n:Nat) (hn:n<256):((c.toNat:Int) == (n:Nat))=decide (c=UInt8.ofNat n):=by
 rw [Bool.eq_iff_iff,beq_iff_eq,decide_eq_true_eq]
 constructor
 ·intro h;apply UInt8.toNat.inj;rw [UInt8.toNat_ofNat'];omega
 ·intro h;subst h;rw [UInt8.toNat_ofNat'];omega
theorem mG {c:UInt8} {n:Nat} (hn:n<256) (h:c≠UInt8.ofNat n):((c.toNat:Int) == (n:Nat))=false:=by rw [eq_int c n hn];exact decide_eq_false h
theorem mH (c:UInt8):cv c=(eu c&&((c.toNat:Int) != 34)&&((c.toNat:Int) != 92)):=by
 simp only [cv,eu]
theorem _root_.QO {p:Prop} (h:p:=by have:=congrArg List.length hd;rw [List.length_drop] at this;simp at this;omega):p:=h
set_option maxHeartbeats 4000000 in
theorem PF (x:UInt8) (l:List UInt8) (hs:l.length≤900000):Pu Tryz.prog 215 [.str (x::l)] (.tup [.str (dh l).1, .int .i64 ((dh l).2:Nat)]):=by
  have hl0:(x::l).length=l.length+1:=rfl
  have hd1:(x::l).drop 1=l:=rfl
  generalize hS:x::l=s at hl0 hd1
  have q1:True:=trivial
  have q2:True:=trivial
  have h1:True:=trivial
  have h2:True:=trivial
  have e1:True:=trivial
  have e2:True:=trivial
  have e3:True:=trivial
  have e4:True:=trivial
  have e5:True:=trivial
  have e6:True:=trivial
  have hw:True:=trivial
  have hw2:True:=trivial
  have hw3:True:=trivial
  (refine al Kd OQ fun σ=>?_;simp only [Kd,↓R1,RR,seval])
  refine jz (α:=Nat × List UInt8) 4 5 1 0 [] (fun τ a=> [(0, .str s),(4, .tsl τ a.2.length (a.2.map u8A)),(5, .int .i64 (a.1:Nat))]) (fun τ a=>σ.ai τ (5,1,a.2.length))
    (fun a=>1≤a.1∧a.1≤s.length∧a.2.length≤a.1∧ed l=(ed (s.drop a.1)).map fun q=>(a.2++q.1,q.2)) (fun a=>s.length - a.1) (1,[]) trivial rfl ⟨by simp,by simp;omega,by simp,by rw [hd1];cases ed l<;>simp⟩ (fun τ hτ=>by simp [aq,slot,ae]) (fun τ hτ=>St.le_refl _) ?_
  rintro τ hτ ⟨k,acc⟩ ⟨hk1,hk2,hka,hI⟩
  have htt:(σ.ai τ (5,1,acc.length)).tip τ=some (5,1,acc.length):=QS
  simp only at hk1 hk2 hka hI ⊢
  cases hd:s.drop k with
  | nil =>
    have hke:s.length≤k:=QO
    have q1:decide ((k:Int)<(s.length:Int))=false:=Qs
    have e:dh l=([],0):=by rw [dh,hI,hd];rfl
    rw [e]
    simp only [↓R1,RR,seval,q1]
    skip
    all_goals (refine ak (ag ?_))
    all_goals ((simp only [an,RR,seval]))
  | cons c r =>
    have hlt:k<s.length:=by
      have:=congrArg List.length hd;rw [List.length_drop] at this;simp at this;omega
    have q1:decide ((k:Int)<(s.length:Int))=true:=Qf
    obtain ⟨h1,_,hd1'⟩:=cr hd
    have hrl:r.length=s.length - (k+1):=by rw [←hd1',List.length_drop]
    have hw:IntKind.i64.wrap ((k:Int)+1)=((k+1:Nat):Int):=P9
    have hI2:=hI
    rw [hd,nR] at hI2
    have pr:=GO c
    by_cases hq:c=34
    · rw [if_pos hq] at hI2
      have e1:((c.toNat:Int) == 34)=true:=by rw [hq];rfl
      have e:dh l=(acc,k+1):=by rw [dh,hI2];simp;omega
      rw [e]
      simp only [↓R1,RR,seval,q1,h1,e1,hw,dH,fq,List.length_map]
      repeat' (with_reducible refine And.intro ?_ ?_;exact af)
      all_goals all_goals first|omega|exact Nat.le_refl _|assumption|exact St.le_refl _|(exact af)|(simp only [aq,slot,ae,↓R1,RR,seval,q1,q2,h1,h2,e1,e2,e3,e4,e5,e6,hw,hw2,hw3,dn,dH,fq,List.length_map];all_goals exact bz)|exact aZ|(simp_all;done)|skip
      all_goals (refine ak (ag ?_))
      all_goals ((simp only [an,RR,seval]))
    · rw [if_neg hq] at hI2
      have e1:((c.toNat:Int) == 34)=false:=mG (n:=34) P6 hq
      by_cases hb:c=92
      · rw [if_pos hb] at hI2
        have e2:eu c=true:=by rw [hb];rfl
        have e3:((c.toNat:Int) != 92)=false:=by rw [hb];rfl
        have hw2:IntKind.i64.wrap ((k:Int)+2)=((k+2:Nat):Int):=P9
        have hw3:IntKind.i64.wrap ((k:Int)+4)=((k+4:Nat):Int):=P9
        cases r with
        | nil =>
          have q2:decide (((k+1:Nat):Int)<(s.length:Int))=false:=by
            rw [decide_eq_false_iff_not];simp at hrl;omega
          have e:dh l=([],0):=by rw [dh,hI2];rfl
          rw [e]
          simp only [↓R1,RR,seval,q1,h1,e1]
          repeat' (first|(with_reducible refine And.intro ?_ ?_;exact af)|((refine Pt (pr) ?_)<;>(try simp only [↓R1,RR,seval,q2,e2,e3,hw])))
          all_goals all_goals first|omega|exact Nat.le_refl _|assumption|exact St.le_refl _|(exact af)|(simp only [aq,slot,ae,↓R1,RR,seval,q1,q2,h1,h2,e1,e2,e3,e4,e5,e6,hw,hw2,hw3,dn,dH,fq,List.length_map];all_goals exact bz)|exact aZ|(simp_all;done)|skip
          all_goals (refine ak (ag ?_))
          all_goals ((simp only [an,RR,seval]))
          all_goals rfl
        | cons d r2 =>
          have q2:decide (((k+1:Nat):Int)<(s.length:Int))=true:=by
            rw [decide_eq_true_eq];simp at hrl;omega
          obtain ⟨h2,h2l,hd2⟩:=cr hd1'
          have hrl2:r2.length=s.length - (k+2):=by rw [←hd2,List.length_drop]
          simp only [j8] at hI2
          by_cases hd3:d=34
          · rw [if_neg (by rw [hd3];decide),if_pos (.inl hd3)] at hI2
            have e4:((d.toNat:Int) == 34)=true:=by rw [hd3];rfl
            simp only [↓R1,RR,seval,q1,h1,e1]
            repeat' (first|(with_reducible refine And.intro ?_ ?_;exact af)|((first|((first|refine bI (.inr rfl) rfl ?_ ?_ ?_ ?_ ?_ ?_|refine br rfl ?_ ?_ ?_ ?_ ?_ ?_);(first|rfl|exact St.bn _ _ _|simp only [↓R1,RR,seval,q1,q2,h1,h2,e1,e2,e3,e4,e5,e6,hw,hw2,hw3,dn,dH,fq,List.length_map]);(iterate 2 (first|omega|(simp only [RZ];first|done|omega)|rfl));(unfold maxLen;omega);omega)|(refine Pt (pr) ?_))<;>(try simp only [↓R1,RR,seval,q2,h2,e2,e3,e4,hw,hw2,dn])))
            all_goals all_goals first|omega|exact Nat.le_refl _|assumption|exact St.le_refl _|(exact af)|(simp only [aq,slot,ae,RR,seval];all_goals exact bz)|exact aZ|(simp_all;done)|skip
            refine ⟨(k+2,acc++ [d]),⟨by simp,by simp;omega,by simp;omega,?_⟩,?_,?_,by simp;omega⟩
            · simp only [hI2,hd2];generalize ed r2=z;cases z<;>simp
            · simp only [List.length_append,List.length_singleton];simp [aq,slot,ae];try exact ae _
            · simp only [List.length_append,List.length_singleton];exact St.le_refl _
          · have e4:((d.toNat:Int) == 34)=false:=mG (n:=34) P6 hd3
            by_cases hd4:d=92
            · rw [if_neg (by rw [hd4];decide),if_pos (.inr hd4)] at hI2
              have e5:((d.toNat:Int) == 92)=true:=by rw [hd4];rfl
              simp only [↓R1,RR,seval,q1,h1,e1]
              repeat' (first|(with_reducible refine And.intro ?_ ?_;exact af)|((first|((first|refine bI (.inr rfl) rfl ?_ ?_ ?_ ?_ ?_ ?_|refine br rfl ?_ ?_ ?_ ?_ ?_ ?_);(first|rfl|exact St.bn _ _ _|simp only [↓R1,RR,seval,q1,q2,h1,h2,e1,e2,e3,e4,e5,e6,hw,hw2,hw3,dn,dH,fq,List.length_map]);(iterate 2 (first|omega|(simp only [RZ];first|done|omega)|rfl));(unfold maxLen;omega);omega)|(refine Pt (pr) ?_))<;>(try simp only [↓R1,RR,seval,q2,h2,e2,e3,e4,e5,hw,hw2,dn])))
              all_goals all_goals first|omega|exact Nat.le_refl _|assumption|exact St.le_refl _|(exact af)|(simp only [aq,slot,ae,RR,seval];all_goals exact bz)|exact aZ|(simp_all;done)|skip
              refine ⟨(k+2,acc++ [d]),⟨by simp,by simp;omega,by simp;omega,?_⟩,?_,?_,by simp;omega⟩
              · simp only [hI2,hd2];generalize ed r2=z;cases z<;>simp
              · simp only [List.length_append,List.length_singleton];simp [aq,slot,ae];try exact ae _
              · simp only [List.length_append,List.length_singleton];exact St.le_refl _
            · have e5:((d.toNat:Int) == 92)=false:=mG (n:=92) P6 hd4
              by_cases hd5:d=120
              · rw [if_pos hd5] at hI2
                have e6:((d.toNat:Int) == 120)=true:=by rw [hd5];rfl
                have pp:=PE s (k+2) P6 P6
                rw [hd2] at pp
                cases hp:fK r2 with
                | none =>
                  have hv:gY r2=(0,false):=by rw [gY,hp]
                  rw [hv] at pp
                  have e:dh l=([],0):=by rw [dh,hI2,hp];rfl
                  rw [e]
                  simp only [↓R1,RR,seval,q1,h1,e1]
                  repeat' (first|(with_reducible refine And.intro ?_ ?_;exact af)|((first|(refine Pt (pr) ?_)|(refine Pt (pp) ?_))<;>(try simp only [↓R1,RR,seval,q2,h2,e2,e3,e4,e5,e6,hw,hw2])))
                  all_goals all_goals first|omega|exact Nat.le_refl _|assumption|exact St.le_refl _|(exact af)|(simp only [aq,slot,ae,↓R1,RR,seval,q1,q2,h1,h2,e1,e2,e3,e4,e5,e6,hw,hw2,hw3,dn,dH,fq,List.length_map];all_goals exact bz)|exact aZ|(simp_all;done)|skip
                  all_goals (refine ak (ag ?_))
                  all_goals ((simp only [an,RR,seval]))
                  all_goals rfl
                | some q =>
                  obtain ⟨y,r3⟩:=q
                  have hv:gY r2=(y,true):=by rw [gY,hp]
                  rw [hv] at pp
                  obtain ⟨hr3,hr4⟩:=vW hp
                  have hd6:s.drop (k+4)=r3:=by rw [hr3,←hd2,List.drop_drop]
                  rw [hp] at hI2
                  simp only [↓R1,RR,seval,q1,h1,e1]
                  repeat' (first|(with_reducible refine And.intro ?_ ?_;exact af)|((first|((first|refine bI (.inr rfl) rfl ?_ ?_ ?_ ?_ ?_ ?_|refine br rfl ?_ ?_ ?_ ?_ ?_ ?_);(first|rfl|exact St.bn _ _ _|simp only [↓R1,RR,seval,q1,q2,h1,h2,e1,e2,e3,e4,e5,e6,hw,hw2,hw3,dn,dH,fq,List.length_map]);(iterate 2 (first|omega|(simp only [RZ];first|done|omega)|rfl));(unfold maxLen;omega);omega)|(refine Pt (pr) ?_)|(refine Pt (pp) ?_))<;>(try simp only [↓R1,RR,seval,q2,h2,e2,e3,e4,e5,e6,hw,hw2,hw3,dn])))
                  all_goals all_goals first|omega|exact Nat.le_refl _|assumption|exact St.le_refl _|(exact af)|(simp only [aq,slot,ae,RR,seval];all_goals exact bz)|exact aZ|(simp_all;done)|skip
                  refine ⟨(k+4,acc++ [y]),⟨by simp,by simp;omega,by simp;omega,?_⟩,?_,?_,by simp;omega⟩
                  · simp only [hI2,hd6];generalize ed r3=z;cases z<;>simp
                  · simp only [List.length_append,List.length_singleton];simp [aq,slot,ae];try exact ae _
                  · simp only [List.length_append,List.length_singleton];exact St.le_refl _
              · rw [if_neg hd5,if_neg (by rintro (h|h);exact hd3 h;exact hd4 h)] at hI2
                have e6:((d.toNat:Int) == 120)=false:=mG (n:=120) P6 hd5
                have e:dh l=([],0):=by rw [dh,hI2];rfl
                rw [e]
                simp only [↓R1,RR,seval,q1,h1,e1]
                repeat' (first|(with_reducible refine And.intro ?_ ?_;exact af)|((refine Pt (pr) ?_)<;>(try simp only [↓R1,RR,seval,q2,h2,e2,e3,e4,e5,e6,hw])))
                all_goals all_goals first|omega|exact Nat.le_refl _|assumption|exact St.le_refl _|(exact af)|(simp only [aq,slot,ae,↓R1,RR,seval,q1,q2,h1,h2,e1,e2,e3,e4,e5,e6,hw,hw2,hw3,dn,dH,fq,List.length_map];all_goals exact bz)|exact aZ|(simp_all;done)|skip
                all_goals (refine ak (ag ?_))
                all_goals ((simp only [an,RR,seval]))
                all_goals rfl
      · rw [if_neg hb] at hI2
        have e9:((c.toNat:Int) == 92)=false:=mG (n:=92) P6 hb
        have e3:((c.toNat:Int) != 92)=true:=by simp only [bne,e9];rfl
        cases e2:eu c with
        | false =>
          have hp:cv c=false:=by rw [mH,e2];rfl
          rw [if_neg (by rw [hp];decide)] at hI2
          have e:dh l=([],0):=by rw [dh,hI2];rfl
          rw [e]
          simp only [↓R1,RR,seval,q1,h1,e1]
          repeat' (first|(with_reducible refine And.intro ?_ ?_;exact af)|((refine Pt (pr) ?_)<;>(try simp only [↓R1,RR,seval,e2])))
          all_goals all_goals first|omega|exact Nat.le_refl _|assumption|exact St.le_refl _|(exact af)|(simp only [aq,slot,ae,↓R1,RR,seval,q1,q2,h1,h2,e1,e2,e3,e4,e5,e6,hw,hw2,hw3,dn,dH,fq,List.length_map];all_goals exact bz)|exact aZ|(simp_all;done)|skip
          all_goals (refine ak (ag ?_))
          all_goals ((simp only [an,RR,seval]))
          all_goals rfl
        | true =>
          have hp:cv c=true:=by simp only [mH,e2,bne,e1,e9];rfl
          rw [if_pos hp] at hI2
          simp only [↓R1,RR,seval,q1,h1,e1]
          repeat' (first|(with_reducible refine And.intro ?_ ?_;exact af)|((first|((first|refine bI (.inr rfl) rfl ?_ ?_ ?_ ?_ ?_ ?_|refine br rfl ?_ ?_ ?_ ?_ ?_ ?_);(first|rfl|exact St.bn _ _ _|simp only [↓R1,RR,seval,q1,q2,h1,h2,e1,e2,e3,e4,e5,e6,hw,hw2,hw3,dn,dH,fq,List.length_map]);(iterate 2 (first|omega|(simp only [RZ];first|done|omega)|rfl));(unfold maxLen;omega);omega)|(refine Pt (pr) ?_))<;>(try simp only [↓R1,RR,seval,e2,e3,hw,dn])))
          all_goals all_goals first|omega|exact Nat.le_refl _|assumption|exact St.le_refl _|(exact af)|(simp only [aq,slot,ae,RR,seval];all_goals exact bz)|exact aZ|(simp_all;done)|skip
          refine ⟨(k+1,acc++ [c]),⟨by simp,by simp;omega,by simp;omega,?_⟩,?_,?_,by simp;omega⟩
          · simp only [hI2,hd1'];generalize ed r=z;cases z<;>simp
          · simp only [List.length_append,List.length_singleton];simp [aq,slot,ae];try exact ae _
          · simp only [List.length_append,List.length_singleton];exact St.le_refl _
def jl (l:List UInt8) (n:Nat):Nat:=match l.drop n with
 | d::_=>if aH d then n else 0
 | []=>n
def mQ (l:List UInt8):Bool × List UInt8 × Nat:=match l with
 | []=>(false,[],0)
 | c::r=>if c=34 then (true,(dh r).1,jl l (dh r).2) else (false,l.takeWhile aG,jl l (l.takeWhile aG).length)
theorem Ac {s:List UInt8} {k:Nat} (hk:k≤(s.takeWhile aG).length):(k<(s.takeWhile aG).length↔∃ c,s[k]? =some c∧aG c=true):=by
  induction s generalizing k with
  | nil=>simp
  | cons c s ih =>
    cases hc:aG c with
    | false =>
      simp only [List.takeWhile_cons,hc] at hk ⊢
      simp at hk;subst hk
      simp [hc]
    | true =>
      simp only [List.takeWhile_cons,hc,if_true,List.length_cons] at hk ⊢
      cases k with
      | zero=>simp [hc]
      | succ k=>simp only [List.getElem?_cons_succ];rw [←ih P6];omega
theorem Ad (s:List UInt8):s.take (s.takeWhile aG).length=s.takeWhile aG:=by
 have h:=List.takeWhile_append_dropWhile (p:=aG) (l:=s)
 have:s.take (s.takeWhile aG).length=(s.takeWhile aG++s.dropWhile aG).take (s.takeWhile aG).length:=by rw [h]
 rw [this,List.take_left'];rfl
theorem GY (s:List UInt8):(s.takeWhile aG).length≤s.length:=(List.takeWhile_prefix _).length_le
theorem gZ (s:List UInt8):jl s 0=0:=by
 unfold jl;split
 ·split<;>rfl
 ·rfl
theorem rm {s:List UInt8} {n:Nat} {d:UInt8} (h:s[n]? =some d):jl s n=if aH d then n else 0:=by
 obtain ⟨h1,h2⟩:=List.getElem?_eq_some_iff.1 h
 unfold jl;rw [List.drop_eq_getElem_cons h1,h2]
theorem om {s:List UInt8} {n:Nat} (h:s.length≤n):jl s n=n:=by
 unfold jl;rw [List.drop_eq_nil_of_le h]
theorem lZ (s:List UInt8) (n:Nat):(n=0)∨(0<n∧s.length≤n)∨(0<n∧n<s.length∧∃ d,s[n]? =some d):=by
 by_cases h:n=0
 ·exact .inl h
 ·by_cases h2:n<s.length
  ·exact .inr (.inr ⟨by omega,h2,_,List.getElem?_eq_getElem h2⟩)
  ·exact .inr (.inl ⟨by omega,by omega⟩)
theorem DR (l:List UInt8):(dh l).2≤l.length+1:=by
 unfold dh;split<;>simp
set_option maxHeartbeats 4000000 in
theorem PG (c:UInt8) (r:List UInt8) (hs:r.length≤800000):Pu Tryz.prog 158 [.str (c::r)] (.tup [.agg [.bool (mQ (c::r)).1, .str (mQ (c::r)).2.1, .int .i64 0], .int .i64 ((mQ (c::r)).2.2:Nat)]):=by
  have hl0:(c::r).length=r.length+1:=rfl
  have h0:(c::r)[0]? =some c:=rfl
  have q1:True:=trivial
  have q2:True:=trivial
  have q3:True:=trivial
  have h1:True:=trivial
  have h2:True:=trivial
  have e1:True:=trivial
  have hw:True:=trivial
  by_cases hc:c=34
  · have e1:((c.toNat:Int) == 34)=true:=by rw [hc];rfl
    have pq:=PF c r P6
    have hv:mQ (c::r)=(true,(dh r).1,jl (c::r) (dh r).2):=by simp [mQ,hc]
    have hle:=DR r
    rw [hv]
    generalize hS:c::r=s at h0 hl0 pq
    generalize (dh r).1=t at pq
    generalize (dh r).2=n at pq hle
    rcases lZ s n with hn|⟨hn,hn2⟩|⟨hn,hn2,d,h2⟩
    · have q2:decide ((0:Int)<(n:Int))=false:=by rw [decide_eq_false_iff_not];omega
      have hen:jl s n=n:=by rw [hn];exact gZ s
      rw [hen]
      (refine al nS C5 fun σ=>?_;simp only [nS,↓R1,RR,seval])
      repeat' (first|(with_reducible rw [ah])|(with_reducible refine And.intro ?_ ?_;exact af)|((first|(with_reducible intro β hβ;(try simp only [RB] at hβ);(repeat (obtain ⟨⟨_,_⟩,hβ⟩:=hβ));(try (have hbis:=aj Qa hβ;obtain ⟨_,_⟩:=hbis)))|(refine Pt (pq) ?_))<;>(try simp only [↓R1,RR,seval,q2,h0,e1])))
      all_goals all_goals first|omega|exact Nat.le_refl _|assumption|exact St.le_refl _|(exact af)|(simp only [aq,slot,ae,↓R1,RR,seval,q1,q2,q3,h0,h1,h2,e1,hw];all_goals exact bz)|exact aZ|(simp_all;done)|skip
      all_goals (refine ak (ag ?_) P8)
      all_goals (first|((simp only [an,RR,seval]);done)|((simp only [an,↓R1,RR,seval,q1,q2,q3,h0,h1,h2,e1,hw]);rw [htk]))
    · have q2:decide ((0:Int)<(n:Int))=true:=by rw [decide_eq_true_eq];omega
      have q3:decide ((n:Int)<(s.length:Int))=false:=Qs
      rw [om hn2]
      (refine al nS C5 fun σ=>?_;simp only [nS,↓R1,RR,seval])
      repeat' (first|(with_reducible rw [ah])|(with_reducible refine And.intro ?_ ?_;exact af)|((first|(with_reducible intro β hβ;(try simp only [RB] at hβ);(repeat (obtain ⟨⟨_,_⟩,hβ⟩:=hβ));(try (have hbis:=aj Qa hβ;obtain ⟨_,_⟩:=hbis)))|(refine Pt (pq) ?_))<;>(try simp only [↓R1,RR,seval,q2,q3,h0,e1])))
      all_goals all_goals first|omega|exact Nat.le_refl _|assumption|exact St.le_refl _|(exact af)|(simp only [aq,slot,ae,↓R1,RR,seval,q1,q2,q3,h0,h1,h2,e1,hw];all_goals exact bz)|exact aZ|(simp_all;done)|skip
      all_goals (refine ak (ag ?_) P8)
      all_goals (first|((simp only [an,RR,seval]);done)|((simp only [an,↓R1,RR,seval,q1,q2,q3,h0,h1,h2,e1,hw]);rw [htk]))
    · have q2:decide ((0:Int)<(n:Int))=true:=by rw [decide_eq_true_eq];omega
      have q3:decide ((n:Int)<(s.length:Int))=true:=Qf
      have pb:=GW d
      rw [rm h2]
      cases hb:aH d with
      | true =>
        rw [hb] at pb
        (refine al nS C5 fun σ=>?_;simp only [nS,↓R1,RR,seval])
        repeat' (first|(with_reducible rw [ah])|(with_reducible refine And.intro ?_ ?_;exact af)|((first|(with_reducible intro β hβ;(try simp only [RB] at hβ);(repeat (obtain ⟨⟨_,_⟩,hβ⟩:=hβ));(try (have hbis:=aj Qa hβ;obtain ⟨_,_⟩:=hbis)))|(refine Pt (pq) ?_)|(refine Pt (pb) ?_))<;>(try simp only [↓R1,RR,seval,q2,q3,h0,h2,e1])))
        all_goals all_goals first|omega|exact Nat.le_refl _|assumption|exact St.le_refl _|(exact af)|(simp only [aq,slot,ae,↓R1,RR,seval,q1,q2,q3,h0,h1,h2,e1,hw];all_goals exact bz)|exact aZ|(simp_all;done)|skip
        all_goals (refine ak (ag ?_) P8)
        all_goals (first|((simp only [an,RR,seval]);done)|((simp only [an,↓R1,RR,seval,q1,q2,q3,h0,h1,h2,e1,hw]);rw [htk]))
      | false =>
        rw [hb] at pb
        (refine al nS C5 fun σ=>?_;simp only [nS,↓R1,RR,seval])
        repeat' (first|(with_reducible rw [ah])|(with_reducible refine And.intro ?_ ?_;exact af)|((first|(with_reducible intro β hβ;(try simp only [RB] at hβ);(repeat (obtain ⟨⟨_,_⟩,hβ⟩:=hβ));(try (have hbis:=aj Qa hβ;obtain ⟨_,_⟩:=hbis)))|(refine Pt (pq) ?_)|(refine Pt (pb) ?_))<;>(try simp only [↓R1,RR,seval,q2,q3,h0,h2,e1])))
        all_goals all_goals first|omega|exact Nat.le_refl _|assumption|exact St.le_refl _|(exact af)|(simp only [aq,slot,ae,↓R1,RR,seval,q1,q2,q3,h0,h1,h2,e1,hw];all_goals exact bz)|exact aZ|(simp_all;done)|skip
        all_goals (refine ak (ag ?_) P8)
        all_goals (first|((simp only [an,RR,seval]);done)|((simp only [an,↓R1,RR,seval,q1,q2,q3,h0,h1,h2,e1,hw]);rw [htk]))
  · have e1:((c.toNat:Int) == 34)=false:=mG (n:=34) P6 hc
    have hv:mQ (c::r)=(false,(c::r).takeWhile aG,jl (c::r) ((c::r).takeWhile aG).length):=by simp [mQ,hc]
    rw [hv]
    have hle:=GY (c::r)
    have htk:=Ad (c::r)
    generalize hS:c::r=s at h0 hl0 hle htk
    simp only at htk ⊢
    generalize hn0:(s.takeWhile aG).length=n at hle htk
    (refine al nS C5 fun σ=>?_;simp only [nS,↓R1,RR,seval])
    repeat' (first|(with_reducible rw [ah])|(with_reducible refine And.intro ?_ ?_;exact af)|((with_reducible intro β hβ;(try simp only [RB] at hβ);(repeat (obtain ⟨⟨_,_⟩,hβ⟩:=hβ));(try (have hbis:=aj Qa hβ;obtain ⟨_,_⟩:=hbis)))<;>(try simp only [↓R1,RR,seval,h0,e1])))
    rename_i b2 hb2 p1 p2
    refine aS n (fun k=> [(0, .str s),(2, .ptr b2 0),(4, .ptr β 0),(5, .int .i64 (k:Nat))]) (fun _=>(σ.aa b2 [.bool false, .str [], .int .i64 0]).aa β [.bool false, .str [], .int .i64 0]) (fun _=>True) Qi (by simp only [St.set_set];exact St.le_refl _) trivial (fun k hk _=>?_)
    have hst:=Ac (s:=s) (k:=k) (by rw [hn0];exact hk)
    rw [hn0] at hst
    by_cases hlt:k<n
    · obtain ⟨d,h1,hbd⟩:=hst.1 hlt
      have q1:decide ((k:Int)<(s.length:Int))=true:=Qf
      have hw:IntKind.i64.wrap ((k:Int)+1)=((k+1:Nat):Int):=P9
      have pp:=Kw d
      rw [hbd] at pp
      simp only [↓R1,RR,seval,q1,h1]
      repeat' (first|(with_reducible refine And.intro ?_ ?_;exact af)|(with_reducible apply And.intro)|((refine Pt (pp) ?_)<;>(try simp only [↓R1,RR,seval,hw])))
      all_goals all_goals first|omega|exact Nat.le_refl _|assumption|exact St.le_refl _|(exact af)|(simp only [aq,slot,ae,RR,seval];all_goals exact bz)|exact aZ|(simp_all;done)|skip
      all_goals first|(simp [aq,slot,ae];done)|(exact St.le_refl _)
    · have hke:k=n:=by omega
      subst hke
      by_cases hkl:k<s.length
      · obtain ⟨d1,h1⟩:∃ d,s[k]? =some d:=⟨_,List.getElem?_eq_getElem hkl⟩
        have hbd:aG d1=false:=by
          cases hb:aG d1 with
          | false=>rfl
          | true=>exact (hlt (hst.2 ⟨d1,h1,hb⟩)).elim
        have q1:decide ((k:Int)<(s.length:Int))=true:=Qf
        have pp:=Kw d1
        rw [hbd] at pp
        rcases lZ s k with hn|⟨hn,hn2⟩|⟨hn,hn2,d,h2⟩
        · have q2:decide ((0:Int)<(k:Int))=false:=by rw [decide_eq_false_iff_not];omega
          have hen:jl s k=k:=by rw [hn];exact gZ s
          rw [hen]
          simp only [↓R1,RR,seval,q1,h1]
          repeat' (first|(with_reducible refine And.intro ?_ ?_;exact af)|((refine Pt (pp) ?_)<;>(try simp only [↓R1,RR,seval,q1,q2,h1])))
          all_goals all_goals first|omega|exact Nat.le_refl _|assumption|exact St.le_refl _|(exact af)|(simp only [aq,slot,ae,↓R1,RR,seval,q1,q2,q3,h0,h1,h2,e1,hw];all_goals exact bz)|exact aZ|(simp_all;done)|skip
          all_goals (refine ak (ag ?_) P8)
          all_goals (first|((simp only [an,RR,seval]);done)|((simp only [an,RR,seval]);rw [htk]))
        · have q2:decide ((0:Int)<(k:Int))=true:=by rw [decide_eq_true_eq];omega
          have q3:decide ((k:Int)<(s.length:Int))=false:=Qs
          rw [om hn2]
          simp only [↓R1,RR,seval,q1,h1]
          repeat' (first|(with_reducible refine And.intro ?_ ?_;exact af)|((refine Pt (pp) ?_)<;>(try simp only [↓R1,RR,seval,q1,q2,h1])))
          all_goals all_goals first|omega|exact Nat.le_refl _|assumption|exact St.le_refl _|(exact af)|(simp only [aq,slot,ae,↓R1,RR,seval,q1,q2,q3,h0,h1,h2,e1,hw];all_goals exact bz)|exact aZ|(simp_all;done)|skip
          all_goals (refine ak (ag ?_))
          all_goals (first|((simp only [an,↓R1,RR,seval,q1,q2,q3,h0,h1,h2,e1,hw]);done)|((simp only [an,↓R1,RR,seval,q1,q2,q3,h0,h1,h2,e1,hw]);rw [htk]))
        · have q2:decide ((0:Int)<(k:Int))=true:=by rw [decide_eq_true_eq];omega
          have q3:decide ((k:Int)<(s.length:Int))=true:=Qf
          have hdd:d1=d:=by rw [h1] at h2;exact Option.some.inj h2
          subst hdd
          have pb:=GW d1
          rw [rm h2]
          cases hb:aH d1 with
          | true =>
            rw [hb] at pb
            simp only [↓R1,RR,seval,q1,h1]
            repeat' (first|(with_reducible refine And.intro ?_ ?_;exact af)|((first|(refine Pt (pp) ?_)|(refine Pt (pb) ?_))<;>(try simp only [↓R1,RR,seval,q1,q2,h1])))
            all_goals all_goals first|omega|exact Nat.le_refl _|assumption|exact St.le_refl _|(exact af)|(simp only [aq,slot,ae,↓R1,RR,seval,q1,q2,q3,h0,h1,h2,e1,hw];all_goals exact bz)|exact aZ|(simp_all;done)|skip
            all_goals (refine ak (ag ?_) P8)
            all_goals (first|((simp only [an,RR,seval]);done)|((simp only [an,RR,seval]);rw [htk]))
          | false =>
            rw [hb] at pb
            simp only [↓R1,RR,seval,q1,h1]
            repeat' (first|(with_reducible refine And.intro ?_ ?_;exact af)|((first|(refine Pt (pp) ?_)|(refine Pt (pb) ?_))<;>(try simp only [↓R1,RR,seval,q1,q2,h1])))
            all_goals all_goals first|omega|exact Nat.le_refl _|assumption|exact St.le_refl _|(exact af)|(simp only [aq,slot,ae,↓R1,RR,seval,q1,q2,q3,h0,h1,h2,e1,hw];all_goals exact bz)|exact aZ|(simp_all;done)|skip
            all_goals (refine ak (ag ?_) P8)
            all_goals (first|((simp only [an,RR,seval]);done)|((simp only [an,RR,seval]);rw [htk]))
      · have q1:decide ((k:Int)<(s.length:Int))=false:=by rw [decide_eq_false_iff_not];omega
        rcases lZ s k with hn|⟨hn,hn2⟩|⟨hn,hn2,d,h2⟩
        · have q2:decide ((0:Int)<(k:Int))=false:=by rw [decide_eq_false_iff_not];omega
          have hen:jl s k=k:=by rw [hn];exact gZ s
          rw [hen]
          simp only [htk,↓R1,RR,seval,q1,q2]
          repeat' (with_reducible refine And.intro ?_ ?_;exact af)
          all_goals all_goals first|omega|exact Nat.le_refl _|assumption|exact St.le_refl _|(exact af)|(simp only [aq,slot,ae,↓R1,RR,seval,q1,q2,q3,h0,h1,h2,e1,hw];all_goals exact bz)|exact aZ|(simp_all;done)|skip
          all_goals (refine ak (ag ?_))
          all_goals (first|((simp only [an,↓R1,RR,seval,q1,q2,q3,h0,h1,h2,e1,hw]);done)|((simp only [an,↓R1,RR,seval,q1,q2,q3,h0,h1,h2,e1,hw]);rw [htk]))
        · have q2:decide ((0:Int)<(k:Int))=true:=by rw [decide_eq_true_eq];omega
          have q3:decide ((k:Int)<(s.length:Int))=false:=Qs
          rw [om hn2]
          simp only [htk,↓R1,RR,seval,q1,q2]
          repeat' (with_reducible refine And.intro ?_ ?_;exact af)
          all_goals all_goals first|omega|exact Nat.le_refl _|assumption|exact St.le_refl _|(exact af)|(simp only [aq,slot,ae,↓R1,RR,seval,q1,q2,q3,h0,h1,h2,e1,hw];all_goals exact bz)|exact aZ|(simp_all;done)|skip
          all_goals (refine ak (ag ?_) P8)
          all_goals (first|((simp only [an,RR,seval]);done)|((simp only [an,↓R1,RR,seval,q1,q2,q3,h0,h1,h2,e1,hw]);rw [htk]))
        · have q2:decide ((0:Int)<(k:Int))=true:=by rw [decide_eq_true_eq];omega
          have q3:decide ((k:Int)<(s.length:Int))=true:=Qf
          have pb:=GW d
          rw [rm h2]
          cases hb:aH d with
          | true =>
            rw [hb] at pb
            simp only [htk,↓R1,RR,seval,q1,q2,h2]
            repeat' (with_reducible refine And.intro ?_ ?_;exact af)
            all_goals all_goals first|omega|exact Nat.le_refl _|assumption|exact St.le_refl _|(exact af)|(simp only [aq,slot,ae,↓R1,RR,seval,q1,q2,q3,h0,h1,h2,e1,hw];all_goals exact bz)|exact aZ|(simp_all;done)|skip
            all_goals (refine ak (ag ?_))
            all_goals (first|((simp only [an,↓R1,RR,seval,q1,q2,q3,h0,h1,h2,e1,hw]);done)|((simp only [an,↓R1,RR,seval,q1,q2,q3,h0,h1,h2,e1,hw]);rw [htk]))
          | false =>
            rw [hb] at pb
            simp only [htk,↓R1,RR,seval,q1,q2,h2]
            repeat' (with_reducible refine And.intro ?_ ?_;exact af)
            all_goals all_goals first|omega|exact Nat.le_refl _|assumption|exact St.le_refl _|(exact af)|(simp only [aq,slot,ae,↓R1,RR,seval,q1,q2,q3,h0,h1,h2,e1,hw];all_goals exact bz)|exact aZ|(simp_all;done)|skip
            all_goals (refine ak (ag ?_))
            all_goals (first|((simp only [an,↓R1,RR,seval,q1,q2,q3,h0,h1,h2,e1,hw]);done)|((simp only [an,↓R1,RR,seval,q1,q2,q3,h0,h1,h2,e1,hw]);rw [htk]))
theorem Ae {c:UInt8} {r:List UInt8} (h:cD (c::r)=none):(mQ (c::r)).2.2=0:=by
 unfold cD at h
 simp only at h
 unfold mQ
 simp only
 split at h
 ·rename_i hc
  rw [if_pos hc]
  simp only
  split at h
  ·rename_i t r' hq
   split at h
   ·cases h
   ·rename_i he
    have hlen:=lP hq
    obtain ⟨p,hp⟩:=jC hq
    have hv:(dh r).2=(c::r).length - r'.length:=by simp [dh,hq]
    have hd:(c::r).drop ((c::r).length - r'.length)=r':=by
     rw [←hp,show (c::(p++r')).length - r'.length=(c::p).length by simp;omega,←List.cons_append,List.drop_left'];rfl
    unfold jl
    rw [hv,hd]
    cases r' with
    | nil=>simp [fY] at he
    | cons d r'=>simp only [fY] at he;simp only;rw [if_neg he]
  ·rename_i hq
   have hv:(dh r).2=0:=by simp [dh,hq]
   rw [hv,gZ]
 ·rename_i hc
  rw [if_neg hc]
  simp only
  split at h
  ·rename_i he
   rw [List.isEmpty_iff.1 he];exact gZ _
  ·split at h
   ·cases h
   ·rename_i he
    have hd:(c::r).drop ((c::r).takeWhile aG).length=(c::r).dropWhile aG:=by
     have h:=List.takeWhile_append_dropWhile (p:=aG) (l:=c::r)
     have e:(c::r).drop ((c::r).takeWhile aG).length=((c::r).takeWhile aG++(c::r).dropWhile aG).drop ((c::r).takeWhile aG).length:=by rw [h]
     rw [e,List.drop_left'];rfl
    unfold jl
    rw [hd]
    cases hx:(c::r).dropWhile aG with
    | nil=>rw [hx] at he;simp [fY] at he
    | cons d r'=>rw [hx] at he;simp only [fY] at he;simp only;rw [if_neg he]
theorem Af {c:UInt8} {r t r':List UInt8} {q:Bool} (h:cD (c::r)=some (q,t,r')):mQ (c::r)=(q,t,(c::r).length - r'.length):=by
 unfold cD at h
 simp only at h
 unfold mQ
 simp only
 split at h
 ·rename_i hc
  rw [if_pos hc]
  split at h
  ·rename_i t1 r1 hq
   split at h
   ·rename_i he
    cases h
    have hlen:=lP hq
    obtain ⟨p,hp⟩:=jC hq
    have hv:dh r=(t,(c::r).length - r'.length):=by simp [dh,hq]
    have hd:(c::r).drop ((c::r).length - r'.length)=r':=by
     rw [←hp,show (c::(p++r')).length - r'.length=(c::p).length by simp;omega,←List.cons_append,List.drop_left'];rfl
    rw [hv]
    simp only [jl,hd]
    cases r' with
    | nil=>rfl
    | cons d r'=>simp only [fY] at he;simp only;rw [if_pos he]
   ·cases h
  ·cases h
 ·rename_i hc
  rw [if_neg hc]
  split at h
  ·cases h
  ·split at h
   ·rename_i he
    cases h
    have hk:=List.takeWhile_append_dropWhile (p:=aG) (l:=c::r)
    have hd:(c::r).drop ((c::r).takeWhile aG).length=(c::r).dropWhile aG:=by
     have e:(c::r).drop ((c::r).takeWhile aG).length=((c::r).takeWhile aG++(c::r).dropWhile aG).drop ((c::r).takeWhile aG).length:=by rw [hk]
     rw [e,List.drop_left'];rfl
    have hl:((c::r).takeWhile aG).length=(c::r).length - ((c::r).dropWhile aG).length:=by
     have:=congrArg List.length hk;rw [List.length_append] at this;omega
    simp only [jl,hd]
    cases hx:(c::r).dropWhile aG with
    | nil=>rw [hx] at hl;rw [hl]
    | cons d r'=>rw [hx] at he hl;simp only [fY] at he;simp only;rw [if_pos he,hl]
   ·cases h
def jF (e:Except Nat (List Wd)):AV:=match e with
 | .ok ws=> .tup [.sl false ws.length (ws.flatMap cWd), .agg [.int .i64 0, .int .i64 0]]
 | .error p=> .tup [.sl false 0 [], .agg [.int .i64 3, .int .i64 (p:Nat)]]
theorem rq {c:UInt8} {r:List UInt8} (h:aH c=true) (a:Nat):bQ (c::r) a=bQ r (a+1):=by
 have hd:=cn aH r
 rw [gz (c::r),gz r,List.dropWhile_cons,if_pos h]
 congr 1
 simp;omega
theorem iz {c:UInt8} {r:List UInt8} (h:aH c=false):(c::r).dropWhile aH=c::r:=by rw [List.dropWhile_cons,if_neg (by rw [h];decide)]
theorem tV {c:UInt8} {r:List UInt8} (h:aH c=false) (h2:c≠35) (hw:cD (c::r)=none) (a:Nat):bQ (c::r) a= .error a:=by
 rw [cU,iz h]
 simp only [if_neg h2,hw,Nat.sub_self,Nat.add_zero]
theorem tW {c:UInt8} {r t r':List UInt8} {q:Bool} (h:aH c=false) (h2:c≠35) (hw:cD (c::r)=some (q,t,r')) (a:Nat):bQ (c::r) a=jQ ⟨q,t,a⟩ (bQ r' (a+((c::r).length - r'.length))):=by
 rw [cU,iz h]
 simp only [if_neg h2,hw,Nat.sub_self,Nat.add_zero]
theorem tX {c:UInt8} {r:List UInt8} (h:aH c=false) (h2:c=35) (a:Nat):bQ (c::r) a= .ok []:=by
 rw [cU,iz h]
 simp only [if_pos h2]
theorem vX (a:Nat):bQ [] a= .ok []:=rfl
theorem Ag (p:List Wd) (w:Wd) (e:Except Nat (List Wd)):jf p (jQ w e)=jf (p++ [w]) e:=by cases e<;>simp [jf,jQ]
theorem rA {a b:St} {τ:Nat} {x:Nat × Nat × Nat} (h:St.le a b):St.le (a.ai τ x) (b.ai τ x):=by
 refine ⟨h.1,fun υ y hy=>?_,h.2.2⟩
 simp only [St.ai,upd] at hy ⊢
 split
 ·rename_i e;rw [if_pos e] at hy;exact hy
 ·rename_i e;rw [if_neg e] at hy;exact h.2.1 _ _ hy
theorem DS (ws:List Wd) (q:Bool) (t:List UInt8) (k:Nat):(ws++ [Wd.mk q t k]).flatMap cWd=ws.flatMap cWd++ [.bool q, .str t, .int .i64 (k:Nat)]:=by simp [cWd]
set_option maxHeartbeats 4000000 in
theorem p99 (s:List UInt8) (a:Nat) (hs:s.length≤800000) (haa:a≤1000000):Pu Tryz.prog 99 [.str s, .int .i64 a] (jF (bQ s a)):=by
  have q1:True:=trivial
  have h1:True:=trivial
  have e1:True:=trivial
  have hsl:True:=trivial
  have hw:True:=trivial
  have hw2:True:=trivial
  have hov1:True:=trivial
  have hov2:True:=trivial
  (refine al c99 b99 fun σ=>?_;simp only [c99,↓R1,RR,seval])
  rw [ah];intro β hβ;simp only [↓R1,RR,seval]
  refine jz (α:=Nat × List Wd) 6 109 3 0 [] (fun τ x=> [(0, .str s),(1, .int .i64 (a:Nat)),(5, .ptr β 0),(6, .tsl τ x.2.length (x.2.flatMap cWd)),(7, .int .i64 (x.1:Nat))]) (fun τ x=>(σ.aa β [.int .i64 0, .int .i64 0]).ai τ (109,3,x.2.length))
    (fun x=>x.1≤s.length∧x.2.length≤x.1∧bQ s a=jf x.2 (bQ (s.drop x.1) (a+x.1))) (fun x=>s.length - x.1) (0,[]) trivial rfl ⟨by simp,by simp,by simp only [List.drop_zero,Nat.add_zero,sZ]⟩ (fun τ hτ=>by simp [aq,slot,ae]) (fun τ hτ=>St.le_refl _) ?_
  rintro τ hτ ⟨k,ws⟩ ⟨hk,hkw,hI⟩
  have htt:((σ.aa β [.int .i64 0, .int .i64 0]).ai τ (109,3,ws.length)).tip τ=some (109,3,ws.length):=QS
  simp only at hk hkw hI ⊢
  cases hd:s.drop k with
  | nil =>
    have hke:s.length≤k:=QO
    have q1:decide ((k:Int)<(s.length:Int))=false:=Qs
    rw [hd,vX] at hI
    rw [hI,jf,List.append_nil,jF]
    simp only [↓R1,RR,seval,q1]
    skip
    all_goals all_goals first|omega|exact Nat.le_refl _|assumption|exact St.le_refl _|(intros;(repeat' (with_reducible apply And.intro))<;>first|omega|(simp only [RZ,aI];omega))|(simp only [aq,slot,ae,↓R1,RR,seval,q1,h1,e1,hsl,hw,hw2,hov1,hov2,aI];all_goals exact bz)|exact aZ|(simp_all;done)|skip
    all_goals (refine ak ?_ P8)
    all_goals (simp only [an,RR,seval];all_goals exact dN)
  | cons c r =>
    have hlt:k<s.length:=by
      have:=congrArg List.length hd;rw [List.length_drop] at this;simp at this;omega
    have hrl:r.length=s.length - (k+1):=QO
    have q1:decide ((k:Int)<(s.length:Int))=true:=Qf
    obtain ⟨h1,_,hd1'⟩:=cr hd
    have hw:IntKind.i64.wrap ((k:Int)+1)=((k+1:Nat):Int):=P9
    have hw2:IntKind.i64.wrap ((a:Int)+(k:Int))=((a+k:Nat):Int):=P9
    have pb:=GW c
    rw [hd] at hI
    cases hb:aH c with
    | true =>
      rw [hb] at pb
      rw [rq hb] at hI
      simp only [↓R1,RR,seval,q1,h1]
      repeat' (first|(with_reducible refine And.intro ?_ ?_;focus (intros;(repeat' (with_reducible apply And.intro))<;>first|omega|(simp only [RZ,aI];omega)))|((refine Pt (pb) ?_)<;>(try simp only [↓R1,RR,seval,hw])))
      all_goals all_goals first|omega|exact Nat.le_refl _|assumption|exact St.le_refl _|(intros;(repeat' (with_reducible apply And.intro))<;>first|omega|(simp only [RZ,aI];omega))|(simp only [aq,slot,ae,RR,seval];all_goals exact bz)|exact aZ|(simp_all;done)|skip
      refine ⟨(k+1,ws),⟨by simp;omega,by simp;omega,by simp only [hd1'];exact hI⟩,?_,St.le_refl _,by simp;omega⟩
      simp [aq,slot,ae]
    | false =>
      rw [hb] at pb
      by_cases hc:c=35
      · have e1:((c.toNat:Int) == 35)=true:=by rw [hc];rfl
        rw [tX hb hc] at hI
        rw [hI,jf,List.append_nil,jF]
        simp only [↓R1,RR,seval,q1,h1]
        repeat' (first|(with_reducible refine And.intro ?_ ?_;focus (intros;(repeat' (with_reducible apply And.intro))<;>first|omega|(simp only [RZ,aI];omega)))|((refine Pt (pb) ?_)<;>(try simp only [↓R1,RR,seval,h1,e1])))
        all_goals all_goals first|omega|exact Nat.le_refl _|assumption|exact St.le_refl _|(intros;(repeat' (with_reducible apply And.intro))<;>first|omega|(simp only [RZ,aI];omega))|(simp only [aq,slot,ae,↓R1,RR,seval,q1,h1,e1,hsl,hw,hw2,hov1,hov2,aI];all_goals exact bz)|exact aZ|(simp_all;done)|skip
        all_goals (refine ak ?_ P8)
        all_goals (simp only [an,RR,seval];all_goals exact dN)
      · have e1:((c.toNat:Int) == 35)=false:=mG (n:=35) P6 hc
        have po:=PG c r P6
        have hsl:(s.drop k).take (s.length - k)=c::r:=by rw [hd];exact List.take_of_length_le Qr
        cases hwd:cD (c::r) with
        | none =>
          have hn:=Ae hwd
          rw [tV hb hc hwd] at hI
          rw [hI,jf,jF]
          generalize mQ (c::r)=ov at po hn
          have hov1:(((ov.2.2:Nat):Int) == 0)=true:=by rw [hn];rfl
          have pf:=p98 3 ((a+k:Nat):Int)
          simp only [↓R1,RR,seval,q1,h1]
          repeat' (first|(with_reducible rw [ah])|(with_reducible refine And.intro ?_ ?_;focus (intros;(repeat' (with_reducible apply And.intro))<;>first|omega|(simp only [RZ,aI];omega)))|((first|(with_reducible intro β hβ;(try simp only [RB] at hβ);(repeat (obtain ⟨⟨_,_⟩,hβ⟩:=hβ));(try (have hbis:=aj Qa hβ;obtain ⟨_,_⟩:=hbis)))|(refine Pt (pb) ?_)|(refine Pt (po) ?_)|(refine Pt (pf) ?_))<;>(try simp only [↓R1,RR,seval,h1,e1,hsl,hw2,hov1])))
          all_goals all_goals first|omega|exact Nat.le_refl _|assumption|exact St.le_refl _|(intros;(repeat' (with_reducible apply And.intro))<;>first|omega|(simp only [RZ,aI];omega))|(simp only [aq,slot,ae,↓R1,RR,seval,q1,h1,e1,hsl,hw,hw2,hov1,hov2,aI];all_goals exact bz)|exact aZ|(simp_all;done)|skip
          all_goals (refine ak ?_ P8)
          all_goals (simp only [an,RR,seval];all_goals exact dN)
        | some x =>
          obtain ⟨q,t,r'⟩:=x
          have hn:=Af hwd
          rw [tW hb hc hwd,Ag] at hI
          rw [hn] at po
          have hlen:=dW hwd
          have hsuf:=lR hwd
          have hlc:(c::r).length=s.length - k:=by rw [←hd,List.length_drop]
          generalize hnn:(c::r).length - r'.length=n at po hI
          have hdn:s.drop (k+n)=r':=by
            obtain ⟨p,hp⟩:=hsuf
            rw [←List.drop_drop,hd,←hp,show n=p.length by rw [←hnn,←hp];simp,List.drop_left'];rfl
          have hov1:(((n:Nat):Int) == 0)=false:=by rw [beq_eq_false_iff_ne];omega
          have hov2:IntKind.i64.wrap ((k:Int)+(n:Int))=((k+n:Nat):Int):=P9
          simp only at po
          simp only [↓R1,RR,seval,q1,h1]
          repeat' (first|(with_reducible rw [ah])|(with_reducible refine And.intro ?_ ?_;focus (intros;(repeat' (with_reducible apply And.intro))<;>first|omega|(simp only [RZ,aI];omega)))|((first|(with_reducible intro β hβ;(try simp only [RB] at hβ);(repeat (obtain ⟨⟨_,_⟩,hβ⟩:=hβ));(try (have hbis:=aj Qa hβ;obtain ⟨_,_⟩:=hbis)))|(refine Pt (pb) ?_)|(refine Pt (po) ?_))<;>(try simp only [↓R1,RR,seval,h1,e1,hsl,hw2,hov1])))
          all_goals all_goals first|omega|exact Nat.le_refl _|assumption|exact St.le_refl _|(intros;(repeat' (with_reducible apply And.intro))<;>first|omega|(simp only [RZ,aI];omega))|(simp only [aq,seval];all_goals exact bz)|exact aZ|(simp_all;done)|skip
          refine br rfl ?_ ?_ ?_ ?_ ?_ ?_
          · simp only [RR,seval]
          · simp only [seval,aI]
          · rfl
          · unfold maxLen;omega
          · omega
          simp only [↓R1,RR,seval,hov2]
          refine ⟨(k+n,ws++ [⟨q,t,a+k⟩]),⟨by simp;omega,by simp;omega,by simp only [hdn];rw [hI,Nat.add_assoc]⟩,?_,?_,by simp;omega⟩
          · simp only [DS,List.length_append,List.length_singleton];simp [aq,slot,ae]
          · simp only [List.length_append,List.length_singleton]
            exact rA (St.aD (St.le_refl _) (St.bq.2 ⟨⟨inferInstance,inferInstance⟩,hβ⟩))
def shE (a:Nat):Except Nat (List Wd)→Except Nat (List Wd)
 | .error b=> .error (a+b)
 | .ok ws=> .ok (ws.map (dx a))
theorem DT (a:Nat) (w:Wd) (e:Except Nat (List Wd)):shE a (jQ w e)=jQ (dx a w) (shE a e):=by cases e<;>rfl
theorem rB:∀ (n:Nat) (l:List UInt8) (a b:Nat),l.length≤n→bQ l (a+b)=shE a (bQ l b):=by
  intro n
  induction n with
  | zero =>
    intro l a b h
    have:l= []:=List.eq_nil_of_length_eq_zero P6
    subst this;rfl
  | succ n ih =>
    intro l a b h
    have hd:=cn aH l
    rw [cU l (a+b),cU l b]
    cases hl:l.dropWhile aH with
    | nil=>rfl
    | cons c r =>
      rw [hl] at hd
      simp only
      by_cases h35:c=35
      · rw [if_pos h35,if_pos h35];rfl
      · rw [if_neg h35,if_neg h35]
        cases hw:cD (c::r) with
        | none=>simp only [shE,Nat.add_assoc]
        | some q =>
          obtain ⟨q,t,r'⟩:=q
          have hlen:=dW hw
          simp only
          rw [show a+b+(l.length - r'.length)=a+(b+(l.length - r'.length)) by omega,Nat.add_assoc,ih r' a _ P6,DT]
          congr 1
          simp only [dx]
          congr 1
          omega
theorem Ah (l:List UInt8) (a:Nat):bQ l a=shE a (cK l):=by
 have:=rB l.length l a 0 (Nat.le_refl _)
 rwa [Nat.add_zero] at this
theorem vY (s:List UInt8) (k m:Nat) (hm:m=(aQ (s.drop k)).length) (a:Nat):cE (lines (s.drop k)) a=dO (bV (aQ (s.drop k)) a) (cE (lines (s.drop (k+m+1))) (a+m+1)):=by
  have hla:=fi (s.drop k)
  have hdr:(s.drop k).drop m=bW (s.drop k):=by
    have e:(s.drop k).drop m=(aQ (s.drop k)++bW (s.drop k)).drop m:=by rw [hla]
    rw [e,hm,List.drop_left'];rfl
  rw [List.drop_drop] at hdr
  rw [nV (s.drop k)]
  cases ha:bW (s.drop k) with
  | nil =>
    rw [ha,List.append_nil] at hla
    have:s.drop (k+m+1)= []:=by
      rw [←List.drop_drop,hdr,ha];rfl
    rw [this]
    simp only [cE,hla]
    have e:cE (lines []) (a+m+1)= .ok []:=by simp [lines,cE,bV,cK,bQ,jg,dO]
    rw [e]
  | cons c r =>
    have:s.drop (k+m+1)=r:=by rw [←List.drop_drop,hdr,ha];rfl
    rw [this]
    simp only [cE,hm]
theorem GZ {s:List UInt8} {k:Nat} (hk:k≤(aQ s).length):(k<(aQ s).length↔∃ c,s[k]? =some c∧(c != 10)=true):=by
  unfold aQ at *
  induction s generalizing k with
  | nil=>simp
  | cons c s ih =>
    cases hc:(c != 10) with
    | false =>
      simp only [List.takeWhile_cons,hc] at hk ⊢
      simp at hk;subst hk
      simp at hc
      simp [hc]
    | true =>
      simp only [List.takeWhile_cons,hc,if_true,List.length_cons] at hk ⊢
      cases k with
      | zero=>simp at hc;simp [hc]
      | succ k=>simp only [List.getElem?_cons_succ];rw [←ih P6];omega
theorem tY (s:List UInt8):s.take (aQ s).length=aQ s:=by
 have h:=fi s
 have:s.take (aQ s).length=(aQ s++bW s).take (aQ s).length:=by rw [h]
 rw [this,List.take_left'];rfl
theorem Ai (s:List UInt8):(aQ s).length≤s.length:=(List.takeWhile_prefix _).length_le
theorem Aj (a:Nat):cE (lines []) a= .ok []:=by simp [lines,cE,bV,cK,bQ,jg,dO]
theorem vZ {p q:List Rw} {x:Except (Nat × Nat) (List Rw)}:dO (.ok p) (dO (.ok q) x)=dO (.ok (p++q)) x:=by rw [←mo];rfl
theorem DU (rs:List Rw) (a:Nat) (ws:List Wd):(rs++ [Rw.mk a ws]).flatMap cRw=rs.flatMap cRw++ [.int .i64 (a:Nat), .sl false ws.length (ws.flatMap cWd)]:=by simp [cRw]
set_option maxHeartbeats 4000000 in
theorem p45 (s:List UInt8) (hs:s.length≤800000):Pu Tryz.prog 45 [.str s] (fC (dE s)):=by
  have q1:True:=trivial
  have q2:True:=trivial
  have q3:True:=trivial
  have q4:True:=trivial
  have h1:True:=trivial
  have hsl:True:=trivial
  have hw:True:=trivial
  have hw2:True:=trivial
  have hn0:True:=trivial
  by_cases hmax:20000<s.length
  · have q1:decide ((20000:Int)<(s.length:Int))=true:=by rw [decide_eq_true_eq];omega
    have pf:=p98 4 20000
    have e:dE s= .error (4,20000):=if_pos hmax
    rw [e,fC,dP]
    (refine al c45 b45 fun σ=>?_;simp only [c45,↓R1,RR,seval])
    repeat' (first|(with_reducible rw [ah])|((first|(with_reducible intro β hβ;(try simp only [RB] at hβ);(repeat (obtain ⟨⟨_,_⟩,hβ⟩:=hβ));(try (have hbis:=aj Qa hβ;obtain ⟨_,_⟩:=hbis)))|(refine Pt (pf) ?_))<;>(try simp only [↓R1,RR,seval,q1])))
    all_goals all_goals first|omega|exact Nat.le_refl _|assumption|exact St.le_refl _|(intros;(repeat' (with_reducible apply And.intro))<;>first|omega|(simp only [RZ,aI,bw];omega))|(simp only [aq,slot,ae,↓R1,RR,seval,q1,q2,q3,q4,h1,hsl,hw,hw2,hn0,aI];all_goals exact bz)|exact aZ|(simp_all;done)|skip
    all_goals (refine ak ?_ P8)
    all_goals (simp only [an,RR,seval];all_goals exact dN)
  · have q1:decide ((20000:Int)<(s.length:Int))=false:=by rw [decide_eq_false_iff_not];omega
    have e0:dE s=cE (lines (s.drop 0)) 0:=by rw [dE,if_neg hmax];rfl
    (refine al c45 b45 fun σ=>?_;simp only [c45,↓R1,RR,seval])
    rw [ah];intro β hβ;simp only [↓R1,RR,seval,q1]
    refine jz (α:=Nat × List Rw) 4 80 2 0 [] (fun τ x=> [(0, .str s),(3, .ptr β 0),(4, .tsl τ x.2.length (x.2.flatMap cRw)),(5, .int .i64 (x.1:Nat))]) (fun τ x=>(σ.aa β [.int .i64 0, .int .i64 0]).ai τ (80,2,x.2.length))
      (fun x=>x.1≤s.length+1∧x.2.length≤x.1∧dE s=dO (.ok x.2) (cE (lines (s.drop x.1)) x.1)) (fun x=>s.length+1 - x.1) (0,[]) trivial rfl ⟨by simp,by simp,by rw [e0,lS]⟩ (fun τ hτ=>by simp [aq,slot,ae]) (fun τ hτ=>St.le_refl _) ?_
    rintro τ hτ ⟨k,rs⟩ ⟨hk,hkr,hI⟩
    simp only at hk hkr hI ⊢
    by_cases hlt:k<s.length
    · have q2:decide ((k:Int)<(s.length:Int))=true:=by rw [decide_eq_true_eq];omega
      generalize hm:(aQ (s.drop k)).length=m
      have hml:m≤s.length - k:=by rw [←hm,←List.length_drop];exact Ai _
      rw [vY s k m hm.symm] at hI
      have htk:=tY (s.drop k)
      rw [hm] at htk
      simp only [↓R1,RR,seval,q2]
      refine aS m (fun j=> [(0, .str s),(3, .ptr β 0),(4, .tsl τ rs.length (rs.flatMap cRw)),(5, .int .i64 (k:Nat)),(6, .int .i64 ((k+j:Nat):Int))]) (fun _=>(σ.aa β [.int .i64 0, .int .i64 0]).ai τ (80,2,rs.length)) (fun _=>True) Qi (St.le_refl _) trivial (fun j hj _=>?_)
      have hst:=GZ (s:=s.drop k) (k:=j) (by rw [hm];exact hj)
      rw [hm,List.getElem?_drop] at hst
      by_cases hjl:j<m
      · obtain ⟨d,h1,hd10⟩:=hst.1 hjl
        have q1:decide (((k+j:Nat):Int)<(s.length:Int))=true:=Qf
        have q3:((d.toNat:Int) != 10)=true:=by
          have:((d.toNat:Int) == 10)=false:=mG (n:=10) P6 (by simpa using hd10)
          rw [bne,this];rfl
        have hw:IntKind.i64.wrap (((k+j:Nat):Int)+1)=((k+j+1:Nat):Int):=P9
        simp only [↓R1,RR,seval,q1,q3,h1,hw]
        repeat' (first|(with_reducible refine And.intro ?_ ?_;focus (intros;(repeat' (with_reducible apply And.intro))<;>first|omega|(simp only [RZ,aI,bw];omega)))|(with_reducible apply And.intro))
        all_goals all_goals first|omega|exact Nat.le_refl _|assumption|exact St.le_refl _|(intros;(repeat' (with_reducible apply And.intro))<;>first|omega|(simp only [RZ,aI,bw];omega))|(simp only [aq,slot,ae,RR,seval];all_goals exact bz)|exact aZ|(simp_all;done)|skip
        all_goals first|(simp [aq,slot,ae];done)|(simp [aq,slot,ae];exact ag (by congr 1))|(exact St.le_refl _)
      · have hje:j=m:=by omega
        subst hje
        have hx:(aQ (s.drop k)).length=j:=hm
        generalize hX:aQ (s.drop k)=x at hI htk hx
        have hab:(decide (((k+j:Nat):Int)<(s.length:Int))=true∧∃ d,s[k+j]? =some d∧((d.toNat:Int) != 10)=false)∨decide (((k+j:Nat):Int)<(s.length:Int))=false:=by
          by_cases hlj:k+j<s.length
          · refine .inl ⟨by rw [decide_eq_true_eq];omega,_,List.getElem?_eq_getElem hlj,?_⟩
            cases hd:(s[k+j] != 10) with
            | true=>exact (hjl (hst.2 ⟨_,List.getElem?_eq_getElem hlj,hd⟩)).elim
            | false =>
              have:s[k+j]=10:=by simpa using hd
              rw [this];rfl
          · exact .inr Qs
        have hw:IntKind.i64.wrap (((k+j:Nat):Int) - (k:Int))=(j:Nat):=P9
        have hw2:IntKind.i64.wrap (((k+j:Nat):Int)+1)=((k+j+1:Nat):Int):=P9
        by_cases hbig:1000<j
        · have q4:decide ((1000:Int)<(j:Int))=true:=by rw [decide_eq_true_eq];omega
          have pf:=p98 4 (k:Nat)
          have e:dE s= .error (4,k):=by rw [hI,bV,if_pos P6];rfl
          rw [e,fC,dP]
          rcases hab with ⟨q1,d,h1,q3⟩|q1
          all_goals
            simp only [↓R1,RR,seval,q1,q3,q4,h1,hw]
            repeat' (first|(with_reducible refine And.intro ?_ ?_;focus (intros;(repeat' (with_reducible apply And.intro))<;>first|omega|(simp only [RZ,aI,bw];omega)))|(with_reducible apply And.intro)|((refine Pt (pf) ?_)<;>(try simp only [↓R1,RR,seval])))
            all_goals all_goals first|omega|exact Nat.le_refl _|assumption|exact St.le_refl _|(intros;(repeat' (with_reducible apply And.intro))<;>first|omega|(simp only [RZ,aI,bw];omega))|(simp only [aq,slot,ae,↓R1,RR,seval,q1,q2,q3,q4,h1,hsl,hw,hw2,hn0,aI];all_goals exact bz)|exact aZ|(simp_all;done)|skip
            all_goals (refine ak ?_ P8)
            all_goals (simp only [an,RR,seval];all_goals exact dN)
        · have q4:decide ((1000:Int)<(j:Int))=false:=by rw [decide_eq_false_iff_not];omega
          have pl:=p99 x k P6 P6
          have hsl:(s.drop k).take (k+j - k)=x:=by rw [Nat.add_sub_cancel_left];exact htk
          rw [Ah] at pl
          cases hwx:cK x with
          | error b =>
            rw [hwx,shE,jF] at pl
            have e:dE s= .error (3,k+b):=by rw [hI,bV,if_neg P6,hwx];rfl
            rw [e,fC,dP]
            rcases hab with ⟨q1,d,h1,q3⟩|q1
            all_goals
              simp only [↓R1,RR,seval,q1,q3,q4,h1,hsl,hw]
              repeat' (first|(with_reducible rw [ah])|(with_reducible refine And.intro ?_ ?_;focus (intros;(repeat' (with_reducible apply And.intro))<;>first|omega|(simp only [RZ,aI,bw];omega)))|(with_reducible apply And.intro)|((first|(with_reducible intro β hβ;(try simp only [RB] at hβ);(repeat (obtain ⟨⟨_,_⟩,hβ⟩:=hβ));(try (have hbis:=aj Qa hβ;obtain ⟨_,_⟩:=hbis)))|(refine Pt (pl) ?_))<;>(try simp only [↓R1,RR,seval])))
              all_goals all_goals first|omega|exact Nat.le_refl _|assumption|exact St.le_refl _|(intros;(repeat' (with_reducible apply And.intro))<;>first|omega|(simp only [RZ,aI,bw];omega))|(simp only [aq,slot,ae,↓R1,RR,seval,q1,q2,q3,q4,h1,hsl,hw,hw2,hn0,aI];all_goals exact bz)|exact aZ|(simp_all;done)|skip
              all_goals (refine ak ?_ P8)
              all_goals (simp only [an,RR,seval];all_goals exact dN)
          | ok ws =>
            rw [hwx,shE,jF] at pl
            cases ws with
            | nil =>
              rw [bV,if_neg P6,hwx,lS] at hI
              simp only [List.map_nil,List.flatMap_nil] at pl
              rcases hab with ⟨q1,d,h1,q3⟩|q1
              all_goals
                simp only [↓R1,RR,seval,q1,q3,q4,h1,hsl,hw]
                repeat' (first|(with_reducible rw [ah])|(with_reducible refine And.intro ?_ ?_;focus (intros;(repeat' (with_reducible apply And.intro))<;>first|omega|(simp only [RZ,aI,bw];omega)))|(with_reducible apply And.intro)|((first|(with_reducible intro β hβ;(try simp only [RB] at hβ);(repeat (obtain ⟨⟨_,_⟩,hβ⟩:=hβ));(try (have hbis:=aj Qa hβ;obtain ⟨_,_⟩:=hbis)))|(refine Pt (pl) ?_))<;>(try simp only [↓R1,RR,seval,hw2])))
                all_goals all_goals first|omega|exact Nat.le_refl _|assumption|exact St.le_refl _|(intros;(repeat' (with_reducible apply And.intro))<;>first|omega|(simp only [RZ,aI,bw];omega))|(simp only [aq,slot,ae,RR,seval];all_goals exact bz)|exact aZ|(simp_all;done)|skip
                refine ⟨(k+j+1,rs),⟨by simp only;omega,by simp only;omega,by simp only;exact hI⟩,by simp [aq,slot,ae],rA (St.aD (St.le_refl _) (St.bq.2 ⟨⟨inferInstance,inferInstance⟩,hβ⟩)),by simp only;omega⟩
            | cons w ws =>
              rw [bV,if_neg P6,hwx] at hI
              simp only at hI
              rw [vZ] at hI
              generalize hY:(w::ws).map (dx k)=y at pl hI
              have hyl:0<y.length:=by rw [←hY];simp
              have hn0:decide ((0:Int)<(y.length:Int))=true:=Qf
              rcases hab with ⟨q1,d,h1,q3⟩|q1
              all_goals
                simp only [↓R1,RR,seval,q1,q3,q4,h1,hsl,hw]
                repeat' (first|(with_reducible rw [ah])|(with_reducible refine And.intro ?_ ?_;focus (intros;(repeat' (with_reducible apply And.intro))<;>first|omega|(simp only [RZ,aI,bw];omega)))|(with_reducible apply And.intro)|((first|(with_reducible intro β hβ;(try simp only [RB] at hβ);(repeat (obtain ⟨⟨_,_⟩,hβ⟩:=hβ));(try (have hbis:=aj Qa hβ;obtain ⟨_,_⟩:=hbis)))|(refine Pt (pl) ?_))<;>(try simp only [↓R1,RR,seval,hn0])))
                all_goals all_goals first|omega|exact Nat.le_refl _|assumption|exact St.le_refl _|(intros;(repeat' (with_reducible apply And.intro))<;>first|omega|(simp only [RZ,aI,bw];omega))|(simp only [aq,seval];all_goals exact bz)|exact aZ|(simp_all;done)|skip
                refine br rfl ?_ ?_ ?_ ?_ ?_ ?_
                · simp only [RR,seval]
                · simp only [bw]
                · rfl
                · unfold maxLen;omega
                · omega
                simp only [↓R1,RR,seval,hw2]
                skip
                all_goals all_goals first|omega|exact Nat.le_refl _|assumption|exact St.le_refl _|(intros;(repeat' (with_reducible apply And.intro))<;>first|omega|(simp only [RZ,aI,bw];omega))|(simp only [aq,slot,ae,RR,seval];all_goals exact bz)|exact aZ|(simp_all;done)|skip
                refine ⟨(k+j+1,rs++ [⟨k,y⟩]),⟨by simp only;omega,by simp;omega,by simp only;exact hI⟩,?_,?_,by simp only;omega⟩
                · simp only [DU,List.length_append,List.length_singleton];simp [aq,slot,ae]
                · simp only [List.length_append,List.length_singleton]
                  exact rA (St.aD (St.le_refl _) (St.bq.2 ⟨⟨inferInstance,inferInstance⟩,hβ⟩))
    · have q2:decide ((k:Int)<(s.length:Int))=false:=by rw [decide_eq_false_iff_not];omega
      have hdn:s.drop k= []:=List.drop_eq_nil_of_le P6
      rw [hdn,Aj,kL] at hI
      rw [hI,fC,dP]
      simp only [↓R1,RR,seval,q2]
      skip
      all_goals all_goals first|omega|exact Nat.le_refl _|assumption|exact St.le_refl _|(intros;(repeat' (with_reducible apply And.intro))<;>first|omega|(simp only [RZ,aI,bw];omega))|(simp only [aq,slot,ae,↓R1,RR,seval,q1,q2,q3,q4,h1,hsl,hw,hw2,hn0,aI];all_goals exact bz)|exact aZ|(simp_all;done)|skip
      all_goals (refine ak ?_ P8)
      all_goals (simp only [an,RR,seval];all_goals exact dN)
end Go.Proofs.YtgephffbfiemeaaGreatDoor
