/- Part 26 of the proof of ScriptTexts: an abstract semantics that is proved sound for the model, contracts of functions in it, and plain facts (SP1 EV12 EV13 EV14). No condition. -/
import Derived.Test.YtgephffbfiemeaaGreatDoorKScriptTexts25
import Derived.Shelf.Strings.Split
import Derived.BigCall
set_option linter.all false
namespace Go.Proofs.YtgephffbfiemeaaGreatDoor
open Go.Abs Go.Lib Go.RowKit
set_option linter.all false
set_option maxRecDepth 100000
theorem Mc (s:List UInt8) (c:UInt8):Pu Tryz.prog 269 [.str s, .str [c]] (.int .i64 (Lib.indexByte s c)):=by
 intro σ
 refine AC.eO (Go.Proofs.enters_of Tryz.func269 (by kernel_rfl) rfl) ?_
 intro g w vs hI hv
 obtain ⟨v1,vs,rfl,r1,hv⟩:=hv.cons_inv
 obtain ⟨v2,vs,rfl,r2,hv⟩:=hv.cons_inv
 rw [hv.bO,r1.cN,r2.cN]
 refine (Tryz.stringslite_Index_one ⟨s.toArray⟩ c w).mono ?_
 rintro e w' ⟨rfl,rfl⟩
 exact ⟨_,rfl,Below.refl _ _,fun g' _=> .int _ _⟩
end Go.Proofs.YtgephffbfiemeaaGreatDoor
namespace Go.Proofs.YtgephffbfiemeaaGreatDoor
open Go.Abs Go.Lib
set_option linter.all false
set_option maxRecDepth 100000
def bJ:List UInt8→UInt8→Nat
 | [],_=>0
 | x::l,c=>bif x == c then 0 else bJ l c+1
theorem jF (c:UInt8):∀ s,bJ s c≤s.length
  | []=>Nat.le_refl _
  | x :: l => by
    have:=jF c l
    unfold bJ
    cases (x == c)<;>simp<;>omega
theorem find_index (c:UInt8):∀ s,Lib.indexByte s c=if bJ s c<s.length then (bJ s c:Int) else -1
  | []=>rfl
  | x :: l => by
    have h:=find_index c l
    have h2:=jF c l
    unfold Lib.indexByte bJ
    rw [h]
    cases hx:(x == c) with
    | true=>simp
    | false =>
      simp only [cond_false,Bool.false_eq_true,if_false,List.length_cons]
      by_cases hl:bJ l c<l.length
      · have h3:((bJ l c:Int) == -1)=false:=by rw [beq_eq_false_iff_ne];omega
        rw [if_pos hl,h3,if_pos (show bJ l c+1<l.length+1 by omega),if_neg (by decide)]
        rfl
      · rw [if_neg hl,if_neg (show ¬ bJ l c+1<l.length+1 by omega)];rfl
theorem rE (c:UInt8):∀ s,bJ s c<s.length→(s[bJ s c]?.getD 0 == c)=true
  | [],h=>by simp [bJ] at h
  | x :: l, h => by
    unfold bJ at h ⊢
    cases hx:(x == c) with
    | true=>simpa using hx
    | false =>
      rw [hx,cond_false] at h
      simpa using rE c l (by simpa using h)
theorem Md (s:List UInt8) (c:UInt8) (hs:s.length≤1000000):Pu Tryz.prog 275 [.str s, .str [c]] (.tup [.str (s.take (bJ s c)), .str (s.drop (bJ s c+1)), .bool (decide (bJ s c<s.length))]):=by
 have hle:=jF c s
 have hi:=Mc s c
 rw [find_index] at hi
 have hw:IntKind.i64.wrap ((bJ s c:Int)+((1:Nat):Int))=((bJ s c+1:Nat):Int):=by rw [wrap64 (by omega) (by omega)];omega
 by_cases hf:bJ s c<s.length
 ·rw [if_pos hf] at hi
  have hd:decide ((0:Int)≤(bJ s c:Int))=true:=by simp
  (refine al AP Jw fun σ=>?_;simp only [AP,↓R1,RR,Nat.reduceEqDiff,Nat.reduceAdd,Nat.reduceLT,reduceCtorEq,hw,hd])
  repeat' (first|(with_reducible refine And.intro ?_ ?_;(focus (first|omega|(intros;(repeat' (with_reducible apply And.intro))<;>first|omega|(simp only [List.length_append,List.length_cons,List.length_nil];omega)))))|((first|refine Pu.to (hi) (aa _) ?_|refine aK (hi) (aa _) ?_);(try simp only [↓R1,RR,Nat.reduceEqDiff,Nat.reduceAdd,Nat.reduceLT,reduceCtorEq,hw,hd])))
  all_goals first|(exfalso;simp at hc;omega)|omega|skip
  all_goals (refine ak (af ?_))
  all_goals (simp only [ao,↓R1,RR,Nat.reduceEqDiff,Nat.reduceAdd,Nat.reduceLT,reduceCtorEq,hw,hd])
  all_goals first|(rw [List.take_of_length_le (by simp:(List.drop (bJ s c+1) s).length≤s.length - (bJ s c+1)),decide_eq_true hf];done)|(rw [List.take_of_length_le (by omega:s.length≤bJ s c),List.drop_of_length_le (by omega:s.length≤bJ s c+1),decide_eq_false hf];done)|trace_state
 ·rw [if_neg hf] at hi
  have hd:decide ((0:Int)≤ -1)=false:=by decide
  (refine al AP Jw fun σ=>?_;simp only [AP,↓R1,RR,Nat.reduceEqDiff,Nat.reduceAdd,Nat.reduceLT,reduceCtorEq,hw,hd])
  repeat' (first|((first|refine Pu.to (hi) (aa _) ?_|refine aK (hi) (aa _) ?_);(try simp only [↓R1,RR,Nat.reduceEqDiff,Nat.reduceAdd,Nat.reduceLT,reduceCtorEq,hw,hd])))
  all_goals first|(exfalso;simp at hc;omega)|omega|skip
  all_goals (refine ak (af ?_))
  all_goals (simp only [ao,↓R1,RR,Nat.reduceEqDiff,Nat.reduceAdd,Nat.reduceLT,reduceCtorEq,hw,hd])
  all_goals first|(rw [List.take_of_length_le (by simp:(List.drop (bJ s c+1) s).length≤s.length - (bJ s c+1)),decide_eq_true hf];done)|(rw [List.take_of_length_le (by omega:s.length≤bJ s c),List.drop_of_length_le (by omega:s.length≤bJ s c+1),decide_eq_false hf];done)|trace_state
theorem Me (s:List UInt8) (c:UInt8) (hs:s.length≤1000000):Pu Tryz.prog 251 [.str s, .str [c]] (.tup [.str (s.take (bJ s c)), .str (s.drop (bJ s c+1)), .bool (decide (bJ s c<s.length))]):=by
 have h:=Md s c hs
 (refine al Hb Lf fun σ=>?_;simp only [Hb,↓R1,RR,Nat.reduceEqDiff,Nat.reduceAdd,Nat.reduceLT,reduceCtorEq])
 repeat' (first|((first|refine Pu.to (h) (aa _) ?_|refine aK (h) (aa _) ?_);(try simp only [↓R1,RR,Nat.reduceEqDiff,Nat.reduceAdd,Nat.reduceLT,reduceCtorEq])))
 (refine ak (af ?_))
 (simp only [ao,↓R1,RR,Nat.reduceEqDiff,Nat.reduceAdd,Nat.reduceLT,reduceCtorEq])
def rF (s:List UInt8):Bool:=s.all dg&&decide (s.length≤20)&&decide (val 0 s<18446744073709551616)
def kd (s:List UInt8):Nat:=bif rF s then val 0 s else 0
def ke (s:List UInt8):Bool:=dm s&&decide (val 0 s<18446744073709551616)
theorem xO {s:List UInt8} (h:dm s=true):s.all dg=true∧0<s.length:=by
 simp only [dm,Bool.and_eq_true,Bool.not_eq_true'] at h
 refine ⟨h.2,?_⟩
 cases s with
 | nil=>simp [gB] at h
 | cons x l=>simp
theorem HQ {s:List UInt8} (h:rF s=false):ke s=false:=by
  cases hb:ke s with
  | false=>rfl
  | true =>
    simp only [ke,Bool.and_eq_true,decide_eq_true_eq] at hb
    have hl:=dU _ hb.2
    rw [uW hb.1] at hl
    simp [rF,(xO hb.1).1,hb.2] at h
    omega
theorem pr {n:Int}:(idE n == 0)=(decide (1≤n)&&decide (n≤1099511627776)):=by
 simp only [idE,Bool.cond_eq_ite];grind
def c9 (l:BitVec 64) (n:Int):List UInt8:=bif idE n == 0 then cT l++ [35]++decDigits n.toNat else []
theorem mw (n:Nat):itoa (n:Int)=decDigits n:=by unfold itoa;rw [if_neg (by omega)];simp
theorem tT (l:BitVec 64) (n:Int):(c9 l n).length≤300:=by
  unfold c9
  cases h:(idE n == 0) with
  | false=>simp
  | true =>
    rw [pr] at h
    simp only [Bool.and_eq_true,decide_eq_true_eq] at h
    have h1:=dV l
    have h2:=dU n.toNat (by omega)
    simp only [cond_true,List.length_append,List.length_cons,List.length_nil];omega
theorem Mf (l:BitVec 64) (n:Int):Pu Tryz.prog 143 [.agg [.int .u64 l.toNat, .int .u64 n]] (.tup [.str (c9 l n), .int .i64 (idE n)]):=by
 have h0:=LR l.toNat n
 have h1:=p58 l
 have l1:=dV l
 by_cases he:idE n=0
 ·have hb:(idE n == 0)=true:=by simpa using he
  rw [pr] at hb
  simp only [Bool.and_eq_true,decide_eq_true_eq] at hb
  obtain ⟨m,rfl⟩:=Int.eq_ofNat_of_zero_le (show 0≤n by omega)
  have h2:=L0 m (by omega)
  have hx:(cT l).length≤194:=l1
  have l2:=dU m (by omega)
  have ht:c9 l m=cT l++ [35]++decDigits m:=by simp [c9,he]
  rw [he] at h0 ⊢
  rw [ht]
  (refine al AK Jr fun σ=>?_;simp only [AK,↓R1,RR,seval,hx])
  repeat' (first|((first|refine an (fun hc=>?_) (fun hc=>?_)|(with_reducible intro β hβ;(try simp only [St.aD,St.bh,St.bx,St.bz,St.ca,St.cg] at hβ);(repeat (obtain ⟨⟨_,_⟩,hβ⟩:=hβ));(try (have hbis:=ag (by assumption) hβ;obtain ⟨_,_⟩:=hbis))))<;>(try simp only [↓R1,RR,seval,hx]))|(with_reducible refine And.intro ?_ ?_;(focus (first|omega|(intros;(repeat' (with_reducible apply And.intro))<;>first|omega|(simp only [List.length_append,List.length_cons,List.length_nil];omega)))))|((first|refine Pu.to (h0) (aa _) ?_|refine aK (h0) (aa _) ?_|refine Pu.to (h1) (aa _) ?_|refine aK (h1) (aa _) ?_|refine Pu.to (h2) (aa _) ?_|refine aK (h2) (aa _) ?_);(try simp only [↓R1,RR,seval,hx])))
  all_goals (refine ak (af ?_))
  all_goals (simp only [ao,↓R1,RR,seval,hx])
 ·have hb:(idE n == 0)=false:=by simpa using he
  have hx:(idE n != 0)=true:=by simpa using he
  have ht:c9 l n= []:=by simp [c9,hb]
  rw [ht]
  (refine al AK Jr fun σ=>?_;simp only [AK,↓R1,RR,seval,hx])
  repeat' (first|((first|refine an (fun hc=>?_) (fun hc=>?_)|(with_reducible intro β hβ;(try simp only [St.aD,St.bh,St.bx,St.bz,St.ca,St.cg] at hβ);(repeat (obtain ⟨⟨_,_⟩,hβ⟩:=hβ));(try (have hbis:=ag (by assumption) hβ;obtain ⟨_,_⟩:=hbis))))<;>(try simp only [↓R1,RR,seval,hx]))|((first|refine Pu.to (h0) (aa _) ?_|refine aK (h0) (aa _) ?_);(try simp only [↓R1,RR,seval,hx])))
  all_goals (refine ak (af ?_))
  all_goals (simp only [ao,↓R1,RR,seval,hx])
theorem p76 (l:BitVec 64) (n:Int):PuG Tryz.prog gl3 76 [.agg [.int .u64 l.toNat, .int .u64 n]] (.tup [.str (c9 l n), .int .i64 (idE n)]):=by
 have h0:=LQ l.toNat n
 have h1:=PuG.up3 (p51 l)
 have l1:=dV l
 by_cases he:idE n=0
 ·have hb:(idE n == 0)=true:=by simpa using he
  rw [pr] at hb
  simp only [Bool.and_eq_true,decide_eq_true_eq] at hb
  obtain ⟨m,rfl⟩:=Int.eq_ofNat_of_zero_le (show 0≤n by omega)
  have hx:IntKind.i64.wrap (m:Int)=m:=wrap64 (by omega) (by omega)
  have h2:=LW m (by unfold I64;omega)
  rw [mw] at h2
  have l2:=dU m (by omega)
  have ht:c9 l m=cT l++ [35]++decDigits m:=by simp [c9,he]
  rw [he] at h0 ⊢
  rw [ht]
  (refine aP c76 b76 fun σ hσ=>?_;simp only [c76,↓R1,RR,seval,hx])
  repeat' (first|((first|refine an (fun hc=>?_) (fun hc=>?_)|(with_reducible intro β hβ;(try simp only [St.aD,St.bh,St.bx,St.bz,St.ca,St.cg] at hβ);(repeat (obtain ⟨⟨_,_⟩,hβ⟩:=hβ));(try (have hbis:=ag (by assumption) hβ;obtain ⟨_,_⟩:=hbis))))<;>(try simp only [↓R1,RR,seval,hx]))|(with_reducible refine And.intro ?_ ?_;(focus (first|omega|(intros;(repeat' (with_reducible apply And.intro))<;>first|omega|(simp only [List.length_append,List.length_cons,List.length_nil];omega)))))|((first|refine Pu.to (h0) (aa _) ?_|refine aK (h0) (aa _) ?_|refine aS (h1) hσ (aa _) ?_|refine aS (h2) hσ (aa _) ?_);(try simp only [↓R1,RR,seval,hx])))
  all_goals (refine ak (af ?_))
  all_goals (simp only [ao,↓R1,RR,seval,hx])
 ·have hb:(idE n == 0)=false:=by simpa using he
  have hx:(idE n != 0)=true:=by simpa using he
  have ht:c9 l n= []:=by simp [c9,hb]
  rw [ht]
  (refine aP c76 b76 fun σ hσ=>?_;simp only [c76,↓R1,RR,seval,hx])
  repeat' (first|((first|refine an (fun hc=>?_) (fun hc=>?_)|(with_reducible intro β hβ;(try simp only [St.aD,St.bh,St.bx,St.bz,St.ca,St.cg] at hβ);(repeat (obtain ⟨⟨_,_⟩,hβ⟩:=hβ));(try (have hbis:=ag (by assumption) hβ;obtain ⟨_,_⟩:=hbis))))<;>(try simp only [↓R1,RR,seval,hx]))|((first|refine Pu.to (h0) (aa _) ?_|refine aK (h0) (aa _) ?_);(try simp only [↓R1,RR,seval,hx])))
  all_goals (refine ak (af ?_))
  all_goals (simp only [ao,↓R1,RR,seval,hx])
def hS (s:List UInt8) (c:UInt8):List UInt8:=s.take (bJ s c)
def tS (s:List UInt8) (c:UInt8):List UInt8:=s.drop (bJ s c+1)
theorem Br {s:List UInt8} {c:UInt8} (h:bJ s c<s.length):hS s c++ [c]++tS s c=s:=by
 have hh:=rE c s h
 have e:s[bJ s c]?.getD 0=s[bJ s c]:=by rw [List.getElem?_eq_getElem h];rfl
 rw [e,beq_iff_eq] at hh
 unfold hS tS
 rw [List.append_assoc]
 conv=>rhs;rw [←List.take_append_drop (bJ s c) s,List.drop_eq_getElem_cons h,hh]
 rfl
def lh (s:List UInt8):Bool:=decide ((c8 (hS s 35)).err=0)&&decide (bJ s 35<s.length)&&ke (tS s 35)&&(idE (kd (tS s 35)) == 0)
def xP (s:List UInt8):List AV:=bif lh s then [.int .u64 (c8 (hS s 35)).l.toNat, .int .u64 (kd (tS s 35))] else [.int .u64 0, .int .u64 0]
def xQ (s:List UInt8):Int:=bif lh s then 0 else 3
theorem uY {t:List UInt8} (h:ke t=true):dm t=true∧val 0 t<18446744073709551616∧kd t=val 0 t:=by
 have hok:rF t=true:=by
  cases hq:rF t with
  | true=>rfl
  | false=>rw [HQ hq] at h;cases h
 simp only [ke,Bool.and_eq_true,decide_eq_true_eq] at h
 exact ⟨h.1,h.2,by simp [kd,hok]⟩
theorem Ep (t:List UInt8):(tQ t 1099511627776 == 0)=(ke t&&decide (kd t≤1099511627776))∧(tQ t 1099511627776=0→Bj t 1099511627776=kd t):=by
  unfold tQ Bj Bi
  cases hg:dm t with
  | false=>simp [ke,hg]
  | true =>
    by_cases hv:val 0 t<18446744073709551616
    · have hb:ke t=true:=by simp [ke,hg,hv]
      have hn:=(uY hb).2.2
      have hm:val 0 t % 18446744073709551616=val 0 t:=Nat.mod_eq_of_lt hv
      rw [hb,hn,hm,decide_eq_false (by omega:¬ 18446744073709551616≤val 0 t)]
      by_cases hl:val 0 t≤1099511627776
      · have:decide ((1099511627776:Int)<(val 0 t:Int))=false:=by simp;omega
        simp [this,hl]
      · have:decide ((1099511627776:Int)<(val 0 t:Int))=true:=by simp;omega
        simp [this,hl]
    · have hb:ke t=false:=by simp [ke,hv]
      rw [hb,decide_eq_true (by omega:18446744073709551616≤val 0 t)]
      simp
theorem xR {s:List UInt8} (h1:(c8 (hS s 35)).err=0) (h2:ke (tS s 35)=true) (h3:idE (kd (tS s 35))=0):(c9 (c8 (hS s 35)).l (kd (tS s 35)) == s)=lh s:=by
 obtain ⟨g1,g2,g3⟩:=uY h2
 have e1:=qG h1
 have hlt:bJ s 35<s.length:=by
  rcases Nat.lt_or_ge (bJ s 35) s.length with h|h
  ·exact h
  ·have:tS s 35= []:=List.drop_of_length_le (by omega)
   rw [this] at g1
   simp [dm,gB] at g1
 have e2:c9 (c8 (hS s 35)).l (kd (tS s 35))=s:=by
  simp only [c9,h3,beq_self_eq_true,cond_true,Int.toNat_natCast]
  rw [e1,g3,uW g1,Br hlt]
 rw [e2,beq_self_eq_true]
 simp [lh,h1,h2,h3,hlt]
theorem Mg (s:List UInt8) (hs:s.length≤1000000):PuG Tryz.prog gl3 214 [.str s] (.tup [.agg (xP s), .int .i64 (xQ s)]):=by
  have hle:=jF 35 s
  have h1:=Me s 35 hs
  have h2:=JC (hS s 35) (by simp [hS];omega)
  have h3:=L2 (tS s 35) 1099511627776 (by simp only [tS,List.length_drop];unfold maxLen;omega)
  have h4:=p76 (c8 (hS s 35)).l (Bj (tS s 35) 1099511627776)
  simp only [D7] at h2
  rw [Ek] at h3
  (refine aP GY K2 fun σ hσ=>?_;simp only [GY,↓R1,RR,seval])
  obtain ⟨n1,n2⟩:=Ep (tS s 35)
  have err:(((c8 (hS s 35)).err:Int) != 0)= !decide ((c8 (hS s 35)).err=0):=LV
  have hidE:(idE (kd (tS s 35)) == 0)=(decide (1≤(kd (tS s 35):Int))&&decide ((kd (tS s 35):Int)≤1099511627776)):=pr
  have ha:=xR (s:=s)
  repeat' (first|(with_reducible rw [ah])|((first|refine an (fun hc=>?_) (fun hc=>?_)|(with_reducible intro β hβ;(try simp only [St.aD,St.bh,St.bx,St.bz,St.ca,St.cg] at hβ);(repeat (obtain ⟨⟨_,_⟩,hβ⟩:=hβ));(try (have hbis:=ag (by assumption) hβ;obtain ⟨_,_⟩:=hbis))))<;>(try simp only [↓R1,RR,seval]))|((first|refine Pu.to (h1) (aa _) ?_|refine aK (h1) (aa _) ?_|refine Pu.to (h2) (aa _) ?_|refine aK (h2) (aa _) ?_|refine Pu.to (h3) (aa _) ?_|refine aK (h3) (aa _) ?_|refine PuG.to (h4) hσ (aa _) ?_);(try simp only [↓R1,RR,seval])))
  · have hv:lh s=false:=by
      rw [err] at hc
      cases hq:lh s with
      | false=>rfl
      | true =>
        exfalso
        simp only [lh,Bool.and_eq_true,decide_eq_true_eq,hidE] at hq
        have:(tQ (tS s 35) 1099511627776 == 0)=true:=by
          rw [n1];simp only [Bool.and_eq_true,decide_eq_true_eq];exact ⟨hq.1.2,by omega⟩
        simp only [beq_iff_eq] at this
        rw [this,decide_eq_true hq.1.1.1] at hc
        simp at hc
    (refine ak (af ?_) (by first|(simp [aj,rvS];done)|(simp only [aj,rvS,↓R1,RR,seval];try simp)))
    (simp only [ao,↓R1,RR,seval])
    simp only [xP,xQ,hv,cond_false]
  all_goals (
    have hq:(c8 (hS s 35)).err=0∧tQ (tS s 35) 1099511627776=0:=by
      rename_i hz
      simpa [err] using hz
    have hn:=n2 hq.2
    rw [hq.2] at n1
    simp only [beq_self_eq_true,Bool.true_eq,Bool.and_eq_true,decide_eq_true_eq] at n1
    have ha2:=ha hq.1 n1.1
    rw [hn] at hc ⊢)
  · have hv:lh s=false:=by
      cases hv:lh s with
      | false=>rfl
      | true =>
        exfalso
        have h5:=hv
        simp only [lh,Bool.and_eq_true,beq_iff_eq] at h5
        have h6:=ha2 h5.2
        rw [hv,beq_iff_eq] at h6
        rw [h5.2,h6] at hc
        simp at hc
    (refine ak (af ?_) (by first|(simp [aj,rvS];done)|(simp only [aj,rvS,↓R1,RR,seval];try simp)))
    (simp only [ao,↓R1,RR,seval])
    simp only [xP,xQ,hv,cond_false]
  · simp only [Bool.or_eq_false_iff,bne_eq_false_iff_eq] at hc
    have hv:=ha2 hc.1
    have h7:=hc.2
    rw [Bool.not_eq_false'] at h7
    rw [h7] at hv
    (refine ak (af ?_) (by first|(simp [aj,rvS];done)|(simp only [aj,rvS,↓R1,RR,seval];try simp)))
    (simp only [ao,↓R1,RR,seval])
    simp only [xP,xQ,←hv,cond_true]
end Go.Proofs.YtgephffbfiemeaaGreatDoor
