/- Part 25 of the proof of ScriptKnown: an abstract semantics that is proved sound for the model, contracts of functions in it, and plain facts (SP1 EV12 EV13 EV14). No condition. -/
import Derived.Test.YtgephffbfiemeaaGreatDoorKScriptKnown24
import Derived.Shelf.Strings.Split
import Derived.BigCall
set_option linter.all false
namespace Go.Proofs.YtgephffbfiemeaaGreatDoor
open Go.Abs Go.Lib Go.RowKit
set_option linter.all false
set_option maxRecDepth 100000
theorem NK (s:List UInt8) (c:UInt8):Pu Tryz.prog 269 [.str s, .str [c]] (.int .i64 (Lib.indexByte s c)):=by
 intro σ
 refine AC.eX (Go.Proofs.enters_of Tryz.func269 OA rfl) ?_
 intro g w vs hI hv
 obtain ⟨v1,vs,rfl,r1,hv⟩:=hv.cons_inv
 obtain ⟨v2,vs,rfl,r2,hv⟩:=hv.cons_inv
 rw [hv.bK,r1.cF,r2.cF]
 refine (Tryz.stringslite_Index_one ⟨s.toArray⟩ c w).mono ?_
 rintro e w' ⟨rfl,rfl⟩
 exact ⟨_,rfl,Below.refl _ _,fun g' _=> .int _ _⟩
end Go.Proofs.YtgephffbfiemeaaGreatDoor
namespace Go.Proofs.YtgephffbfiemeaaGreatDoor
open Go.Abs Go.Lib
set_option linter.all false
set_option maxRecDepth 100000
def bD:List UInt8→UInt8→Nat
 | [],_=>0
 | x::l,c=>bif x == c then 0 else bD l c+1
theorem jW (c:UInt8):∀ s,bD s c≤s.length
  | []=>Nat.le_refl _
  | x :: l => by
    have:=jW c l
    unfold bD
    cases (x == c)<;>simp<;>omega
theorem find_index (c:UInt8):∀ s,Lib.indexByte s c=if bD s c<s.length then (bD s c:Int) else -1
  | []=>rfl
  | x :: l => by
    have h:=find_index c l
    have h2:=jW c l
    unfold Lib.indexByte bD
    rw [h]
    cases hx:(x == c) with
    | true=>simp
    | false =>
      simp only [cond_false,Bool.false_eq_true,if_false,List.length_cons]
      by_cases hl:bD l c<l.length
      · have h3:((bD l c:Int) == -1)=false:=by rw [beq_eq_false_iff_ne];omega
        rw [if_pos hl,h3,if_pos (show bD l c+1<l.length+1 by omega),if_neg OK]
        rfl
      · rw [if_neg hl,if_neg (show ¬ bD l c+1<l.length+1 by omega)];rfl
theorem rZ (c:UInt8):∀ s,bD s c<s.length→(s[bD s c]?.getD 0 == c)=true
  | [],h=>by simp [bD] at h
  | x :: l, h => by
    unfold bD at h ⊢
    cases hx:(x == c) with
    | true=>simpa using hx
    | false =>
      rw [hx,cond_false] at h
      simpa using rZ c l Py
theorem NL (s:List UInt8) (c:UInt8) (hs:s.length≤1000000):Pu Tryz.prog 275 [.str s, .str [c]] (.tup [.str (s.take (bD s c)), .str (s.drop (bD s c+1)), .bool (decide (bD s c<s.length))]):=by
 have hle:=jW c s
 have hi:=NK s c
 rw [find_index] at hi
 have hw:IntKind.i64.wrap ((bD s c:Int)+((1:Nat):Int))=((bD s c+1:Nat):Int):=OD
 by_cases hf:bD s c<s.length
 ·rw [if_pos hf] at hi
  have hd:decide ((0:Int)≤(bD s c:Int))=true:=OF
  (refine av BF KT fun σ=>?_;simp only [BF,↓R1,RR,Nat.reduceEqDiff,Nat.reduceAdd,reduceCtorEq])
  repeat' (first|(with_reducible refine And.intro ?_ ?_;(focus (first|omega|(intros;(repeat' (with_reducible apply And.intro))<;>first|omega|(simp only [List.length_append,List.length_cons,List.length_nil];omega)))))|((first|refine Pu.to (hi) (aa _) ?_|refine bd (hi) (aa _) ?_);(try simp only [↓R1,RR,Nat.reduceEqDiff,reduceCtorEq,hw,hd])))
  all_goals first|(exfalso;simp at hc;omega)|omega|skip
  all_goals (refine aq (af ?_))
  all_goals (simp only [ar,RR,Nat.reduceEqDiff,reduceCtorEq])
  all_goals first|(rw [List.take_of_length_le (by simp:(List.drop (bD s c+1) s).length≤s.length - (bD s c+1)),decide_eq_true hf];done)|(rw [List.take_of_length_le (by omega:s.length≤bD s c),List.drop_of_length_le (by omega:s.length≤bD s c+1),decide_eq_false hf];done)|trace_state
 ·rw [if_neg hf] at hi
  have hd:decide ((0:Int)≤ -1)=false:=OK
  (refine av BF KT fun σ=>?_;simp only [BF,↓R1,RR,Nat.reduceEqDiff,Nat.reduceAdd,reduceCtorEq])
  repeat' (first|((first|refine Pu.to (hi) (aa _) ?_|refine bd (hi) (aa _) ?_);(try simp only [↓R1,RR,Nat.reduceEqDiff,reduceCtorEq,hd])))
  all_goals first|(exfalso;simp at hc;omega)|omega|skip
  all_goals (refine aq (af ?_))
  all_goals (simp only [ar,RR,Nat.reduceEqDiff,reduceCtorEq])
  all_goals first|(rw [List.take_of_length_le (by simp:(List.drop (bD s c+1) s).length≤s.length - (bD s c+1)),decide_eq_true hf];done)|(rw [List.take_of_length_le (by omega:s.length≤bD s c),List.drop_of_length_le (by omega:s.length≤bD s c+1),decide_eq_false hf];done)|trace_state
theorem NM (s:List UInt8) (c:UInt8) (hs:s.length≤1000000):Pu Tryz.prog 251 [.str s, .str [c]] (.tup [.str (s.take (bD s c)), .str (s.drop (bD s c+1)), .bool (decide (bD s c<s.length))]):=by
 have h:=NL s c hs
 (refine av Im ML fun σ=>?_;simp only [Im,↓R1,RR,Nat.reduceEqDiff,Nat.reduceAdd,reduceCtorEq])
 repeat' (first|((first|refine Pu.to (h) (aa _) ?_|refine bd (h) (aa _) ?_);(try simp only [↓R1,RR,Nat.reduceEqDiff,Nat.reduceAdd,Nat.reduceLT,reduceCtorEq])))
 (refine aq (af ?_))
 (simp only [ar,RR,Nat.reduceEqDiff,reduceCtorEq])
def r4 (s:List UInt8):Bool:=s.all dg&&decide (s.length≤20)&&decide (val 0 s<18446744073709551616)
def kC (s:List UInt8):Nat:=bif r4 s then val 0 s else 0
def kD (s:List UInt8):Bool:=de s&&decide (val 0 s<18446744073709551616)
theorem yw {s:List UInt8} (h:de s=true):s.all dg=true∧0<s.length:=by
 simp only [de,Bool.and_eq_true,Bool.not_eq_true'] at h
 refine ⟨h.2,?_⟩
 cases s with
 | nil=>simp [gD] at h
 | cons x l=>simp
theorem I8 {s:List UInt8} (h:r4 s=false):kD s=false:=by
  cases hb:kD s with
  | false=>rfl
  | true =>
    simp only [kD,Bool.and_eq_true,decide_eq_true_eq] at hb
    have hl:=fh _ hb.2
    rw [vw hb.1] at hl
    simp [r4,(yw hb.1).1,hb.2] at h
    omega
theorem uE {n:Int}:(idE n == 0)=(decide (1≤n)&&decide (n≤1099511627776)):=by
 simp only [idE,Bool.cond_eq_ite];grind
def eG (l:BitVec 64) (n:Int):List UInt8:=bif idE n == 0 then dI l++ [35]++decDigits n.toNat else []
theorem mO (n:Nat):itoa (n:Int)=decDigits n:=by unfold itoa;rw [if_neg Oz];simp
theorem uF (l:BitVec 64) (n:Int):(eG l n).length≤300:=by
  unfold eG
  cases h:(idE n == 0) with
  | false=>simp
  | true =>
    rw [uE] at h
    simp only [Bool.and_eq_true,decide_eq_true_eq] at h
    have h1:=eF l
    have h2:=fh n.toNat Oz
    simp only [cond_true,List.length_append,List.length_cons,List.length_nil];omega
theorem _root_.OZ {p:Prop} (h:p:=by unfold I64;omega):p:=h
theorem p76 (l:BitVec 64) (n:Int):PuG Tryz.prog gl3 76 [.agg [.int .u64 l.toNat, .int .u64 n]] (.tup [.str (eG l n), .int .i64 (idE n)]):=by
 have h0:=Nq l.toNat n
 have h1:=PuG.up3 (p51 l)
 have l1:=eF l
 by_cases he:idE n=0
 ·have hb:(idE n == 0)=true:=by simpa using he
  rw [uE] at hb
  simp only [Bool.and_eq_true,decide_eq_true_eq] at hb
  obtain ⟨m,rfl⟩:=Int.eq_ofNat_of_zero_le (show 0≤n by omega)
  have hx:IntKind.i64.wrap (m:Int)=m:=wrap64 Oz Oz
  have h2:=Nu m OZ
  rw [mO] at h2
  have l2:=fh m Oz
  have ht:eG l m=dI l++ [35]++decDigits m:=by simp [eG,he]
  rw [he] at h0 ⊢
  rw [ht]
  (refine aO c76 b76 fun σ hσ=>?_;simp only [c76,↓R1,RR,seval])
  repeat' (first|((first|refine aj (fun hc=>?_) (fun hc=>?_)|(with_reducible intro β hβ;(try simp only [St.aG,St.bC,St.bn,St.bu,St.cS,St.da] at hβ);(repeat (obtain ⟨⟨_,_⟩,hβ⟩:=hβ));(try (have hbis:=ag OB hβ;obtain ⟨_,_⟩:=hbis))))<;>(try simp only [↓R1,RR,seval,hx]))|(with_reducible refine And.intro ?_ ?_;(focus (first|omega|(intros;(repeat' (with_reducible apply And.intro))<;>first|omega|(simp only [List.length_append,List.length_cons,List.length_nil];omega)))))|((first|refine Pu.to (h0) (aa _) ?_|refine bd (h0) (aa _) ?_|refine aS (h1) hσ (aa _) ?_|refine aS (h2) hσ (aa _) ?_);(try simp only [↓R1,RR,seval,hx])))
  all_goals (refine aq (af ?_))
  all_goals (simp only [ar,RR,seval])
 ·have hb:(idE n == 0)=false:=by simpa using he
  have hx:(idE n != 0)=true:=by simpa using he
  have ht:eG l n= []:=by simp [eG,hb]
  rw [ht]
  (refine aO c76 b76 fun σ hσ=>?_;simp only [c76,↓R1,RR,seval])
  repeat' (first|((first|refine aj (fun hc=>?_) (fun hc=>?_)|(with_reducible intro β hβ;(try simp only [St.aG,St.bC,St.bn,St.bu,St.cS,St.da] at hβ);(repeat (obtain ⟨⟨_,_⟩,hβ⟩:=hβ));(try (have hbis:=ag OB hβ;obtain ⟨_,_⟩:=hbis))))<;>(try simp only [↓R1,RR,seval,hx]))|((first|refine Pu.to (h0) (aa _) ?_|refine bd (h0) (aa _) ?_);(try simp only [↓R1,RR,seval,hx])))
  all_goals (refine aq (af ?_))
  all_goals (simp only [ar,RR,seval])
def hS (s:List UInt8) (c:UInt8):List UInt8:=s.take (bD s c)
def tS (s:List UInt8) (c:UInt8):List UInt8:=s.drop (bD s c+1)
theorem B9 {s:List UInt8} {c:UInt8} (h:bD s c<s.length):hS s c++ [c]++tS s c=s:=by
 have hh:=rZ c s h
 have e:s[bD s c]?.getD 0=s[bD s c]:=by rw [List.getElem?_eq_getElem h];rfl
 rw [e,beq_iff_eq] at hh
 unfold hS tS
 rw [List.append_assoc]
 conv=>rhs;rw [←List.take_append_drop (bD s c) s,List.drop_eq_getElem_cons h,hh]
 rfl
def lA (s:List UInt8):Bool:=decide ((cR (hS s 35)).err=0)&&decide (bD s 35<s.length)&&kD (tS s 35)&&(idE (kC (tS s 35)) == 0)
def yx (s:List UInt8):List AV:=bif lA s then [.int .u64 (cR (hS s 35)).l.toNat, .int .u64 (kC (tS s 35))] else [.int .u64 0, .int .u64 0]
def yy (s:List UInt8):Int:=bif lA s then 0 else 3
theorem vA {t:List UInt8} (h:kD t=true):de t=true∧val 0 t<18446744073709551616∧kC t=val 0 t:=by
 have hok:r4 t=true:=by
  cases hq:r4 t with
  | true=>rfl
  | false=>rw [I8 hq] at h;cases h
 simp only [kD,Bool.and_eq_true,decide_eq_true_eq] at h
 exact ⟨h.1,h.2,by simp [kC,hok]⟩
theorem Fx (t:List UInt8):(uD t 1099511627776 == 0)=(kD t&&decide (kC t≤1099511627776))∧(uD t 1099511627776=0→B6 t 1099511627776=kC t):=by
  unfold uD B6 B5
  cases hg:de t with
  | false=>simp [kD,hg]
  | true =>
    by_cases hv:val 0 t<18446744073709551616
    · have hb:kD t=true:=by simp [kD,hg,hv]
      have hn:=(vA hb).2.2
      have hm:val 0 t % 18446744073709551616=val 0 t:=Nat.mod_eq_of_lt hv
      rw [hb,hn,hm,decide_eq_false (by omega:¬ 18446744073709551616≤val 0 t)]
      by_cases hl:val 0 t≤1099511627776
      · have:decide ((1099511627776:Int)<(val 0 t:Int))=false:=by simp;omega
        simp [this,hl]
      · have:decide ((1099511627776:Int)<(val 0 t:Int))=true:=by simp;omega
        simp [this,hl]
    · have hb:kD t=false:=by simp [kD,hv]
      rw [hb,decide_eq_true (by omega:18446744073709551616≤val 0 t)]
      simp
theorem yz {s:List UInt8} (h1:(cR (hS s 35)).err=0) (h2:kD (tS s 35)=true) (h3:idE (kC (tS s 35))=0):(eG (cR (hS s 35)).l (kC (tS s 35)) == s)=lA s:=by
 obtain ⟨g1,g2,g3⟩:=vA h2
 have e1:=q9 h1
 have hlt:bD s 35<s.length:=by
  rcases Nat.lt_or_ge (bD s 35) s.length with h|h
  ·exact h
  ·have:tS s 35= []:=List.drop_of_length_le Oz
   rw [this] at g1
   simp [de,gD] at g1
 have e2:eG (cR (hS s 35)).l (kC (tS s 35))=s:=by
  simp only [eG,h3,beq_self_eq_true,cond_true,Int.toNat_natCast]
  rw [e1,g3,vw g1,B9 hlt]
 rw [e2,beq_self_eq_true]
 simp [lA,h1,h2,h3,hlt]
theorem NN (s:List UInt8) (hs:s.length≤1000000):PuG Tryz.prog gl3 214 [.str s] (.tup [.agg (yx s), .int .i64 (yy s)]):=by
  have hle:=jW 35 s
  have h1:=NM s 35 hs
  have h2:=K1 (hS s 35) (by simp [hS];omega)
  have h3:=NB (tS s 35) 1099511627776 (by simp only [tS,List.length_drop];unfold maxLen;omega)
  have h4:=p76 (cR (hS s 35)).l (B6 (tS s 35) 1099511627776)
  simp only [Fe] at h2
  rw [Fs] at h3
  (refine aO H5 Mx fun σ hσ=>?_;simp only [H5,↓R1,RR,seval])
  obtain ⟨n1,n2⟩:=Fx (tS s 35)
  have err:(((cR (hS s 35)).err:Int) != 0)= !decide ((cR (hS s 35)).err=0):=Nt
  have hidE:(idE (kC (tS s 35)) == 0)=(decide (1≤(kC (tS s 35):Int))&&decide ((kC (tS s 35):Int)≤1099511627776)):=uE
  have ha:=yz (s:=s)
  repeat' (first|(with_reducible rw [ah])|((first|refine aj (fun hc=>?_) (fun hc=>?_)|(with_reducible intro β hβ;(try simp only [St.aG] at hβ);(repeat (obtain ⟨⟨_,_⟩,hβ⟩:=hβ));(try (have hbis:=ag OB hβ;obtain ⟨_,_⟩:=hbis))))<;>(try simp only [↓R1,RR,seval]))|((first|refine Pu.to (h1) (aa _) ?_|refine bd (h1) (aa _) ?_|refine Pu.to (h2) (aa _) ?_|refine bd (h2) (aa _) ?_|refine Pu.to (h3) (aa _) ?_|refine bd (h3) (aa _) ?_|refine PuG.to (h4) hσ (aa _) ?_);(try simp only [↓R1,RR,seval])))
  · have hv:lA s=false:=by
      rw [err] at hc
      cases hq:lA s with
      | false=>rfl
      | true =>
        exfalso
        simp only [lA,Bool.and_eq_true,decide_eq_true_eq,hidE] at hq
        have:(uD (tS s 35) 1099511627776 == 0)=true:=by
          rw [n1];simp only [Bool.and_eq_true,decide_eq_true_eq];exact ⟨hq.1.2,by omega⟩
        simp only [beq_iff_eq] at this
        rw [this,decide_eq_true hq.1.1.1] at hc
        simp at hc
    (refine aq (af ?_) OE)
    (simp only [ar,RR,seval])
    simp only [yx,yy,hv,cond_false]
  all_goals (
    have hq:(cR (hS s 35)).err=0∧uD (tS s 35) 1099511627776=0:=by
      rename_i hz
      simpa [err] using hz
    have hn:=n2 hq.2
    rw [hq.2] at n1
    simp only [beq_self_eq_true,Bool.true_eq,Bool.and_eq_true,decide_eq_true_eq] at n1
    have ha2:=ha hq.1 n1.1
    rw [hn] at hc ⊢)
  · have hv:lA s=false:=by
      cases hv:lA s with
      | false=>rfl
      | true =>
        exfalso
        have h5:=hv
        simp only [lA,Bool.and_eq_true,beq_iff_eq] at h5
        have h6:=ha2 h5.2
        rw [hv,beq_iff_eq] at h6
        rw [h5.2,h6] at hc
        simp at hc
    (refine aq (af ?_) OE)
    (simp only [ar,RR,seval])
    simp only [yx,yy,hv,cond_false]
  · simp only [Bool.or_eq_false_iff,bne_eq_false_iff_eq] at hc
    have hv:=ha2 hc.1
    have h7:=hc.2
    rw [Bool.not_eq_false'] at h7
    rw [h7] at hv
    (refine aq (af ?_) OE)
    (simp only [ar,RR,seval])
    simp only [yx,yy,←hv,cond_true]
end Go.Proofs.YtgephffbfiemeaaGreatDoor
