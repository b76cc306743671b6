/- Part 23 of the proof of ScriptReads: an abstract semantics that is proved sound for the model, contracts of functions in it, and plain facts (SP1 EV12 EV13 EV14). No condition. -/
import Derived.Test.YtgephffbfiemeaaGreatDoorKScriptReads22
import Derived.Shelf.Strings.Split
import Derived.BigCall
set_option linter.all false
namespace Go.Proofs.YtgephffbfiemeaaGreatDoor
open Go.Abs Go.Lib Go.RowKit
set_option linter.all false
set_option maxRecDepth 100000
theorem L1 (s:List UInt8) (c:UInt8):Pu Tryz.prog 269 [.str s, .str [c]] (.int .i64 (Lib.indexByte s c)):=by
 intro σ
 refine AC.fi (Go.Proofs.enters_of Tryz.func269 (by kernel_rfl) rfl) ?_
 intro g w vs hI hv
 obtain ⟨v1,vs,rfl,r1,hv⟩:=hv.cons_inv
 obtain ⟨v2,vs,rfl,r2,hv⟩:=hv.cons_inv
 rw [hv.cq,r1.df,r2.df]
 refine (Tryz.stringslite_Index_one ⟨s.toArray⟩ c w).mono ?_
 rintro e w' ⟨rfl,rfl⟩
 exact ⟨_,rfl,Below.refl _ _,fun g' _=> .int _ _⟩
end Go.Proofs.YtgephffbfiemeaaGreatDoor
namespace Go.Proofs.YtgephffbfiemeaaGreatDoor
open Go.Abs Go.Lib
set_option linter.all false
set_option maxRecDepth 100000
def bJ:List UInt8→UInt8→Nat
 | [],_=>0
 | x::l,c=>bif x == c then 0 else bJ l c+1
theorem gJ (c:UInt8):∀ s,bJ s c≤s.length
  | []=>Nat.le_refl _
  | x :: l => by
    have:=gJ c l
    unfold bJ
    cases (x == c)<;>simp<;>omega
theorem find_index (c:UInt8):∀ s,Lib.indexByte s c=if bJ s c<s.length then (bJ s c:Int) else -1
  | []=>rfl
  | x :: l => by
    have h:=find_index c l
    have h2:=gJ c l
    unfold Lib.indexByte bJ
    rw [h]
    cases hx:(x == c) with
    | true=>simp
    | false =>
      simp only [cond_false,Bool.false_eq_true,if_false,List.length_cons]
      by_cases hl:bJ l c<l.length
      · have h3:((bJ l c:Int) == -1)=false:=by rw [beq_eq_false_iff_ne];omega
        rw [if_pos hl,h3,if_pos (show bJ l c+1<l.length+1 by omega),if_neg (by decide)]
        rfl
      · rw [if_neg hl,if_neg (show ¬ bJ l c+1<l.length+1 by omega)];rfl
theorem vC (c:UInt8):∀ s k,k<s.length→(∀ j,j<k→(s[j]?.getD 0 == c)=false)→((s[k]?.getD 0 == c)=true→bJ s c=k)∧((s[k]?.getD 0 == c)=false→k<bJ s c)
  | [],k,hk,_=>by simp at hk
  | x :: l, 0, _, _ => by
    simp only [List.getElem?_cons_zero,Option.getD_some,bJ]
    exact ⟨fun h=>by simp [h],fun h=>by simp [h]⟩
  | x :: l, k + 1, hk, hj => by
    have h0:=hj 0 (by omega)
    simp only [List.getElem?_cons_zero,Option.getD_some] at h0
    have ih:=vC c l k (by simpa using hk) (fun j h=>by simpa using hj (j+1) (by omega))
    simp only [List.getElem?_cons_succ,bJ,h0,cond_false]
    exact ⟨fun h=>by rw [ih.1 h],fun h=>by have:=ih.2 h;omega⟩
theorem lI (c:UInt8):∀ s k,k<bJ s c→(s[k]?.getD 0 == c)=false
  | [],k,h=>by simp [bJ] at h
  | x :: l, k, h => by
    unfold bJ at h
    cases hx:(x == c) with
    | true=>rw [hx] at h;simp at h
    | false =>
      rw [hx,cond_false] at h
      cases k with
      | zero=>simpa using hx
      | succ k=>simpa using lI c l k (by omega)
theorem r7 (c:UInt8):∀ s,bJ s c<s.length→(s[bJ s c]?.getD 0 == c)=true
  | [],h=>by simp [bJ] at h
  | x :: l, h => by
    unfold bJ at h ⊢
    cases hx:(x == c) with
    | true=>simpa using hx
    | false =>
      rw [hx,cond_false] at h
      simpa using r7 c l (by simpa using h)
theorem L2 (s:List UInt8) (c:UInt8) (hs:s.length≤1000000):Pu Tryz.prog 216 [.str s, .int .u8 c.toNat] (.int .i64 (bJ s c)):=by
 have hle:=gJ c s
 (refine an G7 KY fun σ=>?_;simp only [G7,↓R1,RR,Nat.reduceEqDiff,Nat.reduceAdd,Nat.reduceLT,reduceCtorEq])
 refine bK s.length (fun k=> [(0, .str s),(1, .int .u8 c.toNat),(5, .int .i64 k)]) (fun _=>σ) (fun k=>k≤bJ s c) (by simp [az,slot,af]) (St.le_refl _) (Nat.zero_le _) (fun k hk hI=>?_)
 simp only [uo,↓R1,RR,Nat.reduceEqDiff,Nat.reduceAdd,Nat.reduceLT,reduceCtorEq]
 refine ar (fun hc=>?_) (fun hc=>?_)
 ·have hlt:k<s.length:=by simpa using hc
  have hq:((((s[k]?.getD 0).toNat:Nat):Int) == (c.toNat:Int))=(s[k]?.getD 0 == c):=by
   rw [Bool.eq_iff_iff];simp only [beq_iff_eq];exact ⟨fun h=>UInt8.toNat_inj.1 (Int.ofNat.inj h),fun h=>by rw [h]⟩
  obtain ⟨f1,f2⟩:=vC c s k hlt (fun j hj=>lI c s j (by omega))
  simp only [↓R1,RR,Nat.reduceEqDiff,Nat.reduceAdd,Nat.reduceLT,reduceCtorEq]
  repeat' (first|((first|refine ar (fun hc=>?_) (fun hc=>?_)|(with_reducible intro β hβ;(try simp only [St.bf,St.ez,St.bZ,St.b6,St.gx,St.ic] at hβ);(repeat (obtain ⟨⟨_,_⟩,hβ⟩:=hβ));(try (have hbis:=ah (by assumption) hβ;obtain ⟨_,_⟩:=hbis))))<;>(try simp only [↓R1,RR,Nat.reduceEqDiff,Nat.reduceAdd,Nat.reduceLT,reduceCtorEq]))|(with_reducible refine And.intro ?_ ?_;(focus (first|omega|(intros;(repeat' (with_reducible apply And.intro))<;>first|omega|(simp only [List.length_append,List.length_cons,List.length_nil];omega)))))|(with_reducible apply And.intro))
  ·rw [hq] at hc
   (refine ak (ad ?_))
   (simp only [ao,↓R1,RR,Nat.reduceEqDiff,Nat.reduceAdd,Nat.reduceLT,reduceCtorEq])
   rw [f1 hc]
  ·rw [hq] at hc;have:=f2 hc;omega
  ·simp only [az,slot,af,↓R1,RR,Nat.reduceEqDiff,Nat.reduceAdd,Nat.reduceLT,reduceCtorEq];exact bU (by omega)
  ·exact St.le_refl _
 ·have:k=s.length:=by simp at hc;omega
  subst this
  simp only [↓R1,RR,Nat.reduceEqDiff,Nat.reduceAdd,Nat.reduceLT,reduceCtorEq]
  skip
  (refine ak (ad ?_))
  (simp only [ao,↓R1,RR,Nat.reduceEqDiff,Nat.reduceAdd,Nat.reduceLT,reduceCtorEq])
  have:bJ s c=s.length:=by omega
  rw [this]
theorem L3 (s:List UInt8) (c:UInt8) (hs:s.length≤1000000):Pu Tryz.prog 275 [.str s, .str [c]] (.tup [.str (s.take (bJ s c)), .str (s.drop (bJ s c+1)), .bool (decide (bJ s c<s.length))]):=by
 have hle:=gJ c s
 have hi:=L1 s c
 rw [find_index] at hi
 have hw:IntKind.i64.wrap ((bJ s c:Int)+((1:Nat):Int))=((bJ s c+1:Nat):Int):=by rw [wrap64 (by omega) (by omega)];omega
 by_cases hf:bJ s c<s.length
 ·rw [if_pos hf] at hi
  have hd:decide ((0:Int)≤(bJ s c:Int))=true:=by simp
  (refine an Bm JF fun σ=>?_;simp only [Bm,↓R1,RR,Nat.reduceEqDiff,Nat.reduceAdd,Nat.reduceLT,reduceCtorEq,hw,hd])
  repeat' (first|(with_reducible refine And.intro ?_ ?_;(focus (first|omega|(intros;(repeat' (with_reducible apply And.intro))<;>first|omega|(simp only [List.length_append,List.length_cons,List.length_nil];omega)))))|((first|refine Pu.to (hi) (aa _) ?_|refine bO (hi) (aa _) ?_);(try simp only [↓R1,RR,Nat.reduceEqDiff,Nat.reduceAdd,Nat.reduceLT,reduceCtorEq,hw,hd])))
  all_goals first|(exfalso;simp at hc;omega)|omega|skip
  all_goals (refine ak (ad ?_))
  all_goals (simp only [ao,↓R1,RR,Nat.reduceEqDiff,Nat.reduceAdd,Nat.reduceLT,reduceCtorEq,hw,hd])
  all_goals first|(rw [List.take_of_length_le (by simp:(List.drop (bJ s c+1) s).length≤s.length - (bJ s c+1)),decide_eq_true hf];done)|(rw [List.take_of_length_le (by omega:s.length≤bJ s c),List.drop_of_length_le (by omega:s.length≤bJ s c+1),decide_eq_false hf];done)|trace_state
 ·rw [if_neg hf] at hi
  have hd:decide ((0:Int)≤ -1)=false:=by decide
  (refine an Bm JF fun σ=>?_;simp only [Bm,↓R1,RR,Nat.reduceEqDiff,Nat.reduceAdd,Nat.reduceLT,reduceCtorEq,hw,hd])
  repeat' (first|((first|refine Pu.to (hi) (aa _) ?_|refine bO (hi) (aa _) ?_);(try simp only [↓R1,RR,Nat.reduceEqDiff,Nat.reduceAdd,Nat.reduceLT,reduceCtorEq,hw,hd])))
  all_goals first|(exfalso;simp at hc;omega)|omega|skip
  all_goals (refine ak (ad ?_))
  all_goals (simp only [ao,↓R1,RR,Nat.reduceEqDiff,Nat.reduceAdd,Nat.reduceLT,reduceCtorEq,hw,hd])
  all_goals first|(rw [List.take_of_length_le (by simp:(List.drop (bJ s c+1) s).length≤s.length - (bJ s c+1)),decide_eq_true hf];done)|(rw [List.take_of_length_le (by omega:s.length≤bJ s c),List.drop_of_length_le (by omega:s.length≤bJ s c+1),decide_eq_false hf];done)|trace_state
theorem L4 (s:List UInt8) (c:UInt8) (hs:s.length≤1000000):Pu Tryz.prog 251 [.str s, .str [c]] (.tup [.str (s.take (bJ s c)), .str (s.drop (bJ s c+1)), .bool (decide (bJ s c<s.length))]):=by
 have h:=L3 s c hs
 (refine an Hj La fun σ=>?_;simp only [Hj,↓R1,RR,Nat.reduceEqDiff,Nat.reduceAdd,Nat.reduceLT,reduceCtorEq])
 repeat' (first|((first|refine Pu.to (h) (aa _) ?_|refine bO (h) (aa _) ?_);(try simp only [↓R1,RR,Nat.reduceEqDiff,Nat.reduceAdd,Nat.reduceLT,reduceCtorEq])))
 (refine ak (ad ?_))
 (simp only [ao,↓R1,RR,Nat.reduceEqDiff,Nat.reduceAdd,Nat.reduceLT,reduceCtorEq])
def fN (s:List UInt8):Bool:=s.all dg&&decide (s.length≤20)&&decide (val 0 s<18446744073709551616)
def ij (s:List UInt8):Nat:=bif fN s then val 0 s else 0
def jw (s:List UInt8):Bool:=du s&&decide (val 0 s<18446744073709551616)
theorem oP {s:List UInt8} (h:du s=true):s.all dg=true∧0<s.length:=by
 simp only [du,Bool.and_eq_true,Bool.not_eq_true'] at h
 refine ⟨h.2,?_⟩
 cases s with
 | nil=>simp [fM] at h
 | cons x l=>simp
theorem EE {s:List UInt8} (h:fN s=true):(decide (0<s.length)&&(decDigits (val 0 s) == s))=jw s:=by
 simp only [fN,Bool.and_eq_true,decide_eq_true_eq] at h
 rw [jw,decide_eq_true h.2,Bool.and_true,Bool.eq_iff_iff]
 simp only [Bool.and_eq_true,decide_eq_true_eq,beq_iff_eq]
 refine ⟨fun h2=>?_,fun h2=>⟨(oP h2).2,pV h2⟩⟩
 rw [←h2.2];exact yo _
theorem BP {s:List UInt8} (h:fN s=false):jw s=false:=by
  cases hb:jw s with
  | false=>rfl
  | true =>
    simp only [jw,Bool.and_eq_true,decide_eq_true_eq] at hb
    have hl:=fE _ hb.2
    rw [pV hb.1] at hl
    simp [fN,(oP hb.1).1,hb.2] at h
    omega
theorem r8 (s:List UInt8) (k:Nat):val 0 (s.take k)≤val 0 s:=by
 have e:val 0 s=val (val 0 (s.take k)) (s.drop k):=by
  unfold val
  rw [←List.foldl_append,List.take_append_drop]
 rw [e];exact uD _ _
theorem EF (s:List UInt8) (k:Nat) (h:k<s.length) (hb:dg s[k]=false∨19<k∨18446744073709551616≤val 0 (s.take (k+1))):fN s=false:=by
 have h1:=r8 s (k+1)
 rcases hb with h2|h2|h2
 ·simp [fN,Fw k h h2]
 ·rw [fN,decide_eq_false (by omega:¬ s.length≤20)];simp
 ·rw [fN,decide_eq_false (by omega:¬ val 0 s<18446744073709551616)];simp
theorem L5 (d:Nat) (hd:d≤9):IntKind.u64.wrap (Int.tdiv (IntKind.u64.wrap (18446744073709551615 - (d:Int))) 10)=(((18446744073709551615 - d) / 10:Nat):Int):=by
 have h1:IntKind.u64.wrap (18446744073709551615 - (d:Int))=((18446744073709551615 - d:Nat):Int):=by rw [wU];omega
 rw [h1,Int.tdiv_eq_ediv_of_nonneg (by omega),wU]
 have h2:((18446744073709551615 - d:Nat):Int) / 10=(((18446744073709551615 - d) / 10:Nat):Int):=by omega
 rw [h2]
 have h3:(18446744073709551615 - d) / 10<18446744073709551616:=by omega
 omega
theorem mulR (n d:Nat):IntKind.u64.wrap (IntKind.u64.wrap (10*(n:Int))+(d:Int))=((((10*n) % 18446744073709551616+d) % 18446744073709551616:Nat):Int):=by
 rw [wU,wU]
 have h1:(10*(n:Int)) % 18446744073709551616=(((10*n) % 18446744073709551616:Nat):Int):=by omega
 rw [h1]
 omega
theorem L6 (s:List UInt8) (hs:s.length≤1000000):Pu Tryz.prog 217 [.str s] (.tup [.int .u64 (ij s), .bool (jw s)]):=by
 (refine an G8 KZ fun σ=>?_;simp only [G8,↓R1,RR,Nat.reduceEqDiff,Nat.reduceAdd,Nat.reduceLT,reduceCtorEq])
 refine bK s.length (fun k=> [(0, .str s),(4, .int .u64 (val 0 (s.take k))),(5, .int .i64 k)]) (fun _=>σ) (fun k=>(s.take k).all dg=true∧val 0 (s.take k)<18446744073709551616∧k≤20) (by refine ⟨af _,ad rfl,af _,trivial⟩) (St.le_refl _) ⟨by simp,by simp [val],by omega⟩ (fun k hk hI=>?_)
 simp only [uo,↓R1,RR,Nat.reduceEqDiff,Nat.reduceAdd,Nat.reduceLT,reduceCtorEq]
 refine ar (fun hc=>?_) (fun hc=>?_)
 ·have hlt:k<s.length:=by simpa using hc
  have ht:(s.take (k+1)).all dg=dg s[k]:=by
   rw [←List.take_append_getElem hlt,List.all_append,hI.1];simp
  have hV:=jC s k hlt
  have hbad:=EF s k hlt
  have hB:=BP (s:=s)
  have hg:s[k]?.getD 0=s[k]:=by rw [List.getElem?_eq_getElem hlt];rfl
  have key:(decide (((s[k].toNat:Nat):Int)<48)||decide (57<((s[k].toNat:Nat):Int))||decide (19<(k:Int)))=false→dg s[k]=true∧k≤19∧IntKind.u64.wrap (IntKind.u8.wrap ((s[k].toNat:Int) - 48))=((s[k].toNat - 48:Nat):Int)∧s[k].toNat - 48≤9:=fun h=>by
   simp only [Bool.or_eq_false_iff,decide_eq_false_iff_not] at h
   refine ⟨?_,by omega,by rw [wU,wU8];omega,by omega⟩
   simp only [dg,Bool.and_eq_true,decide_eq_true_eq];omega
  simp only [List.getElem?_eq_getElem hlt,↓R1,RR,Nat.reduceEqDiff,Nat.reduceAdd,Nat.reduceLT,reduceCtorEq]
  repeat' (first|((first|refine ar (fun hc=>?_) (fun hc=>?_)|(with_reducible intro β hβ;(try simp only [St.bf,St.ez,St.bZ,St.b6,St.gx,St.ic] at hβ);(repeat (obtain ⟨⟨_,_⟩,hβ⟩:=hβ));(try (have hbis:=ah (by assumption) hβ;obtain ⟨_,_⟩:=hbis))))<;>(try simp only [↓R1,RR,Nat.reduceEqDiff,Nat.reduceAdd,Nat.reduceLT,reduceCtorEq]))|(with_reducible refine And.intro ?_ ?_;(focus (first|omega|(intros;(repeat' (with_reducible apply And.intro))<;>first|omega|(simp only [List.length_append,List.length_cons,List.length_nil];omega)))))|(with_reducible apply And.intro))
  ·have hv:fN s=false:=hbad (by
    simp only [Bool.or_eq_true,decide_eq_true_eq] at hc
    simp only [dg,Bool.and_eq_false_iff,decide_eq_false_iff_not]
    omega)
   (refine ak (ad ?_))
   (simp only [ao,↓R1,RR,Nat.reduceEqDiff,Nat.reduceAdd,Nat.reduceLT,reduceCtorEq])
   simp [ij,hv,hB hv]
  all_goals (
   obtain ⟨k1,k2,k3,k4⟩:=key (by assumption)
   simp only [hg,k3] at hc ⊢
   rw [L5 _ k4] at hc)
  ·have hv:fN s=false:=hbad (by
    simp only [decide_eq_true_eq] at hc
    rw [hV]
    right;right;omega)
   (refine ak (ad ?_))
   (simp only [ao,↓R1,RR,Nat.reduceEqDiff,Nat.reduceAdd,Nat.reduceLT,reduceCtorEq])
   simp [ij,hv,hB hv]
  ·rw [ht];exact k1
  ·rw [hV]
   simp only [decide_eq_false_iff_not] at hc
   omega
  ·omega
  ·simp only [decide_eq_false_iff_not] at hc
   simp only [az,slot,af,mulR,↓R1,RR,Nat.reduceEqDiff,Nat.reduceAdd,Nat.reduceLT,reduceCtorEq]
   refine ⟨ad ?_,bU (by omega)⟩
   rw [hV,show ((10*val 0 (List.take k s)) % 18446744073709551616+(s[k].toNat - 48)) % 18446744073709551616=val 0 (List.take k s)*10+(s[k].toNat - 48) by omega]
  ·exact St.le_refl _
 ·have:k=s.length:=by simp at hc;omega
  subst this
  rw [List.take_length] at hI
  have hok:fN s=true:=by simp [fN,hI]
  have hd:=LY (val 0 s) hI.2.1
  have he:=EE hok
  simp only [List.take_length,↓R1,RR,Nat.reduceEqDiff,Nat.reduceAdd,Nat.reduceLT,reduceCtorEq]
  have hz:decide ((0:Int)<s.length)=decide (0<s.length):=by simp
  have hN:ij s=val 0 s:=by simp [ij,hok]
  rw [hN,←he]
  repeat' (first|(refine cZ (fun hc=>?_) (fun hc=>?_)<;>(try simp only [hc,↓R1,RR,Nat.reduceEqDiff,Nat.reduceAdd,Nat.reduceLT,reduceCtorEq]))|((first|refine Pu.to (hd) (aa _) ?_|refine bO (hd) (aa _) ?_|(refine fC (fun hgv=>⟨?_,(hd),aa _⟩) ?_;(first|trivial|(focus (simp only [↓R1,RR,Nat.reduceEqDiff,Nat.reduceAdd,Nat.reduceLT,reduceCtorEq];done)))));(try simp only [↓R1,RR,Nat.reduceEqDiff,Nat.reduceAdd,Nat.reduceLT,reduceCtorEq])))
  all_goals (refine ak (ad ?_))
  all_goals (simp only [ao,↓R1,RR,Nat.reduceEqDiff,Nat.reduceAdd,Nat.reduceLT,reduceCtorEq])
  all_goals (try rw [hz])
  all_goals (try rw [hz] at hc)
  all_goals (try rw [hc])
  all_goals (try rfl)
  all_goals (try simp)
theorem BQ {n:Int}:(idE n == 0)=(decide (1≤n)&&decide (n≤1099511627776)):=by
 simp only [idE,Bool.cond_eq_ite];grind
def iU (l:BitVec 64) (n:Int):List UInt8:=bif idE n == 0 then fg l++ [35]++decDigits n.toNat else []
theorem nj (n:Nat):itoa (n:Int)=decDigits n:=by unfold itoa;rw [if_neg (by omega)];simp
theorem p76 (l:BitVec 64) (n:Int):PuG Tryz.prog gl3 76 [.agg [.int .u64 l.toNat, .int .u64 n]] (.tup [.str (iU l n), .int .i64 (idE n)]):=by
 have h0:=LJ l.toNat n
 have h1:=PuG.up3 (p51 l)
 have l1:=jl l
 by_cases he:idE n=0
 ·have hb:(idE n == 0)=true:=by simpa using he
  rw [BQ] at hb
  simp only [Bool.and_eq_true,decide_eq_true_eq] at hb
  obtain ⟨m,rfl⟩:=Int.eq_ofNat_of_zero_le (show 0≤n by omega)
  have hx:IntKind.i64.wrap (m:Int)=m:=wrap64 (by omega) (by omega)
  have h2:=LQ m (by unfold I64;omega)
  rw [nj] at h2
  have l2:=fE m (by omega)
  have ht:iU l m=fg l++ [35]++decDigits m:=by simp [iU,he]
  rw [he] at h0 ⊢
  rw [ht]
  (refine b9 c76 b76 fun σ hσ=>?_;simp only [c76,↓R1,RR,seval,hx])
  repeat' (first|((first|refine ar (fun hc=>?_) (fun hc=>?_)|(with_reducible intro β hβ;(try simp only [St.bf,St.ez,St.bZ,St.b6,St.gx,St.ic] at hβ);(repeat (obtain ⟨⟨_,_⟩,hβ⟩:=hβ));(try (have hbis:=ah (by assumption) hβ;obtain ⟨_,_⟩:=hbis))))<;>(try simp only [↓R1,RR,seval,hx]))|(with_reducible refine And.intro ?_ ?_;(focus (first|omega|(intros;(repeat' (with_reducible apply And.intro))<;>first|omega|(simp only [List.length_append,List.length_cons,List.length_nil];omega)))))|((first|refine Pu.to (h0) (aa _) ?_|refine bO (h0) (aa _) ?_|refine bL (h1) hσ (aa _) ?_|refine bL (h2) hσ (aa _) ?_);(try simp only [↓R1,RR,seval,hx])))
  all_goals (refine ak (ad ?_))
  all_goals (simp only [ao,↓R1,RR,seval,hx])
 ·have hb:(idE n == 0)=false:=by simpa using he
  have hx:(idE n != 0)=true:=by simpa using he
  have ht:iU l n= []:=by simp [iU,hb]
  rw [ht]
  (refine b9 c76 b76 fun σ hσ=>?_;simp only [c76,↓R1,RR,seval,hx])
  repeat' (first|((first|refine ar (fun hc=>?_) (fun hc=>?_)|(with_reducible intro β hβ;(try simp only [St.bf,St.ez,St.bZ,St.b6,St.gx,St.ic] at hβ);(repeat (obtain ⟨⟨_,_⟩,hβ⟩:=hβ));(try (have hbis:=ah (by assumption) hβ;obtain ⟨_,_⟩:=hbis))))<;>(try simp only [↓R1,RR,seval,hx]))|((first|refine Pu.to (h0) (aa _) ?_|refine bO (h0) (aa _) ?_);(try simp only [↓R1,RR,seval,hx])))
  all_goals (refine ak (ad ?_))
  all_goals (simp only [ao,↓R1,RR,seval,hx])
def hS (s:List UInt8) (c:UInt8):List UInt8:=s.take (bJ s c)
def tS (s:List UInt8) (c:UInt8):List UInt8:=s.drop (bJ s c+1)
theorem BR {s:List UInt8} {c:UInt8} (h:bJ s c<s.length):hS s c++ [c]++tS s c=s:=by
 have hh:=r7 c s h
 have e:s[bJ s c]?.getD 0=s[bJ s c]:=by rw [List.getElem?_eq_getElem h];rfl
 rw [e,beq_iff_eq] at hh
 unfold hS tS
 rw [List.append_assoc]
 conv=>rhs;rw [←List.take_append_drop (bJ s c) s,List.drop_eq_getElem_cons h,hh]
 rfl
def la (s:List UInt8):Bool:=decide ((cb (hS s 35)).err=0)&&decide (bJ s 35<s.length)&&jw (tS s 35)&&(idE (ij (tS s 35)) == 0)
def r9 (s:List UInt8):List AV:=bif la s then [.int .u64 (cb (hS s 35)).l.toNat, .int .u64 (ij (tS s 35))] else [.int .u64 0, .int .u64 0]
def pW (s:List UInt8):Int:=bif la s then 0 else 3
theorem vD {t:List UInt8} (h:jw t=true):du t=true∧val 0 t<18446744073709551616∧ij t=val 0 t:=by
 have hok:fN t=true:=by
  cases hq:fN t with
  | true=>rfl
  | false=>rw [BP hq] at h;cases h
 simp only [jw,Bool.and_eq_true,decide_eq_true_eq] at h
 exact ⟨h.1,h.2,by simp [ij,hok]⟩
theorem EG (t:List UInt8):(uE t 1099511627776 == 0)=(jw t&&decide (ij t≤1099511627776))∧(uE t 1099511627776=0→BN t 1099511627776=ij t):=by
  unfold uE BN BM
  cases hg:du t with
  | false=>simp [jw,hg]
  | true =>
    by_cases hv:val 0 t<18446744073709551616
    · have hb:jw t=true:=by simp [jw,hg,hv]
      have hn:=(vD hb).2.2
      have hm:val 0 t % 18446744073709551616=val 0 t:=Nat.mod_eq_of_lt hv
      rw [hb,hn,hm,decide_eq_false (by omega:¬ 18446744073709551616≤val 0 t)]
      by_cases hl:val 0 t≤1099511627776
      · have:decide ((1099511627776:Int)<(val 0 t:Int))=false:=by simp;omega
        simp [this,hl]
      · have:decide ((1099511627776:Int)<(val 0 t:Int))=true:=by simp;omega
        simp [this,hl]
    · have hb:jw t=false:=by simp [jw,hv]
      rw [hb,decide_eq_true (by omega:18446744073709551616≤val 0 t)]
      simp
theorem yq {s:List UInt8} (h1:(cb (hS s 35)).err=0) (h2:jw (tS s 35)=true) (h3:idE (ij (tS s 35))=0):(iU (cb (hS s 35)).l (ij (tS s 35)) == s)=la s:=by
 obtain ⟨g1,g2,g3⟩:=vD h2
 have e1:=ra h1
 have hlt:bJ s 35<s.length:=by
  rcases Nat.lt_or_ge (bJ s 35) s.length with h|h
  ·exact h
  ·have:tS s 35= []:=List.drop_of_length_le (by omega)
   rw [this] at g1
   simp [du,fM] at g1
 have e2:iU (cb (hS s 35)).l (ij (tS s 35))=s:=by
  simp only [iU,h3,beq_self_eq_true,cond_true,Int.toNat_natCast]
  rw [e1,g3,pV g1,BR hlt]
 rw [e2,beq_self_eq_true]
 simp [la,h1,h2,h3,hlt]
theorem L7 (s:List UInt8) (hs:s.length≤1000000):Pu Tryz.prog 161 [.str s] (.tup [.agg (r9 s), .int .i64 (pW s)]):=by
 have hle:=gJ 35 s
 have h1:=L2 s 35 hs
 have h2:=JO (hS s 35) (by simp [hS];omega)
 have h3:=L6 (tS s 35) (by simp [tS];omega)
 have h4:=LK (cb (hS s 35)).l.toNat (ij (tS s 35))
 have e35:((35:UInt8).toNat:Int)=35:=rfl
 rw [e35] at h1
 simp only [rK] at h2
 have ht:List.take (bJ s 35) s=hS s 35:=rfl
 have hw:IntKind.i64.wrap ((bJ s 35:Int)+1)=((bJ s 35+1:Nat):Int):=by rw [wrap64 (by omega) (by omega)];omega
 have hd:List.take (s.length - (bJ s 35+1)) (List.drop (bJ s 35+1) s)=tS s 35:=by
  unfold tS;exact List.take_of_length_le (by simp)
 (refine an GL KE fun σ=>?_;simp only [GL,↓R1,RR,seval,ht,hw,hd])
 repeat' (first|(with_reducible rw [ai])|(refine cZ (fun hc=>?_) (fun hc=>?_)<;>(try simp only [hc,↓R1,RR,seval,ht,hw,hd]))|((first|refine ar (fun hc=>?_) (fun hc=>?_)|(with_reducible intro β hβ;(try simp only [St.bf,St.ez,St.bZ,St.b6,St.gx,St.ic] at hβ);(repeat (obtain ⟨⟨_,_⟩,hβ⟩:=hβ));(try (have hbis:=ah (by assumption) hβ;obtain ⟨_,_⟩:=hbis))))<;>(try simp only [↓R1,RR,seval,ht,hw,hd]))|(with_reducible refine And.intro ?_ ?_;(focus (first|omega|(intros;(repeat' (with_reducible apply And.intro))<;>first|omega|(simp only [List.length_append,List.length_cons,List.length_nil];omega)))))|(with_reducible apply And.intro)|((first|refine Pu.to (h1) (aa _) ?_|refine bO (h1) (aa _) ?_|refine Pu.to (h2) (aa _) ?_|refine bO (h2) (aa _) ?_|refine Pu.to (h3) (aa _) ?_|refine bO (h3) (aa _) ?_|refine Pu.to (h4) (aa _) ?_|refine bO (h4) (aa _) ?_|(refine fC (fun hgv=>⟨?_,(h4),aa _⟩) ?_;(first|trivial|(focus (simp only [↓R1,RR,seval,ht,hw,hd];done)))));(try simp only [↓R1,RR,seval,ht,hw,hd])))
 all_goals first|exact Int.le_refl _|(simp only [Bool.or_eq_false_iff,beq_eq_false_iff_ne] at hc;omega)|(intro hno;exfalso;simp_all;done)|(exfalso;simp_all;done)|skip
 all_goals (refine ak (ad ?_) (by first|(simp [aj,rvS];done)|(simp only [aj,rvS,↓R1,RR,seval,ht,hw,hd];try simp)))
 all_goals (simp only [ao,↓R1,RR,seval,ht,hw,hd])
 all_goals (simp only [r9,pW,la,Bool.cond_eq_ite];grind)
theorem L8 (s:List UInt8) (hs:s.length≤1000000):PuG Tryz.prog gl3 214 [.str s] (.tup [.agg (r9 s), .int .i64 (pW s)]):=by
  have hle:=gJ 35 s
  have h1:=L4 s 35 hs
  have h2:=JN (hS s 35) (by simp [hS];omega)
  have h3:=L0 (tS s 35) 1099511627776 (by simp only [tS,List.length_drop];unfold maxLen;omega)
  have h4:=p76 (cb (hS s 35)).l (BN (tS s 35) 1099511627776)
  simp only [rK] at h2
  rw [ED] at h3
  (refine b9 G6 KX fun σ hσ=>?_;simp only [G6,↓R1,RR,seval])
  obtain ⟨n1,n2⟩:=EG (tS s 35)
  have err:(((cb (hS s 35)).err:Int) != 0)= !decide ((cb (hS s 35)).err=0):=LP
  have hidE:(idE (ij (tS s 35)) == 0)=(decide (1≤(ij (tS s 35):Int))&&decide ((ij (tS s 35):Int)≤1099511627776)):=BQ
  have ha:=yq (s:=s)
  repeat' (first|(with_reducible rw [ai])|((first|refine ar (fun hc=>?_) (fun hc=>?_)|(with_reducible intro β hβ;(try simp only [St.bf,St.ez,St.bZ,St.b6,St.gx,St.ic] at hβ);(repeat (obtain ⟨⟨_,_⟩,hβ⟩:=hβ));(try (have hbis:=ah (by assumption) hβ;obtain ⟨_,_⟩:=hbis))))<;>(try simp only [↓R1,RR,seval]))|((first|refine Pu.to (h1) (aa _) ?_|refine bO (h1) (aa _) ?_|refine Pu.to (h2) (aa _) ?_|refine bO (h2) (aa _) ?_|refine Pu.to (h3) (aa _) ?_|refine bO (h3) (aa _) ?_|refine PuG.to (h4) hσ (aa _) ?_);(try simp only [↓R1,RR,seval])))
  · have hv:la s=false:=by
      rw [err] at hc
      cases hq:la s with
      | false=>rfl
      | true =>
        exfalso
        simp only [la,Bool.and_eq_true,decide_eq_true_eq,hidE] at hq
        have:(uE (tS s 35) 1099511627776 == 0)=true:=by
          rw [n1];simp only [Bool.and_eq_true,decide_eq_true_eq];exact ⟨hq.1.2,by omega⟩
        simp only [beq_iff_eq] at this
        rw [this,decide_eq_true hq.1.1.1] at hc
        simp at hc
    (refine ak (ad ?_) (by first|(simp [aj,rvS];done)|(simp only [aj,rvS,↓R1,RR,seval];try simp)))
    (simp only [ao,↓R1,RR,seval])
    simp only [r9,pW,hv,cond_false]
  all_goals (
    have hq:(cb (hS s 35)).err=0∧uE (tS s 35) 1099511627776=0:=by
      rename_i hz
      simpa [err] using hz
    have hn:=n2 hq.2
    rw [hq.2] at n1
    simp only [beq_self_eq_true,Bool.true_eq,Bool.and_eq_true,decide_eq_true_eq] at n1
    have ha2:=ha hq.1 n1.1
    rw [hn] at hc ⊢)
  · have hv:la s=false:=by
      cases hv:la s with
      | false=>rfl
      | true =>
        exfalso
        have h5:=hv
        simp only [la,Bool.and_eq_true,beq_iff_eq] at h5
        have h6:=ha2 h5.2
        rw [hv,beq_iff_eq] at h6
        rw [h5.2,h6] at hc
        simp at hc
    (refine ak (ad ?_) (by first|(simp [aj,rvS];done)|(simp only [aj,rvS,↓R1,RR,seval];try simp)))
    (simp only [ao,↓R1,RR,seval])
    simp only [r9,pW,hv,cond_false]
  · simp only [Bool.or_eq_false_iff,bne_eq_false_iff_eq] at hc
    have hv:=ha2 hc.1
    have h7:=hc.2
    rw [Bool.not_eq_false'] at h7
    rw [h7] at hv
    (refine ak (ad ?_) (by first|(simp [aj,rvS];done)|(simp only [aj,rvS,↓R1,RR,seval];try simp)))
    (simp only [ao,↓R1,RR,seval])
    simp only [r9,pW,←hv,cond_true]
end Go.Proofs.YtgephffbfiemeaaGreatDoor
