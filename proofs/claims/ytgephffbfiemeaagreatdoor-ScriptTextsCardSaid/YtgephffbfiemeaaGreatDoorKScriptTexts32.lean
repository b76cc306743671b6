/- Part 32 of the proof of ScriptTexts: an abstract semantics that is proved sound for the model, contracts of functions in it, and plain facts (X22 X23 X24 X25 X26 X27 X28 X29 A40). No condition. -/
import Derived.Test.YtgephffbfiemeaaGreatDoorKScriptTexts31
set_option linter.all false
namespace Go.Proofs.YtgephffbfiemeaaGreatDoor
open Go.Abs Go.Lib
set_option linter.all false
set_option maxRecDepth 100000
theorem sg (x:OpI):(cOp x).length=8:=rfl
theorem ig (l:List OpI):(l.flatMap cOp).length=l.length*8:=aU sg l
def sl8 (l:List OpI):AV:= .sl false l.length (l.flatMap cOp)
theorem p24 (l:List OpI) (hl:l.length≤1000000):Pu Tryz.prog 24 [sl8 l] (sl8 l):=by
 have h1:=ig l
 (refine al c24 b24 fun σ=>?_;simp only [c24,↓R1,RR,seval])
 repeat' (((refine dr (g:=cOp) (l:=l) h1 (by unfold maxLen;omega) (by omega) ?_))<;>(try simp only [↓R1,RR,seval]))
 (refine ak (af ?_) (by first|(simp [aj,rvS];done)|(simp only [aj,rvS,↓R1,RR,seval];try simp)))
 (simp only [ao,↓R1,RR,seval])
 rfl
set_option maxHeartbeats 2000000 in
theorem sh (f g:Bool) (l:List OpI) (hl:l.length≤1000000):Pu Tryz.prog 16 [.sl f l.length (l.flatMap cOp), .sl g l.length (l.flatMap cOp)] (.bool true):=by
 have q1:True:=trivial
 have he:True:=trivial
 have hw:True:=trivial
 have h1:=ig l
 (refine al c16 b16 fun σ=>?_;simp only [c16,↓R1,RR,seval,q1,he,hw,cOp,h1,List.cons_append,List.nil_append,List.drop_nil])
 skip
 refine bn l.length (fun k=> [(0, .sl f l.length (l.flatMap cOp)),(1, .sl g l.length (l.flatMap cOp)),(5, .int .i64 (k:Nat))]) (fun _=>σ) (fun _=>True) (by simp [aE,slot,ae]) (St.le_refl _) trivial (fun k hk _=>?_)
 by_cases hlt:k<l.length
 ·obtain ⟨x,hx⟩:∃ x,l[k]? =some x:=⟨_,List.getElem?_eq_getElem hlt⟩
  have he:=ej (f:=cOp) (m:=8) sg hx
  simp only [cOp] at he
  have q1:decide ((k:Int)<(l.length:Int))=true:=by rw [decide_eq_true_eq];omega
  have hw:IntKind.i64.wrap ((k:Int)+1)=((k+1:Nat):Int):=by rw [wrap64 (by omega) (by omega)];omega
  simp only [q1,↓R1,RR,seval,q1,he,hw,cOp,h1,List.cons_append,List.nil_append,List.drop_nil]
  repeat' (first|(with_reducible refine And.intro ?_ ?_;exact aq)|(with_reducible apply And.intro))
  ·simp [aE,slot,ae]
  ·exact St.le_refl _
 ·have hke:k=l.length:=by omega
  subst hke
  have q1:decide ((l.length:Int)<(l.length:Int))=false:=by simp
  simp only [q1,↓R1,RR,seval,q1,he,hw,cOp,h1,List.cons_append,List.nil_append,List.drop_nil]
  skip
  (refine ak (af ?_) (by first|(simp [aj,rvS];done)|(simp only [aj,rvS,↓R1,RR,seval,q1,he,hw,cOp,h1,List.cons_append,List.nil_append,List.drop_nil];try simp)))
  (simp only [ao,↓R1,RR,seval,q1,he,hw,cOp,h1,List.cons_append,List.nil_append,List.drop_nil])
def jj (l:List OpI):Bool:=l.all (fun x=>decide (x.text.length≤1100))&&(decide (l.length≤30)||(decide (400<l.length)&&decide (l.length≤403)))
set_option maxHeartbeats 2000000 in
theorem p23 (f:Bool) (l:List OpI) (hl:l.length≤9223372036854775807):Pu Tryz.prog 23 [.sl f l.length (l.flatMap cOp)] (.bool (jj l)):=by
 have q1:True:=trivial
 have he:True:=trivial
 have hw:True:=trivial
 have h1:=ig l
 (refine al c23 b23 fun σ=>?_;simp only [c23,↓R1,RR,seval,q1,he,hw,cOp,h1,List.cons_append,List.nil_append,List.drop_nil])
 skip
 refine bn l.length (fun k=> [(0, .sl f l.length (l.flatMap cOp)),(3, .int .i64 (k:Nat))]) (fun _=>σ) (fun k=>(l.take k).all (fun x=>decide (x.text.length≤1100))=true) (by simp [aE,slot,ae]) (St.le_refl _) rfl (fun k hk hI=>?_)
 by_cases hlt:k<l.length
 ·obtain ⟨x,hx⟩:∃ x,l[k]? =some x:=⟨_,List.getElem?_eq_getElem hlt⟩
  have he:=ej (f:=cOp) (m:=8) sg hx
  simp only [cOp] at he
  have q1:decide ((k:Int)<(l.length:Int))=true:=by rw [decide_eq_true_eq];omega
  have hw:IntKind.i64.wrap ((k:Int)+1)=((k+1:Nat):Int):=by rw [wrap64 (by omega) (by omega)];omega
  simp only [q1,↓R1,RR,seval,q1,he,hw,cOp,h1,List.cons_append,List.nil_append,List.drop_nil]
  repeat' (first|(with_reducible refine And.intro ?_ ?_;exact aq)|(with_reducible apply And.intro)|((refine an (fun hc=>?_) (fun hc=>?_))<;>(try simp only [↓R1,RR,seval,q1,he,hw,cOp,h1,List.cons_append,List.nil_append,List.drop_nil])))
  ·(refine ak (af ?_) (by first|(simp [aj,rvS];done)|(simp only [aj,rvS,↓R1,RR,seval,q1,he,hw,cOp,h1,List.cons_append,List.nil_append,List.drop_nil];try simp)))
   (simp only [ao,↓R1,RR,seval,q1,he,hw,cOp,h1,List.cons_append,List.nil_append,List.drop_nil])
   have:¬ x.text.length≤1100:=by rw [decide_eq_true_eq] at hc;omega
   have h2:(l.all fun x=>decide (x.text.length≤1100))=false:=by
    rw [←Bool.not_eq_true,List.all_eq_true]
    intro h;exact this (by simpa using h x (List.mem_of_getElem? hx))
   rw [jj,h2];rfl
  ·rw [decide_eq_false_iff_not] at hc
   obtain ⟨h3,h4⟩:=List.getElem?_eq_some_iff.1 hx
   rw [←List.take_append_getElem h3,List.all_append,hI,h4]
   simp;omega
  ·simp [aE,slot,ae]
  ·exact St.le_refl _
 ·have hke:k=l.length:=by omega
  subst hke
  have q1:decide ((l.length:Int)<(l.length:Int))=false:=by simp
  simp only [q1,↓R1,RR,seval,q1,he,hw,cOp,h1,List.cons_append,List.nil_append,List.drop_nil]
  rw [List.take_length] at hI
  have hres:jj l=(decide (((l.length:Nat):Int)≤30)||decide ((400:Int)<((l.length:Nat):Int))&&decide (((l.length:Nat):Int)≤403)):=by
   have h30:decide (((l.length:Nat):Int)≤30)=decide (l.length≤30):=by rw [decide_eq_decide];omega
   have h400:decide ((400:Int)<((l.length:Nat):Int))=decide (400<l.length):=by rw [decide_eq_decide];omega
   have h403:decide (((l.length:Nat):Int)≤403)=decide (l.length≤403):=by rw [decide_eq_decide];omega
   rw [jj,hI,Bool.true_and,h30,h400,h403]
  repeat' (first|(with_reducible apply And.intro)|((with_reducible intro β hβ;(try simp only [RB] at hβ);(repeat (obtain ⟨⟨_,_⟩,hβ⟩:=hβ));(try (have hbis:=ag (by assumption) hβ;obtain ⟨_,_⟩:=hbis)))<;>(try simp only [↓R1,RR,seval,q1,he,hw,cOp,h1,List.cons_append,List.nil_append,List.drop_nil])))
  ·simp_all
  ·(refine ak (af ?_) (by first|(simp [aj,rvS];done)|(simp only [aj,rvS,↓R1,RR,seval,q1,he,hw,cOp,h1,List.cons_append,List.nil_append,List.drop_nil];try simp)))
   (simp only [ao,↓R1,RR,seval,q1,he,hw,cOp,h1,List.cons_append,List.nil_append,List.drop_nil])
   rw [hres]
def exC:CfgI:=⟨[⟨0,2,2⟩,⟨1,2,2⟩],List.replicate 6 ⟨2,1,4,2,1⟩,[⟨2,1,0,true,0,0,9⟩],3⟩
def exK (k:Nat):List AV:= .sl true 2 [.int .u64 0, .int .i64 2, .int .i64 2, .int .u64 1, .int .i64 2, .int .i64 2]::((List.replicate k [AV.int .i64 2, .int .i64 1, .int .i64 4, .int .i64 2, .int .i64 1]++List.replicate (6 - k) [AV.int .i64 0, .int .i64 0, .int .i64 0, .int .i64 0, .int .i64 0]).flatten++ [.sl true 1 [.int .i64 2, .int .u64 1, .int .u64 0, .bool true, .int .i64 0, .int .i64 0, .int .i64 9], .int .u64 3])
theorem Iq:wk (.agg (exK 6)) (.agg (bK exC)):=dC (by
 show wkL (_::(_++ [_,_])) (_::(_++ [_,_]))
 refine .cons (bw _ _) (DG (aa _) (.cons (bw _ _) (aa _))))
set_option maxHeartbeats 8000000 in
theorem p36:Pu Tryz.prog 36 [] (.agg (exK 6)):=by
 (refine al c36 b36 fun σ=>?_;simp only [c36,↓R1,RR,seval,exK,List.replicate,List.flatten_cons,List.flatten_nil,List.cons_append,List.nil_append])
 repeat' (first|(with_reducible rw [ah])|((with_reducible intro β hβ;(try simp only [RB] at hβ);(repeat (obtain ⟨⟨_,_⟩,hβ⟩:=hβ));(try (have hbis:=ag (by assumption) hβ;obtain ⟨_,_⟩:=hbis)))<;>(try simp only [↓R1,RR,seval,exK,List.replicate,List.flatten_cons,List.flatten_nil,List.cons_append,List.nil_append])))
 rename_i A hA a1 a2
 obtain ⟨z,hz⟩:∃ z,z=(AV.nils::(List.replicate 30 (AV.int .i64 0)++ [.nils, .int .u64 0])):=⟨_,rfl⟩
 refine bn 6 (fun k=> [(0, .ptr A 0),(1, .ptr β 0),(2, .int .i64 (k:Nat))]) (fun k=>(σ.ad A z).ad β (exK k)) (fun _=>True) (by simp [aE,slot,ae]) (by subst hz;rw [St.set_set];exact St.le_refl _) trivial (fun k hk _=>?_)
 rcases (show k=0∨k=1∨k=2∨k=3∨k=4∨k=5∨k=6 by omega) with rfl|rfl|rfl|rfl|rfl|rfl|rfl
 ·simp only [↓R1,RR,seval,exK,List.replicate,List.flatten_cons,List.flatten_nil,List.cons_append,List.nil_append]
  repeat' (with_reducible apply And.intro)
  ·simp only [show IntKind.i64.wrap 1=1 from rfl];simp [aE,slot,ae]
  ·exact St.le_refl _
 ·simp only [↓R1,RR,seval,exK,List.replicate,List.flatten_cons,List.flatten_nil,List.cons_append,List.nil_append]
  repeat' (with_reducible apply And.intro)
  ·simp only [show IntKind.i64.wrap 2=2 from rfl];simp [aE,slot,ae]
  ·exact St.le_refl _
 ·simp only [↓R1,RR,seval,exK,List.replicate,List.flatten_cons,List.flatten_nil,List.cons_append,List.nil_append]
  repeat' (with_reducible apply And.intro)
  ·simp only [show IntKind.i64.wrap 3=3 from rfl];simp [aE,slot,ae]
  ·exact St.le_refl _
 ·simp only [↓R1,RR,seval,exK,List.replicate,List.flatten_cons,List.flatten_nil,List.cons_append,List.nil_append]
  repeat' (with_reducible apply And.intro)
  ·simp only [show IntKind.i64.wrap 4=4 from rfl];simp [aE,slot,ae]
  ·exact St.le_refl _
 ·simp only [↓R1,RR,seval,exK,List.replicate,List.flatten_cons,List.flatten_nil,List.cons_append,List.nil_append]
  repeat' (with_reducible apply And.intro)
  ·simp only [show IntKind.i64.wrap 5=5 from rfl];simp [aE,slot,ae]
  ·exact St.le_refl _
 ·simp only [↓R1,RR,seval,exK,List.replicate,List.flatten_cons,List.flatten_nil,List.cons_append,List.nil_append]
  repeat' (with_reducible apply And.intro)
  ·simp only [show IntKind.i64.wrap 6=6 from rfl];simp [aE,slot,ae]
  ·exact St.le_refl _
 ·subst hz
  simp only [↓R1,RR,seval,exK,List.replicate,List.flatten_cons,List.flatten_nil,List.cons_append,List.nil_append]
  skip
  refine ak ?_ (by first|(simp [aj,rvS];done)|(simp only [aj,rvS,↓R1,RR,seval,exK,List.replicate,List.flatten_cons,List.flatten_nil,List.cons_append,List.nil_append];try simp))
  simp only [ao,↓R1,RR,seval,exK,List.replicate,List.flatten_cons,List.flatten_nil,List.cons_append,List.nil_append]
  exact ae _
def exU:List UInt8:= [104,111,114,105,122,111,110,32,51,10,99,108,97,115,115,32,123,125,32,50,32,50,10,99,108,97,115,115,32,123,48,125,32,50,32,50,10,116,101,110,97,110,116,32,50,32,49,32,52,32,50,32,49,10,116,101,110,97,110,116,32,50,32,49,32,52,32,50,32,49,10,116,101,110,97,110,116,32,50,32,49,32,52,32,50,32,49,10,116,101,110,97,110,116,32,50,32,49,32,52,32,50,32,49,10,116,101,110,97,110,116,32,50,32,49,32,52,32,50,32,49,10,116,101,110,97,110,116,32,50,32,49,32,52,32,50,32,49,10,114,117,108,101,32,50,32,123,48,125,32,123,125,32,97,110,121,32,48,32,57,10]
theorem Ir:CfgOk exC:=⟨rfl,by decide,by decide,fun x h=>by (rcases List.mem_cons.1 (show x∈([⟨0,2,2⟩,⟨1,2,2⟩]:List ClsI) from h) with rfl|h;· exact ⟨by decide,by decide⟩);rw [List.mem_singleton.1 h];exact ⟨by decide,by decide⟩,fun x h=>by rw [List.mem_singleton.1 (show x∈ [(⟨2,1,0,true,0,0,9⟩:RulI)] from h)];exact ⟨⟨by decide,by decide⟩,by decide,by decide⟩⟩
theorem Is:B6 exC:=by
 intro x hx
 rw [List.mem_singleton.1 (show x∈ [(⟨2,1,0,true,0,0,9⟩:RulI)] from hx)]
 exact ⟨by unfold I64;decide,by unfold I64;decide⟩
theorem J8:gD exC=(0,0):=by decide
theorem J9:EM exC=exU:=by
 decide +kernel
theorem exP:gE [112,111,108,108,32,49,32,53]= .ok [⟨6,1,0,[],0,5,0,0⟩]:=by
 kernel_rfl
set_option maxHeartbeats 2000000 in
theorem B8:PuG Tryz.prog gl3 11 [] (.bool true):=by
 have h1:=p18 Ir Is
 rw [vg,J8,J9] at h1
 simp only [if_true] at h1
 have h1:PuG Tryz.prog gl3 18 [.agg (exK 6)] (.tup [.str exU, .int .i64 0]):=fun σ hσ=>AC.wk (h1 σ hσ) (.cons Iq .nil)
 have h2:=p12 [112,111,108,108,32,49,32,53] (by decide)
 rw [pO,exP] at h2
 simp only [List.flatMap_cons,List.flatMap_nil,List.append_nil,List.length_cons,List.length_nil,Nat.zero_add,cOp] at h2
 have h3:=sh false true [⟨6,1,0,[],0,5,0,0⟩] (by decide)
 simp only [List.flatMap_cons,List.flatMap_nil,List.append_nil,List.length_cons,List.length_nil,Nat.zero_add,cOp] at h3
 have q1:(exU == exU)=true:=by simp
 unfold exU at h1
 (refine aP c11 b11 fun σ hσ=>?_;simp only [c11,↓R1,RR,seval,q1,cOp])
 repeat' (first|(with_reducible rw [ah])|((first|(with_reducible intro β hβ;(try simp only [RB] at hβ);(repeat (obtain ⟨⟨_,_⟩,hβ⟩:=hβ));(try (have hbis:=ag (by assumption) hβ;obtain ⟨_,_⟩:=hbis)))|(refine Pt (p36) ?_)|(refine PuG.to (h1) hσ (aa _) ?_)|(refine PuG.to (h2) hσ (aa _) ?_)|(refine Pt (h3) ?_))<;>(try simp only [↓R1,RR,seval,q1,cOp])))
 refine ak ?_
 simp only [ao,↓R1,RR,seval,q1,cOp]
 exact ae _
def nm (k:Nat):List UInt8:=match k with
 | 1=> [114,101,103,105,115,116,101,114]
 | 2=> [113,117,101,114,121]
 | 3=> [100,114,111,112]
 | 4=> [105,110,103,101,115,116]
 | 5=> [116,105,99,107]
 | 6=> [112,111,108,108]
 | 7=> [100,101,99,108,97,115,115,105,102,121]
 | 8=> [97,117,100,105,116]
 | _=> []
def uv:List AV:=(List.range 9).map fun k=> .str (nm k)
def gl4:List (Nat × List AV):= [(1,qV),(2,Ay),(0,uv)]
theorem EN {σ:St} (h:bY gl4 σ):bY gl3 σ:=fun k cs hk=>by
  refine h k cs ?_
  simp only [gl3,gl4,Go.Abs.look] at hk ⊢
  cases h1:Nat.beq k 1 with
  | true=>rw [h1] at hk;exact hk
  | false =>
    rw [h1] at hk
    cases h2:Nat.beq k 2 with
    | true=>rw [h2] at hk;exact hk
    | false=>rw [h2] at hk;cases hk
theorem yi {σ:St} (h:bY gl4 σ):σ.glob 0=some uv:=h _ _ rfl
theorem PuG.up4 {f:Nat} {xs:List AV} {v:AV} (h:PuG Tryz.prog gl3 f xs v):PuG Tryz.prog gl4 f xs v:=fun σ hσ=>h σ (EN hσ)
def eU (k:Int):Bool:=decide (1≤k)&&decide (k≤8)
def kn (k:Int):Bool:=k == 2||k == 4
def opE (o:OpI):Int:=if eU o.kind=false then 11 else if kn o.kind=true∧1000<o.text.length then 4 else 0
theorem Ka (k:Int):Pu Tryz.prog 131 [.int .i64 k] (.bool (eU k)):=by
 (refine al Hm Lp fun σ=>?_;simp only [Hm,↓R1,RR,seval])
 skip
 (refine ak (af ?_) (by first|(simp [aj,rvS];done)|(simp only [aj,rvS,↓R1,RR,seval];try simp)))
 (simp only [ao,↓R1,RR,seval])
 rfl
theorem MO (k:Int):Pu Tryz.prog 132 [.int .i64 k] (.bool (kn k)):=by
 (refine al Hn Lq fun σ=>?_;simp only [Hn,↓R1,RR,seval])
 skip
 (refine ak (af ?_) (by first|(simp [aj,rvS];done)|(simp only [aj,rvS,↓R1,RR,seval];try simp)))
 (simp only [ao,↓R1,RR,seval])
 rfl
def jR (k:Int):List Bool:=if k=1 then [true,true,false,false,false,false] else if k=2 then [true,false,false,false,false,true] else if k=3 then [true,false,true,false,false,false]
 else if k=4 then [false,false,false,false,false,true] else if k=5 then [false,false,false,false,false,false] else if k=6 then [true,false,false,true,false,false]
 else if k=7 then [true,false,true,false,true,false] else if k=8 then [true,false,true,true,false,false] else [false,false,false,false,false,false]
theorem p81 (k:Int):Pu Tryz.prog 81 [.int .i64 k] (.tup [.agg ((jR k).map AV.bool), .bool (eU k)]):=by
 have q1:True:=trivial
 have q2:True:=trivial
 have q3:True:=trivial
 have q4:True:=trivial
 have q5:True:=trivial
 have q6:True:=trivial
 have q7:True:=trivial
 have q8:True:=trivial
 by_cases h:eU k=true
 ·have hk:k=1∨k=2∨k=3∨k=4∨k=5∨k=6∨k=7∨k=8:=by
   simp only [eU,Bool.and_eq_true,decide_eq_true_eq] at h;omega
  rcases hk with rfl|rfl|rfl|rfl|rfl|rfl|rfl|rfl
  all_goals ((refine al c81 b81 fun σ=>?_;simp only [c81,↓R1,RR,seval,q1,q2,q3,q4,q5,q6,q7,q8]);rw [ah];intro β hβ;simp only [↓R1,RR,seval,q1,q2,q3,q4,q5,q6,q7,q8];(refine ak ?_ (by first|(simp [aj,rvS];done)|(simp only [aj,rvS,↓R1,RR,seval,q1,q2,q3,q4,q5,q6,q7,q8];try simp)) (St.aM (St.le_refl _) hβ));simp only [ao,↓R1,RR,seval,q1,q2,q3,q4,q5,q6,q7,q8];exact ae _)
 ·have hk:∀ n:Int,1≤n→n≤8→(k == n)=false:=fun n h1 h2=>by
   rw [beq_eq_false_iff_ne];rintro rfl
   exact h (by simp only [eU,Bool.and_eq_true,decide_eq_true_eq];exact ⟨h1,h2⟩)
  have q1:=hk 1 (by decide) (by decide)
  have q2:=hk 2 (by decide) (by decide)
  have q3:=hk 3 (by decide) (by decide)
  have q4:=hk 4 (by decide) (by decide)
  have q5:=hk 5 (by decide) (by decide)
  have q6:=hk 6 (by decide) (by decide)
  have q7:=hk 7 (by decide) (by decide)
  have q8:=hk 8 (by decide) (by decide)
  have hf:jR k= [false,false,false,false,false,false]:=by
   simp only [beq_eq_false_iff_ne] at q1 q2 q3 q4 q5 q6 q7 q8
   simp only [jR,if_neg q1,if_neg q2,if_neg q3,if_neg q4,if_neg q5,if_neg q6,if_neg q7,if_neg q8]
  have hb:eU k=false:=by simpa using h
  rw [hf,hb]
  (refine al c81 b81 fun σ=>?_;simp only [c81,↓R1,RR,seval,q1,q2,q3,q4,q5,q6,q7,q8])
  rw [ah];intro β hβ
  simp only [↓R1,RR,seval,q1,q2,q3,q4,q5,q6,q7,q8]
  (refine ak ?_ (by first|(simp [aj,rvS];done)|(simp only [aj,rvS,↓R1,RR,seval,q1,q2,q3,q4,q5,q6,q7,q8];try simp)) (St.aM (St.le_refl _) hβ))
  simp only [ao,↓R1,RR,seval,q1,q2,q3,q4,q5,q6,q7,q8]
  exact ae _
theorem uw (k:Int):∃ a b c d e,jR k= [a,b,c,d,e,kn k]:=by
 unfold jR kn
 split
 ·rename_i h;subst h;exact ⟨_,_,_,_,_,rfl⟩
 split
 ·rename_i h;subst h;exact ⟨_,_,_,_,_,rfl⟩
 split
 ·rename_i h;subst h;exact ⟨_,_,_,_,_,rfl⟩
 split
 ·rename_i h;subst h;exact ⟨_,_,_,_,_,rfl⟩
 rename_i h2 _ h4
 have e2:(k == 2)=false:=by rw [beq_eq_false_iff_ne];exact h2
 have e4:(k == 4)=false:=by rw [beq_eq_false_iff_ne];exact h4
 rw [e2,e4]
 split
 ·exact ⟨_,_,_,_,_,rfl⟩
 split
 ·exact ⟨_,_,_,_,_,rfl⟩
 split
 ·exact ⟨_,_,_,_,_,rfl⟩
 split<;>exact ⟨_,_,_,_,_,rfl⟩
theorem p72 (o:OpI):Pu Tryz.prog 72 [.agg (cOp o)] (.int .i64 (opE o)):=by
  have hk:=Ka o.kind
  have ht:=MO o.kind
  have tt:True:=trivial
  have ll:True:=trivial
  have hne:∀ b:Bool,b≠false→b=true:=by decide
  simp only [cOp]
  cases kk:eU o.kind with
  | false =>
    have ho:opE o=11:=by rw [opE,if_pos kk]
    rw [kk] at hk
    rw [ho]
    (refine al c72 b72 fun σ=>?_;simp only [c72,↓R1,RR,seval,kk,tt,ll])
    repeat' ((first|(with_reducible intro β hβ;(try simp only [RB] at hβ);(repeat (obtain ⟨⟨_,_⟩,hβ⟩:=hβ));(try (have hbis:=ag (by assumption) hβ;obtain ⟨_,_⟩:=hbis)))|(refine Pt (hk) ?_))<;>(try simp only [↓R1,RR,seval,kk,tt,ll]))
    (refine ak ?_ (by first|(simp [aj,rvS];done)|(simp only [aj,rvS,↓R1,RR,seval,kk,tt,ll];try simp)))
    simp only [ao,↓R1,RR,seval,kk,tt,ll]
    exact ae _
  | true =>
    rw [kk] at hk
    cases tt:kn o.kind with
    | false =>
      have ho:opE o=0:=by rw [opE,if_neg (by rw [kk];decide),if_neg (by rw [tt];simp)]
      rw [tt] at ht
      rw [ho]
      (refine al c72 b72 fun σ=>?_;simp only [c72,↓R1,RR,seval,kk,tt,ll])
      repeat' ((first|(with_reducible intro β hβ;(try simp only [RB] at hβ);(repeat (obtain ⟨⟨_,_⟩,hβ⟩:=hβ));(try (have hbis:=ag (by assumption) hβ;obtain ⟨_,_⟩:=hbis)))|(refine Pt (hk) ?_)|(refine Pt (ht) ?_))<;>(try simp only [↓R1,RR,seval,kk,tt,ll]))
      (refine ak ?_ (by first|(simp [aj,rvS];done)|(simp only [aj,rvS,↓R1,RR,seval,kk,tt,ll];try simp)))
      simp only [ao,↓R1,RR,seval,kk,tt,ll]
      exact ae _
    | true =>
      rw [tt] at ht
      by_cases hl:1000<o.text.length
      · have ho:opE o=4:=by rw [opE,if_neg (by rw [kk];decide),if_pos ⟨tt,hl⟩]
        have ll:decide ((1000:Int)<(o.text.length:Int))=true:=by rw [decide_eq_true_eq];omega
        rw [ho]
        (refine al c72 b72 fun σ=>?_;simp only [c72,↓R1,RR,seval,kk,tt,ll])
        repeat' ((first|(with_reducible intro β hβ;(try simp only [RB] at hβ);(repeat (obtain ⟨⟨_,_⟩,hβ⟩:=hβ));(try (have hbis:=ag (by assumption) hβ;obtain ⟨_,_⟩:=hbis)))|(refine Pt (hk) ?_)|(refine Pt (ht) ?_))<;>(try simp only [↓R1,RR,seval,kk,tt,ll]))
        (refine ak ?_ (by first|(simp [aj,rvS];done)|(simp only [aj,rvS,↓R1,RR,seval,kk,tt,ll];try simp)))
        simp only [ao,↓R1,RR,seval,kk,tt,ll]
        exact ae _
      · have ho:opE o=0:=by rw [opE,if_neg (by rw [kk];decide),if_neg (fun h=>hl h.2)]
        have ll:decide ((1000:Int)<(o.text.length:Int))=false:=by rw [decide_eq_false_iff_not];omega
        rw [ho]
        (refine al c72 b72 fun σ=>?_;simp only [c72,↓R1,RR,seval,kk,tt,ll])
        repeat' ((first|(with_reducible intro β hβ;(try simp only [RB] at hβ);(repeat (obtain ⟨⟨_,_⟩,hβ⟩:=hβ));(try (have hbis:=ag (by assumption) hβ;obtain ⟨_,_⟩:=hbis)))|(refine Pt (hk) ?_)|(refine Pt (ht) ?_))<;>(try simp only [↓R1,RR,seval,kk,tt,ll]))
        (refine ak ?_ (by first|(simp [aj,rvS];done)|(simp only [aj,rvS,↓R1,RR,seval,kk,tt,ll];try simp)))
        simp only [ao,↓R1,RR,seval,kk,tt,ll]
        exact ae _
theorem p77 (o:OpI):Pu Tryz.prog 77 [.agg (cOp o)] (.int .i64 (opE o)):=by
  obtain ⟨a,b,c,d,e,hs⟩:=uw o.kind
  have hf:=p81 o.kind
  rw [hs] at hf
  simp only [List.map_cons,List.map_nil] at hf
  have tt:True:=trivial
  have ll:True:=trivial
  simp only [cOp]
  cases kk:eU o.kind with
  | false =>
    have ho:opE o=11:=by rw [opE,if_pos kk]
    rw [kk] at hf
    rw [ho]
    (refine al c77 b77 fun σ=>?_;simp only [c77,↓R1,RR,seval,kk,tt,ll])
    repeat' (first|(with_reducible rw [ah])|((first|(with_reducible intro β hβ;(try simp only [RB] at hβ);(repeat (obtain ⟨⟨_,_⟩,hβ⟩:=hβ));(try (have hbis:=ag (by assumption) hβ;obtain ⟨_,_⟩:=hbis)))|(refine Pt (hf) ?_))<;>(try simp only [↓R1,RR,seval,kk,tt,ll])))
    (refine ak ?_ (by first|(simp [aj,rvS];done)|(simp only [aj,rvS,↓R1,RR,seval,kk,tt,ll];try simp)))
    simp only [ao,↓R1,RR,seval,kk,tt,ll]
    exact ae _
  | true =>
    rw [kk] at hf
    cases tt:kn o.kind with
    | false =>
      have ho:opE o=0:=by rw [opE,if_neg (by rw [kk];decide),if_neg (by rw [tt];simp)]
      rw [tt] at hf
      rw [ho]
      (refine al c77 b77 fun σ=>?_;simp only [c77,↓R1,RR,seval,kk,tt,ll])
      repeat' (first|(with_reducible rw [ah])|((first|(with_reducible intro β hβ;(try simp only [RB] at hβ);(repeat (obtain ⟨⟨_,_⟩,hβ⟩:=hβ));(try (have hbis:=ag (by assumption) hβ;obtain ⟨_,_⟩:=hbis)))|(refine Pt (hf) ?_))<;>(try simp only [↓R1,RR,seval,kk,tt,ll])))
      (refine ak ?_ (by first|(simp [aj,rvS];done)|(simp only [aj,rvS,↓R1,RR,seval,kk,tt,ll];try simp)))
      simp only [ao,↓R1,RR,seval,kk,tt,ll]
      exact ae _
    | true =>
      rw [tt] at hf
      by_cases hl:1000<o.text.length
      · have ho:opE o=4:=by rw [opE,if_neg (by rw [kk];decide),if_pos ⟨tt,hl⟩]
        have ll:decide ((1000:Int)<(o.text.length:Int))=true:=by rw [decide_eq_true_eq];omega
        rw [ho]
        (refine al c77 b77 fun σ=>?_;simp only [c77,↓R1,RR,seval,kk,tt,ll])
        repeat' (first|(with_reducible rw [ah])|((first|(with_reducible intro β hβ;(try simp only [RB] at hβ);(repeat (obtain ⟨⟨_,_⟩,hβ⟩:=hβ));(try (have hbis:=ag (by assumption) hβ;obtain ⟨_,_⟩:=hbis)))|(refine Pt (hf) ?_))<;>(try simp only [↓R1,RR,seval,kk,tt,ll])))
        (refine ak ?_ (by first|(simp [aj,rvS];done)|(simp only [aj,rvS,↓R1,RR,seval,kk,tt,ll];try simp)))
        simp only [ao,↓R1,RR,seval,kk,tt,ll]
        exact ae _
      · have ho:opE o=0:=by rw [opE,if_neg (by rw [kk];decide),if_neg (fun h=>hl h.2)]
        have ll:decide ((1000:Int)<(o.text.length:Int))=false:=by rw [decide_eq_false_iff_not];omega
        rw [ho]
        (refine al c77 b77 fun σ=>?_;simp only [c77,↓R1,RR,seval,kk,tt,ll])
        repeat' (first|(with_reducible rw [ah])|((first|(with_reducible intro β hβ;(try simp only [RB] at hβ);(repeat (obtain ⟨⟨_,_⟩,hβ⟩:=hβ));(try (have hbis:=ag (by assumption) hβ;obtain ⟨_,_⟩:=hbis)))|(refine Pt (hf) ?_))<;>(try simp only [↓R1,RR,seval,kk,tt,ll])))
        (refine ak ?_ (by first|(simp [aj,rvS];done)|(simp only [aj,rvS,↓R1,RR,seval,kk,tt,ll];try simp)))
        simp only [ao,↓R1,RR,seval,kk,tt,ll]
        exact ae _
theorem p73 {k:Nat} (h:1≤k∧k≤8):PuG Tryz.prog gl4 73 [.int .i64 (k:Nat)] (.tup [.str (nm k), .int .i64 0]):=by
 have hk:eU (k:Int)=true:=by simp only [eU,Bool.and_eq_true,decide_eq_true_eq];omega
 have h0:=Ka k
 rw [hk] at h0
 have q1:(uv.drop (k*1))[0]? =some (.str (nm k)):=by
  have:∀ n:Fin 9,(uv.drop (n.val*1))[0]? =some (.str (nm n.val)):=by
   intro n
   rcases n with ⟨n,hn⟩
   rcases (show n=0∨n=1∨n=2∨n=3∨n=4∨n=5∨n=6∨n=7∨n=8 by omega) with rfl|rfl|rfl|rfl|rfl|rfl|rfl|rfl|rfl<;>rfl
  exact this ⟨k,by omega⟩
 have q2:uv.length=9:=rfl
 have q3:True:=trivial
 (refine aP c73 b73 fun σ hσ=>?_;simp only [c73,↓R1,RR,seval,q1,q2,q3])
 have q3:=yi hσ
 repeat' (first|(with_reducible refine And.intro ?_ ?_;exact aq)|((refine Pt (h0) ?_)<;>(try simp only [↓R1,RR,seval,q1,q2,q3])))
 (refine ak (af ?_) (by first|(simp [aj,rvS];done)|(simp only [aj,rvS,↓R1,RR,seval,q1,q2,q3];try simp)))
 (simp only [ao,↓R1,RR,seval,q1,q2,q3])
def ux (s:List UInt8):Bool:=s.length == 17&&decide ((s[8]?.getD 0).toNat<26)
def evL (s:List UInt8):BitVec 64:=iG (s.take 8)
def evK (s:List UInt8):Nat:=(s[8]?.getD 0).toNat
def evV (s:List UInt8):Int:=IntKind.i64.wrap ((iG (s.drop 9)).toNat:Int)
theorem lI {s:List UInt8} (h:ux s=true):fy s= [.int .u64 (evL s).toNat, .int .i64 (evK s), .int .i64 (evV s)]∧fQ s= [.int .i64 0, .int .i64 0]:=by
 unfold ux at h
 refine ⟨by unfold fy;rw [h];rfl,?_⟩
 simp only [Bool.and_eq_true,beq_iff_eq,decide_eq_true_eq] at h
 unfold fQ
 have h1:decide (s.length<8)=false:=by simp;omega
 have h2:decide (s.length<9)=false:=by simp;omega
 have h3:decide (26≤(s[8]?.getD 0).toNat)=false:=by simp;omega
 have h4:decide (s.length<17)=false:=by simp;omega
 have h5:decide (17<s.length)=false:=by simp;omega
 simp only [h1,h2,h3,h4,h5,cond_false]
theorem B9 {s:List UInt8} (h:ux s=false):∃ e a:Int,e≠0∧fy s= [.int .u64 0, .int .i64 0, .int .i64 0]∧fQ s= [.int .i64 e, .int .i64 a]:=by
  unfold ux at h
  have hE:fy s= [.int .u64 0, .int .i64 0, .int .i64 0]:=by unfold fy;rw [h];rfl
  unfold fQ
  cases h1:decide (s.length<8) with
  | true=>exact ⟨_,_,by decide,hE,rfl⟩
  | false =>
    cases h2:decide (s.length<9) with
    | true=>exact ⟨_,_,by decide,hE,rfl⟩
    | false =>
      cases h3:decide (26≤(s[8]?.getD 0).toNat) with
      | true=>exact ⟨_,_,by decide,hE,rfl⟩
      | false =>
        cases h4:decide (s.length<17) with
        | true=>exact ⟨_,_,by decide,hE,rfl⟩
        | false =>
          cases h5:decide (17<s.length) with
          | true=>exact ⟨_,_,by decide,hE,rfl⟩
          | false =>
            exfalso
            simp only [decide_eq_false_iff_not] at h1 h2 h3 h4 h5
            rw [show s.length=17 by omega,decide_eq_true (by omega)] at h
            cases h
structure OpOk (o:OpI):Prop where
 tenant:I64 o.tenant
 number:I64 o.number
 most:I64 o.most
 label:U64 o.label
 idl:U64 o.idl
def mU:List UInt8:= [98,121,116,101,115]
def br (o:OpI):List (List UInt8) :=
 if o.kind=1 then [nm 1,itoa o.tenant,cT (lab o.label)] else if o.kind=2 then [nm 2,itoa o.tenant,o.text] else if o.kind=3 then [nm 3,itoa o.tenant,itoa o.number]
 else if o.kind=4 then (if ux o.text=true then [nm 4,cP (evK o.text),cT (evL o.text),itoa (evV o.text)] else [mU,o.text]) else if o.kind=6 then [nm 6,itoa o.tenant,itoa o.most]
 else if o.kind=7 then [nm 7,itoa o.tenant,itoa o.number,c9 (lab o.idl) o.idn] else if o.kind=8 then [nm 8,itoa o.tenant,itoa o.number,itoa o.most] else [nm 5]
def eX (o:OpI):AV:=if opE o≠0 then .tup [.str [], .int .i64 (opE o)] else if o.kind=7∧idE o.idn≠0 then .tup [.str [], .int .i64 (idE o.idn)] else od (eW [mkR (br o)])
def WOk (ws:List (List UInt8)):Prop:=ws.length≤20∧∀ t∈ws,t.length≤1100
theorem oB {ws:List (List UInt8)} (h:WOk ws):ph [mkR ws]:=by
 refine ⟨by simp,fun r hr=>?_⟩
 have e:=List.mem_singleton.1 hr
 subst e
 have h1:=h.1
 refine ⟨by simp [mkR];omega,fun w hw=>?_⟩
 obtain ⟨t,ht,rfl⟩:=List.mem_map.1 hw
 have:=h.2 t ht
 show t.length≤20000
 omega
theorem ko (ws:List (List UInt8)):∃ (t:List UInt8) (e:Int),od (eW [mkR ws])= .tup [.str t, .int .i64 e]:=by
 cases eW [mkR ws] with
 | error e=>exact ⟨_,_,rfl⟩
 | ok t=>exact ⟨_,_,rfl⟩
theorem Cc {l:List (List UInt8)} (h:WOk l):Pu Tryz.prog 74 [.sl true l.length (l.map AV.str)] (od (eW [mkR l])):=by
 have h0:=JW l (by have:=h.1;omega) (fun t ht=>by have:=h.2 t ht;omega)
 have h1:=JV [mkR l] (oB h)
 obtain ⟨t,e,hv⟩:=ko l
 rw [hv] at h1 ⊢
 simp only [List.flatMap_cons,List.flatMap_nil,List.append_nil,List.length_cons,List.length_nil,Nat.zero_add] at h1
 (refine al c74 b74 fun σ=>?_;simp only [c74,↓R1,RR,seval,List.length_map,hv])
 repeat' (first|(with_reducible apply And.intro)|((first|((refine Pu.to (h0) ?_ ?_;(focus ((repeat' (first|exact ae _|exact c7|exact cd _ _ _|exact bw _ _|exact wkL.nil|exact aa _|refine ez ?_|refine dC ?_|refine wkL.cons ?_ ?_));done))))|((refine Pu.to (h1) ?_ ?_;(focus ((repeat' (first|exact ae _|exact c7|exact cd _ _ _|exact bw _ _|exact wkL.nil|exact aa _|refine ez ?_|refine dC ?_|refine wkL.cons ?_ ?_));done)))))<;>(try simp only [↓R1,RR,seval,List.length_map,hv])))
 ·rfl
 ·(refine ak (af ?_))
  (simp only [ao,↓R1,RR,seval,List.length_map,hv])
theorem si (l:BitVec 64) (n:Int):(c9 l n).length≤1100:=by have:=tT l n;omega
theorem uy (s:List UInt8):I64 (evV s):=by
 unfold evV I64
 rw [wI];split<;>omega
theorem mV (o:OpI) (ho:OpOk o) (ht:o.text.length≤1100):WOk (br o):=by
 have h1:=cF o.tenant ho.tenant
 have h2:=cF o.number ho.number
 have h3:=cF o.most ho.most
 have h4:=dV (lab o.label)
 have h5:=dV (evL o.text)
 have h6:=cF (evV o.text) (uy _)
 have h7:=kP (evK o.text)
 have h8:=si (lab o.idl) o.idn
 have hn:∀ k:Nat,(nm k).length≤1100:=by
  intro k;unfold nm;split<;>decide
 unfold br
 (repeat' split)<;>refine ⟨by simp,fun t h=>?_⟩<;>simp only [List.mem_cons,List.not_mem_nil,or_false] at h
 ·rcases h with rfl|rfl|rfl<;>first|exact hn _|omega
 ·rcases h with rfl|rfl|rfl<;>first|exact hn _|omega
 ·rcases h with rfl|rfl|rfl<;>first|exact hn _|omega
 ·rcases h with rfl|rfl|rfl|rfl<;>first|exact hn _|omega
 ·rcases h with rfl|rfl<;>first|decide|omega
 ·rcases h with rfl|rfl|rfl<;>first|exact hn _|omega
 ·rcases h with rfl|rfl|rfl|rfl<;>first|exact hn _|omega
 ·rcases h with rfl|rfl|rfl|rfl<;>first|exact hn _|omega
 ·subst h;exact hn _
theorem oC {o:OpI} (h:opE o=0):(o.kind=1∨o.kind=2∨o.kind=3∨o.kind=4∨o.kind=5∨o.kind=6∨o.kind=7∨o.kind=8)∧(o.kind=2∨o.kind=4→o.text.length≤1000):=by
 unfold opE at h
 split at h
 ·cases h
 ·rename_i h1
  split at h
  ·cases h
  ·rename_i h2
   simp only [Bool.not_eq_false,eU,Bool.and_eq_true,decide_eq_true_eq] at h1
   refine ⟨by omega,fun hk=>?_⟩
   refine Classical.byContradiction fun hc=>h2 ⟨?_,by omega⟩
   rcases hk with hk|hk<;>rw [hk]<;>rfl
set_option maxHeartbeats 8000000 in
theorem p27 (o:OpI) (ho:OpOk o) (ht:o.text.length≤1100):PuG Tryz.prog gl4 27 [.agg (cOp o)] (eX o):=by
  have hck:=p72 o
  have h74:=Cc (mV o ho ht)
  obtain ⟨t,e,hv⟩:=ko (br o)
  have hten:=PuG.up4 (p52 o.tenant ho.tenant)
  have hnum:=PuG.up4 (p52 o.number ho.number)
  have hmost:=PuG.up4 (p52 o.most ho.most)
  have hlab:=PuG.up4 (PuG.up3 (p51 (lab o.label)))
  rw [e7 ho.label] at hlab
  have q1:True:=trivial
  have hkd:True:=trivial
  by_cases hz:opE o=0
  · obtain ⟨hkk,htk⟩:=oC hz
    have hz2:=hz
    rw [hv] at h74
    have hL:(o.kind=7→idE o.idn=0)→eX o= .tup [.str t, .int .i64 e]:=fun h=>by
      rw [eX,if_neg (fun h=>h hz),if_neg (fun hh=>hh.2 (h hh.1)),hv]
    rw [hz] at hck
    have hz:True:=trivial
    simp only [cOp] at hck ⊢
    rcases hkk with hkd|hkd|hkd|hkd|hkd|hkd|hkd|hkd
    · have hw:br o= [nm 1,itoa o.tenant,cT (lab o.label)]:=by rw [br,if_pos hkd]
      have hname:=p73 (k:=1) (by decide)
      rw [hw] at h74
      rw [hL (fun h=>by omega)]
      rw [hkd] at hck ⊢
      (refine aP c27 b27 fun σ hσ=>?_;simp only [c27,↓R1,RR,seval,hkd,q1,hz])
      repeat' ((first|(with_reducible intro β hβ;(try simp only [RB] at hβ);(repeat (obtain ⟨⟨_,_⟩,hβ⟩:=hβ));(try (have hbis:=ag (by assumption) hβ;obtain ⟨_,_⟩:=hbis)))|(refine Pt (hck) ?_)|(refine PuG.to (hname) hσ (aa _) ?_)|(refine PuG.to (hten) hσ (aa _) ?_)|(refine PuG.to (hlab) hσ (aa _) ?_)|(refine Pt (h74) ?_))<;>(try simp only [↓R1,RR,seval,hkd,q1,hz]))
      (refine ak ?_);(simp only [ao,↓R1,RR,seval,hkd,q1,hz];exact ae _)
    · have hw:br o= [nm 2,itoa o.tenant,o.text]:=by rw [br,if_neg (by omega),if_pos hkd]
      have hname:=p73 (k:=2) (by decide)
      rw [hw] at h74
      rw [hL (fun h=>by omega)]
      rw [hkd] at hck ⊢
      (refine aP c27 b27 fun σ hσ=>?_;simp only [c27,↓R1,RR,seval,hkd,q1,hz])
      repeat' ((first|(with_reducible intro β hβ;(try simp only [RB] at hβ);(repeat (obtain ⟨⟨_,_⟩,hβ⟩:=hβ));(try (have hbis:=ag (by assumption) hβ;obtain ⟨_,_⟩:=hbis)))|(refine Pt (hck) ?_)|(refine PuG.to (hname) hσ (aa _) ?_)|(refine PuG.to (hten) hσ (aa _) ?_)|(refine Pt (h74) ?_))<;>(try simp only [↓R1,RR,seval,hkd,q1,hz]))
      (refine ak ?_);(simp only [ao,↓R1,RR,seval,hkd,q1,hz];exact ae _)
    · have hw:br o= [nm 3,itoa o.tenant,itoa o.number]:=by rw [br,if_neg (by omega),if_neg (by omega),if_pos hkd]
      have hname:=p73 (k:=3) (by decide)
      rw [hw] at h74
      rw [hL (fun h=>by omega)]
      rw [hkd] at hck ⊢
      (refine aP c27 b27 fun σ hσ=>?_;simp only [c27,↓R1,RR,seval,hkd,q1,hz])
      repeat' ((first|(with_reducible intro β hβ;(try simp only [RB] at hβ);(repeat (obtain ⟨⟨_,_⟩,hβ⟩:=hβ));(try (have hbis:=ag (by assumption) hβ;obtain ⟨_,_⟩:=hbis)))|(refine Pt (hck) ?_)|(refine PuG.to (hname) hσ (aa _) ?_)|(refine PuG.to (hten) hσ (aa _) ?_)|(refine PuG.to (hnum) hσ (aa _) ?_)|(refine Pt (h74) ?_))<;>(try simp only [↓R1,RR,seval,hkd,q1,hz]))
      (refine ak ?_);(simp only [ao,↓R1,RR,seval,hkd,q1,hz];exact ae _)
    · have hname:=p73 (k:=4) (by decide)
      have hpar:=p75 o.text (htk (.inr hkd))
      rw [(BA o.text).1,(BA o.text).2] at hpar
      rw [hL (fun h=>by omega)]
      cases hev:ux o.text with
      | true =>
        have hw:br o= [nm 4,cP (evK o.text),cT (evL o.text),itoa (evV o.text)]:=by rw [br,if_neg (by omega),if_neg (by omega),if_neg (by omega),if_pos hkd,if_pos hev]
        rw [hw] at h74
        rw [hkd] at hck ⊢
        rw [(lI hev).1,(lI hev).2] at hpar
        have hlet:=p53 (evK o.text)
        have hl2:=PuG.up4 (PuG.up3 (p51 (evL o.text)))
        have hn2:=PuG.up4 (p54 (evV o.text) (uy _))
        (refine aP c27 b27 fun σ hσ=>?_;simp only [c27,↓R1,RR,seval,hkd,q1,hz])
        repeat' (first|(with_reducible rw [ah])|((first|(with_reducible intro β hβ;(try simp only [RB] at hβ);(repeat (obtain ⟨⟨_,_⟩,hβ⟩:=hβ));(try (have hbis:=ag (by assumption) hβ;obtain ⟨_,_⟩:=hbis)))|(refine Pt (hck) ?_)|(refine PuG.to (hname) hσ (aa _) ?_)|(refine PuG.to (hten) hσ (aa _) ?_)|(refine Pt (hpar) ?_)|(refine Pt (hlet) ?_)|(refine aS (hl2) hσ (aa _) ?_)|(refine aS (hn2) hσ (aa _) ?_)|(refine Ct (h74) ?_))<;>(try simp only [↓R1,RR,seval,hkd,q1,hz])))
        (refine ak ?_);(simp only [ao,↓R1,RR,seval,hkd,q1,hz];exact ae _)
      | false =>
        have hw:br o= [mU,o.text]:=by rw [br,if_neg (by omega),if_neg (by omega),if_neg (by omega),if_pos hkd,if_neg (by rw [hev];decide)]
        rw [hw] at h74
        rw [hkd] at hck ⊢
        obtain ⟨f,a,hf,hE,hF⟩:=B9 hev
        rw [hE,hF] at hpar
        have q1:(f != 0)=true:=by rw [bne_iff_ne];exact hf
        unfold mU at h74
        (refine aP c27 b27 fun σ hσ=>?_;simp only [c27,↓R1,RR,seval,hkd,q1,hz])
        repeat' (first|(with_reducible rw [ah])|((first|(with_reducible intro β hβ;(try simp only [RB] at hβ);(repeat (obtain ⟨⟨_,_⟩,hβ⟩:=hβ));(try (have hbis:=ag (by assumption) hβ;obtain ⟨_,_⟩:=hbis)))|(refine Pt (hck) ?_)|(refine PuG.to (hname) hσ (aa _) ?_)|(refine PuG.to (hten) hσ (aa _) ?_)|(refine Pt (hpar) ?_)|(refine Pt (h74) ?_))<;>(try simp only [↓R1,RR,seval,hkd,q1,hz])))
        (refine ak ?_);(simp only [ao,↓R1,RR,seval,hkd,q1,hz];exact ae _)
    · have hw:br o= [nm 5]:=by rw [br,if_neg (by omega),if_neg (by omega),if_neg (by omega),if_neg (by omega),if_neg (by omega),if_neg (by omega),if_neg (by omega)]
      have hname:=p73 (k:=5) (by decide)
      rw [hw] at h74
      rw [hL (fun h=>by omega)]
      rw [hkd] at hck ⊢
      (refine aP c27 b27 fun σ hσ=>?_;simp only [c27,↓R1,RR,seval,hkd,q1,hz])
      repeat' ((first|(with_reducible intro β hβ;(try simp only [RB] at hβ);(repeat (obtain ⟨⟨_,_⟩,hβ⟩:=hβ));(try (have hbis:=ag (by assumption) hβ;obtain ⟨_,_⟩:=hbis)))|(refine Pt (hck) ?_)|(refine PuG.to (hname) hσ (aa _) ?_)|(refine PuG.to (hten) hσ (aa _) ?_)|(refine Pt (h74) ?_))<;>(try simp only [↓R1,RR,seval,hkd,q1,hz]))
      (refine ak ?_);(simp only [ao,↓R1,RR,seval,hkd,q1,hz];exact ae _)
    · have hw:br o= [nm 6,itoa o.tenant,itoa o.most]:=by rw [br,if_neg (by omega),if_neg (by omega),if_neg (by omega),if_neg (by omega),if_pos hkd]
      have hname:=p73 (k:=6) (by decide)
      rw [hw] at h74
      rw [hL (fun h=>by omega)]
      rw [hkd] at hck ⊢
      (refine aP c27 b27 fun σ hσ=>?_;simp only [c27,↓R1,RR,seval,hkd,q1,hz])
      repeat' ((first|(with_reducible intro β hβ;(try simp only [RB] at hβ);(repeat (obtain ⟨⟨_,_⟩,hβ⟩:=hβ));(try (have hbis:=ag (by assumption) hβ;obtain ⟨_,_⟩:=hbis)))|(refine Pt (hck) ?_)|(refine PuG.to (hname) hσ (aa _) ?_)|(refine PuG.to (hten) hσ (aa _) ?_)|(refine PuG.to (hmost) hσ (aa _) ?_)|(refine Pt (h74) ?_))<;>(try simp only [↓R1,RR,seval,hkd,q1,hz]))
      (refine ak ?_);(simp only [ao,↓R1,RR,seval,hkd,q1,hz];exact ae _)
    · have hname:=p73 (k:=7) (by decide)
      have hid:=PuG.up4 (p76 (lab o.idl) o.idn)
      rw [e7 ho.idl] at hid
      by_cases hi:idE o.idn=0
      · have hw:br o= [nm 7,itoa o.tenant,itoa o.number,c9 (lab o.idl) o.idn]:=by rw [br,if_neg (by omega),if_neg (by omega),if_neg (by omega),if_neg (by omega),if_neg (by omega),if_pos hkd]
        rw [hw] at h74
        rw [hL (fun h=>hi)]
        rw [hkd] at hck ⊢
        rw [hi] at hid
        (refine aP c27 b27 fun σ hσ=>?_;simp only [c27,↓R1,RR,seval,hkd,q1,hz])
        repeat' ((first|(with_reducible intro β hβ;(try simp only [RB] at hβ);(repeat (obtain ⟨⟨_,_⟩,hβ⟩:=hβ));(try (have hbis:=ag (by assumption) hβ;obtain ⟨_,_⟩:=hbis)))|(refine Pt (hck) ?_)|(refine PuG.to (hname) hσ (aa _) ?_)|(refine PuG.to (hten) hσ (aa _) ?_)|(refine PuG.to (hid) hσ (aa _) ?_)|(refine PuG.to (hnum) hσ (aa _) ?_)|(refine Pt (h74) ?_))<;>(try simp only [↓R1,RR,seval,hkd,q1,hz]))
        (refine ak ?_);(simp only [ao,↓R1,RR,seval,hkd,q1,hz];exact ae _)
      · have hL2:eX o= .tup [.str [], .int .i64 (idE o.idn)]:=by rw [eX,if_neg (fun h=>h hz2),if_pos ⟨hkd,hi⟩]
        have q1:(idE o.idn != 0)=true:=by rw [bne_iff_ne];exact hi
        rw [hL2]
        rw [hkd] at hck ⊢
        (refine aP c27 b27 fun σ hσ=>?_;simp only [c27,↓R1,RR,seval,hkd,q1,hz])
        repeat' ((first|(with_reducible intro β hβ;(try simp only [RB] at hβ);(repeat (obtain ⟨⟨_,_⟩,hβ⟩:=hβ));(try (have hbis:=ag (by assumption) hβ;obtain ⟨_,_⟩:=hbis)))|(refine Pt (hck) ?_)|(refine PuG.to (hname) hσ (aa _) ?_)|(refine PuG.to (hten) hσ (aa _) ?_)|(refine PuG.to (hid) hσ (aa _) ?_))<;>(try simp only [↓R1,RR,seval,hkd,q1,hz]))
        (refine ak ?_);(simp only [ao,↓R1,RR,seval,hkd,q1,hz];exact ae _)
    · have hw:br o= [nm 8,itoa o.tenant,itoa o.number,itoa o.most]:=by rw [br,if_neg (by omega),if_neg (by omega),if_neg (by omega),if_neg (by omega),if_neg (by omega),if_neg (by omega),if_pos hkd]
      have hname:=p73 (k:=8) (by decide)
      rw [hw] at h74
      rw [hL (fun h=>by omega)]
      rw [hkd] at hck ⊢
      (refine aP c27 b27 fun σ hσ=>?_;simp only [c27,↓R1,RR,seval,hkd,q1,hz])
      repeat' ((first|(with_reducible intro β hβ;(try simp only [RB] at hβ);(repeat (obtain ⟨⟨_,_⟩,hβ⟩:=hβ));(try (have hbis:=ag (by assumption) hβ;obtain ⟨_,_⟩:=hbis)))|(refine Pt (hck) ?_)|(refine PuG.to (hname) hσ (aa _) ?_)|(refine PuG.to (hten) hσ (aa _) ?_)|(refine aS (hnum) hσ (aa _) ?_)|(refine aS (hmost) hσ (aa _) ?_)|(refine Ct (h74) ?_))<;>(try simp only [↓R1,RR,seval,hkd,q1,hz]))
      (refine ak ?_);(simp only [ao,↓R1,RR,seval,hkd,q1,hz];exact ae _)
  · have q1:(opE o != 0)=true:=by rw [bne_iff_ne];exact hz
    have hL:eX o= .tup [.str [], .int .i64 (opE o)]:=by rw [eX,if_pos hz]
    rw [hL]
    have hz:True:=trivial
    simp only [cOp] at hck ⊢
    (refine aP c27 b27 fun σ hσ=>?_;simp only [c27,↓R1,RR,seval,hkd,q1,hz])
    repeat' ((first|(with_reducible intro β hβ;(try simp only [RB] at hβ);(repeat (obtain ⟨⟨_,_⟩,hβ⟩:=hβ));(try (have hbis:=ag (by assumption) hβ;obtain ⟨_,_⟩:=hbis)))|(refine Pt (hck) ?_))<;>(try simp only [↓R1,RR,seval,hkd,q1,hz]))
    (refine ak ?_);(simp only [ao,↓R1,RR,seval,hkd,q1,hz];exact ae _)
theorem EO {l:List (List UInt8)} (h:WOk l):Pu Tryz.prog 56 [.sl true l.length (l.map AV.str)] (.agg (cRI (mkR l))):=fun σ =>
 AC.wk (p56 l (by have:=h.1;omega) (fun t ht=>by have:=h.2 t ht;omega) σ) (.cons (bw _ _) .nil)
set_option maxHeartbeats 8000000 in
theorem p78 (o:OpI) (ho:OpOk o) (ht:o.text.length≤1100) (hz:opE o=0):Pu Tryz.prog 78 [.agg (cOp o)] (.tup [.agg (cRI (mkR (br o))), .int .i64 (if o.kind=7 then idE o.idn else 0)]):=by
  have hmk:=EO (mV o ho ht)
  have hten:=pS o.tenant ho.tenant
  have hnum:=pS o.number ho.number
  have hmost:=pS o.most ho.most
  have hlab:=p58 (lab o.label)
  rw [e7 ho.label] at hlab
  have q1:True:=trivial
  have hkd:True:=trivial
  obtain ⟨hkk,htk⟩:=oC hz
  obtain ⟨c0,c1,hc⟩:∃ c0 c1,cRI (mkR (br o))= [c0,c1]:=⟨_,_,rfl⟩
  rw [hc] at hmk ⊢
  simp only [cOp]
  rcases hkk with hkd|hkd|hkd|hkd|hkd|hkd|hkd|hkd
  · have hw:br o= [nm 1,itoa o.tenant,cT (lab o.label)]:=by rw [br,if_pos hkd]
    rw [hw] at hmk
    have he:(if o.kind=7 then idE o.idn else 0)=0:=by rw [if_neg (by omega)]
    rw [he,hkd]
    (refine al c78 b78 fun σ=>?_;simp only [c78,↓R1,RR,seval,hkd,q1,cRI,List.length_map])
    repeat' (first|(with_reducible rw [ah])|((first|(with_reducible intro β hβ;(try simp only [RB] at hβ);(repeat (obtain ⟨⟨_,_⟩,hβ⟩:=hβ));(try (have hbis:=ag (by assumption) hβ;obtain ⟨_,_⟩:=hbis)))|(refine Ct (hten) ?_)|(refine Ct (hlab) ?_)|(refine Ct (hmk) ?_))<;>(try simp only [↓R1,RR,seval,hkd,q1,cRI,List.length_map])))
    (refine ak ?_ (by first|(simp [aj,rvS];done)|(simp only [aj,rvS,↓R1,RR,seval,hkd,q1,cRI,List.length_map];try simp)));(simp only [ao,↓R1,RR,seval,hkd,q1,cRI,List.length_map];exact ae _)
  · have hw:br o= [nm 2,itoa o.tenant,o.text]:=by rw [br,if_neg (by omega),if_pos hkd]
    rw [hw] at hmk
    have he:(if o.kind=7 then idE o.idn else 0)=0:=by rw [if_neg (by omega)]
    rw [he,hkd]
    (refine al c78 b78 fun σ=>?_;simp only [c78,↓R1,RR,seval,hkd,q1,cRI,List.length_map])
    repeat' (first|(with_reducible rw [ah])|((first|(with_reducible intro β hβ;(try simp only [RB] at hβ);(repeat (obtain ⟨⟨_,_⟩,hβ⟩:=hβ));(try (have hbis:=ag (by assumption) hβ;obtain ⟨_,_⟩:=hbis)))|(refine Ct (hten) ?_)|(refine Ct (hmk) ?_))<;>(try simp only [↓R1,RR,seval,hkd,q1,cRI,List.length_map])))
    (refine ak ?_ (by first|(simp [aj,rvS];done)|(simp only [aj,rvS,↓R1,RR,seval,hkd,q1,cRI,List.length_map];try simp)));(simp only [ao,↓R1,RR,seval,hkd,q1,cRI,List.length_map];exact ae _)
  · have hw:br o= [nm 3,itoa o.tenant,itoa o.number]:=by rw [br,if_neg (by omega),if_neg (by omega),if_pos hkd]
    rw [hw] at hmk
    have he:(if o.kind=7 then idE o.idn else 0)=0:=by rw [if_neg (by omega)]
    rw [he,hkd]
    (refine al c78 b78 fun σ=>?_;simp only [c78,↓R1,RR,seval,hkd,q1,cRI,List.length_map])
    repeat' (first|(with_reducible rw [ah])|((first|(with_reducible intro β hβ;(try simp only [RB] at hβ);(repeat (obtain ⟨⟨_,_⟩,hβ⟩:=hβ));(try (have hbis:=ag (by assumption) hβ;obtain ⟨_,_⟩:=hbis)))|(refine Ct (hten) ?_)|(refine Ct (hnum) ?_)|(refine Ct (hmk) ?_))<;>(try simp only [↓R1,RR,seval,hkd,q1,cRI,List.length_map])))
    (refine ak ?_ (by first|(simp [aj,rvS];done)|(simp only [aj,rvS,↓R1,RR,seval,hkd,q1,cRI,List.length_map];try simp)));(simp only [ao,↓R1,RR,seval,hkd,q1,cRI,List.length_map];exact ae _)
  · have hpar:=Ma o.text (htk (.inr hkd))
    have he:(if o.kind=7 then idE o.idn else 0)=0:=by rw [if_neg (by omega)]
    rw [he]
    cases hev:ux o.text with
    | true =>
      have hw:br o= [nm 4,cP (evK o.text),cT (evL o.text),itoa (evV o.text)]:=by rw [br,if_neg (by omega),if_neg (by omega),if_neg (by omega),if_pos hkd,if_pos hev]
      rw [hw] at hmk
      rw [hkd]
      rw [(lI hev).1,(lI hev).2] at hpar
      have hlet:=p59 (evK o.text)
      have hl2:=p58 (evL o.text)
      have hn2:=p60 (evV o.text) (uy _)
      (refine al c78 b78 fun σ=>?_;simp only [c78,↓R1,RR,seval,hkd,q1,cRI,List.length_map])
      repeat' (first|(with_reducible rw [ah])|((first|(with_reducible intro β hβ;(try simp only [RB] at hβ);(repeat (obtain ⟨⟨_,_⟩,hβ⟩:=hβ));(try (have hbis:=ag (by assumption) hβ;obtain ⟨_,_⟩:=hbis)))|(refine Pt (hpar) ?_)|(refine Pt (hlet) ?_)|(refine Ct (hl2) ?_)|(refine Ct (hn2) ?_)|(refine Ct (hmk) ?_))<;>(try simp only [↓R1,RR,seval,hkd,q1,cRI,List.length_map])))
      (refine ak ?_ (by first|(simp [aj,rvS];done)|(simp only [aj,rvS,↓R1,RR,seval,hkd,q1,cRI,List.length_map];try simp)));(simp only [ao,↓R1,RR,seval,hkd,q1,cRI,List.length_map];exact ae _)
    | false =>
      have hw:br o= [mU,o.text]:=by rw [br,if_neg (by omega),if_neg (by omega),if_neg (by omega),if_pos hkd,if_neg (by rw [hev];decide)]
      rw [hw] at hmk
      rw [hkd]
      obtain ⟨f,a,hf,hE,hF⟩:=B9 hev
      rw [hE,hF] at hpar
      have q1:(f != 0)=true:=by rw [bne_iff_ne];exact hf
      unfold mU at hmk
      (refine al c78 b78 fun σ=>?_;simp only [c78,↓R1,RR,seval,hkd,q1,cRI,List.length_map])
      repeat' (first|(with_reducible rw [ah])|((first|(with_reducible intro β hβ;(try simp only [RB] at hβ);(repeat (obtain ⟨⟨_,_⟩,hβ⟩:=hβ));(try (have hbis:=ag (by assumption) hβ;obtain ⟨_,_⟩:=hbis)))|(refine Pt (hpar) ?_)|(refine Pt (hmk) ?_))<;>(try simp only [↓R1,RR,seval,hkd,q1,cRI,List.length_map])))
      (refine ak ?_ (by first|(simp [aj,rvS];done)|(simp only [aj,rvS,↓R1,RR,seval,hkd,q1,cRI,List.length_map];try simp)));(simp only [ao,↓R1,RR,seval,hkd,q1,cRI,List.length_map];exact ae _)
  · have hw:br o= [nm 5]:=by rw [br,if_neg (by omega),if_neg (by omega),if_neg (by omega),if_neg (by omega),if_neg (by omega),if_neg (by omega),if_neg (by omega)]
    rw [hw] at hmk
    have he:(if o.kind=7 then idE o.idn else 0)=0:=by rw [if_neg (by omega)]
    rw [he,hkd]
    (refine al c78 b78 fun σ=>?_;simp only [c78,↓R1,RR,seval,hkd,q1,cRI,List.length_map])
    repeat' (first|(with_reducible rw [ah])|((first|(with_reducible intro β hβ;(try simp only [RB] at hβ);(repeat (obtain ⟨⟨_,_⟩,hβ⟩:=hβ));(try (have hbis:=ag (by assumption) hβ;obtain ⟨_,_⟩:=hbis)))|(refine Pt (hmk) ?_))<;>(try simp only [↓R1,RR,seval,hkd,q1,cRI,List.length_map])))
    (refine ak ?_ (by first|(simp [aj,rvS];done)|(simp only [aj,rvS,↓R1,RR,seval,hkd,q1,cRI,List.length_map];try simp)));(simp only [ao,↓R1,RR,seval,hkd,q1,cRI,List.length_map];exact ae _)
  · have hw:br o= [nm 6,itoa o.tenant,itoa o.most]:=by rw [br,if_neg (by omega),if_neg (by omega),if_neg (by omega),if_neg (by omega),if_pos hkd]
    rw [hw] at hmk
    have he:(if o.kind=7 then idE o.idn else 0)=0:=by rw [if_neg (by omega)]
    rw [he,hkd]
    (refine al c78 b78 fun σ=>?_;simp only [c78,↓R1,RR,seval,hkd,q1,cRI,List.length_map])
    repeat' (first|(with_reducible rw [ah])|((first|(with_reducible intro β hβ;(try simp only [RB] at hβ);(repeat (obtain ⟨⟨_,_⟩,hβ⟩:=hβ));(try (have hbis:=ag (by assumption) hβ;obtain ⟨_,_⟩:=hbis)))|(refine Ct (hten) ?_)|(refine Ct (hmost) ?_)|(refine Ct (hmk) ?_))<;>(try simp only [↓R1,RR,seval,hkd,q1,cRI,List.length_map])))
    (refine ak ?_ (by first|(simp [aj,rvS];done)|(simp only [aj,rvS,↓R1,RR,seval,hkd,q1,cRI,List.length_map];try simp)));(simp only [ao,↓R1,RR,seval,hkd,q1,cRI,List.length_map];exact ae _)
  · have hid:=Mf (lab o.idl) o.idn
    rw [e7 ho.idl] at hid
    have hw:br o= [nm 7,itoa o.tenant,itoa o.number,c9 (lab o.idl) o.idn]:=by rw [br,if_neg (by omega),if_neg (by omega),if_neg (by omega),if_neg (by omega),if_neg (by omega),if_pos hkd]
    rw [hw] at hmk
    have he:(if o.kind=7 then idE o.idn else 0)=idE o.idn:=if_pos hkd
    rw [he,hkd]
    (refine al c78 b78 fun σ=>?_;simp only [c78,↓R1,RR,seval,hkd,q1,cRI,List.length_map])
    repeat' (first|(with_reducible rw [ah])|((first|(with_reducible intro β hβ;(try simp only [RB] at hβ);(repeat (obtain ⟨⟨_,_⟩,hβ⟩:=hβ));(try (have hbis:=ag (by assumption) hβ;obtain ⟨_,_⟩:=hbis)))|(refine Pt (hid) ?_)|(refine Ct (hten) ?_)|(refine Ct (hnum) ?_)|(refine Ct (hmk) ?_))<;>(try simp only [↓R1,RR,seval,hkd,q1,cRI,List.length_map])))
    (refine ak ?_ (by first|(simp [aj,rvS];done)|(simp only [aj,rvS,↓R1,RR,seval,hkd,q1,cRI,List.length_map];try simp)));(simp only [ao,↓R1,RR,seval,hkd,q1,cRI,List.length_map];exact ae _)
  · have hw:br o= [nm 8,itoa o.tenant,itoa o.number,itoa o.most]:=by rw [br,if_neg (by omega),if_neg (by omega),if_neg (by omega),if_neg (by omega),if_neg (by omega),if_neg (by omega),if_pos hkd]
    rw [hw] at hmk
    have he:(if o.kind=7 then idE o.idn else 0)=0:=by rw [if_neg (by omega)]
    rw [he,hkd]
    (refine al c78 b78 fun σ=>?_;simp only [c78,↓R1,RR,seval,hkd,q1,cRI,List.length_map])
    repeat' (first|(with_reducible rw [ah])|((first|(with_reducible intro β hβ;(try simp only [RB] at hβ);(repeat (obtain ⟨⟨_,_⟩,hβ⟩:=hβ));(try (have hbis:=ag (by assumption) hβ;obtain ⟨_,_⟩:=hbis)))|(refine Ct (hten) ?_)|(refine Ct (hnum) ?_)|(refine Ct (hmost) ?_)|(refine Ct (hmk) ?_))<;>(try simp only [↓R1,RR,seval,hkd,q1,cRI,List.length_map])))
    (refine ak ?_ (by first|(simp [aj,rvS];done)|(simp only [aj,rvS,↓R1,RR,seval,hkd,q1,cRI,List.length_map];try simp)));(simp only [ao,↓R1,RR,seval,hkd,q1,cRI,List.length_map];exact ae _)
set_option maxHeartbeats 4000000 in
theorem p28 (o:OpI) (ho:OpOk o) (ht:o.text.length≤1100):Pu Tryz.prog 28 [.agg (cOp o)] (eX o):=by
 have hck:=p77 o
 have q1:True:=trivial
 have hc2:True:=trivial
 have hc8:(cOp o).take 8=cOp o:=rfl
 by_cases hz:opE o=0
 ·have hrow:=p78 o ho ht hz
  rw [hz] at hck
  have htx:=p61 [mkR (br o)] (oB (mV o ho ht))
  obtain ⟨t,e,hv⟩:=ko (br o)
  rw [hv] at htx
  simp only [List.flatMap_cons,List.flatMap_nil,List.append_nil,List.length_cons,List.length_nil,Nat.zero_add] at htx
  have hc2:(cRI (mkR (br o))).length=2:=rfl
  obtain ⟨c0,c1,hc⟩:∃ c0 c1,cRI (mkR (br o))= [c0,c1]:=⟨_,_,rfl⟩
  rw [hc] at hrow htx
  by_cases hi:(if o.kind=7 then idE o.idn else 0)=0
  ·have hL:eX o= .tup [.str t, .int .i64 e]:=by
    rw [eX,if_neg (fun h=>h hz),if_neg (fun hh=>hh.2 (by rw [if_pos hh.1] at hi;exact hi)),hv]
   rw [hL]
   rw [hi] at hrow
   simp only [cOp] at hck hrow ⊢
   (refine al c28 b28 fun σ=>?_;simp only [c28,↓R1,RR,seval,q1,cOp,dh,List.append_nil,hc2])
   repeat' (first|(with_reducible rw [ah])|((first|(with_reducible intro β hβ;(try simp only [RB] at hβ);(repeat (obtain ⟨⟨_,_⟩,hβ⟩:=hβ));(try (have hbis:=ag (by assumption) hβ;obtain ⟨_,_⟩:=hbis)))|(refine Pt (hck) ?_)|(refine Pt (hrow) ?_)|((refine Pu.to (htx) ?_ ?_;(focus ((repeat' (first|exact ae _|exact c7|exact cd _ _ _|exact bw _ _|exact wkL.nil|exact aa _|refine ez ?_|refine dC ?_|refine wkL.cons ?_ ?_));done)))))<;>(try simp only [↓R1,RR,seval,q1,cOp,dh,List.append_nil,hc2])))
   (refine ak ?_ (by first|(simp [aj,rvS];done)|(simp only [aj,rvS,↓R1,RR,seval,q1,cOp,dh,List.append_nil,hc2];try simp)));(simp only [ao,↓R1,RR,seval,q1,cOp,dh,List.append_nil,hc2];exact ae _)
  ·have h7:o.kind=7:=Classical.byContradiction fun h=>hi (if_neg h)
   rw [if_pos h7] at hi hrow
   have hL:eX o= .tup [.str [], .int .i64 (idE o.idn)]:=by rw [eX,if_neg (fun h=>h hz),if_pos ⟨h7,hi⟩]
   have q1:(idE o.idn != 0)=true:=by rw [bne_iff_ne];exact hi
   rw [hL]
   simp only [cOp] at hck hrow ⊢
   (refine al c28 b28 fun σ=>?_;simp only [c28,↓R1,RR,seval,q1,cOp,dh,List.append_nil,hc2])
   repeat' (first|(with_reducible rw [ah])|((first|(with_reducible intro β hβ;(try simp only [RB] at hβ);(repeat (obtain ⟨⟨_,_⟩,hβ⟩:=hβ));(try (have hbis:=ag (by assumption) hβ;obtain ⟨_,_⟩:=hbis)))|(refine Pt (hck) ?_)|(refine Pt (hrow) ?_))<;>(try simp only [↓R1,RR,seval,q1,cOp,dh,List.append_nil,hc2])))
   (refine ak ?_ (by first|(simp [aj,rvS];done)|(simp only [aj,rvS,↓R1,RR,seval,q1,cOp,dh,List.append_nil,hc2];try simp)));(simp only [ao,↓R1,RR,seval,q1,cOp,dh,List.append_nil,hc2];exact ae _)
 ·have q1:(opE o != 0)=true:=by rw [bne_iff_ne];exact hz
  have hL:eX o= .tup [.str [], .int .i64 (opE o)]:=by rw [eX,if_pos hz]
  rw [hL]
  simp only [cOp] at hck ⊢
  (refine al c28 b28 fun σ=>?_;simp only [c28,↓R1,RR,seval,q1,cOp,dh,List.append_nil,hc2])
  repeat' ((first|(with_reducible intro β hβ;(try simp only [RB] at hβ);(repeat (obtain ⟨⟨_,_⟩,hβ⟩:=hβ));(try (have hbis:=ag (by assumption) hβ;obtain ⟨_,_⟩:=hbis)))|(refine Pt (hck) ?_))<;>(try simp only [↓R1,RR,seval,q1,cOp,dh,List.append_nil,hc2]))
  (refine ak ?_ (by first|(simp [aj,rvS];done)|(simp only [aj,rvS,↓R1,RR,seval,q1,cOp,dh,List.append_nil,hc2];try simp)));(simp only [ao,↓R1,RR,seval,q1,cOp,dh,List.append_nil,hc2];exact ae _)
def eS (o:OpI):List UInt8 × Int:=if opE o≠0 then ([],opE o) else if o.kind=7∧idE o.idn≠0 then ([],idE o.idn) else match eW [mkR (br o)] with
 | .ok t=>(t,0)
 | .error e=>([],(e:Nat))
theorem mW (o:OpI):eX o= .tup [.str (eS o).1, .int .i64 (eS o).2]:=by
 unfold eX eS
 split
 ·rfl
 ·split
  ·rfl
  ·cases eW [mkR (br o)]<;>rfl
theorem sj (o:OpI):(eS o).1.length≤1001:=by
  unfold eS
  split
  · simp
  · split
    · simp
    · cases h:eW [mkR (br o)] with
      | error e=>simp
      | ok t =>
        simp only [eW,fj] at h
        split at h
        · cases h
        · split at h
          · cases h
          · split at h
            · cases h
            · rename_i h2
              cases h
              simp only [not_or,Nat.not_lt,List.nil_append,List.length_append,List.length_cons,List.length_nil] at h2 ⊢
              omega
def jS (out:List UInt8):List OpI→List UInt8 × Int
 | []=>if 20000<out.length then ([],4) else (out,0)
 | o::l=>if (eS o).2≠0 then ([],(eS o).2) else jS (out++(eS o).1) l
def jT (l:List OpI):List UInt8 × Int:=if 400<l.length then ([],6) else jS [] l
def mX (l:List OpI):AV:= .tup [.str (jT l).1, .int .i64 (jT l).2]
theorem oD {out:List UInt8} {l:List OpI} {k:Nat} {x:OpI} (h:l[k]? =some x):jS out (l.drop k)=if (eS x).2≠0 then ([],(eS x).2) else jS (out++(eS x).1) (l.drop (k+1)):=by
 obtain ⟨h1,h2⟩:=List.getElem?_eq_some_iff.1 h
 rw [List.drop_eq_getElem_cons h1,h2];rfl
structure OpsOk (l:List OpI):Prop where
 len:l.length≤403
 ok:∀ x∈l,OpOk x
 text:∀ x∈l,x.text.length≤1100
set_option maxHeartbeats 4000000 in
theorem p25 (f:Bool) (l:List OpI) (hl:OpsOk l):PuG Tryz.prog gl4 25 [.sl f l.length (l.flatMap cOp)] (mX l):=by
 have q1:True:=trivial
 have he:True:=trivial
 have hw:True:=trivial
 have h1:=ig l
 have hn:=hl.len
 by_cases hbig:400<l.length
 ·have q1:decide ((400:Int)<(l.length:Int))=true:=by rw [decide_eq_true_eq];omega
  have ho:jT l=([],6):=by rw [jT,if_pos hbig]
  rw [mX,ho]
  (refine aP c25 b25 fun σ hσ=>?_;simp only [c25,↓R1,RR,seval,q1,he,hw,cOp,h1])
  skip
  (refine ak (af ?_))
  (simp only [ao,↓R1,RR,seval,q1,he,hw,cOp,h1])
 ·have q1:decide ((400:Int)<(l.length:Int))=false:=by rw [decide_eq_false_iff_not];omega
  have ho:jT l=jS [] l:=by rw [jT,if_neg hbig]
  rw [mX,ho]
  (refine aP c25 b25 fun σ hσ=>?_;simp only [c25,↓R1,RR,seval,q1,he,hw,cOp,h1])
  skip
  refine bQ (α:=Nat × List UInt8) (fun a=> [(4, .str a.2),(12, .sl f l.length (l.flatMap cOp)),(13, .int .i64 (l.length:Nat)),(14, .int .i64 (a.1:Nat))]) (fun _=>σ) (fun a=>a.1≤l.length∧a.2.length≤1001*a.1∧jS [] l=jS a.2 (l.drop a.1)) (fun a=>l.length - a.1) (0,[]) (by simp [aE,slot,ae]) (St.le_refl _) ⟨Nat.zero_le _,Nat.le_refl _,rfl⟩ ?_
  rintro ⟨k,out⟩ ⟨hk,hlen,hI⟩
  simp only at hk hlen hI ⊢
  by_cases hlt:k<l.length
  ·obtain ⟨x,hx⟩:∃ x,l[k]? =some x:=⟨_,List.getElem?_eq_getElem hlt⟩
   have hxm:=List.mem_of_getElem? hx
   rw [oD hx] at hI
   have he:=ej (f:=cOp) (m:=8) sg hx
   have hline:=p27 x (hl.ok x hxm) (hl.text x hxm)
   rw [mW] at hline
   have hll:=sj x
   simp only [cOp] at he hline
   have q1:decide ((k:Int)<(l.length:Int))=true:=by rw [decide_eq_true_eq];omega
   have hw:IntKind.i64.wrap ((k:Int)+1)=((k+1:Nat):Int):=by rw [wrap64 (by omega) (by omega)];omega
   simp only [q1,↓R1,RR,seval,q1,he,hw,cOp,h1]
   repeat' (first|(with_reducible rw [ah])|(with_reducible refine And.intro ?_ ?_;exact aq)|((first|(refine an (fun hc=>?_) (fun hc=>?_))|(with_reducible intro β hβ;(try simp only [RB] at hβ);(repeat (obtain ⟨⟨_,_⟩,hβ⟩:=hβ));(try (have hbis:=ag (by assumption) hβ;obtain ⟨_,_⟩:=hbis)))|(refine PuG.to (hline) hσ (aa _) ?_))<;>(try simp only [↓R1,RR,seval,q1,he,hw,cOp,h1])))
   ·rw [if_pos (by simpa using hc)] at hI
    rw [hI]
    (refine ak ?_);(simp only [ao,↓R1,RR,seval,q1,he,hw,cOp,h1];exact ae _)
   ·rw [if_neg (by simpa using hc)] at hI
    refine ⟨(k+1,out++(eS x).1),⟨hlt,?_,hI⟩,by simp [aE,slot,ae],by (repeat (first|exact St.le_refl _|(refine St.aM ?_ (by assumption))|(refine St.eI ?_ (by assumption)))),by simp only;omega⟩
    rw [List.length_append];omega
  ·have hke:k=l.length:=by omega
   subst hke
   have q1:decide ((l.length:Int)<(l.length:Int))=false:=by simp
   rw [List.drop_length] at hI
   simp only [q1,↓R1,RR,seval,q1,he,hw,cOp,h1]
   repeat' ((refine an (fun hc=>?_) (fun hc=>?_))<;>(try simp only [↓R1,RR,seval,q1,he,hw,cOp,h1]))
   ·rw [decide_eq_true_eq] at hc
    rw [hI,jS,if_pos (by omega)]
    (refine ak ?_);(simp only [ao,↓R1,RR,seval,q1,he,hw,cOp,h1];exact ae _)
   ·rw [decide_eq_false_iff_not] at hc
    rw [hI,jS,if_neg (by omega)]
    (refine ak ?_);(simp only [ao,↓R1,RR,seval,q1,he,hw,cOp,h1];exact ae _)
set_option maxHeartbeats 4000000 in
theorem p26 (f:Bool) (l:List OpI) (hl:OpsOk l):Pu Tryz.prog 26 [.sl f l.length (l.flatMap cOp)] (mX l):=by
 have q1:True:=trivial
 have he:True:=trivial
 have hw:True:=trivial
 have h1:=ig l
 have hn:=hl.len
 by_cases hbig:400<l.length
 ·have q1:decide ((400:Int)<(l.length:Int))=true:=by rw [decide_eq_true_eq];omega
  have ho:jT l=([],6):=by rw [jT,if_pos hbig]
  rw [mX,ho]
  (refine al c26 b26 fun σ=>?_;simp only [c26,↓R1,RR,seval,q1,he,hw,cOp,h1])
  skip
  (refine ak (af ?_))
  (simp only [ao,↓R1,RR,seval,q1,he,hw,cOp,h1])
 ·have q1:decide ((400:Int)<(l.length:Int))=false:=by rw [decide_eq_false_iff_not];omega
  have ho:jT l=jS [] l:=by rw [jT,if_neg hbig]
  rw [mX,ho]
  (refine al c26 b26 fun σ=>?_;simp only [c26,↓R1,RR,seval,q1,he,hw,cOp,h1])
  skip
  refine bQ (α:=Nat × List UInt8) (fun a=> [(0, .sl f l.length (l.flatMap cOp)),(4, .str a.2),(5, .int .i64 (a.1:Nat))]) (fun _=>σ) (fun a=>a.1≤l.length∧a.2.length≤1001*a.1∧jS [] l=jS a.2 (l.drop a.1)) (fun a=>l.length - a.1) (0,[]) (by simp [aE,slot,ae]) (St.le_refl _) ⟨Nat.zero_le _,Nat.le_refl _,rfl⟩ ?_
  rintro ⟨k,out⟩ ⟨hk,hlen,hI⟩
  simp only at hk hlen hI ⊢
  by_cases hlt:k<l.length
  ·obtain ⟨x,hx⟩:∃ x,l[k]? =some x:=⟨_,List.getElem?_eq_getElem hlt⟩
   have hxm:=List.mem_of_getElem? hx
   rw [oD hx] at hI
   have he:=ej (f:=cOp) (m:=8) sg hx
   have hline:=p28 x (hl.ok x hxm) (hl.text x hxm)
   rw [mW] at hline
   have hll:=sj x
   simp only [cOp] at he hline
   have q1:decide ((k:Int)<(l.length:Int))=true:=by rw [decide_eq_true_eq];omega
   have hw:IntKind.i64.wrap ((k:Int)+1)=((k+1:Nat):Int):=by rw [wrap64 (by omega) (by omega)];omega
   simp only [q1,↓R1,RR,seval,q1,he,hw,cOp,h1]
   repeat' (first|(with_reducible refine And.intro ?_ ?_;exact aq)|((first|(refine an (fun hc=>?_) (fun hc=>?_))|(refine Pt (hline) ?_))<;>(try simp only [↓R1,RR,seval,q1,he,hw,cOp,h1])))
   ·rw [if_pos (by simpa using hc)] at hI
    rw [hI]
    (refine ak ?_);(simp only [ao,↓R1,RR,seval,q1,he,hw,cOp,h1];exact ae _)
   ·rw [if_neg (by simpa using hc)] at hI
    refine ⟨(k+1,out++(eS x).1),⟨hlt,?_,hI⟩,by simp [aE,slot,ae],by (repeat (first|exact St.le_refl _|(refine St.aM ?_ (by assumption))|(refine St.eI ?_ (by assumption)))),by simp only;omega⟩
    rw [List.length_append];omega
  ·have hke:k=l.length:=by omega
   subst hke
   have q1:decide ((l.length:Int)<(l.length:Int))=false:=by simp
   rw [List.drop_length] at hI
   simp only [q1,↓R1,RR,seval,q1,he,hw,cOp,h1]
   repeat' ((refine an (fun hc=>?_) (fun hc=>?_))<;>(try simp only [↓R1,RR,seval,q1,he,hw,cOp,h1]))
   ·rw [decide_eq_true_eq] at hc
    rw [hI,jS,if_pos (by omega)]
    (refine ak ?_);(simp only [ao,↓R1,RR,seval,q1,he,hw,cOp,h1];exact ae _)
   ·rw [decide_eq_false_iff_not] at hc
    rw [hI,jS,if_neg (by omega)]
    (refine ak ?_);(simp only [ao,↓R1,RR,seval,q1,he,hw,cOp,h1];exact ae _)
theorem yj {l:List OpI} (h:jj l=true) (hk:∀ x∈l,OpOk x):OpsOk l:=by
 simp only [jj,Bool.and_eq_true,Bool.or_eq_true,List.all_eq_true,decide_eq_true_eq] at h
 exact ⟨by omega,hk,h.1⟩
theorem uz:PuG Tryz.prog gl4 11 [] (.bool true):=PuG.up4 B8
set_option maxHeartbeats 4000000 in
theorem lj (f:Bool) (l:List OpI) (o:OpI) (hl:l.length≤9223372036854775807) (hk:∀ x∈l,OpOk x) (ho:OpOk o) :
    PuG Tryz.prog gl4 5 [.sl f l.length (l.flatMap cOp), .agg (cOp o)] (.bool true):=by
  have hlt:=p23 f l hl
  have q1:True:=trivial
  have q2:True:=trivial
  have q3:True:=trivial
  have q4:True:=trivial
  have q5:True:=trivial
  cases hb:jj l with
  | false =>
    rw [hb] at hlt
    simp only [cOp]
    (refine aP c5 b5 fun σ hσ=>?_;simp only [c5,↓R1,RR,seval,q1,q2,q3,q4,q5])
    repeat' ((first|(with_reducible intro β hβ;(try simp only [RB] at hβ);(repeat (obtain ⟨⟨_,_⟩,hβ⟩:=hβ));(try (have hbis:=ag (by assumption) hβ;obtain ⟨_,_⟩:=hbis)))|(refine Pt (hlt) ?_)|(refine PuG.to (uz) hσ (aa _) ?_))<;>(try simp only [↓R1,RR,seval,q1,q2,q3,q4,q5]))
    (refine ak ?_);(simp only [ao,↓R1,RR,seval,q1,q2,q3,q4,q5];exact ae _)
  | true =>
    rw [hb] at hlt
    by_cases h11:1100<o.text.length
    · have q1:decide ((1100:Int)<(o.text.length:Int))=true:=by rw [decide_eq_true_eq];omega
      simp only [cOp]
      (refine aP c5 b5 fun σ hσ=>?_;simp only [c5,↓R1,RR,seval,q1,q2,q3,q4,q5])
      repeat' ((first|(with_reducible intro β hβ;(try simp only [RB] at hβ);(repeat (obtain ⟨⟨_,_⟩,hβ⟩:=hβ));(try (have hbis:=ag (by assumption) hβ;obtain ⟨_,_⟩:=hbis)))|(refine Pt (hlt) ?_)|(refine PuG.to (uz) hσ (aa _) ?_))<;>(try simp only [↓R1,RR,seval,q1,q2,q3,q4,q5]))
      (refine ak ?_);(simp only [ao,↓R1,RR,seval,q1,q2,q3,q4,q5];exact ae _)
    · have q1:decide ((1100:Int)<(o.text.length:Int))=false:=by rw [decide_eq_false_iff_not];omega
      have hO:=yj hb hk
      have hl:=Nat.le_trans hO.len (by decide:403≤1000000)
      have h1:Pu Tryz.prog 24 [.sl f l.length (l.flatMap cOp)] (sl8 l):=fun σ=>AC.wk (p24 l hl σ) (.cons (by cases f;exact ae _;exact bw _ _) .nil)
      unfold sl8 at h1
      have h2:=p25 false l hO
      have h3:=p26 f l hO
      have h4:=p27 o ho (by omega)
      have h5:=p28 o ho (by omega)
      have h6:=sh false f l hl
      rw [mW] at h4 h5
      unfold mX at h2 h3
      have q2:((jT l).1 == (jT l).1)=true:=by simp
      have q3:((jT l).2 == (jT l).2)=true:=by simp
      have q4:((eS o).1 == (eS o).1)=true:=by simp
      have q5:((eS o).2 == (eS o).2)=true:=by simp
      simp only [cOp] at h4 h5 ⊢
      (refine aP c5 b5 fun σ hσ=>?_;simp only [c5,↓R1,RR,seval,q1,q2,q3,q4,q5])
      repeat' ((first|(with_reducible intro β hβ;(try simp only [RB] at hβ);(repeat (obtain ⟨⟨_,_⟩,hβ⟩:=hβ));(try (have hbis:=ag (by assumption) hβ;obtain ⟨_,_⟩:=hbis)))|(refine Pt (hlt) ?_)|(refine Pt (h1) ?_)|(refine PuG.to (h2) hσ (aa _) ?_)|(refine Pt (h3) ?_)|(refine PuG.to (h4) hσ (aa _) ?_)|(refine Pt (h5) ?_)|(refine Pt (h6) ?_)|(refine PuG.to (uz) hσ (aa _) ?_))<;>(try simp only [↓R1,RR,seval,q1,q2,q3,q4,q5]))
      (refine ak ?_);(simp only [ao,↓R1,RR,seval,q1,q2,q3,q4,q5];exact ae _)
end Go.Proofs.YtgephffbfiemeaaGreatDoor
namespace Go.Proofs.YtgephffbfiemeaaGreatDoor
open Go.Abs
set_option linter.all false
def MP:TD:= .cons (.int .u64) (.cons (.int .u64) .nil)
def It:TD:= .cons (.int .i64) (.cons (.int .i64) (.cons (.int .u64) (.cons .str (.cons (.int .i64) (.cons (.int .i64) (.cons MP .nil))))))
theorem Ce (l:List AV) (h:It.Has l):∃ y,l=cOp y∧(OpOk y∧y.text.length≤maxLen):=by
 obtain ⟨_,_,rfl,⟨a,rfl,ha⟩,_,_,rfl,⟨b,rfl,hb⟩,_,_,rfl,⟨c,rfl,hc⟩,_,_,rfl,⟨t,rfl,ht⟩,_,_,rfl,⟨d,rfl,hd⟩,_,_,rfl,⟨e,rfl,he⟩,_,_,rfl,⟨_,_,rfl,⟨f,rfl,hf⟩,_,_,rfl,⟨g,rfl,hg⟩,rfl⟩,rfl⟩:=h
 refine ⟨⟨a,b,c,t,d,e,f,g⟩,by simp [cOp],⟨?_,?_,?_,?_,?_⟩,ht⟩
 ·simpa [I64,Lit.wf,IntKind.min,IntKind.max,IntKind.bits,IntKind.signed] using hb
 ·simpa [I64,Lit.wf,IntKind.min,IntKind.max,IntKind.bits,IntKind.signed] using hd
 ·simpa [I64,Lit.wf,IntKind.min,IntKind.max,IntKind.bits,IntKind.signed] using he
 ·have:=hc;simp [Lit.wf,IntKind.min,IntKind.max,IntKind.bits,IntKind.signed] at this;exact ⟨this.1,by show c<18446744073709551616;omega⟩
 ·have:=hf;simp [Lit.wf,IntKind.min,IntKind.max,IntKind.bits,IntKind.signed] at this;exact ⟨this.1,by show f<18446744073709551616;omega⟩
theorem lk (l:List OpI) (o:OpI) (m:l.length≤maxLen) (hl:∀ x∈l,OpOk x∧x.text.length≤maxLen) (ho:OpOk o∧o.text.length≤maxLen):PuG Tryz.prog gl4 5 [sl cOp l, .agg (cOp o)] (.bool true) :=
 lj false l o m (fun x hx=>(hl x hx).1) ho.1
end Go.Proofs.YtgephffbfiemeaaGreatDoor
