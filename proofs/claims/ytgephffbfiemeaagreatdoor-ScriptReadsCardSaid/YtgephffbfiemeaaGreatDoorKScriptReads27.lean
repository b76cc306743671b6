/- Part 27 of the proof of ScriptReads: an abstract semantics that is proved sound for the model, contracts of functions in it, and plain facts (RN2 RN3 Y1 Y2 Y3 Y4 Y5). No condition. -/
import Derived.Test.YtgephffbfiemeaaGreatDoorKScriptReads26
set_option linter.all false
namespace Go.Proofs.YtgephffbfiemeaaGreatDoor
open Go.Abs
set_option linter.all false
set_option maxRecDepth 100000
def fx (t:List UInt8):Bool:=match t with
 | c::_=>decide (c=45)
 | []=>false
def dI (t:List UInt8):List UInt8:=bif fx t then t.drop 1 else t
theorem Mp (t:List UInt8) (hl:t.length≤1000000):Pu Tryz.prog 288 [.str t, .str [45]] (.bool (fx t)):=by
  cases t with
  | nil =>
    (refine an Bn JG fun σ=>?_;simp only [Bn,↓R1,RR,Nat.reduceEqDiff,Nat.reduceAdd,Nat.reduceLT,reduceCtorEq])
    repeat' (with_reducible apply And.intro)
    all_goals first|(intro h;simp at h;done)|skip
    (refine ak (ad ?_))
    (simp only [ao,↓R1,RR,Nat.reduceEqDiff,Nat.reduceAdd,Nat.reduceLT,reduceCtorEq])
    rfl
  | cons c r =>
    (refine an Bn JG fun σ=>?_;simp only [Bn,↓R1,RR,Nat.reduceEqDiff,Nat.reduceAdd,Nat.reduceLT,reduceCtorEq])
    repeat' (with_reducible refine And.intro ?_ ?_;exact ag)
    all_goals first|(intro h;simp at h;done)|skip
    (refine ak (ad ?_))
    (simp only [ao,↓R1,RR,Nat.reduceEqDiff,Nat.reduceAdd,Nat.reduceLT,reduceCtorEq])
    refine congrArg AV.bool ?_
    rw [Bool.eq_iff_iff]
    simp [fx]
    omega
theorem Mq (t:List UInt8) (hl:t.length≤1000000):Pu Tryz.prog 274 [.str t, .str [45]] (.tup [.str (dI t), .bool (fx t)]):=by
  have hp:=Mp t hl
  cases hn:fx t with
  | false =>
    rw [hn] at hp
    (refine an Bl JE fun σ=>?_;simp only [Bl,↓R1,RR,Nat.reduceEqDiff,Nat.reduceAdd,Nat.reduceLT,reduceCtorEq])
    repeat' ((refine Pt (hp) ?_)<;>(try simp only [↓R1,RR,Nat.reduceEqDiff,Nat.reduceAdd,Nat.reduceLT,reduceCtorEq]))
    (refine ak (ad ?_))
    (simp only [ao,↓R1,RR,Nat.reduceEqDiff,Nat.reduceAdd,Nat.reduceLT,reduceCtorEq])
    simp [dI,hn]
  | true =>
    rw [hn] at hp
    have hl1:1≤t.length:=by
      cases t with
      | nil=>simp [fx] at hn
      | cons c r=>simp
    (refine an Bl JE fun σ=>?_;simp only [Bl,↓R1,RR,Nat.reduceEqDiff,Nat.reduceAdd,Nat.reduceLT,reduceCtorEq])
    repeat' (first|(with_reducible refine And.intro ?_ ?_;exact ag)|((refine Pt (hp) ?_)<;>(try simp only [↓R1,RR,Nat.reduceEqDiff,Nat.reduceAdd,Nat.reduceLT,reduceCtorEq])))
    all_goals first|omega|skip
    (refine ak (ad ?_))
    (simp only [ao,↓R1,RR,Nat.reduceEqDiff,Nat.reduceAdd,Nat.reduceLT,reduceCtorEq])
    have e:(t.drop 1).take (t.length - 1)=t.drop 1:=List.take_of_length_le (by simp)
    simp only [e,dI,hn,cond_true]
theorem Mr (t:List UInt8) (hl:t.length≤1000000):Pu Tryz.prog 249 [.str t, .str [45]] (.tup [.str (dI t), .bool (fx t)]):=by
 (refine an Hi K9 fun σ=>?_;simp only [Hi,↓R1,RR,Nat.reduceEqDiff,Nat.reduceAdd,Nat.reduceLT,reduceCtorEq])
 repeat' ((refine Pt (Mq t hl) ?_)<;>(try simp only [↓R1,RR,Nat.reduceEqDiff,Nat.reduceAdd,Nat.reduceLT,reduceCtorEq]))
 (refine ak (ad ?_))
 (simp only [ao,↓R1,RR,Nat.reduceEqDiff,Nat.reduceAdd,Nat.reduceLT,reduceCtorEq])
theorem B8 (l:List UInt8) (v:Nat):v≤l.foldl (fun v b=>10*v+(b.toNat - 48)) v:=by
 induction l generalizing v with
 | nil=>exact Nat.le_refl _
 | cons b l ih=>exact Nat.le_trans (by omega) (ih (10*v+(b.toNat - 48)))
theorem yz {l:List UInt8} (h:kx l=true):decide (cY l=0)=(l == [48]):=by
  rw [fP] at h
  simp only [Bool.and_eq_true] at h
  obtain ⟨⟨_,h1⟩,h2⟩:=h
  cases l with
  | nil=>cases h1
  | cons c r =>
    have hc:=oT.1 (List.all_eq_true.1 h2 c (by simp))
    cases r with
    | nil =>
      rw [Bool.eq_iff_iff]
      simp only [decide_eq_true_eq,beq_iff_eq,List.cons.injEq,and_true]
      show 10*0+(c.toNat - 48)=0↔_
      rw [←UInt8.toNat_inj]
      show _↔c.toNat=48
      omega
    | cons d r =>
      have h48:c≠48:=by
        rintro rfl
        simp [jm] at h1
      have h49:c.toNat≠48:=fun e=>h48 (UInt8.toNat_inj.1 e)
      have hg:=B8 (d::r) (10*0+(c.toNat - 48))
      have hv:cY (c::d::r)=(d::r).foldl (fun v b=>10*v+(b.toNat - 48)) (10*0+(c.toNat - 48)):=rfl
      have h0:decide (cY (c::d::r)=0)=false:=by rw [decide_eq_false_iff_not,hv];omega
      rw [h0,eq_comm,←Bool.not_eq_true,beq_iff_eq]
      simp
def ky (q:Bool) (t:List UInt8):AV :=
 bif (q|| !kx (dI t))||(fx t&&decide (cY (dI t)=0)) then .tup [.int .i64 0, .int .i64 3]
 else bif (decide (18446744073709551616≤cY (dI t))||decide (9223372036854775808<cY (dI t)))||(decide (cY (dI t)=9223372036854775808)&& !fx t) then .tup [.int .i64 0, .int .i64 2]
 else .tup [.int .i64 (bif fx t then -((cY (dI t):Nat):Int) else ((cY (dI t):Nat):Int)), .int .i64 0]
set_option maxHeartbeats 4000000 in
theorem Mt (q:Bool) (t:List UInt8) (a:Int) (hl:t.length≤1000000):Pu Tryz.prog 206 [.agg [.bool q, .str t, .int .i64 a]] (ky q t):=by
  have q1:True:=trivial
  have q2:True:=trivial
  have q3:True:=trivial
  have q4:True:=trivial
  have q5:True:=trivial
  have hal:(dI t).length≤1000000:=by
    unfold dI
    cases fx t<;>simp<;>omega
  have hcp:=Mr t hl
  have hp:=Mn (dI t) hal
  cases hd:kx (dI t) with
  | false =>
    simp only [fT,hd,cond_false] at hp
    simp only [ky,hd,Bool.not_false,Bool.or_true,Bool.true_or,cond_true]
    (refine an ig pO fun σ=>?_;simp only [ig,↓R1,RR,Nat.reduceEqDiff,Nat.reduceAdd,Nat.reduceLT,reduceCtorEq,q1,q2,q3,q4,q5])
    repeat' ((first|(with_reducible intro β hβ;(try simp only [RB] at hβ);(repeat (obtain ⟨⟨_,_⟩,hβ⟩:=hβ));(try (have hbis:=ah (by assumption) hβ;obtain ⟨_,_⟩:=hbis)))|(refine Pt (hcp) ?_)|(refine Pt (hp) ?_))<;>(try simp only [↓R1,RR,Nat.reduceEqDiff,Nat.reduceAdd,Nat.reduceLT,reduceCtorEq,q1,q2,q3,q4,q5]))
    (refine ak (ad ?_))
    (simp only [ao,↓R1,RR,Nat.reduceEqDiff,Nat.reduceAdd,Nat.reduceLT,reduceCtorEq,q1,q2,q3,q4,q5])
  | true =>
    simp only [fT,hd,cond_true] at hp
    cases q with
    | true =>
      simp only [ky,Bool.true_or,cond_true]
      (refine an ig pO fun σ=>?_;simp only [ig,↓R1,RR,Nat.reduceEqDiff,Nat.reduceAdd,Nat.reduceLT,reduceCtorEq,q1,q2,q3,q4,q5])
      repeat' ((first|(with_reducible intro β hβ;(try simp only [RB] at hβ);(repeat (obtain ⟨⟨_,_⟩,hβ⟩:=hβ));(try (have hbis:=ah (by assumption) hβ;obtain ⟨_,_⟩:=hbis)))|(refine Pt (hcp) ?_)|(refine Pt (hp) ?_))<;>(try simp only [↓R1,RR,Nat.reduceEqDiff,Nat.reduceAdd,Nat.reduceLT,reduceCtorEq,q1,q2,q3,q4,q5]))
      (refine ak (ad ?_))
      (simp only [ao,↓R1,RR,Nat.reduceEqDiff,Nat.reduceAdd,Nat.reduceLT,reduceCtorEq,q1,q2,q3,q4,q5])
    | false =>
      simp only [ky,hd,Bool.not_true,Bool.or_false,Bool.false_or]
      obtain ⟨V,hV⟩:∃ V,cY (dI t)=V:=⟨_,rfl⟩
      rw [hV] at hp ⊢
      by_cases hg:18446744073709551616≤V
      · have h0:decide (V=0)=false:=by rw [decide_eq_false_iff_not];omega
        have q1:decide (18446744073709551616≤V)=true:=by rw [decide_eq_true_eq];omega
        rw [q1] at hp
        rw [h0,q1]
        simp only [Bool.and_false,Bool.true_or,cond_false,cond_true]
        (refine an ig pO fun σ=>?_;simp only [ig,↓R1,RR,Nat.reduceEqDiff,Nat.reduceAdd,Nat.reduceLT,reduceCtorEq,q1,q2,q3,q4,q5])
        repeat' ((first|(with_reducible intro β hβ;(try simp only [RB] at hβ);(repeat (obtain ⟨⟨_,_⟩,hβ⟩:=hβ));(try (have hbis:=ah (by assumption) hβ;obtain ⟨_,_⟩:=hbis)))|(refine Pt (hcp) ?_)|(refine Pt (hp) ?_))<;>(try simp only [↓R1,RR,Nat.reduceEqDiff,Nat.reduceAdd,Nat.reduceLT,reduceCtorEq,q1,q2,q3,q4,q5]))
        refine ak (ad (by (simp only [ao,↓R1,RR,Nat.reduceEqDiff,Nat.reduceAdd,Nat.reduceLT,reduceCtorEq,q1,q2,q3,q4,q5]))) (by simp [aj,rvS]) (St.aA (St.le_refl _) hβ)
      · have q1:decide (18446744073709551616≤V)=false:=by rw [decide_eq_false_iff_not];omega
        rw [q1,Nat.mod_eq_of_lt (by omega)] at hp
        rw [q1]
        have h0:((V:Int) == 0)=decide (V=0):=by rw [Bool.eq_iff_iff];simp
        have h1:decide ((9223372036854775808:Int)<(V:Int))=decide (9223372036854775808<V):=by rw [Bool.eq_iff_iff];simp;omega
        have h2:((V:Int) == 9223372036854775808)=decide (V=9223372036854775808):=by rw [Bool.eq_iff_iff];simp;omega
        cases hn:fx t with
        | true =>
          rw [hn] at hcp
          have h3:∀ (hv:V≤9223372036854775808),IntKind.i64.wrap (0 - IntKind.i64.wrap (V:Int))= -(V:Int):=fun hv=>by
            simp [IntKind.wrap,IntKind.signed,IntKind.bits];omega
          by_cases hz:V=0
          · have q2:((V:Int) == 0)=true:=by rw [h0,decide_eq_true_eq];exact hz
            have z:decide (V=0)=true:=by rw [decide_eq_true_eq];exact hz
            rw [z]
            simp only [Bool.and_true,cond_true]
            (refine an ig pO fun σ=>?_;simp only [ig,↓R1,RR,Nat.reduceEqDiff,Nat.reduceAdd,Nat.reduceLT,reduceCtorEq,q1,q2,q3,q4,q5])
            repeat' ((first|(with_reducible intro β hβ;(try simp only [RB] at hβ);(repeat (obtain ⟨⟨_,_⟩,hβ⟩:=hβ));(try (have hbis:=ah (by assumption) hβ;obtain ⟨_,_⟩:=hbis)))|(refine Pt (hcp) ?_)|(refine Pt (hp) ?_))<;>(try simp only [↓R1,RR,Nat.reduceEqDiff,Nat.reduceAdd,Nat.reduceLT,reduceCtorEq,q1,q2,q3,q4,q5]))
            refine ak (ad (by (simp only [ao,↓R1,RR,Nat.reduceEqDiff,Nat.reduceAdd,Nat.reduceLT,reduceCtorEq,q1,q2,q3,q4,q5]))) (by simp [aj,rvS]) (St.aA (St.le_refl _) hβ)
          · have q2:((V:Int) == 0)=false:=by rw [h0,decide_eq_false_iff_not];exact hz
            have z:decide (V=0)=false:=by rw [decide_eq_false_iff_not];exact hz
            rw [z]
            simp only [Bool.and_false,cond_false,Bool.not_true,Bool.or_false,Bool.false_or]
            by_cases hb:9223372036854775808<V
            · have q3:decide ((9223372036854775808:Int)<(V:Int))=true:=by rw [h1,decide_eq_true_eq];exact hb
              have z2:decide (9223372036854775808<V)=true:=by rw [decide_eq_true_eq];exact hb
              rw [z2]
              simp only [cond_true]
              (refine an ig pO fun σ=>?_;simp only [ig,↓R1,RR,Nat.reduceEqDiff,Nat.reduceAdd,Nat.reduceLT,reduceCtorEq,q1,q2,q3,q4,q5])
              repeat' ((first|(with_reducible intro β hβ;(try simp only [RB] at hβ);(repeat (obtain ⟨⟨_,_⟩,hβ⟩:=hβ));(try (have hbis:=ah (by assumption) hβ;obtain ⟨_,_⟩:=hbis)))|(refine Pt (hcp) ?_)|(refine Pt (hp) ?_))<;>(try simp only [↓R1,RR,Nat.reduceEqDiff,Nat.reduceAdd,Nat.reduceLT,reduceCtorEq,q1,q2,q3,q4,q5]))
              refine ak (ad (by (simp only [ao,↓R1,RR,Nat.reduceEqDiff,Nat.reduceAdd,Nat.reduceLT,reduceCtorEq,q1,q2,q3,q4,q5]))) (by simp [aj,rvS]) (St.aA (St.le_refl _) hβ)
            · have q3:decide ((9223372036854775808:Int)<(V:Int))=false:=by rw [h1,decide_eq_false_iff_not];exact hb
              have z2:decide (9223372036854775808<V)=false:=by rw [decide_eq_false_iff_not];exact hb
              have q4:=h3 (by omega)
              rw [z2]
              simp only [cond_false,cond_true]
              (refine an ig pO fun σ=>?_;simp only [ig,↓R1,RR,Nat.reduceEqDiff,Nat.reduceAdd,Nat.reduceLT,reduceCtorEq,q1,q2,q3,q4,q5])
              repeat' ((first|(with_reducible intro β hβ;(try simp only [RB] at hβ);(repeat (obtain ⟨⟨_,_⟩,hβ⟩:=hβ));(try (have hbis:=ah (by assumption) hβ;obtain ⟨_,_⟩:=hbis)))|(refine Pt (hcp) ?_)|(refine Pt (hp) ?_))<;>(try simp only [↓R1,RR,Nat.reduceEqDiff,Nat.reduceAdd,Nat.reduceLT,reduceCtorEq,q1,q2,q3,q4,q5]))
              refine ak (ad (by (simp only [ao,↓R1,RR,Nat.reduceEqDiff,Nat.reduceAdd,Nat.reduceLT,reduceCtorEq,q1,q2,q3,q4,q5]))) (by simp [aj,rvS]) (St.aA (St.le_refl _) hβ)
        | false =>
          rw [hn] at hcp
          have h3:∀ (hv:V<9223372036854775808),IntKind.i64.wrap (V:Int)=(V:Int):=fun hv=>by
            simp [IntKind.wrap,IntKind.signed,IntKind.bits];omega
          simp only [Bool.false_and,cond_false,Bool.not_false,Bool.and_true,Bool.false_or]
          by_cases hb:9223372036854775808<V
          · have q3:decide ((9223372036854775808:Int)<(V:Int))=true:=by rw [h1,decide_eq_true_eq];exact hb
            have z2:decide (9223372036854775808<V)=true:=by rw [decide_eq_true_eq];exact hb
            rw [z2]
            simp only [Bool.true_or,cond_true]
            (refine an ig pO fun σ=>?_;simp only [ig,↓R1,RR,Nat.reduceEqDiff,Nat.reduceAdd,Nat.reduceLT,reduceCtorEq,q1,q2,q3,q4,q5])
            repeat' ((first|(with_reducible intro β hβ;(try simp only [RB] at hβ);(repeat (obtain ⟨⟨_,_⟩,hβ⟩:=hβ));(try (have hbis:=ah (by assumption) hβ;obtain ⟨_,_⟩:=hbis)))|(refine Pt (hcp) ?_)|(refine Pt (hp) ?_))<;>(try simp only [↓R1,RR,Nat.reduceEqDiff,Nat.reduceAdd,Nat.reduceLT,reduceCtorEq,q1,q2,q3,q4,q5]))
            refine ak (ad (by (simp only [ao,↓R1,RR,Nat.reduceEqDiff,Nat.reduceAdd,Nat.reduceLT,reduceCtorEq,q1,q2,q3,q4,q5]))) (by simp [aj,rvS]) (St.aA (St.le_refl _) hβ)
          · have q3:decide ((9223372036854775808:Int)<(V:Int))=false:=by rw [h1,decide_eq_false_iff_not];exact hb
            have z2:decide (9223372036854775808<V)=false:=by rw [decide_eq_false_iff_not];exact hb
            rw [z2]
            simp only [Bool.false_or]
            by_cases he:V=9223372036854775808
            · have q5:((V:Int) == 9223372036854775808)=true:=by rw [h2,decide_eq_true_eq];exact he
              have z3:decide (V=9223372036854775808)=true:=by rw [decide_eq_true_eq];exact he
              rw [z3]
              simp only [cond_true]
              (refine an ig pO fun σ=>?_;simp only [ig,↓R1,RR,Nat.reduceEqDiff,Nat.reduceAdd,Nat.reduceLT,reduceCtorEq,q1,q2,q3,q4,q5])
              repeat' ((first|(with_reducible intro β hβ;(try simp only [RB] at hβ);(repeat (obtain ⟨⟨_,_⟩,hβ⟩:=hβ));(try (have hbis:=ah (by assumption) hβ;obtain ⟨_,_⟩:=hbis)))|(refine Pt (hcp) ?_)|(refine Pt (hp) ?_))<;>(try simp only [↓R1,RR,Nat.reduceEqDiff,Nat.reduceAdd,Nat.reduceLT,reduceCtorEq,q1,q2,q3,q4,q5]))
              refine ak (ad (by (simp only [ao,↓R1,RR,Nat.reduceEqDiff,Nat.reduceAdd,Nat.reduceLT,reduceCtorEq,q1,q2,q3,q4,q5]))) (by simp [aj,rvS]) (St.aA (St.le_refl _) hβ)
            · have q5:((V:Int) == 9223372036854775808)=false:=by rw [h2,decide_eq_false_iff_not];exact he
              have z3:decide (V=9223372036854775808)=false:=by rw [decide_eq_false_iff_not];exact he
              have q4:=h3 (by omega)
              rw [z3]
              simp only [cond_false]
              (refine an ig pO fun σ=>?_;simp only [ig,↓R1,RR,Nat.reduceEqDiff,Nat.reduceAdd,Nat.reduceLT,reduceCtorEq,q1,q2,q3,q4,q5])
              repeat' ((first|(with_reducible intro β hβ;(try simp only [RB] at hβ);(repeat (obtain ⟨⟨_,_⟩,hβ⟩:=hβ));(try (have hbis:=ah (by assumption) hβ;obtain ⟨_,_⟩:=hbis)))|(refine Pt (hcp) ?_)|(refine Pt (hp) ?_))<;>(try simp only [↓R1,RR,Nat.reduceEqDiff,Nat.reduceAdd,Nat.reduceLT,reduceCtorEq,q1,q2,q3,q4,q5]))
              refine ak (ad (by (simp only [ao,↓R1,RR,Nat.reduceEqDiff,Nat.reduceAdd,Nat.reduceLT,reduceCtorEq,q1,q2,q3,q4,q5]))) (by simp [aj,rvS]) (St.aA (St.le_refl _) hβ)
set_option maxHeartbeats 4000000 in
theorem Mu (q:Bool) (t:List UInt8) (a:Int) (hl:t.length≤1000000):Pu Tryz.prog 159 [.agg [.bool q, .str t, .int .i64 a]] (ky q t):=by
  have q1:True:=trivial
  have q2:True:=trivial
  have q3:True:=trivial
  have q4:True:=trivial
  have q5:True:=trivial
  have q6:True:=trivial
  have q7:True:=trivial
  have hneg:(decide ((0:Int)<(t.length:Int))&&(((t[0]?).getD 0).toNat:Int) == 45)=fx t:=by
    cases t with
    | nil=>rfl
    | cons c r =>
      have:=nu c 45
      simp only [List.length_cons,List.getElem?_cons_zero,Option.getD_some,fx]
      rw [show ((c.toNat:Int) == 45)=decide (c=45) from this]
      have h0:decide ((0:Int)<((r.length+1:Nat):Int))=true:=by rw [decide_eq_true_eq];omega
      rw [h0];rfl
  have hlen:fx t=true→1≤t.length:=fun h=>by
    cases t with
    | nil=>cases h
    | cons c r=>simp
  have habs:fx t=true→List.take (t.length - Int.toNat 1) (List.drop (Int.toNat 1) t)=dI t:=fun h=>by
    rw [dI,h,cond_true];exact List.take_of_length_le (by simp)
  have habs2:fx t=false→dI t=t:=fun h=>by rw [dI,h];rfl
  have hal:(dI t).length≤1000000:=by
    unfold dI
    cases fx t<;>simp<;>omega
  have hp:=Mo (dI t) hal
  cases hn:fx t with
  | false =>
    rw [hn] at hneg
    have q6:=hneg
    unfold ky
    rw [habs2 hn] at hp ⊢
    rw [hn]
    obtain ⟨s,es⟩:∃ s,t=s:=⟨t,rfl⟩
    subst es
    cases hd:kx t with
    | false =>
      simp only [fT,hd,cond_false] at hp
      simp only [Bool.not_false,Bool.or_true,Bool.true_or,cond_true]
      cases q<;>
      · (refine an fo lW fun σ=>?_;simp only [fo,↓R1,RR,Nat.reduceEqDiff,Nat.reduceAdd,Nat.reduceLT,reduceCtorEq,q1,q2,q3,q4,q5,q6,q7])
        repeat' (first|(with_reducible apply And.intro)|((first|(with_reducible intro β hβ;(try simp only [RB] at hβ);(repeat (obtain ⟨⟨_,_⟩,hβ⟩:=hβ));(try (have hbis:=ah (by assumption) hβ;obtain ⟨_,_⟩:=hbis)))|(refine Pt (hp) ?_))<;>(try simp only [↓R1,RR,Nat.reduceEqDiff,Nat.reduceAdd,Nat.reduceLT,reduceCtorEq,q1,q2,q3,q4,q5,q6,q7])))
        all_goals first|exact fun h=>⟨by omega,of_decide_eq_true h⟩|omega|skip
        refine ak (ad (by (simp only [ao,↓R1,RR,Nat.reduceEqDiff,Nat.reduceAdd,Nat.reduceLT,reduceCtorEq,q1,q2,q3,q4,q5,q6,q7]))) (by simp [aj,rvS]) (St.aA (St.le_refl _) hβ)
    | true =>
      simp only [fT,hd,cond_true] at hp
      cases q with
      | true =>
        simp only [Bool.true_or,cond_true]
        (refine an fo lW fun σ=>?_;simp only [fo,↓R1,RR,Nat.reduceEqDiff,Nat.reduceAdd,Nat.reduceLT,reduceCtorEq,q1,q2,q3,q4,q5,q6,q7])
        repeat' (first|(with_reducible apply And.intro)|((first|(with_reducible intro β hβ;(try simp only [RB] at hβ);(repeat (obtain ⟨⟨_,_⟩,hβ⟩:=hβ));(try (have hbis:=ah (by assumption) hβ;obtain ⟨_,_⟩:=hbis)))|(refine Pt (hp) ?_))<;>(try simp only [↓R1,RR,Nat.reduceEqDiff,Nat.reduceAdd,Nat.reduceLT,reduceCtorEq,q1,q2,q3,q4,q5,q6,q7])))
        all_goals first|exact fun h=>⟨by omega,of_decide_eq_true h⟩|omega|skip
        refine ak (ad (by (simp only [ao,↓R1,RR,Nat.reduceEqDiff,Nat.reduceAdd,Nat.reduceLT,reduceCtorEq,q1,q2,q3,q4,q5,q6,q7]))) (by simp [aj,rvS]) (St.aA (St.le_refl _) hβ)
      | false =>
        simp only [Bool.not_true,Bool.or_false,Bool.false_or,Bool.true_and,Bool.false_and,Bool.and_false,Bool.and_true,Bool.not_false,cond_false]
        obtain ⟨V,hV⟩:∃ V,cY t=V:=⟨_,rfl⟩
        rw [hV] at hp ⊢
        by_cases hg:18446744073709551616≤V
        · skip
          have q1:decide (18446744073709551616≤V)=true:=by rw [decide_eq_true_eq];omega
          rw [q1] at hp
          rw [q1]
          simp only [Bool.true_or,cond_true]
          (refine an fo lW fun σ=>?_;simp only [fo,↓R1,RR,Nat.reduceEqDiff,Nat.reduceAdd,Nat.reduceLT,reduceCtorEq,q1,q2,q3,q4,q5,q6,q7])
          repeat' (first|(with_reducible apply And.intro)|((first|(with_reducible intro β hβ;(try simp only [RB] at hβ);(repeat (obtain ⟨⟨_,_⟩,hβ⟩:=hβ));(try (have hbis:=ah (by assumption) hβ;obtain ⟨_,_⟩:=hbis)))|(refine Pt (hp) ?_))<;>(try simp only [↓R1,RR,Nat.reduceEqDiff,Nat.reduceAdd,Nat.reduceLT,reduceCtorEq,q1,q2,q3,q4,q5,q6,q7])))
          all_goals first|exact fun h=>⟨by omega,of_decide_eq_true h⟩|omega|skip
          refine ak (ad (by (simp only [ao,↓R1,RR,Nat.reduceEqDiff,Nat.reduceAdd,Nat.reduceLT,reduceCtorEq,q1,q2,q3,q4,q5,q6,q7]))) (by simp [aj,rvS]) (St.aA (St.le_refl _) hβ)
        · skip
          have q1:decide (18446744073709551616≤V)=false:=by rw [decide_eq_false_iff_not];omega
          rw [q1,Nat.mod_eq_of_lt (by omega)] at hp
          rw [q1]
          simp only [Bool.false_or]
          have h2:((V:Int) == 9223372036854775808)=decide (V=9223372036854775808):=by rw [Bool.eq_iff_iff];simp;omega
          have h1:decide ((9223372036854775808:Int)<(V:Int))=decide (9223372036854775808<V):=by rw [Bool.eq_iff_iff];simp;omega
          by_cases hb:9223372036854775808<V
          · have q3:decide ((9223372036854775808:Int)<(V:Int))=true:=by rw [h1,decide_eq_true_eq];exact hb
            have z2:decide (9223372036854775808<V)=true:=by rw [decide_eq_true_eq];exact hb
            rw [z2]
            simp only [Bool.true_or,cond_true]
            (refine an fo lW fun σ=>?_;simp only [fo,↓R1,RR,Nat.reduceEqDiff,Nat.reduceAdd,Nat.reduceLT,reduceCtorEq,q1,q2,q3,q4,q5,q6,q7])
            repeat' (first|(with_reducible apply And.intro)|((first|(with_reducible intro β hβ;(try simp only [RB] at hβ);(repeat (obtain ⟨⟨_,_⟩,hβ⟩:=hβ));(try (have hbis:=ah (by assumption) hβ;obtain ⟨_,_⟩:=hbis)))|(refine Pt (hp) ?_))<;>(try simp only [↓R1,RR,Nat.reduceEqDiff,Nat.reduceAdd,Nat.reduceLT,reduceCtorEq,q1,q2,q3,q4,q5,q6,q7])))
            all_goals first|exact fun h=>⟨by omega,of_decide_eq_true h⟩|omega|skip
            refine ak (ad (by (simp only [ao,↓R1,RR,Nat.reduceEqDiff,Nat.reduceAdd,Nat.reduceLT,reduceCtorEq,q1,q2,q3,q4,q5,q6,q7]))) (by simp [aj,rvS]) (St.aA (St.le_refl _) hβ)
          · have q3:decide ((9223372036854775808:Int)<(V:Int))=false:=by rw [h1,decide_eq_false_iff_not];exact hb
            have z2:decide (9223372036854775808<V)=false:=by rw [decide_eq_false_iff_not];exact hb
            rw [z2]
            simp only [Bool.false_or]
            by_cases he:V=9223372036854775808
            · have q5:((V:Int) == 9223372036854775808)=true:=by rw [h2,decide_eq_true_eq];exact he
              have z3:decide (V=9223372036854775808)=true:=by rw [decide_eq_true_eq];exact he
              rw [z3]
              simp only [cond_true]
              (refine an fo lW fun σ=>?_;simp only [fo,↓R1,RR,Nat.reduceEqDiff,Nat.reduceAdd,Nat.reduceLT,reduceCtorEq,q1,q2,q3,q4,q5,q6,q7])
              repeat' (first|(with_reducible apply And.intro)|((first|(with_reducible intro β hβ;(try simp only [RB] at hβ);(repeat (obtain ⟨⟨_,_⟩,hβ⟩:=hβ));(try (have hbis:=ah (by assumption) hβ;obtain ⟨_,_⟩:=hbis)))|(refine Pt (hp) ?_))<;>(try simp only [↓R1,RR,Nat.reduceEqDiff,Nat.reduceAdd,Nat.reduceLT,reduceCtorEq,q1,q2,q3,q4,q5,q6,q7])))
              all_goals first|exact fun h=>⟨by omega,of_decide_eq_true h⟩|omega|skip
              refine ak (ad (by (simp only [ao,↓R1,RR,Nat.reduceEqDiff,Nat.reduceAdd,Nat.reduceLT,reduceCtorEq,q1,q2,q3,q4,q5,q6,q7]))) (by simp [aj,rvS]) (St.aA (St.le_refl _) hβ)
            · have q5:((V:Int) == 9223372036854775808)=false:=by rw [h2,decide_eq_false_iff_not];exact he
              have z3:decide (V=9223372036854775808)=false:=by rw [decide_eq_false_iff_not];exact he
              have q4:IntKind.i64.wrap (V:Int)=(V:Int):=by
                simp [IntKind.wrap,IntKind.signed,IntKind.bits];omega
              rw [z3]
              simp only [cond_false]
              (refine an fo lW fun σ=>?_;simp only [fo,↓R1,RR,Nat.reduceEqDiff,Nat.reduceAdd,Nat.reduceLT,reduceCtorEq,q1,q2,q3,q4,q5,q6,q7])
              repeat' (first|(with_reducible apply And.intro)|((first|(with_reducible intro β hβ;(try simp only [RB] at hβ);(repeat (obtain ⟨⟨_,_⟩,hβ⟩:=hβ));(try (have hbis:=ah (by assumption) hβ;obtain ⟨_,_⟩:=hbis)))|(refine Pt (hp) ?_))<;>(try simp only [↓R1,RR,Nat.reduceEqDiff,Nat.reduceAdd,Nat.reduceLT,reduceCtorEq,q1,q2,q3,q4,q5,q6,q7])))
              all_goals first|exact fun h=>⟨by omega,of_decide_eq_true h⟩|omega|skip
              refine ak (ad (by (simp only [ao,↓R1,RR,Nat.reduceEqDiff,Nat.reduceAdd,Nat.reduceLT,reduceCtorEq,q1,q2,q3,q4,q5,q6,q7]))) (by simp [aj,rvS]) (St.aA (St.le_refl _) hβ)
  | true =>
    rw [hn] at hneg
    have q6:=hneg
    have hl1:=hlen hn
    have hl2:¬ ((t.length:Int)<1):=by omega
    have hl3:¬ ((t.length:Int)<0):=by omega
    have q7:=habs hn
    unfold ky
    rw [hn]
    generalize dI t=s at *
    cases hd:kx s with
    | false =>
      simp only [fT,hd,cond_false] at hp
      simp only [Bool.not_false,Bool.or_true,Bool.true_or,cond_true]
      cases q<;>
      · (refine an fo lW fun σ=>?_;simp only [fo,↓R1,RR,Nat.reduceEqDiff,Nat.reduceAdd,Nat.reduceLT,reduceCtorEq,q1,q2,q3,q4,q5,q6,q7])
        repeat' (first|(with_reducible refine And.intro ?_ ?_;exact ag)|((first|(with_reducible intro β hβ;(try simp only [RB] at hβ);(repeat (obtain ⟨⟨_,_⟩,hβ⟩:=hβ));(try (have hbis:=ah (by assumption) hβ;obtain ⟨_,_⟩:=hbis)))|(refine Pt (hp) ?_))<;>(try simp only [↓R1,RR,Nat.reduceEqDiff,Nat.reduceAdd,Nat.reduceLT,reduceCtorEq,q1,q2,q3,q4,q5,q6,q7])))
        all_goals first|exact fun h=>⟨by omega,of_decide_eq_true h⟩|omega|skip
        refine ak (ad (by (simp only [ao,↓R1,RR,Nat.reduceEqDiff,Nat.reduceAdd,Nat.reduceLT,reduceCtorEq,q1,q2,q3,q4,q5,q6,q7]))) (by simp [aj,rvS]) (St.aA (St.le_refl _) hβ)
    | true =>
      simp only [fT,hd,cond_true] at hp
      have hvz:=yz hd
      cases q with
      | true =>
        simp only [Bool.true_or,cond_true]
        (refine an fo lW fun σ=>?_;simp only [fo,↓R1,RR,Nat.reduceEqDiff,Nat.reduceAdd,Nat.reduceLT,reduceCtorEq,q1,q2,q3,q4,q5,q6,q7])
        repeat' (first|(with_reducible refine And.intro ?_ ?_;exact ag)|((first|(with_reducible intro β hβ;(try simp only [RB] at hβ);(repeat (obtain ⟨⟨_,_⟩,hβ⟩:=hβ));(try (have hbis:=ah (by assumption) hβ;obtain ⟨_,_⟩:=hbis)))|(refine Pt (hp) ?_))<;>(try simp only [↓R1,RR,Nat.reduceEqDiff,Nat.reduceAdd,Nat.reduceLT,reduceCtorEq,q1,q2,q3,q4,q5,q6,q7])))
        all_goals first|exact fun h=>⟨by omega,of_decide_eq_true h⟩|omega|skip
        refine ak (ad (by (simp only [ao,↓R1,RR,Nat.reduceEqDiff,Nat.reduceAdd,Nat.reduceLT,reduceCtorEq,q1,q2,q3,q4,q5,q6,q7]))) (by simp [aj,rvS]) (St.aA (St.le_refl _) hβ)
      | false =>
        simp only [Bool.not_true,Bool.or_false,Bool.false_or,Bool.true_and,Bool.false_and,Bool.and_false,Bool.and_true,Bool.not_false,cond_false]
        obtain ⟨V,hV⟩:∃ V,cY s=V:=⟨_,rfl⟩
        rw [hV] at hp hvz ⊢
        by_cases hz:V=0
        · have z:decide (V=0)=true:=by rw [decide_eq_true_eq];exact hz
          rw [z] at hvz ⊢
          have q2:=hvz.symm
          simp only [cond_true]
          (refine an fo lW fun σ=>?_;simp only [fo,↓R1,RR,Nat.reduceEqDiff,Nat.reduceAdd,Nat.reduceLT,reduceCtorEq,q1,q2,q3,q4,q5,q6,q7])
          repeat' (first|(with_reducible refine And.intro ?_ ?_;exact ag)|((first|(with_reducible intro β hβ;(try simp only [RB] at hβ);(repeat (obtain ⟨⟨_,_⟩,hβ⟩:=hβ));(try (have hbis:=ah (by assumption) hβ;obtain ⟨_,_⟩:=hbis)))|(refine Pt (hp) ?_))<;>(try simp only [↓R1,RR,Nat.reduceEqDiff,Nat.reduceAdd,Nat.reduceLT,reduceCtorEq,q1,q2,q3,q4,q5,q6,q7])))
          all_goals first|exact fun h=>⟨by omega,of_decide_eq_true h⟩|omega|skip
          refine ak (ad (by (simp only [ao,↓R1,RR,Nat.reduceEqDiff,Nat.reduceAdd,Nat.reduceLT,reduceCtorEq,q1,q2,q3,q4,q5,q6,q7]))) (by simp [aj,rvS]) (St.aA (St.le_refl _) hβ)
        · have z:decide (V=0)=false:=by rw [decide_eq_false_iff_not];exact hz
          rw [z] at hvz ⊢
          have q2:=hvz.symm
          simp only [cond_false]
          by_cases hg:18446744073709551616≤V
          · skip
            have q1:decide (18446744073709551616≤V)=true:=by rw [decide_eq_true_eq];omega
            rw [q1] at hp
            rw [q1]
            simp only [Bool.true_or,cond_true]
            (refine an fo lW fun σ=>?_;simp only [fo,↓R1,RR,Nat.reduceEqDiff,Nat.reduceAdd,Nat.reduceLT,reduceCtorEq,q1,q2,q3,q4,q5,q6,q7])
            repeat' (first|(with_reducible refine And.intro ?_ ?_;exact ag)|((first|(with_reducible intro β hβ;(try simp only [RB] at hβ);(repeat (obtain ⟨⟨_,_⟩,hβ⟩:=hβ));(try (have hbis:=ah (by assumption) hβ;obtain ⟨_,_⟩:=hbis)))|(refine Pt (hp) ?_))<;>(try simp only [↓R1,RR,Nat.reduceEqDiff,Nat.reduceAdd,Nat.reduceLT,reduceCtorEq,q1,q2,q3,q4,q5,q6,q7])))
            all_goals first|exact fun h=>⟨by omega,of_decide_eq_true h⟩|omega|skip
            refine ak (ad (by (simp only [ao,↓R1,RR,Nat.reduceEqDiff,Nat.reduceAdd,Nat.reduceLT,reduceCtorEq,q1,q2,q3,q4,q5,q6,q7]))) (by simp [aj,rvS]) (St.aA (St.le_refl _) hβ)
          · skip
            have q1:decide (18446744073709551616≤V)=false:=by rw [decide_eq_false_iff_not];omega
            rw [q1,Nat.mod_eq_of_lt (by omega)] at hp
            rw [q1]
            simp only [Bool.false_or]
            have h2:((V:Int) == 9223372036854775808)=decide (V=9223372036854775808):=by rw [Bool.eq_iff_iff];simp;omega
            have h1:decide ((9223372036854775808:Int)<(V:Int))=decide (9223372036854775808<V):=by rw [Bool.eq_iff_iff];simp;omega
            by_cases hb:9223372036854775808<V
            · have q3:decide ((9223372036854775808:Int)<(V:Int))=true:=by rw [h1,decide_eq_true_eq];exact hb
              have z2:decide (9223372036854775808<V)=true:=by rw [decide_eq_true_eq];exact hb
              rw [z2]
              simp only [Bool.true_or,cond_true]
              (refine an fo lW fun σ=>?_;simp only [fo,↓R1,RR,Nat.reduceEqDiff,Nat.reduceAdd,Nat.reduceLT,reduceCtorEq,q1,q2,q3,q4,q5,q6,q7])
              repeat' (first|(with_reducible refine And.intro ?_ ?_;exact ag)|((first|(with_reducible intro β hβ;(try simp only [RB] at hβ);(repeat (obtain ⟨⟨_,_⟩,hβ⟩:=hβ));(try (have hbis:=ah (by assumption) hβ;obtain ⟨_,_⟩:=hbis)))|(refine Pt (hp) ?_))<;>(try simp only [↓R1,RR,Nat.reduceEqDiff,Nat.reduceAdd,Nat.reduceLT,reduceCtorEq,q1,q2,q3,q4,q5,q6,q7])))
              all_goals first|exact fun h=>⟨by omega,of_decide_eq_true h⟩|omega|skip
              refine ak (ad (by (simp only [ao,↓R1,RR,Nat.reduceEqDiff,Nat.reduceAdd,Nat.reduceLT,reduceCtorEq,q1,q2,q3,q4,q5,q6,q7]))) (by simp [aj,rvS]) (St.aA (St.le_refl _) hβ)
            · have q3:decide ((9223372036854775808:Int)<(V:Int))=false:=by rw [h1,decide_eq_false_iff_not];exact hb
              have z2:decide (9223372036854775808<V)=false:=by rw [decide_eq_false_iff_not];exact hb
              rw [z2]
              simp only [cond_false]
              have e4:IntKind.i64.wrap (0 - IntKind.i64.wrap (IntKind.u64.wrap ((V:Int) - 1)))= -((V:Int) - 1):=by
                simp [IntKind.wrap,IntKind.signed,IntKind.bits];omega
              have e5:IntKind.i64.wrap (-((V:Int) - 1) - 1)= -(V:Int):=by
                simp [IntKind.wrap,IntKind.signed,IntKind.bits];omega
              (refine an fo lW fun σ=>?_;simp only [fo,↓R1,RR,Nat.reduceEqDiff,Nat.reduceAdd,Nat.reduceLT,reduceCtorEq,q1,q2,q3,q4,q5,q6,q7])
              repeat' (first|(with_reducible refine And.intro ?_ ?_;exact ag)|((first|(with_reducible intro β hβ;(try simp only [RB] at hβ);(repeat (obtain ⟨⟨_,_⟩,hβ⟩:=hβ));(try (have hbis:=ah (by assumption) hβ;obtain ⟨_,_⟩:=hbis)))|(refine Pt (hp) ?_))<;>(try simp only [↓R1,RR,Nat.reduceEqDiff,Nat.reduceAdd,Nat.reduceLT,reduceCtorEq,q1,q2,q3,q4,q5,q6,q7])))
              all_goals first|exact fun h=>⟨by omega,of_decide_eq_true h⟩|omega|skip
              refine ak (ad (by (simp only [ao,↓R1,RR,Nat.reduceEqDiff,Nat.reduceAdd,Nat.reduceLT,reduceCtorEq,q1,q2,q3,q4,q5,q6,q7]);simp only [e4,e5])) (by simp [aj,rvS]) (St.aA (St.le_refl _) hβ)
def dr (t:List UInt8):List (List UInt8)→Nat→Option Nat
 | [],_=>none
 | n::l,i=>bif n == t then some i else dr t l (i+1)
def nA (q:Bool) (t:List UInt8) (l:List (List UInt8)):AV :=
 match (bif q then none else dr t l 0) with
 | some i=> .tup [.int .i64 (i:Nat), .int .i64 0]
 | none=> .tup [.int .i64 0, .int .i64 7]
theorem iW (t:List UInt8) (l:List (List UInt8)) {k:Nat} (h:k<l.length) (j:Nat):dr t (l.drop k) j=bif l[k] == t then some j else dr t (l.drop (k+1)) (j+1):=by
 rw [List.drop_eq_getElem_cons h];rfl
set_option maxHeartbeats 2000000 in
theorem p64 (q:Bool) (t:List UInt8) (a:Int) (l:List (List UInt8)) (hl:l.length≤1000):Pu Tryz.prog 64 [.agg [.bool q, .str t, .int .i64 a], .sl false l.length (l.map AV.str)] (nA q t l):=by
  have q1:True:=trivial
  have q2:True:=trivial
  have hw:True:=trivial
  have hd:True:=trivial
  (refine an c64 b64 fun σ=>?_;simp only [c64,↓R1,RR,seval,q1,q2,hw,hd])
  intro β hβ
  refine bK l.length (fun k=> [(1, .sl false l.length (l.map AV.str)),(2, .ptr β 0),(6, .int .i64 (k:Nat))]) (fun _=>σ.ae β [.bool q, .str t, .int .i64 a]) (fun k=>(bif q then none else dr t l 0)=(bif q then none else dr t (l.drop k) k)) (by simp [az,slot,af]) (St.le_refl _) (by simp) (fun k hk hI=>?_)
  by_cases hlt:k<l.length
  · have q1:decide ((k:Int)<(l.length:Int))=true:=by rw [decide_eq_true_eq];omega
    have hd:=nv l hlt
    have hw:IntKind.i64.wrap ((k:Int)+1)=((k+1:Nat):Int):=by rw [wrap64 (by omega) (by omega)];omega
    rw [iW t l hlt] at hI
    cases q with
    | true =>
      rw [nA];simp only [cond_true]
      simp only [q1,↓R1,RR,seval,q1,q2,hw,hd]
      skip
      refine ak (ad (by (simp only [ao,↓R1,RR,seval,q1,q2,hw,hd]))) (by simp [aj,rvS]) (St.aA (St.le_refl _) hβ)
    | false =>
      cases he:l[k] == t with
      | true =>
        rw [he] at hI
        simp only [cond_true,cond_false] at hI
        have q2:=he
        rw [nA];simp only [cond_false];rw [hI]
        simp only [q1,↓R1,RR,seval,q1,q2,hw,hd]
        repeat' (with_reducible refine And.intro ?_ ?_;exact ag)
        all_goals first|(rw [List.length_map];omega)|skip
        refine ak (ad (by (simp only [ao,↓R1,RR,seval,q1,q2,hw,hd]))) (by simp [aj,rvS]) (St.aA (St.le_refl _) hβ)
      | false =>
        rw [he] at hI
        have q2:=he
        simp only [q1,↓R1,RR,seval,q1,q2,hw,hd]
        repeat' (first|(with_reducible refine And.intro ?_ ?_;exact ag)|(with_reducible apply And.intro))
        all_goals first|(rw [List.length_map];omega)|skip
        · simpa using hI
        · simp [az,slot,af]
        · exact St.le_refl _
  · have hke:k=l.length:=by omega
    subst hke
    have q1:decide ((l.length:Int)<(l.length:Int))=false:=by simp
    rw [List.drop_length] at hI
    rw [nA,hI]
    have e:(bif q then none else dr t [] l.length)=none:=by cases q<;>rfl
    rw [e]
    simp only [q1,↓R1,RR,seval,q1,q2,hw,hd]
    skip
    refine ak (ad (by (simp only [ao,↓R1,RR,seval,q1,q2,hw,hd]))) (by simp [aj,rvS]) (St.aA (St.le_refl _) hβ)
theorem EV (b:UInt8):Pu Tryz.prog 157 [.int .u8 b.toNat] (.bool (aL b)):=by
 (refine an HE Lr fun σ=>?_;simp only [HE,↓R1,RR,seval])
 skip
 all_goals (refine ak (ad ?_) (by first|(simp [aj,rvS];done)|(simp only [aj,rvS,↓R1,RR,seval];try simp)))
 all_goals (simp only [ao,↓R1,RR,seval])
 all_goals rfl
theorem p98 (e a:Int):Pu Tryz.prog 98 [.int .i64 e, .int .i64 a] (.agg [.int .i64 e, .int .i64 a]):=by
 (refine an c98 b98 fun σ=>?_;simp only [c98,↓R1,RR,seval])
 repeat' (first|(with_reducible rw [ai])|((with_reducible intro β hβ;(try simp only [RB] at hβ);(repeat (obtain ⟨⟨_,_⟩,hβ⟩:=hβ));(try (have hbis:=ah (by assumption) hβ;obtain ⟨_,_⟩:=hbis)))<;>(try simp only [↓R1,RR,seval])))
 all_goals (refine ak (ad ?_) (by first|(simp [aj,rvS];done)|(simp only [aj,rvS,↓R1,RR,seval];try simp)))
 all_goals (simp only [ao,↓R1,RR,seval])
def uO (b:UInt8):Int:=if fl b<16 then fl b else -1
def Ig (n:Nat):Int :=
 bif decide ((48:Int)≤n)&&decide ((n:Int)≤57) then IntKind.i64.wrap (IntKind.u8.wrap ((n:Int) - 48))
 else bif decide ((97:Int)≤n)&&decide ((n:Int)≤102) then IntKind.i64.wrap (IntKind.i64.wrap (IntKind.u8.wrap ((n:Int) - 97))+10)
 else bif decide ((65:Int)≤n)&&decide ((n:Int)≤70) then IntKind.i64.wrap (IntKind.i64.wrap (IntKind.u8.wrap ((n:Int) - 65))+10) else -1
theorem B9:((List.range 256).all fun n=>Ig n == (let h:=(if 48≤n∧n≤57 then n - 48 else if 97≤n∧n≤102 then n - 87 else if 65≤n∧n≤70 then n - 55 else 16:Nat);if h<16 then (h:Int) else -1))=true:=by kernel_rfl
theorem EW (b:UInt8):Ig b.toNat=uO b:=by
 have:=List.all_eq_true.1 B9 b.toNat (List.mem_range.2 (lK b))
 exact beq_iff_eq.1 this
theorem J7 (b:UInt8):Pu Tryz.prog 277 [.int .u8 b.toNat] (.int .i64 (uO b)):=by
 rw [←EW]
 (refine an Bs JK fun σ=>?_;simp only [Bs,↓R1,RR,seval])
 repeat' ((refine ar (fun hc=>?_) (fun hc=>?_))<;>(try simp only [↓R1,RR,seval]))
 all_goals (refine ak (ad ?_) (by first|(simp [aj,rvS];done)|(simp only [aj,rvS,↓R1,RR,seval];try simp)))
 all_goals (simp only [ao,↓R1,RR,seval])
 all_goals simp only [Ig, *,cond_true,cond_false]
def gL (l:List UInt8):UInt8 × Bool:=match fq l with
 | some (x,_)=>(x,true)
 | none=>(0,false)
theorem yA:((List.range 256).all fun k=>IntKind.u8.wrap (IntKind.i64.wrap (IntKind.i64.wrap (16*((k / 16:Nat):Int))+((k % 16:Nat):Int))) == ((UInt8.ofNat k).toNat:Int))=true:=by kernel_rfl
theorem Cc {a b:Nat} (ha:a<16) (hb:b<16):IntKind.u8.wrap (IntKind.i64.wrap (IntKind.i64.wrap (16*(a:Int))+(b:Int)))=((UInt8.ofNat (16*a+b)).toNat:Int):=by
 have:=List.all_eq_true.1 yA (16*a+b) (List.mem_range.2 (by omega))
 rw [beq_iff_eq,show (16*a+b) / 16=a by omega,show (16*a+b) % 16=b by omega] at this
 exact this
theorem sx (b:UInt8):decide (uO b<0)= !decide (fl b<16):=by
 unfold uO
 split
 ·rename_i h;simp [h]
 ·rename_i h;simp [h]
theorem vI {b:UInt8} (h:fl b<16):uO b=fl b∧decide (uO b<0)=false:=⟨if_pos h,by rw [sx];simp [h]⟩
theorem vJ {b:UInt8} (h:¬ fl b<16):decide (uO b<0)=true:=by rw [sx];simp [h]
theorem Mw (s:List UInt8) (k:Nat) (hs:s.length≤1000000) (hk:k≤1000003):Pu Tryz.prog 253 [.str s, .int .i64 k] (.tup [.int .u8 (gL (s.drop k)).1.toNat, .bool (gL (s.drop k)).2]):=by
  have h0:True:=trivial
  have h1:True:=trivial
  have h2:True:=trivial
  have h3:True:=trivial
  have hw2:True:=trivial
  have hw:IntKind.i64.wrap ((k:Int)+2)=((k+2:Nat):Int):=by rw [wrap64 (by omega) (by omega)];omega
  by_cases hlt:k+2≤s.length
  · have q1:decide ((s.length:Int)<((k+2:Nat):Int))=false:=by rw [decide_eq_false_iff_not];omega
    obtain ⟨a,ha⟩:∃ a,s[k]? =some a:=⟨_,List.getElem?_eq_getElem (by omega)⟩
    obtain ⟨b,hb⟩:∃ b,s[k+1]? =some b:=⟨_,List.getElem?_eq_getElem (by omega)⟩
    have hd:s.drop k=a::b::s.drop (k+2):=by
      obtain ⟨h1,h2⟩:=List.getElem?_eq_some_iff.1 ha
      obtain ⟨h3,h4⟩:=List.getElem?_eq_some_iff.1 hb
      rw [List.drop_eq_getElem_cons h1,h2,List.drop_eq_getElem_cons h3,h4]
    have h0:=ha
    have h1:=hb
    have hw2:IntKind.i64.wrap ((k:Int)+1)=((k+1:Nat):Int):=by rw [wrap64 (by omega) (by omega)];omega
    have pa:=J7 a
    have pb:=J7 b
    rw [hd]
    by_cases hA:fl a<16
    · obtain ⟨e1,h2⟩:=vI hA
      by_cases hB:fl b<16
      · obtain ⟨e2,h3⟩:=vI hB
        have e:gL (a::b::s.drop (k+2))=(UInt8.ofNat (16*fl a+fl b),true):=by simp [gL,fq,hA,hB]
        rw [e]
        have e3:=Cc hA hB
        (refine an kf vw fun σ=>?_;simp only [kf,↓R1,RR,seval,q1,h0,h1,h2,h3,hw,hw2])
        repeat' (first|(with_reducible refine And.intro ?_ ?_;exact ag)|((first|(refine Pt (pa) ?_)|(refine Ct (pa) ?_)|(refine Pt (pb) ?_)|(refine Ct (pb) ?_))<;>(try simp only [↓R1,RR,seval,q1,h0,h1,h2,h3,hw,hw2])))
        all_goals (refine ak (ad ?_) (by first|(simp [aj,rvS];done)|(simp only [aj,rvS,↓R1,RR,seval,q1,h0,h1,h2,h3,hw,hw2];try simp)))
        all_goals ((simp only [ao,↓R1,RR,seval,q1,h0,h1,h2,h3,hw,hw2]))
        all_goals (rw [e1,e2,e3])
      · have h3:=vJ hB
        have e:gL (a::b::s.drop (k+2))=(0,false):=by simp [gL,fq,hB]
        rw [e]
        (refine an kf vw fun σ=>?_;simp only [kf,↓R1,RR,seval,q1,h0,h1,h2,h3,hw,hw2])
        repeat' (first|(with_reducible refine And.intro ?_ ?_;exact ag)|((first|(refine Pt (pa) ?_)|(refine Pt (pb) ?_))<;>(try simp only [↓R1,RR,seval,q1,h0,h1,h2,h3,hw,hw2])))
        all_goals (refine ak (ad ?_) (by first|(simp [aj,rvS];done)|(simp only [aj,rvS,↓R1,RR,seval,q1,h0,h1,h2,h3,hw,hw2];try simp)))
        all_goals ((simp only [ao,↓R1,RR,seval,q1,h0,h1,h2,h3,hw,hw2]))
        all_goals rfl
    · have h2:=vJ hA
      have e:gL (a::b::s.drop (k+2))=(0,false):=by simp [gL,fq,hA]
      rw [e]
      (refine an kf vw fun σ=>?_;simp only [kf,↓R1,RR,seval,q1,h0,h1,h2,h3,hw,hw2])
      repeat' (first|(with_reducible refine And.intro ?_ ?_;exact ag)|((refine Pt (pa) ?_)<;>(try simp only [↓R1,RR,seval,q1,h0,h1,h2,h3,hw,hw2])))
      all_goals all_goals first|omega|exact Nat.le_refl _|assumption|exact St.le_refl _|(exact ag)|(simp only [az,slot,af,↓R1,RR,seval,q1,h0,h1,h2,h3,hw,hw2];(repeat' (with_reducible apply And.intro))<;>first|exact bU (by have:=av;omega)|exact ay _ _ _|exact aq _ _|exact ad (congrArg (AV.tsl _ _) (flat_step (by assumption))))|((repeat (first|exact St.le_refl _|(refine St.aw ?_ (by assumption))|(refine St.aG ?_ (by assumption))));done)|(simp_all;done)|skip
      all_goals (refine ak (ad ?_) (by first|(simp [aj,rvS];done)|(simp only [aj,rvS,↓R1,RR,seval,q1,h0,h1,h2,h3,hw,hw2];try simp)))
      all_goals ((simp only [ao,↓R1,RR,seval,q1,h0,h1,h2,h3,hw,hw2]))
      all_goals rfl
  · have q1:decide ((s.length:Int)<((k+2:Nat):Int))=true:=by rw [decide_eq_true_eq];omega
    have e:gL (s.drop k)=(0,false):=by
      have:(s.drop k).length≤1:=by rw [List.length_drop];omega
      cases hd:s.drop k with
      | nil=>rfl
      | cons a r =>
        cases r with
        | nil=>rfl
        | cons b r=>rw [hd] at this;simp at this
    rw [e]
    (refine an kf vw fun σ=>?_;simp only [kf,↓R1,RR,seval,q1,h0,h1,h2,h3,hw,hw2])
    skip
    all_goals (refine ak (ad ?_) (by first|(simp [aj,rvS];done)|(simp only [aj,rvS,↓R1,RR,seval,q1,h0,h1,h2,h3,hw,hw2];try simp)))
    all_goals ((simp only [ao,↓R1,RR,seval,q1,h0,h1,h2,h3,hw,hw2]))
    all_goals rfl
def u8A (b:UInt8):AV:= .int .u8 b.toNat
theorem aK (l:List UInt8):(l.map u8A).map Go.Abs.byteOf=l:=by
 induction l with
 | nil=>rfl
 | cons c l ih=>simp only [List.map_cons,ih];simp [u8A,Go.Abs.byteOf]
theorem bc (l:List UInt8):(l.map u8A).all isByte=true:=by
  induction l with
  | nil=>rfl
  | cons c l ih =>
    have:=lK c
    simp only [List.map_cons,List.all_cons,ih,Bool.and_true];simp [u8A,isByte]
theorem aN (l:List UInt8) (c:UInt8):l.map u8A++ [.int .u8 c.toNat]=(l++ [c]).map u8A:=by simp [u8A]
def de (l:List UInt8):List UInt8 × Nat:=match dW l with
 | some (t,r)=>(t,l.length+1 - r.length)
 | none=>([],0)
theorem uP {l:List UInt8} {x:UInt8} {r:List UInt8} (h:fq l=some (x,r)):r=l.drop 2∧2≤l.length:=by
 unfold fq at h
 split at h
 ·split at h
  ·cases h;simp
  ·cases h
 ·cases h
theorem eq_int (c:UInt8) (n:Nat) (hn:n<256):((c.toNat:Int) == (n:Nat))=decide (c=UInt8.ofNat n):=by
 rw [Bool.eq_iff_iff,beq_iff_eq,decide_eq_true_eq]
 constructor
 ·intro h;apply UInt8.toNat.inj;rw [UInt8.toNat_ofNat'];omega
 ·intro h;subst h;rw [UInt8.toNat_ofNat'];omega
theorem lM {c:UInt8} {n:Nat} (hn:n<256) (h:c≠UInt8.ofNat n):((c.toNat:Int) == (n:Nat))=false:=by rw [eq_int c n hn];exact decide_eq_false h
theorem lN (c:UInt8):dy c=(fO c&&((c.toNat:Int) != 34)&&((c.toNat:Int) != 92)):=by
 simp only [dy,fO]
set_option maxHeartbeats 4000000 in
theorem Mx (x:UInt8) (l:List UInt8) (hs:l.length≤900000):Pu Tryz.prog 215 [.str (x::l)] (.tup [.str (de l).1, .int .i64 ((de l).2:Nat)]):=by
  have hl0:(x::l).length=l.length+1:=rfl
  have hd1:(x::l).drop 1=l:=rfl
  generalize hS:x::l=s at hl0 hd1
  have q1:True:=trivial
  have q2:True:=trivial
  have h1:True:=trivial
  have h2:True:=trivial
  have e1:True:=trivial
  have e2:True:=trivial
  have e3:True:=trivial
  have e4:True:=trivial
  have e5:True:=trivial
  have e6:True:=trivial
  have hw:True:=trivial
  have hw2:True:=trivial
  have hw3:True:=trivial
  (refine an HR LC fun σ=>?_;simp only [HR,↓R1,RR,seval,q1,q2,h1,h2,e1,e2,e3,e4,e5,e6,hw,hw2,hw3,aN,aK,bc,List.length_map])
  refine gF (α:=Nat × List UInt8) 4 5 1 0 [] (fun τ a=> [(0, .str s),(4, .tsl τ a.2.length (a.2.map u8A)),(5, .int .i64 (a.1:Nat))]) (fun τ a=>σ.al τ (5,1,a.2.length))
    (fun a=>1≤a.1∧a.1≤s.length∧a.2.length≤a.1∧dW l=(dW (s.drop a.1)).map fun q=>(a.2++q.1,q.2)) (fun a=>s.length - a.1) (1,[]) trivial rfl ⟨by simp,by simp;omega,by simp,by rw [hd1];cases dW l<;>simp⟩ (fun τ hτ=>by simp [az,slot,af]) (fun τ hτ=>St.le_refl _) ?_
  rintro τ hτ ⟨k,acc⟩ ⟨hk1,hk2,hka,hI⟩
  have htt:(σ.al τ (5,1,acc.length)).tip τ=some (5,1,acc.length):=by simp [St.al,upd]
  simp only at hk1 hk2 hka hI ⊢
  cases hd:s.drop k with
  | nil =>
    have hke:s.length≤k:=by have:=congrArg List.length hd;rw [List.length_drop] at this;simp at this;omega
    have q1:decide ((k:Int)<(s.length:Int))=false:=by rw [decide_eq_false_iff_not];omega
    have e:de l=([],0):=by rw [de,hI,hd];rfl
    rw [e]
    simp only [q1,↓R1,RR,seval,q1,q2,h1,h2,e1,e2,e3,e4,e5,e6,hw,hw2,hw3,aN,aK,bc,List.length_map]
    skip
    all_goals (refine ak (ad ?_) (by first|(simp [aj,rvS];done)|(simp only [aj,rvS,↓R1,RR,seval,q1,q2,h1,h2,e1,e2,e3,e4,e5,e6,hw,hw2,hw3,aN,aK,bc,List.length_map];try simp)))
    all_goals ((simp only [ao,↓R1,RR,seval,q1,q2,h1,h2,e1,e2,e3,e4,e5,e6,hw,hw2,hw3,aN,aK,bc,List.length_map]))
  | cons c r =>
    have hlt:k<s.length:=by
      have:=congrArg List.length hd;rw [List.length_drop] at this;simp at this;omega
    have q1:decide ((k:Int)<(s.length:Int))=true:=by rw [decide_eq_true_eq];omega
    obtain ⟨h1,_,hd1'⟩:=cD hd
    have hrl:r.length=s.length - (k+1):=by rw [←hd1',List.length_drop]
    have hw:IntKind.i64.wrap ((k:Int)+1)=((k+1:Nat):Int):=by rw [wrap64 (by omega) (by omega)];omega
    have hI2:=hI
    rw [hd,mS] at hI2
    have pr:=H6 c
    by_cases hq:c=34
    · rw [if_pos hq] at hI2
      have e1:((c.toNat:Int) == 34)=true:=by rw [hq];rfl
      have e:de l=(acc,k+1):=by rw [de,hI2];simp;omega
      rw [e]
      simp only [q1,↓R1,RR,seval,q1,q2,h1,h2,e1,e2,e3,e4,e5,e6,hw,hw2,hw3,aN,aK,bc,List.length_map]
      repeat' (with_reducible refine And.intro ?_ ?_;exact ag)
      all_goals all_goals first|omega|exact Nat.le_refl _|assumption|exact St.le_refl _|(exact ag)|(simp only [az,slot,af,↓R1,RR,seval,q1,q2,h1,h2,e1,e2,e3,e4,e5,e6,hw,hw2,hw3,aN,aK,bc,List.length_map];(repeat' (with_reducible apply And.intro))<;>first|exact bU (by have:=av;omega)|exact ay _ _ _|exact aq _ _|exact ad (congrArg (AV.tsl _ _) (flat_step (by assumption))))|((repeat (first|exact St.le_refl _|(refine St.aw ?_ (by assumption))|(refine St.aG ?_ (by assumption))));done)|(simp_all;done)|skip
      all_goals (refine ak (ad ?_) (by first|(simp [aj,rvS];done)|(simp only [aj,rvS,↓R1,RR,seval,q1,q2,h1,h2,e1,e2,e3,e4,e5,e6,hw,hw2,hw3,aN,aK,bc,List.length_map];try simp)))
      all_goals ((simp only [ao,↓R1,RR,seval,q1,q2,h1,h2,e1,e2,e3,e4,e5,e6,hw,hw2,hw3,aN,aK,bc,List.length_map]))
    · rw [if_neg hq] at hI2
      have e1:((c.toNat:Int) == 34)=false:=lM (n:=34) (by omega) hq
      by_cases hb:c=92
      · rw [if_pos hb] at hI2
        have e2:fO c=true:=by rw [hb];rfl
        have e3:((c.toNat:Int) != 92)=false:=by rw [hb];rfl
        have hw2:IntKind.i64.wrap ((k:Int)+2)=((k+2:Nat):Int):=by rw [wrap64 (by omega) (by omega)];omega
        have hw3:IntKind.i64.wrap ((k:Int)+4)=((k+4:Nat):Int):=by rw [wrap64 (by omega) (by omega)];omega
        cases r with
        | nil =>
          have q2:decide (((k+1:Nat):Int)<(s.length:Int))=false:=by
            rw [decide_eq_false_iff_not];simp at hrl;omega
          have e:de l=([],0):=by rw [de,hI2];rfl
          rw [e]
          simp only [q1,↓R1,RR,seval,q1,q2,h1,h2,e1,e2,e3,e4,e5,e6,hw,hw2,hw3,aN,aK,bc,List.length_map]
          repeat' (first|(with_reducible refine And.intro ?_ ?_;exact ag)|((refine Pt (pr) ?_)<;>(try simp only [↓R1,RR,seval,q1,q2,h1,h2,e1,e2,e3,e4,e5,e6,hw,hw2,hw3,aN,aK,bc,List.length_map])))
          all_goals all_goals first|omega|exact Nat.le_refl _|assumption|exact St.le_refl _|(exact ag)|(simp only [az,slot,af,↓R1,RR,seval,q1,q2,h1,h2,e1,e2,e3,e4,e5,e6,hw,hw2,hw3,aN,aK,bc,List.length_map];(repeat' (with_reducible apply And.intro))<;>first|exact bU (by have:=av;omega)|exact ay _ _ _|exact aq _ _|exact ad (congrArg (AV.tsl _ _) (flat_step (by assumption))))|((repeat (first|exact St.le_refl _|(refine St.aw ?_ (by assumption))|(refine St.aG ?_ (by assumption))));done)|(simp_all;done)|skip
          all_goals (refine ak (ad ?_) (by first|(simp [aj,rvS];done)|(simp only [aj,rvS,↓R1,RR,seval,q1,q2,h1,h2,e1,e2,e3,e4,e5,e6,hw,hw2,hw3,aN,aK,bc,List.length_map];try simp)))
          all_goals ((simp only [ao,↓R1,RR,seval,q1,q2,h1,h2,e1,e2,e3,e4,e5,e6,hw,hw2,hw3,aN,aK,bc,List.length_map]))
          all_goals rfl
        | cons d r2 =>
          have q2:decide (((k+1:Nat):Int)<(s.length:Int))=true:=by
            rw [decide_eq_true_eq];simp at hrl;omega
          obtain ⟨h2,h2l,hd2⟩:=cD hd1'
          have hrl2:r2.length=s.length - (k+2):=by rw [←hd2,List.length_drop]
          simp only [jQ] at hI2
          by_cases hd3:d=34
          · rw [if_neg (by rw [hd3];decide),if_pos (.inl hd3)] at hI2
            have e4:((d.toNat:Int) == 34)=true:=by rw [hd3];rfl
            simp only [q1,↓R1,RR,seval,q1,q2,h1,h2,e1,e2,e3,e4,e5,e6,hw,hw2,hw3,aN,aK,bc,List.length_map]
            repeat' (first|(with_reducible refine And.intro ?_ ?_;exact ag)|((first|((first|refine bQ (.inr rfl) rfl ?_ ?_ ?_ ?_ ?_ ?_|refine bD rfl ?_ ?_ ?_ ?_ ?_ ?_);(first|rfl|exact St.bg _ _ _|simp only [↓R1,RR,seval,q1,q2,h1,h2,e1,e2,e3,e4,e5,e6,hw,hw2,hw3,aN,aK,bc,List.length_map]);(iterate 2 (first|omega|(simp only [RZ];first|done|omega)|rfl));(unfold maxLen;omega);omega)|(refine Pt (pr) ?_))<;>(try simp only [↓R1,RR,seval,q1,q2,h1,h2,e1,e2,e3,e4,e5,e6,hw,hw2,hw3,aN,aK,bc,List.length_map])))
            all_goals all_goals first|omega|exact Nat.le_refl _|assumption|exact St.le_refl _|(exact ag)|(simp only [az,slot,af,↓R1,RR,seval,q1,q2,h1,h2,e1,e2,e3,e4,e5,e6,hw,hw2,hw3,aN,aK,bc,List.length_map];(repeat' (with_reducible apply And.intro))<;>first|exact bU (by have:=av;omega)|exact ay _ _ _|exact aq _ _|exact ad (congrArg (AV.tsl _ _) (flat_step (by assumption))))|((repeat (first|exact St.le_refl _|(refine St.aw ?_ (by assumption))|(refine St.aG ?_ (by assumption))));done)|(simp_all;done)|skip
            refine ⟨(k+2,acc++ [d]),⟨by simp,by simp;omega,by simp;omega,?_⟩,?_,?_,by simp;omega⟩
            · simp only [hI2,hd2];generalize dW r2=z;cases z<;>simp
            · simp only [List.length_append,List.length_singleton];simp [az,slot,af];try exact af _
            · simp only [List.length_append,List.length_singleton];exact St.le_refl _
          · have e4:((d.toNat:Int) == 34)=false:=lM (n:=34) (by omega) hd3
            by_cases hd4:d=92
            · rw [if_neg (by rw [hd4];decide),if_pos (.inr hd4)] at hI2
              have e5:((d.toNat:Int) == 92)=true:=by rw [hd4];rfl
              simp only [q1,↓R1,RR,seval,q1,q2,h1,h2,e1,e2,e3,e4,e5,e6,hw,hw2,hw3,aN,aK,bc,List.length_map]
              repeat' (first|(with_reducible refine And.intro ?_ ?_;exact ag)|((first|((first|refine bQ (.inr rfl) rfl ?_ ?_ ?_ ?_ ?_ ?_|refine bD rfl ?_ ?_ ?_ ?_ ?_ ?_);(first|rfl|exact St.bg _ _ _|simp only [↓R1,RR,seval,q1,q2,h1,h2,e1,e2,e3,e4,e5,e6,hw,hw2,hw3,aN,aK,bc,List.length_map]);(iterate 2 (first|omega|(simp only [RZ];first|done|omega)|rfl));(unfold maxLen;omega);omega)|(refine Pt (pr) ?_))<;>(try simp only [↓R1,RR,seval,q1,q2,h1,h2,e1,e2,e3,e4,e5,e6,hw,hw2,hw3,aN,aK,bc,List.length_map])))
              all_goals all_goals first|omega|exact Nat.le_refl _|assumption|exact St.le_refl _|(exact ag)|(simp only [az,slot,af,↓R1,RR,seval,q1,q2,h1,h2,e1,e2,e3,e4,e5,e6,hw,hw2,hw3,aN,aK,bc,List.length_map];(repeat' (with_reducible apply And.intro))<;>first|exact bU (by have:=av;omega)|exact ay _ _ _|exact aq _ _|exact ad (congrArg (AV.tsl _ _) (flat_step (by assumption))))|((repeat (first|exact St.le_refl _|(refine St.aw ?_ (by assumption))|(refine St.aG ?_ (by assumption))));done)|(simp_all;done)|skip
              refine ⟨(k+2,acc++ [d]),⟨by simp,by simp;omega,by simp;omega,?_⟩,?_,?_,by simp;omega⟩
              · simp only [hI2,hd2];generalize dW r2=z;cases z<;>simp
              · simp only [List.length_append,List.length_singleton];simp [az,slot,af];try exact af _
              · simp only [List.length_append,List.length_singleton];exact St.le_refl _
            · have e5:((d.toNat:Int) == 92)=false:=lM (n:=92) (by omega) hd4
              by_cases hd5:d=120
              · rw [if_pos hd5] at hI2
                have e6:((d.toNat:Int) == 120)=true:=by rw [hd5];rfl
                have pp:=Mw s (k+2) (by omega) (by omega)
                rw [hd2] at pp
                cases hp:fq r2 with
                | none =>
                  have hv:gL r2=(0,false):=by rw [gL,hp]
                  rw [hv] at pp
                  have e:de l=([],0):=by rw [de,hI2,hp];rfl
                  rw [e]
                  simp only [q1,↓R1,RR,seval,q1,q2,h1,h2,e1,e2,e3,e4,e5,e6,hw,hw2,hw3,aN,aK,bc,List.length_map]
                  repeat' (first|(with_reducible refine And.intro ?_ ?_;exact ag)|((first|(refine Pt (pr) ?_)|(refine Pt (pp) ?_))<;>(try simp only [↓R1,RR,seval,q1,q2,h1,h2,e1,e2,e3,e4,e5,e6,hw,hw2,hw3,aN,aK,bc,List.length_map])))
                  all_goals all_goals first|omega|exact Nat.le_refl _|assumption|exact St.le_refl _|(exact ag)|(simp only [az,slot,af,↓R1,RR,seval,q1,q2,h1,h2,e1,e2,e3,e4,e5,e6,hw,hw2,hw3,aN,aK,bc,List.length_map];(repeat' (with_reducible apply And.intro))<;>first|exact bU (by have:=av;omega)|exact ay _ _ _|exact aq _ _|exact ad (congrArg (AV.tsl _ _) (flat_step (by assumption))))|((repeat (first|exact St.le_refl _|(refine St.aw ?_ (by assumption))|(refine St.aG ?_ (by assumption))));done)|(simp_all;done)|skip
                  all_goals (refine ak (ad ?_) (by first|(simp [aj,rvS];done)|(simp only [aj,rvS,↓R1,RR,seval,q1,q2,h1,h2,e1,e2,e3,e4,e5,e6,hw,hw2,hw3,aN,aK,bc,List.length_map];try simp)))
                  all_goals ((simp only [ao,↓R1,RR,seval,q1,q2,h1,h2,e1,e2,e3,e4,e5,e6,hw,hw2,hw3,aN,aK,bc,List.length_map]))
                  all_goals rfl
                | some q =>
                  obtain ⟨y,r3⟩:=q
                  have hv:gL r2=(y,true):=by rw [gL,hp]
                  rw [hv] at pp
                  obtain ⟨hr3,hr4⟩:=uP hp
                  have hd6:s.drop (k+4)=r3:=by rw [hr3,←hd2,List.drop_drop]
                  rw [hp] at hI2
                  simp only [q1,↓R1,RR,seval,q1,q2,h1,h2,e1,e2,e3,e4,e5,e6,hw,hw2,hw3,aN,aK,bc,List.length_map]
                  repeat' (first|(with_reducible refine And.intro ?_ ?_;exact ag)|((first|((first|refine bQ (.inr rfl) rfl ?_ ?_ ?_ ?_ ?_ ?_|refine bD rfl ?_ ?_ ?_ ?_ ?_ ?_);(first|rfl|exact St.bg _ _ _|simp only [↓R1,RR,seval,q1,q2,h1,h2,e1,e2,e3,e4,e5,e6,hw,hw2,hw3,aN,aK,bc,List.length_map]);(iterate 2 (first|omega|(simp only [RZ];first|done|omega)|rfl));(unfold maxLen;omega);omega)|(refine Pt (pr) ?_)|(refine Pt (pp) ?_))<;>(try simp only [↓R1,RR,seval,q1,q2,h1,h2,e1,e2,e3,e4,e5,e6,hw,hw2,hw3,aN,aK,bc,List.length_map])))
                  all_goals all_goals first|omega|exact Nat.le_refl _|assumption|exact St.le_refl _|(exact ag)|(simp only [az,slot,af,↓R1,RR,seval,q1,q2,h1,h2,e1,e2,e3,e4,e5,e6,hw,hw2,hw3,aN,aK,bc,List.length_map];(repeat' (with_reducible apply And.intro))<;>first|exact bU (by have:=av;omega)|exact ay _ _ _|exact aq _ _|exact ad (congrArg (AV.tsl _ _) (flat_step (by assumption))))|((repeat (first|exact St.le_refl _|(refine St.aw ?_ (by assumption))|(refine St.aG ?_ (by assumption))));done)|(simp_all;done)|skip
                  refine ⟨(k+4,acc++ [y]),⟨by simp,by simp;omega,by simp;omega,?_⟩,?_,?_,by simp;omega⟩
                  · simp only [hI2,hd6];generalize dW r3=z;cases z<;>simp
                  · simp only [List.length_append,List.length_singleton];simp [az,slot,af];try exact af _
                  · simp only [List.length_append,List.length_singleton];exact St.le_refl _
              · rw [if_neg hd5,if_neg (by rintro (h|h);exact hd3 h;exact hd4 h)] at hI2
                have e6:((d.toNat:Int) == 120)=false:=lM (n:=120) (by omega) hd5
                have e:de l=([],0):=by rw [de,hI2];rfl
                rw [e]
                simp only [q1,↓R1,RR,seval,q1,q2,h1,h2,e1,e2,e3,e4,e5,e6,hw,hw2,hw3,aN,aK,bc,List.length_map]
                repeat' (first|(with_reducible refine And.intro ?_ ?_;exact ag)|((refine Pt (pr) ?_)<;>(try simp only [↓R1,RR,seval,q1,q2,h1,h2,e1,e2,e3,e4,e5,e6,hw,hw2,hw3,aN,aK,bc,List.length_map])))
                all_goals all_goals first|omega|exact Nat.le_refl _|assumption|exact St.le_refl _|(exact ag)|(simp only [az,slot,af,↓R1,RR,seval,q1,q2,h1,h2,e1,e2,e3,e4,e5,e6,hw,hw2,hw3,aN,aK,bc,List.length_map];(repeat' (with_reducible apply And.intro))<;>first|exact bU (by have:=av;omega)|exact ay _ _ _|exact aq _ _|exact ad (congrArg (AV.tsl _ _) (flat_step (by assumption))))|((repeat (first|exact St.le_refl _|(refine St.aw ?_ (by assumption))|(refine St.aG ?_ (by assumption))));done)|(simp_all;done)|skip
                all_goals (refine ak (ad ?_) (by first|(simp [aj,rvS];done)|(simp only [aj,rvS,↓R1,RR,seval,q1,q2,h1,h2,e1,e2,e3,e4,e5,e6,hw,hw2,hw3,aN,aK,bc,List.length_map];try simp)))
                all_goals ((simp only [ao,↓R1,RR,seval,q1,q2,h1,h2,e1,e2,e3,e4,e5,e6,hw,hw2,hw3,aN,aK,bc,List.length_map]))
                all_goals rfl
      · rw [if_neg hb] at hI2
        have e9:((c.toNat:Int) == 92)=false:=lM (n:=92) (by omega) hb
        have e3:((c.toNat:Int) != 92)=true:=by simp only [bne,e9];rfl
        cases e2:fO c with
        | false =>
          have hp:dy c=false:=by rw [lN,e2];rfl
          rw [if_neg (by rw [hp];decide)] at hI2
          have e:de l=([],0):=by rw [de,hI2];rfl
          rw [e]
          simp only [q1,↓R1,RR,seval,q1,q2,h1,h2,e1,e2,e3,e4,e5,e6,hw,hw2,hw3,aN,aK,bc,List.length_map]
          repeat' (first|(with_reducible refine And.intro ?_ ?_;exact ag)|((refine Pt (pr) ?_)<;>(try simp only [↓R1,RR,seval,q1,q2,h1,h2,e1,e2,e3,e4,e5,e6,hw,hw2,hw3,aN,aK,bc,List.length_map])))
          all_goals all_goals first|omega|exact Nat.le_refl _|assumption|exact St.le_refl _|(exact ag)|(simp only [az,slot,af,↓R1,RR,seval,q1,q2,h1,h2,e1,e2,e3,e4,e5,e6,hw,hw2,hw3,aN,aK,bc,List.length_map];(repeat' (with_reducible apply And.intro))<;>first|exact bU (by have:=av;omega)|exact ay _ _ _|exact aq _ _|exact ad (congrArg (AV.tsl _ _) (flat_step (by assumption))))|((repeat (first|exact St.le_refl _|(refine St.aw ?_ (by assumption))|(refine St.aG ?_ (by assumption))));done)|(simp_all;done)|skip
          all_goals (refine ak (ad ?_) (by first|(simp [aj,rvS];done)|(simp only [aj,rvS,↓R1,RR,seval,q1,q2,h1,h2,e1,e2,e3,e4,e5,e6,hw,hw2,hw3,aN,aK,bc,List.length_map];try simp)))
          all_goals ((simp only [ao,↓R1,RR,seval,q1,q2,h1,h2,e1,e2,e3,e4,e5,e6,hw,hw2,hw3,aN,aK,bc,List.length_map]))
          all_goals rfl
        | true =>
          have hp:dy c=true:=by simp only [lN,e2,bne,e1,e9];rfl
          rw [if_pos hp] at hI2
          simp only [q1,↓R1,RR,seval,q1,q2,h1,h2,e1,e2,e3,e4,e5,e6,hw,hw2,hw3,aN,aK,bc,List.length_map]
          repeat' (first|(with_reducible refine And.intro ?_ ?_;exact ag)|((first|((first|refine bQ (.inr rfl) rfl ?_ ?_ ?_ ?_ ?_ ?_|refine bD rfl ?_ ?_ ?_ ?_ ?_ ?_);(first|rfl|exact St.bg _ _ _|simp only [↓R1,RR,seval,q1,q2,h1,h2,e1,e2,e3,e4,e5,e6,hw,hw2,hw3,aN,aK,bc,List.length_map]);(iterate 2 (first|omega|(simp only [RZ];first|done|omega)|rfl));(unfold maxLen;omega);omega)|(refine Pt (pr) ?_))<;>(try simp only [↓R1,RR,seval,q1,q2,h1,h2,e1,e2,e3,e4,e5,e6,hw,hw2,hw3,aN,aK,bc,List.length_map])))
          all_goals all_goals first|omega|exact Nat.le_refl _|assumption|exact St.le_refl _|(exact ag)|(simp only [az,slot,af,↓R1,RR,seval,q1,q2,h1,h2,e1,e2,e3,e4,e5,e6,hw,hw2,hw3,aN,aK,bc,List.length_map];(repeat' (with_reducible apply And.intro))<;>first|exact bU (by have:=av;omega)|exact ay _ _ _|exact aq _ _|exact ad (congrArg (AV.tsl _ _) (flat_step (by assumption))))|((repeat (first|exact St.le_refl _|(refine St.aw ?_ (by assumption))|(refine St.aG ?_ (by assumption))));done)|(simp_all;done)|skip
          refine ⟨(k+1,acc++ [c]),⟨by simp,by simp;omega,by simp;omega,?_⟩,?_,?_,by simp;omega⟩
          · simp only [hI2,hd1'];generalize dW r=z;cases z<;>simp
          · simp only [List.length_append,List.length_singleton];simp [az,slot,af];try exact af _
          · simp only [List.length_append,List.length_singleton];exact St.le_refl _
def iX (l:List UInt8) (n:Nat):Nat:=match l.drop n with
 | d::_=>if aL d then n else 0
 | []=>n
def lY (l:List UInt8):Bool × List UInt8 × Nat:=match l with
 | []=>(false,[],0)
 | c::r=>if c=34 then (true,(de r).1,iX l (de r).2) else (false,l.takeWhile aT,iX l (l.takeWhile aT).length)
theorem yB {s:List UInt8} {k:Nat} (hk:k≤(s.takeWhile aT).length):(k<(s.takeWhile aT).length↔∃ c,s[k]? =some c∧aT c=true):=by
  induction s generalizing k with
  | nil=>simp
  | cons c s ih =>
    cases hc:aT c with
    | false =>
      simp only [List.takeWhile_cons,hc] at hk ⊢
      simp at hk;subst hk
      simp [hc]
    | true =>
      simp only [List.takeWhile_cons,hc,if_true,List.length_cons] at hk ⊢
      cases k with
      | zero=>simp [hc]
      | succ k=>simp only [List.getElem?_cons_succ];rw [←ih (by omega)];omega
theorem yC (s:List UInt8):s.take (s.takeWhile aT).length=s.takeWhile aT:=by
 have h:=List.takeWhile_append_dropWhile (p:=aT) (l:=s)
 have:s.take (s.takeWhile aT).length=(s.takeWhile aT++s.dropWhile aT).take (s.takeWhile aT).length:=by rw [h]
 rw [this,List.take_left'];rfl
theorem EX (s:List UInt8):(s.takeWhile aT).length≤s.length:=(List.takeWhile_prefix _).length_le
theorem gM (s:List UInt8):iX s 0=0:=by
 unfold iX;split
 ·split<;>rfl
 ·rfl
theorem qc {s:List UInt8} {n:Nat} {d:UInt8} (h:s[n]? =some d):iX s n=if aL d then n else 0:=by
 obtain ⟨h1,h2⟩:=List.getElem?_eq_some_iff.1 h
 unfold iX;rw [List.drop_eq_getElem_cons h1,h2]
theorem nB {s:List UInt8} {n:Nat} (h:s.length≤n):iX s n=n:=by
 unfold iX;rw [List.drop_eq_nil_of_le h]
theorem lg (s:List UInt8) (n:Nat):(n=0)∨(0<n∧s.length≤n)∨(0<n∧n<s.length∧∃ d,s[n]? =some d):=by
 by_cases h:n=0
 ·exact .inl h
 ·by_cases h2:n<s.length
  ·exact .inr (.inr ⟨by omega,h2,_,List.getElem?_eq_getElem h2⟩)
  ·exact .inr (.inl ⟨by omega,by omega⟩)
theorem Ce (l:List UInt8):(de l).2≤l.length+1:=by
 unfold de;split<;>simp
set_option maxHeartbeats 4000000 in
theorem My (c:UInt8) (r:List UInt8) (hs:r.length≤800000):Pu Tryz.prog 158 [.str (c::r)] (.tup [.agg [.bool (lY (c::r)).1, .str (lY (c::r)).2.1, .int .i64 0], .int .i64 ((lY (c::r)).2.2:Nat)]):=by
  have hl0:(c::r).length=r.length+1:=rfl
  have h0:(c::r)[0]? =some c:=rfl
  have q1:True:=trivial
  have q2:True:=trivial
  have q3:True:=trivial
  have h1:True:=trivial
  have h2:True:=trivial
  have e1:True:=trivial
  have hw:True:=trivial
  by_cases hc:c=34
  · have e1:((c.toNat:Int) == 34)=true:=by rw [hc];rfl
    have pq:=Mx c r (by omega)
    have hv:lY (c::r)=(true,(de r).1,iX (c::r) (de r).2):=by simp [lY,hc]
    have hle:=Ce r
    rw [hv]
    generalize hS:c::r=s at h0 hl0 pq
    generalize (de r).1=t at pq
    generalize (de r).2=n at pq hle
    rcases lg s n with hn|⟨hn,hn2⟩|⟨hn,hn2,d,h2⟩
    · have q2:decide ((0:Int)<(n:Int))=false:=by rw [decide_eq_false_iff_not];omega
      have hen:iX s n=n:=by rw [hn];exact gM s
      rw [hen]
      (refine an mT Br fun σ=>?_;simp only [mT,↓R1,RR,seval,q1,q2,q3,h0,h1,h2,e1,hw])
      repeat' (first|(with_reducible rw [ai])|(with_reducible refine And.intro ?_ ?_;exact ag)|((first|(with_reducible intro β hβ;(try simp only [RB] at hβ);(repeat (obtain ⟨⟨_,_⟩,hβ⟩:=hβ));(try (have hbis:=ah (by assumption) hβ;obtain ⟨_,_⟩:=hbis)))|(refine Pt (pq) ?_))<;>(try simp only [↓R1,RR,seval,q1,q2,q3,h0,h1,h2,e1,hw])))
      all_goals all_goals first|omega|exact Nat.le_refl _|assumption|exact St.le_refl _|(exact ag)|(simp only [az,slot,af,↓R1,RR,seval,q1,q2,q3,h0,h1,h2,e1,hw];(repeat' (with_reducible apply And.intro))<;>first|exact bU (by have:=av;omega)|exact ay _ _ _|exact aq _ _|exact ad (congrArg (AV.tsl _ _) (flat_step (by assumption))))|((repeat (first|exact St.le_refl _|(refine St.aw ?_ (by assumption))|(refine St.aG ?_ (by assumption))));done)|(simp_all;done)|skip
      all_goals (refine ak (ad ?_) (by first|(simp [aj,rvS];done)|(simp only [aj,rvS,↓R1,RR,seval,q1,q2,q3,h0,h1,h2,e1,hw];try simp)))
      all_goals (first|((simp only [ao,↓R1,RR,seval,q1,q2,q3,h0,h1,h2,e1,hw]);done)|((simp only [ao,↓R1,RR,seval,q1,q2,q3,h0,h1,h2,e1,hw]);rw [htk]))
    · have q2:decide ((0:Int)<(n:Int))=true:=by rw [decide_eq_true_eq];omega
      have q3:decide ((n:Int)<(s.length:Int))=false:=by rw [decide_eq_false_iff_not];omega
      rw [nB hn2]
      (refine an mT Br fun σ=>?_;simp only [mT,↓R1,RR,seval,q1,q2,q3,h0,h1,h2,e1,hw])
      repeat' (first|(with_reducible rw [ai])|(with_reducible refine And.intro ?_ ?_;exact ag)|((first|(with_reducible intro β hβ;(try simp only [RB] at hβ);(repeat (obtain ⟨⟨_,_⟩,hβ⟩:=hβ));(try (have hbis:=ah (by assumption) hβ;obtain ⟨_,_⟩:=hbis)))|(refine Pt (pq) ?_))<;>(try simp only [↓R1,RR,seval,q1,q2,q3,h0,h1,h2,e1,hw])))
      all_goals all_goals first|omega|exact Nat.le_refl _|assumption|exact St.le_refl _|(exact ag)|(simp only [az,slot,af,↓R1,RR,seval,q1,q2,q3,h0,h1,h2,e1,hw];(repeat' (with_reducible apply And.intro))<;>first|exact bU (by have:=av;omega)|exact ay _ _ _|exact aq _ _|exact ad (congrArg (AV.tsl _ _) (flat_step (by assumption))))|((repeat (first|exact St.le_refl _|(refine St.aw ?_ (by assumption))|(refine St.aG ?_ (by assumption))));done)|(simp_all;done)|skip
      all_goals (refine ak (ad ?_) (by first|(simp [aj,rvS];done)|(simp only [aj,rvS,↓R1,RR,seval,q1,q2,q3,h0,h1,h2,e1,hw];try simp)))
      all_goals (first|((simp only [ao,↓R1,RR,seval,q1,q2,q3,h0,h1,h2,e1,hw]);done)|((simp only [ao,↓R1,RR,seval,q1,q2,q3,h0,h1,h2,e1,hw]);rw [htk]))
    · have q2:decide ((0:Int)<(n:Int))=true:=by rw [decide_eq_true_eq];omega
      have q3:decide ((n:Int)<(s.length:Int))=true:=by rw [decide_eq_true_eq];omega
      have pb:=EV d
      rw [qc h2]
      cases hb:aL d with
      | true =>
        rw [hb] at pb
        (refine an mT Br fun σ=>?_;simp only [mT,↓R1,RR,seval,q1,q2,q3,h0,h1,h2,e1,hw])
        repeat' (first|(with_reducible rw [ai])|(with_reducible refine And.intro ?_ ?_;exact ag)|((first|(with_reducible intro β hβ;(try simp only [RB] at hβ);(repeat (obtain ⟨⟨_,_⟩,hβ⟩:=hβ));(try (have hbis:=ah (by assumption) hβ;obtain ⟨_,_⟩:=hbis)))|(refine Pt (pq) ?_)|(refine Pt (pb) ?_))<;>(try simp only [↓R1,RR,seval,q1,q2,q3,h0,h1,h2,e1,hw])))
        all_goals all_goals first|omega|exact Nat.le_refl _|assumption|exact St.le_refl _|(exact ag)|(simp only [az,slot,af,↓R1,RR,seval,q1,q2,q3,h0,h1,h2,e1,hw];(repeat' (with_reducible apply And.intro))<;>first|exact bU (by have:=av;omega)|exact ay _ _ _|exact aq _ _|exact ad (congrArg (AV.tsl _ _) (flat_step (by assumption))))|((repeat (first|exact St.le_refl _|(refine St.aw ?_ (by assumption))|(refine St.aG ?_ (by assumption))));done)|(simp_all;done)|skip
        all_goals (refine ak (ad ?_) (by first|(simp [aj,rvS];done)|(simp only [aj,rvS,↓R1,RR,seval,q1,q2,q3,h0,h1,h2,e1,hw];try simp)))
        all_goals (first|((simp only [ao,↓R1,RR,seval,q1,q2,q3,h0,h1,h2,e1,hw]);done)|((simp only [ao,↓R1,RR,seval,q1,q2,q3,h0,h1,h2,e1,hw]);rw [htk]))
      | false =>
        rw [hb] at pb
        (refine an mT Br fun σ=>?_;simp only [mT,↓R1,RR,seval,q1,q2,q3,h0,h1,h2,e1,hw])
        repeat' (first|(with_reducible rw [ai])|(with_reducible refine And.intro ?_ ?_;exact ag)|((first|(with_reducible intro β hβ;(try simp only [RB] at hβ);(repeat (obtain ⟨⟨_,_⟩,hβ⟩:=hβ));(try (have hbis:=ah (by assumption) hβ;obtain ⟨_,_⟩:=hbis)))|(refine Pt (pq) ?_)|(refine Pt (pb) ?_))<;>(try simp only [↓R1,RR,seval,q1,q2,q3,h0,h1,h2,e1,hw])))
        all_goals all_goals first|omega|exact Nat.le_refl _|assumption|exact St.le_refl _|(exact ag)|(simp only [az,slot,af,↓R1,RR,seval,q1,q2,q3,h0,h1,h2,e1,hw];(repeat' (with_reducible apply And.intro))<;>first|exact bU (by have:=av;omega)|exact ay _ _ _|exact aq _ _|exact ad (congrArg (AV.tsl _ _) (flat_step (by assumption))))|((repeat (first|exact St.le_refl _|(refine St.aw ?_ (by assumption))|(refine St.aG ?_ (by assumption))));done)|(simp_all;done)|skip
        all_goals (refine ak (ad ?_) (by first|(simp [aj,rvS];done)|(simp only [aj,rvS,↓R1,RR,seval,q1,q2,q3,h0,h1,h2,e1,hw];try simp)))
        all_goals (first|((simp only [ao,↓R1,RR,seval,q1,q2,q3,h0,h1,h2,e1,hw]);done)|((simp only [ao,↓R1,RR,seval,q1,q2,q3,h0,h1,h2,e1,hw]);rw [htk]))
  · have e1:((c.toNat:Int) == 34)=false:=lM (n:=34) (by omega) hc
    have hv:lY (c::r)=(false,(c::r).takeWhile aT,iX (c::r) ((c::r).takeWhile aT).length):=by simp [lY,hc]
    rw [hv]
    have hle:=EX (c::r)
    have htk:=yC (c::r)
    generalize hS:c::r=s at h0 hl0 hle htk
    simp only at htk ⊢
    generalize hn0:(s.takeWhile aT).length=n at hle htk
    (refine an mT Br fun σ=>?_;simp only [mT,↓R1,RR,seval,q1,q2,q3,h0,h1,h2,e1,hw])
    repeat' (first|(with_reducible rw [ai])|(with_reducible refine And.intro ?_ ?_;exact ag)|((with_reducible intro β hβ;(try simp only [RB] at hβ);(repeat (obtain ⟨⟨_,_⟩,hβ⟩:=hβ));(try (have hbis:=ah (by assumption) hβ;obtain ⟨_,_⟩:=hbis)))<;>(try simp only [↓R1,RR,seval,q1,q2,q3,h0,h1,h2,e1,hw])))
    rename_i b2 hb2 p1 p2
    refine bK n (fun k=> [(0, .str s),(2, .ptr b2 0),(4, .ptr β 0),(5, .int .i64 (k:Nat))]) (fun _=>(σ.ae b2 [.bool false, .str [], .int .i64 0]).ae β [.bool false, .str [], .int .i64 0]) (fun _=>True) (by simp [az,slot,af]) (by simp only [St.set_set];exact St.le_refl _) trivial (fun k hk _=>?_)
    have hst:=yB (s:=s) (k:=k) (by rw [hn0];exact hk)
    rw [hn0] at hst
    by_cases hlt:k<n
    · obtain ⟨d,h1,hbd⟩:=hst.1 hlt
      have q1:decide ((k:Int)<(s.length:Int))=true:=by rw [decide_eq_true_eq];omega
      have hw:IntKind.i64.wrap ((k:Int)+1)=((k+1:Nat):Int):=by rw [wrap64 (by omega) (by omega)];omega
      have pp:=J0 d
      rw [hbd] at pp
      simp only [q1,↓R1,RR,seval,q1,q2,q3,h0,h1,h2,e1,hw]
      repeat' (first|(with_reducible refine And.intro ?_ ?_;exact ag)|(with_reducible apply And.intro)|((refine Pt (pp) ?_)<;>(try simp only [↓R1,RR,seval,q1,q2,q3,h0,h1,h2,e1,hw])))
      all_goals all_goals first|omega|exact Nat.le_refl _|assumption|exact St.le_refl _|(exact ag)|(simp only [az,slot,af,↓R1,RR,seval,q1,q2,q3,h0,h1,h2,e1,hw];(repeat' (with_reducible apply And.intro))<;>first|exact bU (by have:=av;omega)|exact ay _ _ _|exact aq _ _|exact ad (congrArg (AV.tsl _ _) (flat_step (by assumption))))|((repeat (first|exact St.le_refl _|(refine St.aw ?_ (by assumption))|(refine St.aG ?_ (by assumption))));done)|(simp_all;done)|skip
      all_goals first|(simp [az,slot,af];done)|(exact St.le_refl _)
    · have hke:k=n:=by omega
      subst hke
      by_cases hkl:k<s.length
      · obtain ⟨d1,h1⟩:∃ d,s[k]? =some d:=⟨_,List.getElem?_eq_getElem hkl⟩
        have hbd:aT d1=false:=by
          cases hb:aT d1 with
          | false=>rfl
          | true=>exact (hlt (hst.2 ⟨d1,h1,hb⟩)).elim
        have q1:decide ((k:Int)<(s.length:Int))=true:=by rw [decide_eq_true_eq];omega
        have pp:=J0 d1
        rw [hbd] at pp
        rcases lg s k with hn|⟨hn,hn2⟩|⟨hn,hn2,d,h2⟩
        · have q2:decide ((0:Int)<(k:Int))=false:=by rw [decide_eq_false_iff_not];omega
          have hen:iX s k=k:=by rw [hn];exact gM s
          rw [hen]
          simp only [q1,htk,↓R1,RR,seval,q1,q2,q3,h0,h1,h2,e1,hw]
          repeat' (first|(with_reducible refine And.intro ?_ ?_;exact ag)|((refine Pt (pp) ?_)<;>(try simp only [↓R1,RR,seval,q1,q2,q3,h0,h1,h2,e1,hw])))
          all_goals all_goals first|omega|exact Nat.le_refl _|assumption|exact St.le_refl _|(exact ag)|(simp only [az,slot,af,↓R1,RR,seval,q1,q2,q3,h0,h1,h2,e1,hw];(repeat' (with_reducible apply And.intro))<;>first|exact bU (by have:=av;omega)|exact ay _ _ _|exact aq _ _|exact ad (congrArg (AV.tsl _ _) (flat_step (by assumption))))|((repeat (first|exact St.le_refl _|(refine St.aw ?_ (by assumption))|(refine St.aG ?_ (by assumption))));done)|(simp_all;done)|skip
          all_goals (refine ak (ad ?_) (by first|(simp [aj,rvS];done)|(simp only [aj,rvS,↓R1,RR,seval,q1,q2,q3,h0,h1,h2,e1,hw];try simp)))
          all_goals (first|((simp only [ao,↓R1,RR,seval,q1,q2,q3,h0,h1,h2,e1,hw]);done)|((simp only [ao,↓R1,RR,seval,q1,q2,q3,h0,h1,h2,e1,hw]);rw [htk]))
        · have q2:decide ((0:Int)<(k:Int))=true:=by rw [decide_eq_true_eq];omega
          have q3:decide ((k:Int)<(s.length:Int))=false:=by rw [decide_eq_false_iff_not];omega
          rw [nB hn2]
          simp only [q1,htk,↓R1,RR,seval,q1,q2,q3,h0,h1,h2,e1,hw]
          repeat' (first|(with_reducible refine And.intro ?_ ?_;exact ag)|((refine Pt (pp) ?_)<;>(try simp only [↓R1,RR,seval,q1,q2,q3,h0,h1,h2,e1,hw])))
          all_goals all_goals first|omega|exact Nat.le_refl _|assumption|exact St.le_refl _|(exact ag)|(simp only [az,slot,af,↓R1,RR,seval,q1,q2,q3,h0,h1,h2,e1,hw];(repeat' (with_reducible apply And.intro))<;>first|exact bU (by have:=av;omega)|exact ay _ _ _|exact aq _ _|exact ad (congrArg (AV.tsl _ _) (flat_step (by assumption))))|((repeat (first|exact St.le_refl _|(refine St.aw ?_ (by assumption))|(refine St.aG ?_ (by assumption))));done)|(simp_all;done)|skip
          all_goals (refine ak (ad ?_) (by first|(simp [aj,rvS];done)|(simp only [aj,rvS,↓R1,RR,seval,q1,q2,q3,h0,h1,h2,e1,hw];try simp)))
          all_goals (first|((simp only [ao,↓R1,RR,seval,q1,q2,q3,h0,h1,h2,e1,hw]);done)|((simp only [ao,↓R1,RR,seval,q1,q2,q3,h0,h1,h2,e1,hw]);rw [htk]))
        · have q2:decide ((0:Int)<(k:Int))=true:=by rw [decide_eq_true_eq];omega
          have q3:decide ((k:Int)<(s.length:Int))=true:=by rw [decide_eq_true_eq];omega
          have hdd:d1=d:=by rw [h1] at h2;exact Option.some.inj h2
          subst hdd
          have pb:=EV d1
          rw [qc h2]
          cases hb:aL d1 with
          | true =>
            rw [hb] at pb
            simp only [q1,htk,↓R1,RR,seval,q1,q2,q3,h0,h1,h2,e1,hw]
            repeat' (first|(with_reducible refine And.intro ?_ ?_;exact ag)|((first|(refine Pt (pp) ?_)|(refine Pt (pb) ?_))<;>(try simp only [↓R1,RR,seval,q1,q2,q3,h0,h1,h2,e1,hw])))
            all_goals all_goals first|omega|exact Nat.le_refl _|assumption|exact St.le_refl _|(exact ag)|(simp only [az,slot,af,↓R1,RR,seval,q1,q2,q3,h0,h1,h2,e1,hw];(repeat' (with_reducible apply And.intro))<;>first|exact bU (by have:=av;omega)|exact ay _ _ _|exact aq _ _|exact ad (congrArg (AV.tsl _ _) (flat_step (by assumption))))|((repeat (first|exact St.le_refl _|(refine St.aw ?_ (by assumption))|(refine St.aG ?_ (by assumption))));done)|(simp_all;done)|skip
            all_goals (refine ak (ad ?_) (by first|(simp [aj,rvS];done)|(simp only [aj,rvS,↓R1,RR,seval,q1,q2,q3,h0,h1,h2,e1,hw];try simp)))
            all_goals (first|((simp only [ao,↓R1,RR,seval,q1,q2,q3,h0,h1,h2,e1,hw]);done)|((simp only [ao,↓R1,RR,seval,q1,q2,q3,h0,h1,h2,e1,hw]);rw [htk]))
          | false =>
            rw [hb] at pb
            simp only [q1,htk,↓R1,RR,seval,q1,q2,q3,h0,h1,h2,e1,hw]
            repeat' (first|(with_reducible refine And.intro ?_ ?_;exact ag)|((first|(refine Pt (pp) ?_)|(refine Pt (pb) ?_))<;>(try simp only [↓R1,RR,seval,q1,q2,q3,h0,h1,h2,e1,hw])))
            all_goals all_goals first|omega|exact Nat.le_refl _|assumption|exact St.le_refl _|(exact ag)|(simp only [az,slot,af,↓R1,RR,seval,q1,q2,q3,h0,h1,h2,e1,hw];(repeat' (with_reducible apply And.intro))<;>first|exact bU (by have:=av;omega)|exact ay _ _ _|exact aq _ _|exact ad (congrArg (AV.tsl _ _) (flat_step (by assumption))))|((repeat (first|exact St.le_refl _|(refine St.aw ?_ (by assumption))|(refine St.aG ?_ (by assumption))));done)|(simp_all;done)|skip
            all_goals (refine ak (ad ?_) (by first|(simp [aj,rvS];done)|(simp only [aj,rvS,↓R1,RR,seval,q1,q2,q3,h0,h1,h2,e1,hw];try simp)))
            all_goals (first|((simp only [ao,↓R1,RR,seval,q1,q2,q3,h0,h1,h2,e1,hw]);done)|((simp only [ao,↓R1,RR,seval,q1,q2,q3,h0,h1,h2,e1,hw]);rw [htk]))
      · have q1:decide ((k:Int)<(s.length:Int))=false:=by rw [decide_eq_false_iff_not];omega
        rcases lg s k with hn|⟨hn,hn2⟩|⟨hn,hn2,d,h2⟩
        · have q2:decide ((0:Int)<(k:Int))=false:=by rw [decide_eq_false_iff_not];omega
          have hen:iX s k=k:=by rw [hn];exact gM s
          rw [hen]
          simp only [q1,htk,↓R1,RR,seval,q1,q2,q3,h0,h1,h2,e1,hw]
          repeat' (with_reducible refine And.intro ?_ ?_;exact ag)
          all_goals all_goals first|omega|exact Nat.le_refl _|assumption|exact St.le_refl _|(exact ag)|(simp only [az,slot,af,↓R1,RR,seval,q1,q2,q3,h0,h1,h2,e1,hw];(repeat' (with_reducible apply And.intro))<;>first|exact bU (by have:=av;omega)|exact ay _ _ _|exact aq _ _|exact ad (congrArg (AV.tsl _ _) (flat_step (by assumption))))|((repeat (first|exact St.le_refl _|(refine St.aw ?_ (by assumption))|(refine St.aG ?_ (by assumption))));done)|(simp_all;done)|skip
          all_goals (refine ak (ad ?_) (by first|(simp [aj,rvS];done)|(simp only [aj,rvS,↓R1,RR,seval,q1,q2,q3,h0,h1,h2,e1,hw];try simp)))
          all_goals (first|((simp only [ao,↓R1,RR,seval,q1,q2,q3,h0,h1,h2,e1,hw]);done)|((simp only [ao,↓R1,RR,seval,q1,q2,q3,h0,h1,h2,e1,hw]);rw [htk]))
        · have q2:decide ((0:Int)<(k:Int))=true:=by rw [decide_eq_true_eq];omega
          have q3:decide ((k:Int)<(s.length:Int))=false:=by rw [decide_eq_false_iff_not];omega
          rw [nB hn2]
          simp only [q1,htk,↓R1,RR,seval,q1,q2,q3,h0,h1,h2,e1,hw]
          repeat' (with_reducible refine And.intro ?_ ?_;exact ag)
          all_goals all_goals first|omega|exact Nat.le_refl _|assumption|exact St.le_refl _|(exact ag)|(simp only [az,slot,af,↓R1,RR,seval,q1,q2,q3,h0,h1,h2,e1,hw];(repeat' (with_reducible apply And.intro))<;>first|exact bU (by have:=av;omega)|exact ay _ _ _|exact aq _ _|exact ad (congrArg (AV.tsl _ _) (flat_step (by assumption))))|((repeat (first|exact St.le_refl _|(refine St.aw ?_ (by assumption))|(refine St.aG ?_ (by assumption))));done)|(simp_all;done)|skip
          all_goals (refine ak (ad ?_) (by first|(simp [aj,rvS];done)|(simp only [aj,rvS,↓R1,RR,seval,q1,q2,q3,h0,h1,h2,e1,hw];try simp)))
          all_goals (first|((simp only [ao,↓R1,RR,seval,q1,q2,q3,h0,h1,h2,e1,hw]);done)|((simp only [ao,↓R1,RR,seval,q1,q2,q3,h0,h1,h2,e1,hw]);rw [htk]))
        · have q2:decide ((0:Int)<(k:Int))=true:=by rw [decide_eq_true_eq];omega
          have q3:decide ((k:Int)<(s.length:Int))=true:=by rw [decide_eq_true_eq];omega
          have pb:=EV d
          rw [qc h2]
          cases hb:aL d with
          | true =>
            rw [hb] at pb
            simp only [q1,htk,↓R1,RR,seval,q1,q2,q3,h0,h1,h2,e1,hw]
            repeat' (with_reducible refine And.intro ?_ ?_;exact ag)
            all_goals all_goals first|omega|exact Nat.le_refl _|assumption|exact St.le_refl _|(exact ag)|(simp only [az,slot,af,↓R1,RR,seval,q1,q2,q3,h0,h1,h2,e1,hw];(repeat' (with_reducible apply And.intro))<;>first|exact bU (by have:=av;omega)|exact ay _ _ _|exact aq _ _|exact ad (congrArg (AV.tsl _ _) (flat_step (by assumption))))|((repeat (first|exact St.le_refl _|(refine St.aw ?_ (by assumption))|(refine St.aG ?_ (by assumption))));done)|(simp_all;done)|skip
            all_goals (refine ak (ad ?_) (by first|(simp [aj,rvS];done)|(simp only [aj,rvS,↓R1,RR,seval,q1,q2,q3,h0,h1,h2,e1,hw];try simp)))
            all_goals (first|((simp only [ao,↓R1,RR,seval,q1,q2,q3,h0,h1,h2,e1,hw]);done)|((simp only [ao,↓R1,RR,seval,q1,q2,q3,h0,h1,h2,e1,hw]);rw [htk]))
          | false =>
            rw [hb] at pb
            simp only [q1,htk,↓R1,RR,seval,q1,q2,q3,h0,h1,h2,e1,hw]
            repeat' (with_reducible refine And.intro ?_ ?_;exact ag)
            all_goals all_goals first|omega|exact Nat.le_refl _|assumption|exact St.le_refl _|(exact ag)|(simp only [az,slot,af,↓R1,RR,seval,q1,q2,q3,h0,h1,h2,e1,hw];(repeat' (with_reducible apply And.intro))<;>first|exact bU (by have:=av;omega)|exact ay _ _ _|exact aq _ _|exact ad (congrArg (AV.tsl _ _) (flat_step (by assumption))))|((repeat (first|exact St.le_refl _|(refine St.aw ?_ (by assumption))|(refine St.aG ?_ (by assumption))));done)|(simp_all;done)|skip
            all_goals (refine ak (ad ?_) (by first|(simp [aj,rvS];done)|(simp only [aj,rvS,↓R1,RR,seval,q1,q2,q3,h0,h1,h2,e1,hw];try simp)))
            all_goals (first|((simp only [ao,↓R1,RR,seval,q1,q2,q3,h0,h1,h2,e1,hw]);done)|((simp only [ao,↓R1,RR,seval,q1,q2,q3,h0,h1,h2,e1,hw]);rw [htk]))
theorem yD {c:UInt8} {r:List UInt8} (h:cI (c::r)=none):(lY (c::r)).2.2=0:=by
 unfold cI at h
 simp only at h
 unfold lY
 simp only
 split at h
 ·rename_i hc
  rw [if_pos hc]
  simp only
  split at h
  ·rename_i t r' hq
   split at h
   ·cases h
   ·rename_i he
    have hlen:=kX hq
    obtain ⟨p,hp⟩:=jk hq
    have hv:(de r).2=(c::r).length - r'.length:=by simp [de,hq]
    have hd:(c::r).drop ((c::r).length - r'.length)=r':=by
     rw [←hp,show (c::(p++r')).length - r'.length=(c::p).length by simp;omega,←List.cons_append,List.drop_left'];rfl
    unfold iX
    rw [hv,hd]
    cases r' with
    | nil=>simp [fJ] at he
    | cons d r'=>simp only [fJ] at he;simp only;rw [if_neg he]
  ·rename_i hq
   have hv:(de r).2=0:=by simp [de,hq]
   rw [hv,gM]
 ·rename_i hc
  rw [if_neg hc]
  simp only
  split at h
  ·rename_i he
   rw [List.isEmpty_iff.1 he];exact gM _
  ·split at h
   ·cases h
   ·rename_i he
    have hd:(c::r).drop ((c::r).takeWhile aT).length=(c::r).dropWhile aT:=by
     have h:=List.takeWhile_append_dropWhile (p:=aT) (l:=c::r)
     have e:(c::r).drop ((c::r).takeWhile aT).length=((c::r).takeWhile aT++(c::r).dropWhile aT).drop ((c::r).takeWhile aT).length:=by rw [h]
     rw [e,List.drop_left'];rfl
    unfold iX
    rw [hd]
    cases hx:(c::r).dropWhile aT with
    | nil=>rw [hx] at he;simp [fJ] at he
    | cons d r'=>rw [hx] at he;simp only [fJ] at he;simp only;rw [if_neg he]
theorem yE {c:UInt8} {r t r':List UInt8} {q:Bool} (h:cI (c::r)=some (q,t,r')):lY (c::r)=(q,t,(c::r).length - r'.length):=by
 unfold cI at h
 simp only at h
 unfold lY
 simp only
 split at h
 ·rename_i hc
  rw [if_pos hc]
  split at h
  ·rename_i t1 r1 hq
   split at h
   ·rename_i he
    cases h
    have hlen:=kX hq
    obtain ⟨p,hp⟩:=jk hq
    have hv:de r=(t,(c::r).length - r'.length):=by simp [de,hq]
    have hd:(c::r).drop ((c::r).length - r'.length)=r':=by
     rw [←hp,show (c::(p++r')).length - r'.length=(c::p).length by simp;omega,←List.cons_append,List.drop_left'];rfl
    rw [hv]
    simp only [iX,hd]
    cases r' with
    | nil=>rfl
    | cons d r'=>simp only [fJ] at he;simp only;rw [if_pos he]
   ·cases h
  ·cases h
 ·rename_i hc
  rw [if_neg hc]
  split at h
  ·cases h
  ·split at h
   ·rename_i he
    cases h
    have hk:=List.takeWhile_append_dropWhile (p:=aT) (l:=c::r)
    have hd:(c::r).drop ((c::r).takeWhile aT).length=(c::r).dropWhile aT:=by
     have e:(c::r).drop ((c::r).takeWhile aT).length=((c::r).takeWhile aT++(c::r).dropWhile aT).drop ((c::r).takeWhile aT).length:=by rw [hk]
     rw [e,List.drop_left'];rfl
    have hl:((c::r).takeWhile aT).length=(c::r).length - ((c::r).dropWhile aT).length:=by
     have:=congrArg List.length hk;rw [List.length_append] at this;omega
    simp only [iX,hd]
    cases hx:(c::r).dropWhile aT with
    | nil=>rw [hx] at hl;rw [hl]
    | cons d r'=>rw [hx] at he hl;simp only [fJ] at he;simp only;rw [if_pos he,hl]
   ·cases h
def oU (e:Except Nat (List Wd)):AV:=match e with
 | .ok ws=> .tup [.sl false ws.length (ws.flatMap cWd), .agg [.int .i64 0, .int .i64 0]]
 | .error p=> .tup [.sl false 0 [], .agg [.int .i64 3, .int .i64 (p:Nat)]]
theorem qd {c:UInt8} {r:List UInt8} (h:aL c=true) (a:Nat):b8 (c::r) a=b8 r (a+1):=by
 have hd:=cz aL r
 rw [fZ (c::r),fZ r,List.dropWhile_cons,if_pos h]
 congr 1
 simp;omega
theorem il {c:UInt8} {r:List UInt8} (h:aL c=false):(c::r).dropWhile aL=c::r:=by rw [List.dropWhile_cons,if_neg (by rw [h];decide)]
theorem sy {c:UInt8} {r:List UInt8} (h:aL c=false) (h2:c≠35) (hw:cI (c::r)=none) (a:Nat):b8 (c::r) a= .error a:=by
 rw [c7,il h]
 simp only [if_neg h2,hw,Nat.sub_self,Nat.add_zero]
theorem sA {c:UInt8} {r t r':List UInt8} {q:Bool} (h:aL c=false) (h2:c≠35) (hw:cI (c::r)=some (q,t,r')) (a:Nat):b8 (c::r) a=jz ⟨q,t,a⟩ (b8 r' (a+((c::r).length - r'.length))):=by
 rw [c7,il h]
 simp only [if_neg h2,hw,Nat.sub_self,Nat.add_zero]
theorem sC {c:UInt8} {r:List UInt8} (h:aL c=false) (h2:c=35) (a:Nat):b8 (c::r) a= .ok []:=by
 rw [c7,il h]
 simp only [if_pos h2]
theorem uQ (a:Nat):b8 [] a= .ok []:=rfl
theorem yF (p:List Wd) (w:Wd) (e:Except Nat (List Wd)):iR p (jz w e)=iR (p++ [w]) e:=by cases e<;>simp [iR,jz]
theorem kz {a b:St} {τ:Nat} {x:Nat × Nat × Nat} (h:St.le a b):St.le (a.al τ x) (b.al τ x):=by
 refine ⟨h.1,fun υ y hy=>?_,h.2.2⟩
 simp only [St.al,upd] at hy ⊢
 split
 ·rename_i e;rw [if_pos e] at hy;exact hy
 ·rename_i e;rw [if_neg e] at hy;exact h.2.1 _ _ hy
theorem Cf (ws:List Wd) (q:Bool) (t:List UInt8) (k:Nat):(ws++ [Wd.mk q t k]).flatMap cWd=ws.flatMap cWd++ [.bool q, .str t, .int .i64 (k:Nat)]:=by simp [cWd]
set_option maxHeartbeats 4000000 in
theorem p99 (s:List UInt8) (a:Nat) (hs:s.length≤800000) (haa:a≤1000000):Pu Tryz.prog 99 [.str s, .int .i64 a] (oU (b8 s a)):=by
  have q1:True:=trivial
  have h1:True:=trivial
  have e1:True:=trivial
  have hsl:True:=trivial
  have hw:True:=trivial
  have hw2:True:=trivial
  have hov1:True:=trivial
  have hov2:True:=trivial
  (refine an c99 b99 fun σ=>?_;simp only [c99,↓R1,RR,seval,q1,h1,e1,hsl,hw,hw2,hov1,hov2,au])
  rw [ai];intro β hβ;simp only [↓R1,RR,seval,q1,h1,e1,hsl,hw,hw2,hov1,hov2,au]
  refine gF (α:=Nat × List Wd) 6 109 3 0 [] (fun τ x=> [(0, .str s),(1, .int .i64 (a:Nat)),(5, .ptr β 0),(6, .tsl τ x.2.length (x.2.flatMap cWd)),(7, .int .i64 (x.1:Nat))]) (fun τ x=>(σ.ae β [.int .i64 0, .int .i64 0]).al τ (109,3,x.2.length))
    (fun x=>x.1≤s.length∧x.2.length≤x.1∧b8 s a=iR x.2 (b8 (s.drop x.1) (a+x.1))) (fun x=>s.length - x.1) (0,[]) trivial rfl ⟨by simp,by simp,by simp only [List.drop_zero,Nat.add_zero,rH]⟩ (fun τ hτ=>by simp [az,slot,af]) (fun τ hτ=>St.le_refl _) ?_
  rintro τ hτ ⟨k,ws⟩ ⟨hk,hkw,hI⟩
  have htt:((σ.ae β [.int .i64 0, .int .i64 0]).al τ (109,3,ws.length)).tip τ=some (109,3,ws.length):=by simp [St.al,upd]
  simp only at hk hkw hI ⊢
  cases hd:s.drop k with
  | nil =>
    have hke:s.length≤k:=by have:=congrArg List.length hd;rw [List.length_drop] at this;simp at this;omega
    have q1:decide ((k:Int)<(s.length:Int))=false:=by rw [decide_eq_false_iff_not];omega
    rw [hd,uQ] at hI
    rw [hI,iR,List.append_nil,oU]
    simp only [q1,↓R1,RR,seval,q1,h1,e1,hsl,hw,hw2,hov1,hov2,au]
    skip
    all_goals all_goals first|omega|exact Nat.le_refl _|assumption|exact St.le_refl _|(intros;(repeat' (with_reducible apply And.intro))<;>first|omega|(simp only [RZ,au];omega))|(simp only [az,slot,af,↓R1,RR,seval,q1,h1,e1,hsl,hw,hw2,hov1,hov2,au];(repeat' (with_reducible apply And.intro))<;>first|exact bU (by have:=av;omega)|exact ay _ _ _|exact aq _ _|exact ad (congrArg (AV.tsl _ _) (flat_step (by assumption))))|((repeat (first|exact St.le_refl _|(refine St.aw ?_ (by assumption))|(refine St.aG ?_ (by assumption))));done)|(simp_all;done)|skip
    all_goals (refine ak ?_ (by first|(simp [aj,rvS];done)|(simp only [aj,rvS,↓R1,RR,seval,q1,h1,e1,hsl,hw,hw2,hov1,hov2,au];try simp)))
    all_goals (simp only [ao,↓R1,RR,seval,q1,h1,e1,hsl,hw,hw2,hov1,hov2,au];(repeat' (first|exact af _|exact bz|exact ay _ _ _|exact aq _ _|exact wkL.nil|exact aa _|refine c9 ?_|refine cR ?_|refine wkL.cons ?_ ?_)))
  | cons c r =>
    have hlt:k<s.length:=by
      have:=congrArg List.length hd;rw [List.length_drop] at this;simp at this;omega
    have hrl:r.length=s.length - (k+1):=by have:=congrArg List.length hd;rw [List.length_drop] at this;simp at this;omega
    have q1:decide ((k:Int)<(s.length:Int))=true:=by rw [decide_eq_true_eq];omega
    obtain ⟨h1,_,hd1'⟩:=cD hd
    have hw:IntKind.i64.wrap ((k:Int)+1)=((k+1:Nat):Int):=by rw [wrap64 (by omega) (by omega)];omega
    have hw2:IntKind.i64.wrap ((a:Int)+(k:Int))=((a+k:Nat):Int):=by rw [wrap64 (by omega) (by omega)];omega
    have pb:=EV c
    rw [hd] at hI
    cases hb:aL c with
    | true =>
      rw [hb] at pb
      rw [qd hb] at hI
      simp only [q1,↓R1,RR,seval,q1,h1,e1,hsl,hw,hw2,hov1,hov2,au]
      repeat' (first|(with_reducible refine And.intro ?_ ?_;focus (intros;(repeat' (with_reducible apply And.intro))<;>first|omega|(simp only [RZ,au];omega)))|((refine Pt (pb) ?_)<;>(try simp only [↓R1,RR,seval,q1,h1,e1,hsl,hw,hw2,hov1,hov2,au])))
      all_goals all_goals first|omega|exact Nat.le_refl _|assumption|exact St.le_refl _|(intros;(repeat' (with_reducible apply And.intro))<;>first|omega|(simp only [RZ,au];omega))|(simp only [az,slot,af,↓R1,RR,seval,q1,h1,e1,hsl,hw,hw2,hov1,hov2,au];(repeat' (with_reducible apply And.intro))<;>first|exact bU (by have:=av;omega)|exact ay _ _ _|exact aq _ _|exact ad (congrArg (AV.tsl _ _) (flat_step (by assumption))))|((repeat (first|exact St.le_refl _|(refine St.aw ?_ (by assumption))|(refine St.aG ?_ (by assumption))));done)|(simp_all;done)|skip
      refine ⟨(k+1,ws),⟨by simp;omega,by simp;omega,by simp only [hd1'];exact hI⟩,?_,St.le_refl _,by simp;omega⟩
      simp [az,slot,af]
    | false =>
      rw [hb] at pb
      by_cases hc:c=35
      · have e1:((c.toNat:Int) == 35)=true:=by rw [hc];rfl
        rw [sC hb hc] at hI
        rw [hI,iR,List.append_nil,oU]
        simp only [q1,↓R1,RR,seval,q1,h1,e1,hsl,hw,hw2,hov1,hov2,au]
        repeat' (first|(with_reducible refine And.intro ?_ ?_;focus (intros;(repeat' (with_reducible apply And.intro))<;>first|omega|(simp only [RZ,au];omega)))|((refine Pt (pb) ?_)<;>(try simp only [↓R1,RR,seval,q1,h1,e1,hsl,hw,hw2,hov1,hov2,au])))
        all_goals all_goals first|omega|exact Nat.le_refl _|assumption|exact St.le_refl _|(intros;(repeat' (with_reducible apply And.intro))<;>first|omega|(simp only [RZ,au];omega))|(simp only [az,slot,af,↓R1,RR,seval,q1,h1,e1,hsl,hw,hw2,hov1,hov2,au];(repeat' (with_reducible apply And.intro))<;>first|exact bU (by have:=av;omega)|exact ay _ _ _|exact aq _ _|exact ad (congrArg (AV.tsl _ _) (flat_step (by assumption))))|((repeat (first|exact St.le_refl _|(refine St.aw ?_ (by assumption))|(refine St.aG ?_ (by assumption))));done)|(simp_all;done)|skip
        all_goals (refine ak ?_ (by first|(simp [aj,rvS];done)|(simp only [aj,rvS,↓R1,RR,seval,q1,h1,e1,hsl,hw,hw2,hov1,hov2,au];try simp)))
        all_goals (simp only [ao,↓R1,RR,seval,q1,h1,e1,hsl,hw,hw2,hov1,hov2,au];(repeat' (first|exact af _|exact bz|exact ay _ _ _|exact aq _ _|exact wkL.nil|exact aa _|refine c9 ?_|refine cR ?_|refine wkL.cons ?_ ?_)))
      · have e1:((c.toNat:Int) == 35)=false:=lM (n:=35) (by omega) hc
        have po:=My c r (by omega)
        have hsl:(s.drop k).take (s.length - k)=c::r:=by rw [hd];exact List.take_of_length_le (by simp;omega)
        cases hwd:cI (c::r) with
        | none =>
          have hn:=yD hwd
          rw [sy hb hc hwd] at hI
          rw [hI,iR,oU]
          generalize lY (c::r)=ov at po hn
          have hov1:(((ov.2.2:Nat):Int) == 0)=true:=by rw [hn];rfl
          have pf:=p98 3 ((a+k:Nat):Int)
          simp only [q1,↓R1,RR,seval,q1,h1,e1,hsl,hw,hw2,hov1,hov2,au]
          repeat' (first|(with_reducible rw [ai])|(with_reducible refine And.intro ?_ ?_;focus (intros;(repeat' (with_reducible apply And.intro))<;>first|omega|(simp only [RZ,au];omega)))|((first|(with_reducible intro β hβ;(try simp only [RB] at hβ);(repeat (obtain ⟨⟨_,_⟩,hβ⟩:=hβ));(try (have hbis:=ah (by assumption) hβ;obtain ⟨_,_⟩:=hbis)))|(refine Pt (pb) ?_)|(refine Pt (po) ?_)|(refine Pt (pf) ?_))<;>(try simp only [↓R1,RR,seval,q1,h1,e1,hsl,hw,hw2,hov1,hov2,au])))
          all_goals all_goals first|omega|exact Nat.le_refl _|assumption|exact St.le_refl _|(intros;(repeat' (with_reducible apply And.intro))<;>first|omega|(simp only [RZ,au];omega))|(simp only [az,slot,af,↓R1,RR,seval,q1,h1,e1,hsl,hw,hw2,hov1,hov2,au];(repeat' (with_reducible apply And.intro))<;>first|exact bU (by have:=av;omega)|exact ay _ _ _|exact aq _ _|exact ad (congrArg (AV.tsl _ _) (flat_step (by assumption))))|((repeat (first|exact St.le_refl _|(refine St.aw ?_ (by assumption))|(refine St.aG ?_ (by assumption))));done)|(simp_all;done)|skip
          all_goals (refine ak ?_ (by first|(simp [aj,rvS];done)|(simp only [aj,rvS,↓R1,RR,seval,q1,h1,e1,hsl,hw,hw2,hov1,hov2,au];try simp)))
          all_goals (simp only [ao,↓R1,RR,seval,q1,h1,e1,hsl,hw,hw2,hov1,hov2,au];(repeat' (first|exact af _|exact bz|exact ay _ _ _|exact aq _ _|exact wkL.nil|exact aa _|refine c9 ?_|refine cR ?_|refine wkL.cons ?_ ?_)))
        | some x =>
          obtain ⟨q,t,r'⟩:=x
          have hn:=yE hwd
          rw [sA hb hc hwd,yF] at hI
          rw [hn] at po
          have hlen:=dS hwd
          have hsuf:=kZ hwd
          have hlc:(c::r).length=s.length - k:=by rw [←hd,List.length_drop]
          generalize hnn:(c::r).length - r'.length=n at po hI
          have hdn:s.drop (k+n)=r':=by
            obtain ⟨p,hp⟩:=hsuf
            rw [←List.drop_drop,hd,←hp,show n=p.length by rw [←hnn,←hp];simp,List.drop_left'];rfl
          have hov1:(((n:Nat):Int) == 0)=false:=by rw [beq_eq_false_iff_ne];omega
          have hov2:IntKind.i64.wrap ((k:Int)+(n:Int))=((k+n:Nat):Int):=by rw [wrap64 (by omega) (by omega)];omega
          simp only at po
          simp only [q1,↓R1,RR,seval,q1,h1,e1,hsl,hw,hw2,hov1,hov2,au]
          repeat' (first|(with_reducible rw [ai])|(with_reducible refine And.intro ?_ ?_;focus (intros;(repeat' (with_reducible apply And.intro))<;>first|omega|(simp only [RZ,au];omega)))|((first|(with_reducible intro β hβ;(try simp only [RB] at hβ);(repeat (obtain ⟨⟨_,_⟩,hβ⟩:=hβ));(try (have hbis:=ah (by assumption) hβ;obtain ⟨_,_⟩:=hbis)))|(refine Pt (pb) ?_)|(refine Pt (po) ?_))<;>(try simp only [↓R1,RR,seval,q1,h1,e1,hsl,hw,hw2,hov1,hov2,au])))
          all_goals all_goals first|omega|exact Nat.le_refl _|assumption|exact St.le_refl _|(intros;(repeat' (with_reducible apply And.intro))<;>first|omega|(simp only [RZ,au];omega))|(simp only [az,slot,af,↓R1,RR,seval,q1,h1,e1,hsl,hw,hw2,hov1,hov2,au];(repeat' (with_reducible apply And.intro))<;>first|exact bU (by have:=av;omega)|exact ay _ _ _|exact aq _ _|exact ad (congrArg (AV.tsl _ _) (flat_step (by assumption))))|((repeat (first|exact St.le_refl _|(refine St.aw ?_ (by assumption))|(refine St.aG ?_ (by assumption))));done)|(simp_all;done)|skip
          refine bD rfl ?_ ?_ ?_ ?_ ?_ ?_
          · simp only [↓R1,RR,seval,q1,h1,e1,hsl,hw,hw2,hov1,hov2,au]
          · simp only [↓R1,RR,seval,q1,h1,e1,hsl,hw,hw2,hov1,hov2,au]
          · rfl
          · unfold maxLen;omega
          · omega
          simp only [↓R1,RR,seval,q1,h1,e1,hsl,hw,hw2,hov1,hov2,au]
          refine ⟨(k+n,ws++ [⟨q,t,a+k⟩]),⟨by simp;omega,by simp;omega,by simp only [hdn];rw [hI,Nat.add_assoc]⟩,?_,?_,by simp;omega⟩
          · simp only [Cf,List.length_append,List.length_singleton];simp [az,slot,af]
          · simp only [List.length_append,List.length_singleton]
            exact kz (St.aw (St.le_refl _) (St.bf.2 ⟨⟨inferInstance,inferInstance⟩,hβ⟩))
def shE (a:Nat):Except Nat (List Wd)→Except Nat (List Wd)
 | .error b=> .error (a+b)
 | .ok ws=> .ok (ws.map (dz a))
theorem Cg (a:Nat) (w:Wd) (e:Except Nat (List Wd)):shE a (jz w e)=jz (dz a w) (shE a e):=by cases e<;>rfl
theorem qe:∀ (n:Nat) (l:List UInt8) (a b:Nat),l.length≤n→b8 l (a+b)=shE a (b8 l b):=by
  intro n
  induction n with
  | zero =>
    intro l a b h
    have:l= []:=List.eq_nil_of_length_eq_zero (by omega)
    subst this;rfl
  | succ n ih =>
    intro l a b h
    have hd:=cz aL l
    rw [c7 l (a+b),c7 l b]
    cases hl:l.dropWhile aL with
    | nil=>rfl
    | cons c r =>
      rw [hl] at hd
      simp only
      by_cases h35:c=35
      · rw [if_pos h35,if_pos h35];rfl
      · rw [if_neg h35,if_neg h35]
        cases hw:cI (c::r) with
        | none=>simp only [shE,Nat.add_assoc]
        | some q =>
          obtain ⟨q,t,r'⟩:=q
          have hlen:=dS hw
          simp only
          rw [show a+b+(l.length - r'.length)=a+(b+(l.length - r'.length)) by omega,Nat.add_assoc,ih r' a _ (by omega),Cg]
          congr 1
          simp only [dz]
          congr 1
          omega
theorem yG (l:List UInt8) (a:Nat):b8 l a=shE a (cL l):=by
 have:=qe l.length l a 0 (Nat.le_refl _)
 rwa [Nat.add_zero] at this
theorem uR (s:List UInt8) (k m:Nat) (hm:m=(ba (s.drop k)).length) (a:Nat):cJ (lines (s.drop k)) a=dM (ca (ba (s.drop k)) a) (cJ (lines (s.drop (k+m+1))) (a+m+1)):=by
  have hla:=eR (s.drop k)
  have hdr:(s.drop k).drop m=cj (s.drop k):=by
    have e:(s.drop k).drop m=(ba (s.drop k)++cj (s.drop k)).drop m:=by rw [hla]
    rw [e,hm,List.drop_left'];rfl
  rw [List.drop_drop] at hdr
  rw [mW (s.drop k)]
  cases ha:cj (s.drop k) with
  | nil =>
    rw [ha,List.append_nil] at hla
    have:s.drop (k+m+1)= []:=by
      rw [←List.drop_drop,hdr,ha];rfl
    rw [this]
    simp only [cJ,hla]
    have e:cJ (lines []) (a+m+1)= .ok []:=by simp [lines,cJ,ca,cL,b8,iS,dM]
    rw [e]
  | cons c r =>
    have:s.drop (k+m+1)=r:=by rw [←List.drop_drop,hdr,ha];rfl
    rw [this]
    simp only [cJ,hm]
theorem EY {s:List UInt8} {k:Nat} (hk:k≤(ba s).length):(k<(ba s).length↔∃ c,s[k]? =some c∧(c != 10)=true):=by
  unfold ba at *
  induction s generalizing k with
  | nil=>simp
  | cons c s ih =>
    cases hc:(c != 10) with
    | false =>
      simp only [List.takeWhile_cons,hc] at hk ⊢
      simp at hk;subst hk
      simp at hc
      simp [hc]
    | true =>
      simp only [List.takeWhile_cons,hc,if_true,List.length_cons] at hk ⊢
      cases k with
      | zero=>simp at hc;simp [hc]
      | succ k=>simp only [List.getElem?_cons_succ];rw [←ih (by omega)];omega
theorem sD (s:List UInt8):s.take (ba s).length=ba s:=by
 have h:=eR s
 have:s.take (ba s).length=(ba s++cj s).take (ba s).length:=by rw [h]
 rw [this,List.take_left'];rfl
theorem yH (s:List UInt8):(ba s).length≤s.length:=(List.takeWhile_prefix _).length_le
theorem yI (a:Nat):cJ (lines []) a= .ok []:=by simp [lines,cJ,ca,cL,b8,iS,dM]
theorem uS {p q:List Rw} {x:Except (Nat × Nat) (List Rw)}:dM (.ok p) (dM (.ok q) x)=dM (.ok (p++q)) x:=by rw [←lB];rfl
theorem Ch (rs:List Rw) (a:Nat) (ws:List Wd):(rs++ [Rw.mk a ws]).flatMap cRw=rs.flatMap cRw++ [.int .i64 (a:Nat), .sl false ws.length (ws.flatMap cWd)]:=by simp [cRw]
set_option maxHeartbeats 4000000 in
theorem p45 (s:List UInt8) (hs:s.length≤800000):Pu Tryz.prog 45 [.str s] (eI (dt s)):=by
  have q1:True:=trivial
  have q2:True:=trivial
  have q3:True:=trivial
  have q4:True:=trivial
  have h1:True:=trivial
  have hsl:True:=trivial
  have hw:True:=trivial
  have hw2:True:=trivial
  have hn0:True:=trivial
  by_cases hmax:20000<s.length
  · have q1:decide ((20000:Int)<(s.length:Int))=true:=by rw [decide_eq_true_eq];omega
    have pf:=p98 4 20000
    have e:dt s= .error (4,20000):=if_pos hmax
    rw [e,eI,dA]
    (refine an c45 b45 fun σ=>?_;simp only [c45,↓R1,RR,seval,q1,q2,q3,q4,h1,hsl,hw,hw2,hn0,au])
    repeat' (first|(with_reducible rw [ai])|((first|(with_reducible intro β hβ;(try simp only [RB] at hβ);(repeat (obtain ⟨⟨_,_⟩,hβ⟩:=hβ));(try (have hbis:=ah (by assumption) hβ;obtain ⟨_,_⟩:=hbis)))|(refine Pt (pf) ?_))<;>(try simp only [↓R1,RR,seval,q1,q2,q3,q4,h1,hsl,hw,hw2,hn0,au])))
    all_goals all_goals first|omega|exact Nat.le_refl _|assumption|exact St.le_refl _|(intros;(repeat' (with_reducible apply And.intro))<;>first|omega|(simp only [RZ,au,bN];omega))|(simp only [az,slot,af,↓R1,RR,seval,q1,q2,q3,q4,h1,hsl,hw,hw2,hn0,au];(repeat' (with_reducible apply And.intro))<;>first|exact bU (by have:=av;omega)|exact ay _ _ _|exact aq _ _|exact ad (congrArg (AV.tsl _ _) (flat_step (by assumption))))|((repeat (first|exact St.le_refl _|(refine St.aw ?_ (by assumption))|(refine St.aG ?_ (by assumption))));done)|(simp_all;done)|skip
    all_goals (refine ak ?_ (by first|(simp [aj,rvS];done)|(simp only [aj,rvS,↓R1,RR,seval,q1,q2,q3,q4,h1,hsl,hw,hw2,hn0,au];try simp)))
    all_goals (simp only [ao,↓R1,RR,seval,q1,q2,q3,q4,h1,hsl,hw,hw2,hn0,au];(repeat' (first|exact af _|exact bz|exact ay _ _ _|exact aq _ _|exact wkL.nil|exact aa _|refine c9 ?_|refine cR ?_|refine wkL.cons ?_ ?_)))
  · have q1:decide ((20000:Int)<(s.length:Int))=false:=by rw [decide_eq_false_iff_not];omega
    have e0:dt s=cJ (lines (s.drop 0)) 0:=by rw [dt,if_neg hmax];rfl
    (refine an c45 b45 fun σ=>?_;simp only [c45,↓R1,RR,seval,q1,q2,q3,q4,h1,hsl,hw,hw2,hn0,au])
    rw [ai];intro β hβ;simp only [↓R1,RR,seval,q1,q2,q3,q4,h1,hsl,hw,hw2,hn0,au]
    refine gF (α:=Nat × List Rw) 4 80 2 0 [] (fun τ x=> [(0, .str s),(3, .ptr β 0),(4, .tsl τ x.2.length (x.2.flatMap cRw)),(5, .int .i64 (x.1:Nat))]) (fun τ x=>(σ.ae β [.int .i64 0, .int .i64 0]).al τ (80,2,x.2.length))
      (fun x=>x.1≤s.length+1∧x.2.length≤x.1∧dt s=dM (.ok x.2) (cJ (lines (s.drop x.1)) x.1)) (fun x=>s.length+1 - x.1) (0,[]) trivial rfl ⟨by simp,by simp,by rw [e0,k7]⟩ (fun τ hτ=>by simp [az,slot,af]) (fun τ hτ=>St.le_refl _) ?_
    rintro τ hτ ⟨k,rs⟩ ⟨hk,hkr,hI⟩
    simp only at hk hkr hI ⊢
    by_cases hlt:k<s.length
    · have q2:decide ((k:Int)<(s.length:Int))=true:=by rw [decide_eq_true_eq];omega
      generalize hm:(ba (s.drop k)).length=m
      have hml:m≤s.length - k:=by rw [←hm,←List.length_drop];exact yH _
      rw [uR s k m hm.symm] at hI
      have htk:=sD (s.drop k)
      rw [hm] at htk
      simp only [q2,↓R1,RR,seval,q1,q2,q3,q4,h1,hsl,hw,hw2,hn0,au]
      refine bK m (fun j=> [(0, .str s),(3, .ptr β 0),(4, .tsl τ rs.length (rs.flatMap cRw)),(5, .int .i64 (k:Nat)),(6, .int .i64 ((k+j:Nat):Int))]) (fun _=>(σ.ae β [.int .i64 0, .int .i64 0]).al τ (80,2,rs.length)) (fun _=>True) (by simp [az,slot,af]) (St.le_refl _) trivial (fun j hj _=>?_)
      have hst:=EY (s:=s.drop k) (k:=j) (by rw [hm];exact hj)
      rw [hm,List.getElem?_drop] at hst
      by_cases hjl:j<m
      · obtain ⟨d,h1,hd10⟩:=hst.1 hjl
        have q1:decide (((k+j:Nat):Int)<(s.length:Int))=true:=by rw [decide_eq_true_eq];omega
        have q3:((d.toNat:Int) != 10)=true:=by
          have:((d.toNat:Int) == 10)=false:=lM (n:=10) (by omega) (by simpa using hd10)
          rw [bne,this];rfl
        have hw:IntKind.i64.wrap (((k+j:Nat):Int)+1)=((k+j+1:Nat):Int):=by rw [wrap64 (by omega) (by omega)];omega
        simp only [q1,↓R1,RR,seval,q1,q2,q3,q4,h1,hsl,hw,hw2,hn0,au]
        repeat' (first|(with_reducible refine And.intro ?_ ?_;focus (intros;(repeat' (with_reducible apply And.intro))<;>first|omega|(simp only [RZ,au,bN];omega)))|(with_reducible apply And.intro))
        all_goals all_goals first|omega|exact Nat.le_refl _|assumption|exact St.le_refl _|(intros;(repeat' (with_reducible apply And.intro))<;>first|omega|(simp only [RZ,au,bN];omega))|(simp only [az,slot,af,↓R1,RR,seval,q1,q2,q3,q4,h1,hsl,hw,hw2,hn0,au];(repeat' (with_reducible apply And.intro))<;>first|exact bU (by have:=av;omega)|exact ay _ _ _|exact aq _ _|exact ad (congrArg (AV.tsl _ _) (flat_step (by assumption))))|((repeat (first|exact St.le_refl _|(refine St.aw ?_ (by assumption))|(refine St.aG ?_ (by assumption))));done)|(simp_all;done)|skip
        all_goals first|(simp [az,slot,af];done)|(simp [az,slot,af];exact ad (by congr 1))|(exact St.le_refl _)
      · have hje:j=m:=by omega
        subst hje
        have hx:(ba (s.drop k)).length=j:=hm
        generalize hX:ba (s.drop k)=x at hI htk hx
        have hab:(decide (((k+j:Nat):Int)<(s.length:Int))=true∧∃ d,s[k+j]? =some d∧((d.toNat:Int) != 10)=false)∨decide (((k+j:Nat):Int)<(s.length:Int))=false:=by
          by_cases hlj:k+j<s.length
          · refine .inl ⟨by rw [decide_eq_true_eq];omega,_,List.getElem?_eq_getElem hlj,?_⟩
            cases hd:(s[k+j] != 10) with
            | true=>exact (hjl (hst.2 ⟨_,List.getElem?_eq_getElem hlj,hd⟩)).elim
            | false =>
              have:s[k+j]=10:=by simpa using hd
              rw [this];rfl
          · exact .inr (by rw [decide_eq_false_iff_not];omega)
        have hw:IntKind.i64.wrap (((k+j:Nat):Int) - (k:Int))=(j:Nat):=by rw [wrap64 (by omega) (by omega)];omega
        have hw2:IntKind.i64.wrap (((k+j:Nat):Int)+1)=((k+j+1:Nat):Int):=by rw [wrap64 (by omega) (by omega)];omega
        by_cases hbig:1000<j
        · have q4:decide ((1000:Int)<(j:Int))=true:=by rw [decide_eq_true_eq];omega
          have pf:=p98 4 (k:Nat)
          have e:dt s= .error (4,k):=by rw [hI,ca,if_pos (by omega)];rfl
          rw [e,eI,dA]
          rcases hab with ⟨q1,d,h1,q3⟩|q1
          all_goals
            simp only [q1,↓R1,RR,seval,q1,q2,q3,q4,h1,hsl,hw,hw2,hn0,au]
            repeat' (first|(with_reducible refine And.intro ?_ ?_;focus (intros;(repeat' (with_reducible apply And.intro))<;>first|omega|(simp only [RZ,au,bN];omega)))|(with_reducible apply And.intro)|((refine Pt (pf) ?_)<;>(try simp only [↓R1,RR,seval,q1,q2,q3,q4,h1,hsl,hw,hw2,hn0,au])))
            all_goals all_goals first|omega|exact Nat.le_refl _|assumption|exact St.le_refl _|(intros;(repeat' (with_reducible apply And.intro))<;>first|omega|(simp only [RZ,au,bN];omega))|(simp only [az,slot,af,↓R1,RR,seval,q1,q2,q3,q4,h1,hsl,hw,hw2,hn0,au];(repeat' (with_reducible apply And.intro))<;>first|exact bU (by have:=av;omega)|exact ay _ _ _|exact aq _ _|exact ad (congrArg (AV.tsl _ _) (flat_step (by assumption))))|((repeat (first|exact St.le_refl _|(refine St.aw ?_ (by assumption))|(refine St.aG ?_ (by assumption))));done)|(simp_all;done)|skip
            all_goals (refine ak ?_ (by first|(simp [aj,rvS];done)|(simp only [aj,rvS,↓R1,RR,seval,q1,q2,q3,q4,h1,hsl,hw,hw2,hn0,au];try simp)))
            all_goals (simp only [ao,↓R1,RR,seval,q1,q2,q3,q4,h1,hsl,hw,hw2,hn0,au];(repeat' (first|exact af _|exact bz|exact ay _ _ _|exact aq _ _|exact wkL.nil|exact aa _|refine c9 ?_|refine cR ?_|refine wkL.cons ?_ ?_)))
        · have q4:decide ((1000:Int)<(j:Int))=false:=by rw [decide_eq_false_iff_not];omega
          have pl:=p99 x k (by omega) (by omega)
          have hsl:(s.drop k).take (k+j - k)=x:=by rw [Nat.add_sub_cancel_left];exact htk
          rw [yG] at pl
          cases hwx:cL x with
          | error b =>
            rw [hwx,shE,oU] at pl
            have e:dt s= .error (3,k+b):=by rw [hI,ca,if_neg (by omega),hwx];rfl
            rw [e,eI,dA]
            rcases hab with ⟨q1,d,h1,q3⟩|q1
            all_goals
              simp only [q1,↓R1,RR,seval,q1,q2,q3,q4,h1,hsl,hw,hw2,hn0,au]
              repeat' (first|(with_reducible rw [ai])|(with_reducible refine And.intro ?_ ?_;focus (intros;(repeat' (with_reducible apply And.intro))<;>first|omega|(simp only [RZ,au,bN];omega)))|(with_reducible apply And.intro)|((first|(with_reducible intro β hβ;(try simp only [RB] at hβ);(repeat (obtain ⟨⟨_,_⟩,hβ⟩:=hβ));(try (have hbis:=ah (by assumption) hβ;obtain ⟨_,_⟩:=hbis)))|(refine Pt (pl) ?_))<;>(try simp only [↓R1,RR,seval,q1,q2,q3,q4,h1,hsl,hw,hw2,hn0,au])))
              all_goals all_goals first|omega|exact Nat.le_refl _|assumption|exact St.le_refl _|(intros;(repeat' (with_reducible apply And.intro))<;>first|omega|(simp only [RZ,au,bN];omega))|(simp only [az,slot,af,↓R1,RR,seval,q1,q2,q3,q4,h1,hsl,hw,hw2,hn0,au];(repeat' (with_reducible apply And.intro))<;>first|exact bU (by have:=av;omega)|exact ay _ _ _|exact aq _ _|exact ad (congrArg (AV.tsl _ _) (flat_step (by assumption))))|((repeat (first|exact St.le_refl _|(refine St.aw ?_ (by assumption))|(refine St.aG ?_ (by assumption))));done)|(simp_all;done)|skip
              all_goals (refine ak ?_ (by first|(simp [aj,rvS];done)|(simp only [aj,rvS,↓R1,RR,seval,q1,q2,q3,q4,h1,hsl,hw,hw2,hn0,au];try simp)))
              all_goals (simp only [ao,↓R1,RR,seval,q1,q2,q3,q4,h1,hsl,hw,hw2,hn0,au];(repeat' (first|exact af _|exact bz|exact ay _ _ _|exact aq _ _|exact wkL.nil|exact aa _|refine c9 ?_|refine cR ?_|refine wkL.cons ?_ ?_)))
          | ok ws =>
            rw [hwx,shE,oU] at pl
            cases ws with
            | nil =>
              rw [ca,if_neg (by omega),hwx,k7] at hI
              simp only [List.map_nil,List.flatMap_nil] at pl
              rcases hab with ⟨q1,d,h1,q3⟩|q1
              all_goals
                simp only [q1,↓R1,RR,seval,q1,q2,q3,q4,h1,hsl,hw,hw2,hn0,au]
                repeat' (first|(with_reducible rw [ai])|(with_reducible refine And.intro ?_ ?_;focus (intros;(repeat' (with_reducible apply And.intro))<;>first|omega|(simp only [RZ,au,bN];omega)))|(with_reducible apply And.intro)|((first|(with_reducible intro β hβ;(try simp only [RB] at hβ);(repeat (obtain ⟨⟨_,_⟩,hβ⟩:=hβ));(try (have hbis:=ah (by assumption) hβ;obtain ⟨_,_⟩:=hbis)))|(refine Pt (pl) ?_))<;>(try simp only [↓R1,RR,seval,q1,q2,q3,q4,h1,hsl,hw,hw2,hn0,au])))
                all_goals all_goals first|omega|exact Nat.le_refl _|assumption|exact St.le_refl _|(intros;(repeat' (with_reducible apply And.intro))<;>first|omega|(simp only [RZ,au,bN];omega))|(simp only [az,slot,af,↓R1,RR,seval,q1,q2,q3,q4,h1,hsl,hw,hw2,hn0,au];(repeat' (with_reducible apply And.intro))<;>first|exact bU (by have:=av;omega)|exact ay _ _ _|exact aq _ _|exact ad (congrArg (AV.tsl _ _) (flat_step (by assumption))))|((repeat (first|exact St.le_refl _|(refine St.aw ?_ (by assumption))|(refine St.aG ?_ (by assumption))));done)|(simp_all;done)|skip
                refine ⟨(k+j+1,rs),⟨by simp only;omega,by simp only;omega,by simp only;exact hI⟩,by simp [az,slot,af],kz (St.aw (St.le_refl _) (St.bf.2 ⟨⟨inferInstance,inferInstance⟩,hβ⟩)),by simp only;omega⟩
            | cons w ws =>
              rw [ca,if_neg (by omega),hwx] at hI
              simp only at hI
              rw [uS] at hI
              generalize hY:(w::ws).map (dz k)=y at pl hI
              have hyl:0<y.length:=by rw [←hY];simp
              have hn0:decide ((0:Int)<(y.length:Int))=true:=by rw [decide_eq_true_eq];omega
              rcases hab with ⟨q1,d,h1,q3⟩|q1
              all_goals
                simp only [q1,↓R1,RR,seval,q1,q2,q3,q4,h1,hsl,hw,hw2,hn0,au]
                repeat' (first|(with_reducible rw [ai])|(with_reducible refine And.intro ?_ ?_;focus (intros;(repeat' (with_reducible apply And.intro))<;>first|omega|(simp only [RZ,au,bN];omega)))|(with_reducible apply And.intro)|((first|(with_reducible intro β hβ;(try simp only [RB] at hβ);(repeat (obtain ⟨⟨_,_⟩,hβ⟩:=hβ));(try (have hbis:=ah (by assumption) hβ;obtain ⟨_,_⟩:=hbis)))|(refine Pt (pl) ?_))<;>(try simp only [↓R1,RR,seval,q1,q2,q3,q4,h1,hsl,hw,hw2,hn0,au])))
                all_goals all_goals first|omega|exact Nat.le_refl _|assumption|exact St.le_refl _|(intros;(repeat' (with_reducible apply And.intro))<;>first|omega|(simp only [RZ,au,bN];omega))|(simp only [az,slot,af,↓R1,RR,seval,q1,q2,q3,q4,h1,hsl,hw,hw2,hn0,au];(repeat' (with_reducible apply And.intro))<;>first|exact bU (by have:=av;omega)|exact ay _ _ _|exact aq _ _|exact ad (congrArg (AV.tsl _ _) (flat_step (by assumption))))|((repeat (first|exact St.le_refl _|(refine St.aw ?_ (by assumption))|(refine St.aG ?_ (by assumption))));done)|(simp_all;done)|skip
                refine bD rfl ?_ ?_ ?_ ?_ ?_ ?_
                · simp only [↓R1,RR,seval,q1,q2,q3,q4,h1,hsl,hw,hw2,hn0,au]
                · simp only [bN]
                · rfl
                · unfold maxLen;omega
                · omega
                simp only [↓R1,RR,seval,q1,q2,q3,q4,h1,hsl,hw,hw2,hn0,au]
                skip
                all_goals all_goals first|omega|exact Nat.le_refl _|assumption|exact St.le_refl _|(intros;(repeat' (with_reducible apply And.intro))<;>first|omega|(simp only [RZ,au,bN];omega))|(simp only [az,slot,af,↓R1,RR,seval,q1,q2,q3,q4,h1,hsl,hw,hw2,hn0,au];(repeat' (with_reducible apply And.intro))<;>first|exact bU (by have:=av;omega)|exact ay _ _ _|exact aq _ _|exact ad (congrArg (AV.tsl _ _) (flat_step (by assumption))))|((repeat (first|exact St.le_refl _|(refine St.aw ?_ (by assumption))|(refine St.aG ?_ (by assumption))));done)|(simp_all;done)|skip
                refine ⟨(k+j+1,rs++ [⟨k,y⟩]),⟨by simp only;omega,by simp;omega,by simp only;exact hI⟩,?_,?_,by simp only;omega⟩
                · simp only [Ch,List.length_append,List.length_singleton];simp [az,slot,af]
                · simp only [List.length_append,List.length_singleton]
                  exact kz (St.aw (St.le_refl _) (St.bf.2 ⟨⟨inferInstance,inferInstance⟩,hβ⟩))
    · have q2:decide ((k:Int)<(s.length:Int))=false:=by rw [decide_eq_false_iff_not];omega
      have hdn:s.drop k= []:=List.drop_eq_nil_of_le (by omega)
      rw [hdn,yI,kg] at hI
      rw [hI,eI,dA]
      simp only [q2,↓R1,RR,seval,q1,q2,q3,q4,h1,hsl,hw,hw2,hn0,au]
      skip
      all_goals all_goals first|omega|exact Nat.le_refl _|assumption|exact St.le_refl _|(intros;(repeat' (with_reducible apply And.intro))<;>first|omega|(simp only [RZ,au,bN];omega))|(simp only [az,slot,af,↓R1,RR,seval,q1,q2,q3,q4,h1,hsl,hw,hw2,hn0,au];(repeat' (with_reducible apply And.intro))<;>first|exact bU (by have:=av;omega)|exact ay _ _ _|exact aq _ _|exact ad (congrArg (AV.tsl _ _) (flat_step (by assumption))))|((repeat (first|exact St.le_refl _|(refine St.aw ?_ (by assumption))|(refine St.aG ?_ (by assumption))));done)|(simp_all;done)|skip
      all_goals (refine ak ?_ (by first|(simp [aj,rvS];done)|(simp only [aj,rvS,↓R1,RR,seval,q1,q2,q3,q4,h1,hsl,hw,hw2,hn0,au];try simp)))
      all_goals (simp only [ao,↓R1,RR,seval,q1,q2,q3,q4,h1,hsl,hw,hw2,hn0,au];(repeat' (first|exact af _|exact bz|exact ay _ _ _|exact aq _ _|exact wkL.nil|exact aa _|refine c9 ?_|refine cR ?_|refine wkL.cons ?_ ?_)))
end Go.Proofs.YtgephffbfiemeaaGreatDoor
