/- Part 30 of the proof of ScriptBoths: an abstract semantics that is proved sound for the model, contracts of functions in it, and plain facts (X20 X21 X22 X23 X24 X25 X26 X27 X28 X29 Y10 Y11 Y12 A40 A40c). No condition. -/
import Derived.Test.YtgephffbfiemeaaGreatDoorKScriptBoths29
set_option linter.all false
namespace Go.Proofs.YtgephffbfiemeaaGreatDoor
open Go.Abs Go.Lib
set_option linter.all false
set_option maxRecDepth 100000
theorem yM {W:List (List (List UInt8))} (h:∀ ws∈W,RowOk ws):(W.map rowT).flatten.length≤700*W.length:=by
  induction W with
  | nil=>simp
  | cons x W ih =>
    have h1:=(h x M1).len
    have h2:=ih (fun y hy=>h y (by simp [hy]))
    simp only [List.map_cons,List.flatten_cons,List.length_append,List.length_cons];omega
theorem kR {α:Type} {f:α→List (List UInt8)} {l:List α} {k:Nat} {x:α} (A:List (List (List UInt8))) (h:l[k]? =some x):((A++(l.take k).map f).map rowT).flatten++rowT (f x)=((A++(l.take (k+1)).map f).map rowT).flatten:=by
 obtain ⟨h1,h2⟩:=List.getElem?_eq_some_iff.1 h
 rw [←List.take_append_getElem h1,h2]
 simp
theorem nC {α:Type} {f:α→List (List UInt8)} {A:List (List (List UInt8))} {l:List α} (hA:∀ ws∈A,RowOk ws) (hl:∀ x∈l,RowOk (f x)) (hn:A.length+l.length≤28) (k:Nat):((A++(l.take k).map f).map rowT).flatten.length≤20000:=by
 have h:=yM (W:=A++(l.take k).map f) (fun ws hw=>by
  rcases List.mem_append.1 hw with hw|hw
  ·exact hA ws hw
  ·obtain ⟨x,hx,rfl⟩:=List.mem_map.1 hw
   exact hl x (List.mem_of_mem_take hx))
 rw [List.length_append,List.length_map,List.length_take] at h
 omega
theorem _root_.N9 {p:Prop} (h:p:=by have:=hF.hor;omega):p:=h
theorem _root_.NW {p:Prop} (h:p:=by simp only [jB,List.mem_cons,List.mem_append,List.mem_map];exact .inr (.inl (.inl ⟨x,hx,rfl⟩))):p:=h
theorem _root_.NV {p:Prop} (h:p:=by simp only [jB,List.mem_cons,List.mem_append,List.mem_map];exact .inr (.inl (.inr ⟨x,hx,rfl⟩))):p:=h
theorem _root_.NY {p:Prop} (h:p:=by simp only [jB,List.mem_cons,List.mem_append,List.mem_map];exact .inr (.inr ⟨x,hx,rfl⟩)):p:=h
theorem _root_.Og {p:Prop} (h:p:=by subst hO2 hO3;simp only;rw [List.take_of_length_le (by omega)];simp):p:=h
theorem _root_.Nh {p:Prop} (h:p:=by simp only [↓R1,RR,seval,q1,he,hw,hcl,hca,hc0,h31,h32,hln,l32,hany]):p:=h
set_option maxHeartbeats 8000000 in
theorem p18 {c:CfgI} (ck:CfgOk c) (h64:Cfg64 c):PuG Tryz.prog gl3 18 [.agg (bh c)] (kg c):=by
  have hcl:=du ck
  have hca:=eQ ck
  have hc0:=lC c
  have h31:=jw ck
  have h32:=kO ck
  have q1:True:=trivial
  have he:True:=trivial
  have hw:True:=trivial
  have hln:True:=trivial
  have hany:True:=trivial
  have l32:32<(bh c).length:=NT
  have hck:=p48 ck
  unfold nX at hck
  by_cases hz:(dv c).1=0
  · have hF:=nx hz
    obtain ⟨hr,hrl⟩:=nB ck hF h64
    have n1:=hF.ncls
    have n2:=hF.nrul
    have h6:=ck.six
    have hhn:((c.hor.toNat:Nat):Int)=c.hor:=N9
    have h50:=p50 c.hor.toNat N9
    rw [hhn] at h50
    have q1:((dv c).1 != 0)=false:=by rw [hz];rfl
    rw [kg,if_pos hz]
    (refine aR c18 b18 fun σ hσ=>?_;simp only [c18,↓R1,RR,seval,q1,he,hw,hcl,hca,hc0,h31,h32,hln,l32,hany])
    repeat' ((first|(with_reducible intro β hβ;(try simp only [RB] at hβ);(repeat (obtain ⟨⟨_,_⟩,hβ⟩:=hβ));(try (have hbis:=ah M0 hβ;obtain ⟨_,_⟩:=hbis)))|(refine Pt (hck) ?_)|(refine PuG.to (h50) hσ (ad _) ?_)|((refine AC.mono (AC.wk (a49 (out:= []) (l:=fC c) ?_ (l7 hF) Na) (ad _)) ?_;(focus (simp only [↓R1,RR,seval,q1,he,hw,hcl,hca,hc0,h31,h32,hln,l32,hany];done));(rintro _ _ ⟨rfl,rfl⟩))))<;>(try simp only [↓R1,RR,seval,q1,he,hw,hcl,hca,hc0,h31,h32,hln,l32,hany]))
    rename_i B hB aB1 aB2
    have rc:∀ x∈c.cls,RowOk (fR x):=fun x hx=>hr _ NW
    have rt:∀ x∈c.tens,RowOk (gV x):=fun x hx=>hr _ NV
    have rr:∀ x∈c.ruls,RowOk (fE x):=fun x hx=>hr _ NY
    have r1:∀ ws∈ [fC c],RowOk ws:=fun ws h=>by rw [List.mem_singleton.1 h];exact l7 hF
    have r2:∀ ws∈ [fC c]++c.cls.map fR,RowOk ws:=fun ws h=>by
      rcases List.mem_append.1 h with h|h
      · exact r1 ws h
      · obtain ⟨x,hx,rfl⟩:=List.mem_map.1 h;exact rc x hx
    have r3:∀ ws∈([fC c]++c.cls.map fR)++c.tens.map gV,RowOk ws:=fun ws h=>by
      rcases List.mem_append.1 h with h|h
      · exact r2 ws h
      · obtain ⟨x,hx,rfl⟩:=List.mem_map.1 h;exact rt x hx
    obtain ⟨O1,hO1⟩:∃ O1:Nat→List UInt8,O1=fun k=>(([fC c]++(c.cls.take k).map fR).map rowT).flatten:=⟨_,rfl⟩
    obtain ⟨O2,hO2⟩:∃ O2:Nat→List UInt8,O2=fun k=>((([fC c]++c.cls.map fR)++(c.tens.take k).map gV).map rowT).flatten:=⟨_,rfl⟩
    obtain ⟨O3,hO3⟩:∃ O3:Nat→List UInt8,O3=fun k=>(((([fC c]++c.cls.map fR)++c.tens.map gV)++(c.ruls.take k).map fE).map rowT).flatten:=⟨_,rfl⟩
    have z1:([]++rowT (fC c):List UInt8)=O1 0:=by subst hO1;simp
    have z2:O1 c.cls.length=O2 0:=by subst hO1 hO2;simp
    have z3:O2 6=O3 0:=Og
    have z4:O3 c.ruls.length=yL c:=by subst hO3;simp [yL,jB]
    have yC:∀ k,(O1 k).length≤20000:=fun k=>by subst hO1;exact nC r1 rc Ng k
    have len2:∀ k,(O2 k).length≤20000:=fun k=>by subst hO2;exact nC r2 rt Ng k
    have len3:∀ k,(O3 k).length≤20000:=fun k=>by subst hO3;exact nC r3 rr Ng k
    refine aQ c.cls.length (fun k=> [(1, .ptr B 0),(6, .ptr β 0),(31, .sl false c.cls.length (c.cls.flatMap cm)),(32, .int .i64 (c.cls.length:Nat)),(33, .int .i64 (k:Nat))]) (fun k=>(σ.aa B (bh c)).aa β [.str (O1 k), .int .i64 0]) (fun _=>True) M8 (by rw [z1,St.set_set];exact St.le_refl _) trivial (fun k hk _=>?_)
    by_cases hlt:k<c.cls.length
    · obtain ⟨x,hx⟩:∃ x,c.cls[k]? =some x:=⟨_,List.getElem?_eq_getElem hlt⟩
      have he:=cJ (f:=cm) (m:=3) (fun _=>rfl) hx
      have hln:=kb c.cls
      simp only [cm] at he
      have q1:decide ((k:Int)<(c.cls.length:Int))=true:=M3
      have hw:IntKind.i64.wrap ((k:Int)+1)=((k+1:Nat):Int):=MZ
      have hfx:=ny hF.cls hx
      have d1:=PuG.up3 (p51 (lab x.l))
      rw [dt (ck.lcls x (List.mem_of_getElem? hx))] at d1
      have d2:=p52 x.size Nl
      have d3:=p52 x.rate Nl
      have o1:O1 k++rowT (fR x)=O1 (k+1):=by subst hO1;exact kR [fC c] hx
      simp only [q1,↓R1,RR,seval,q1,he,hw,hcl,hca,hc0,h31,h32,hln,l32,hany]
      repeat' (first|(with_reducible rw [ai])|(with_reducible refine And.intro ?_ ?_;exact af)|(with_reducible apply And.intro)|((first|(with_reducible intro β hβ;(try simp only [RB] at hβ);(repeat (obtain ⟨⟨_,_⟩,hβ⟩:=hβ));(try (have hbis:=ah M0 hβ;obtain ⟨_,_⟩:=hbis)))|(refine a7 (d1) hσ (ad _) ?_)|(refine a7 (d2) hσ (ad _) ?_)|(refine a7 (d3) hσ (ad _) ?_)|(refine eJ (d:= [.str (O1 k), .int .i64 0]) Nh (a49 (out:=O1 k) (l:=fR x) Nh (qx hfx) (yC k)) (ad _) ?_))<;>(try simp only [↓R1,RR,seval,q1,he,hw,hcl,hca,hc0,h31,h32,hln,l32,hany])))
      · simp [av,slot,ae]
      · rw [o1]
        (refine St.aO (St.le_refl _) ?_;simp only [St.cv];assumption)
    have hke:k=c.cls.length:=MX
    subst hke
    have q1:decide ((c.cls.length:Int)<(c.cls.length:Int))=false:=M1
    have hc1:=FJ ck
    have l31:1+30≤33:=Na
    simp only [q1,hc1,l31,↓R1,RR,seval,q1,he,hw,hcl,hca,hc0,h31,h32,hln,l32,hany]
    skip
    refine aQ 6 (fun k=> [(1, .ptr B 0),(6, .ptr β 0),(51, .agg (c.tens.flatMap eZ)),(52, .int .i64 (k:Nat))]) (fun k=>(σ.aa B (bh c)).aa β [.str (O2 k), .int .i64 0]) (fun _=>True) M8 (by rw [z2];exact St.le_refl _) trivial (fun k hk _=>?_)
    by_cases hlt:k<6
    · obtain ⟨x,hx⟩:∃ x,c.tens[k]? =some x:=⟨_,List.getElem?_eq_getElem MX⟩
      have he:=cJ (f:=eZ) (m:=5) (fun _=>rfl) hx
      have hln:=cZ c.tens
      rw [h6] at hln
      simp only [eZ] at he
      have q1:decide ((k:Int)<6)=true:=M3
      have hw:IntKind.i64.wrap ((k:Int)+1)=((k+1:Nat):Int):=MZ
      have hfx:=nz (hF.ten x (List.mem_of_getElem? hx))
      have d1:=p52 x.budget Nl
      have d2:=p52 x.queries Nl
      have d3:=p52 x.cap Nl
      have d4:=p52 x.out Nl
      have d5:=p52 x.audit Nl
      have o1:O2 k++rowT (gV x)=O2 (k+1):=by subst hO2;exact kR _ hx
      simp only [q1,↓R1,RR,seval,q1,he,hw,hcl,hca,hc0,h31,h32,hln,l32,hany]
      repeat' (first|(with_reducible rw [ai])|(with_reducible refine And.intro ?_ ?_;exact af)|(with_reducible apply And.intro)|((first|(with_reducible intro β hβ;(try simp only [RB] at hβ);(repeat (obtain ⟨⟨_,_⟩,hβ⟩:=hβ));(try (have hbis:=ah M0 hβ;obtain ⟨_,_⟩:=hbis)))|(refine a7 (d1) hσ (ad _) ?_)|(refine a7 (d2) hσ (ad _) ?_)|(refine a7 (d3) hσ (ad _) ?_)|(refine a7 (d4) hσ (ad _) ?_)|(refine a7 (d5) hσ (ad _) ?_)|(refine eJ (d:= [.str (O2 k), .int .i64 0]) Nh (a49 (out:=O2 k) (l:=gV x) Nh (qy hfx) (len2 k)) (ad _) ?_))<;>(try simp only [↓R1,RR,seval,q1,he,hw,hcl,hca,hc0,h31,h32,hln,l32,hany])))
      · simp [av,slot,ae]
      · rw [o1]
        (refine St.aO (St.le_refl _) ?_;simp only [St.cv];assumption)
    have hke:k=6:=MX
    subst hke
    have q1:decide (((6:Nat):Int)<6)=false:=Na
    have l31:31<33:=Na
    simp only [q1,l31,↓R1,RR,seval,q1,he,hw,hcl,hca,hc0,h31,h32,hln,l32,hany]
    skip
    refine aQ c.ruls.length (fun k=> [(6, .ptr β 0),(75, .sl false c.ruls.length (c.ruls.flatMap eL)),(76, .int .i64 (c.ruls.length:Nat)),(77, .int .i64 (k:Nat))]) (fun k=>(σ.aa B (bh c)).aa β [.str (O3 k), .int .i64 0]) (fun _=>True) M8 (by rw [z3];exact St.le_refl _) trivial (fun k hk _=>?_)
    by_cases hlt:k<c.ruls.length
    · obtain ⟨x,hx⟩:∃ x,c.ruls[k]? =some x:=⟨_,List.getElem?_eq_getElem hlt⟩
      have he:=cJ (f:=eL) (m:=7) (fun _=>rfl) hx
      have hln:=kc c.ruls
      simp only [eL] at he
      have q1:decide ((k:Int)<(c.ruls.length:Int))=true:=M3
      have hw:IntKind.i64.wrap ((k:Int)+1)=((k+1:Nat):Int):=MZ
      have hxm:=List.mem_of_getElem? hx
      have hfx:=nA (hF.rul x hxm)
      have hxl:=ck.lrul x hxm
      have hx64:=h64 x hxm
      have d1:=p52 x.owner Nl
      have d2:=PuG.up3 (p51 (lab x.auth))
      have d3:=PuG.up3 (p51 (lab x.res))
      rw [dt hxl.1] at d2
      rw [dt hxl.2] at d3
      have d4:=p53 x.kind
      have d5:=p54 x.low hx64.1
      have d6:=p54 x.high hx64.2
      have o1:O3 k++rowT (fE x)=O3 (k+1):=by subst hO3;exact kR _ hx
      have hrw:=qz hfx.1 hfx.2.1 hx64.1 hx64.2
      cases hany:x.any with
      | true =>
        have hkw:gT x= [97,110,121]:=by rw [gT,hany];rfl
        have hrl:fE x= [[114,117,108,101],itoa x.owner,cO (lab x.auth),cO (lab x.res),[97,110,121],itoa x.low,itoa x.high]:=by rw [fE,hkw]
        rw [hrl] at hrw o1
        simp only [q1,↓R1,RR,seval,q1,he,hw,hcl,hca,hc0,h31,h32,hln,l32,hany]
        repeat' (first|(with_reducible rw [ai])|(with_reducible refine And.intro ?_ ?_;exact af)|(with_reducible apply And.intro)|((first|(with_reducible intro β hβ;(try simp only [RB] at hβ);(repeat (obtain ⟨⟨_,_⟩,hβ⟩:=hβ));(try (have hbis:=ah M0 hβ;obtain ⟨_,_⟩:=hbis)))|(refine a7 (d1) hσ (ad _) ?_)|(refine a7 (d2) hσ (ad _) ?_)|(refine a7 (d3) hσ (ad _) ?_)|(refine a7 (d5) hσ (ad _) ?_)|(refine a7 (d6) hσ (ad _) ?_)|(refine eJ (d:= [.str (O3 k), .int .i64 0]) Nh (a49 (out:=O3 k) Nh hrw (len3 k)) (ad _) ?_))<;>(try simp only [↓R1,RR,seval,q1,he,hw,hcl,hca,hc0,h31,h32,hln,l32,hany])))
        · simp [av,slot,ae]
        · rw [o1]
          (refine St.aO (St.le_refl _) ?_;simp only [St.cv];assumption)
      | false =>
        have hkw:gT x=cE x.kind:=by rw [gT,hany];rfl
        have hrl:fE x= [[114,117,108,101],itoa x.owner,cO (lab x.auth),cO (lab x.res),cE x.kind,itoa x.low,itoa x.high]:=by rw [fE,hkw]
        rw [hrl] at hrw o1
        simp only [q1,↓R1,RR,seval,q1,he,hw,hcl,hca,hc0,h31,h32,hln,l32,hany]
        repeat' (first|(with_reducible rw [ai])|(with_reducible refine And.intro ?_ ?_;exact af)|(with_reducible apply And.intro)|((first|(with_reducible intro β hβ;(try simp only [RB] at hβ);(repeat (obtain ⟨⟨_,_⟩,hβ⟩:=hβ));(try (have hbis:=ah M0 hβ;obtain ⟨_,_⟩:=hbis)))|(refine Pt (d4) ?_)|(refine a7 (d1) hσ (ad _) ?_)|(refine a7 (d2) hσ (ad _) ?_)|(refine a7 (d3) hσ (ad _) ?_)|(refine a7 (d5) hσ (ad _) ?_)|(refine a7 (d6) hσ (ad _) ?_)|(refine eJ (d:= [.str (O3 k), .int .i64 0]) Nh (a49 (out:=O3 k) Nh hrw (len3 k)) (ad _) ?_))<;>(try simp only [↓R1,RR,seval,q1,he,hw,hcl,hca,hc0,h31,h32,hln,l32,hany])))
        · simp [av,slot,ae]
        · rw [o1]
          (refine St.aO (St.le_refl _) ?_;simp only [St.cv];assumption)
    have hke:k=c.ruls.length:=MX
    subst hke
    have q1:decide ((c.ruls.length:Int)<(c.ruls.length:Int))=false:=M1
    simp only [q1,↓R1,RR,seval,q1,he,hw,hcl,hca,hc0,h31,h32,hln,l32,hany]
    skip
    rw [z4]
    refine ak ?_
    simp only [aq,↓R1,RR,seval,q1,he,hw,hcl,hca,hc0,h31,h32,hln,l32,hany]
    exact ae _
  · have q1:((dv c).1 != 0)=true:=by rw [bne_iff_ne];exact hz
    rw [kg,if_neg hz]
    (refine aR c18 b18 fun σ hσ=>?_;simp only [c18,↓R1,RR,seval,q1,he,hw,hcl,hca,hc0,h31,h32,hln,l32,hany])
    repeat' ((first|(with_reducible intro β hβ;(try simp only [RB] at hβ);(repeat (obtain ⟨⟨_,_⟩,hβ⟩:=hβ));(try (have hbis:=ah M0 hβ;obtain ⟨_,_⟩:=hbis)))|(refine Pt (hck) ?_))<;>(try simp only [↓R1,RR,seval,q1,he,hw,hcl,hca,hc0,h31,h32,hln,l32,hany]))
    refine ak ?_
    simp only [aq,↓R1,RR,seval,q1,he,hw,hcl,hca,hc0,h31,h32,hln,l32,hany]
    exact ae _
theorem bG (r:RI):(cRI r).length=2:=rfl
theorem aW {α:Type} (a b:α):List.drop 2 [a,b]= []:=rfl
theorem dR (n:Int) (hn:I64 n):Pu Tryz.prog 57 [.int .i64 n] (.str (itoa n)):=by
 have h0:=p60 n hn
 (refine al c57 b57 fun σ=>?_;simp only [c57,↓R1,RR,seval])
 repeat' ((refine Pt (h0) ?_)<;>(try simp only [↓R1,RR,seval]))
 (refine ak (ag ?_))
 (simp only [aq,↓R1,RR,seval])
def fg (W:List (List (List UInt8))):List AV:=(W.map mkR).flatMap cRI
theorem jC (W:List (List (List UInt8))) (x:List (List UInt8)):fg W++cRI (mkR x)=fg (W++ [x]):=by simp [fg]
theorem kS (W:List (List (List UInt8))):(fg W).length=W.length*2:=by rw [fg,bg,List.length_map]
theorem kT {α β:Type} {f:α→β} {l:List α} {k:Nat} {x:α} (A:List β) (h:l[k]? =some x):(A++(l.take k).map f)++ [f x]=A++(l.take (k+1)).map f:=by
 obtain ⟨h1,h2⟩:=List.getElem?_eq_some_iff.1 h
 rw [←List.take_append_getElem h1,h2]
 simp
set_option maxHeartbeats 8000000 in
theorem p19 {c:CfgI} (ck:CfgOk c) (h64:Cfg64 c):Pu Tryz.prog 19 [.agg (bh c)] (kg c):=by
  have hcl:=du ck
  have hca:=eQ ck
  have hc0:=lC c
  have h31:=jw ck
  have h32:=kO ck
  have q1:True:=trivial
  have he:True:=trivial
  have hw:True:=trivial
  have hln:True:=trivial
  have hlt6:True:=trivial
  have hv:True:=trivial
  have hany:True:=trivial
  have l32:32<(bh c).length:=NT
  have hck:=p55 ck
  unfold nX at hck
  by_cases hz:(dv c).1=0
  · have hF:=nx hz
    obtain ⟨hr,hrl⟩:=nB ck hF h64
    have n1:=hF.ncls
    have n2:=hF.nrul
    have h6:=ck.six
    have hhw:IntKind.i64.wrap c.hor=c.hor:=wrap64 N9 N9
    have h50:=dR c.hor (by have:=hF.hor;unfold I64;omega)
    have hhi:itoa c.hor=decDigits c.hor.toNat:=by
      have:c.hor=((c.hor.toNat:Nat):Int):=N9
      rw [this,jX,Int.toNat_natCast]
    rw [hhi] at h50
    have hmk:=p56 (fC c) (by simp [fC]) (fun t ht=>by have:=(l7 hF).wl t ht;omega)
    have q1:((dv c).1 != 0)=false:=by rw [hz];rfl
    have hw:=hhw
    rw [kg,if_pos hz]
    (refine al Bq JX fun σ=>?_;simp only [Bq,↓R1,RR,seval,q1,he,hw,hcl,hca,hc0,h31,h32,hln,hlt6,l32,hv,hany,bG,aW,List.append_nil])
    repeat' ((first|(with_reducible intro β hβ;(try simp only [RB] at hβ);(repeat (obtain ⟨⟨_,_⟩,hβ⟩:=hβ));(try (have hbis:=ah M0 hβ;obtain ⟨_,_⟩:=hbis)))|(refine Pt (hck) ?_)|(refine Pt (h50) ?_)|((refine Pu.to (hmk) ?_ ?_;(focus exact cW))))<;>(try simp only [↓R1,RR,seval,q1,he,hw,hcl,hca,hc0,h31,h32,hln,hlt6,l32,hv,hany,bG,aW,List.append_nil]))
    obtain ⟨β,hβ⟩:∃ β:Nat,True:=⟨0,trivial⟩
    rename_i B hB τ hτ
    clear hβ β
    have rc:∀ x∈c.cls,RowOk (fR x):=fun x hx=>hr _ NW
    have rt:∀ x∈c.tens,RowOk (gV x):=fun x hx=>hr _ NV
    have rr:∀ x∈c.ruls,RowOk (fE x):=fun x hx=>hr _ NY
    have mk:∀ ws,RowOk ws→Pu Tryz.prog 56 [.sl true ws.length (ws.map AV.str)] (.agg (cRI (mkR ws))):=fun ws h σ=>AC.wk (p56 ws (by have:=h.num;omega) (fun t ht=>by have:=h.wl t ht;omega) σ) (by simp [ad,wkL.cons,wkL.nil,fl])
    obtain ⟨O1,hO1⟩:∃ O1:Nat→List (List (List UInt8)),O1=fun k=> [fC c]++(c.cls.take k).map fR:=⟨_,rfl⟩
    obtain ⟨O2,hO2⟩:∃ O2:Nat→List (List (List UInt8)),O2=fun k=>([fC c]++c.cls.map fR)++(c.tens.take k).map gV:=⟨_,rfl⟩
    obtain ⟨O3,hO3⟩:∃ O3:Nat→List (List (List UInt8)),O3=fun k=>(([fC c]++c.cls.map fR)++c.tens.map gV)++(c.ruls.take k).map fE:=⟨_,rfl⟩
    have z1:cRI (mkR (fC c))=fg (O1 0):=by subst hO1;simp [fg]
    have z2:O1 c.cls.length=O2 0:=by subst hO1 hO2;simp
    have z3:O2 6=O3 0:=Og
    have z4:O3 c.ruls.length=jB c:=by subst hO3;simp [jB]
    have yC:∀ k,k≤c.cls.length→(O1 k).length=1+k:=fun k hk=>by subst hO1;simp;omega
    have len2:∀ k,k≤6→(O2 k).length=1+c.cls.length+k:=fun k hk=>by subst hO2;simp;omega
    have len3:∀ k,k≤c.ruls.length→(O3 k).length=1+c.cls.length+6+k:=fun k hk=>by subst hO3;simp;omega
    refine aQ c.cls.length (fun k=> [(1, .ptr B 0),(6, .tsl τ (1+k) (fg (O1 k))),(7, .int .i64 (k:Nat))]) (fun k=>(σ.aa B (bh c)).ao τ (80,2,1+k)) (fun _=>True) (by rw [←z1];simp [av,slot,ae]) (St.le_refl _) trivial (fun k hk _=>?_)
    by_cases hlt:k<c.cls.length
    · obtain ⟨x,hx⟩:∃ x,c.cls[k]? =some x:=⟨_,List.getElem?_eq_getElem hlt⟩
      have he:=cJ (f:=cm) (m:=3) (fun _=>rfl) hx
      have hln:=kb c.cls
      simp only [cm] at he
      have q1:decide ((k:Int)<(c.cls.length:Int))=true:=M3
      have hw:IntKind.i64.wrap ((k:Int)+1)=((k+1:Nat):Int):=MZ
      have hfx:=ny hF.cls hx
      have d1:=p58 (lab x.l)
      rw [dt (ck.lcls x (List.mem_of_getElem? hx))] at d1
      have d2:=dR x.size Nl
      have d3:=dR x.rate Nl
      have d4:=mk _ (qx hfx)
      have o1:fg (O1 k)++cRI (mkR (fR x))=fg (O1 (k+1)):=by rw [jC];subst hO1;rw [kT _ hx]
      have l1:=kS (O1 k)
      rw [yC k hk] at l1
      simp only [q1,↓R1,RR,seval,q1,he,hw,hcl,hca,hc0,h31,h32,hln,hlt6,l32,hv,hany,bG,aW,List.append_nil]
      repeat' (first|(with_reducible rw [ai])|(with_reducible refine And.intro ?_ ?_;exact af)|(with_reducible apply And.intro)|((first|(with_reducible intro β hβ;(try simp only [RB] at hβ);(repeat (obtain ⟨⟨_,_⟩,hβ⟩:=hβ));(try (have hbis:=ah M0 hβ;obtain ⟨_,_⟩:=hbis)))|((first|(refine bp (.inr rfl) rfl ?_ ?_ ?_ ?_ ?_ ?_;(first|rfl|exact St.aH _ _ _|(simp only [↓R1,RR,seval,q1,he,hw,hcl,hca,hc0,h31,h32,hln,hlt6,l32,hv,hany,bG,aW,List.append_nil]));(first|omega|(exact aj)|(simp only [RZ]));(first|rfl|first|omega|(exact aj)|(simp only [RZ])))|(refine aV rfl ?_ ?_ ?_ ?_ ?_ ?_;(first|rfl|exact St.aH _ _ _|(simp only [↓R1,RR,seval,q1,he,hw,hcl,hca,hc0,h31,h32,hln,hlt6,l32,hv,hany,bG,aW,List.append_nil]));(first|omega|(exact aj)|(simp only [RZ]));(first|rfl|first|omega|(exact aj)|(simp only [RZ])))|(refine appV_own ?_ ?_ ?_ ?_;exact aF Ni _)|(refine appD_own ?_ ?_ ?_ ?_ ?_;omega;exact aF Ni _)|(refine appV_fresh rfl trivial rfl ?_ ?_ ?_ ?_ ?_;(first|rfl|first|omega|(exact aj)|(simp only [RZ]));(first|rfl|first|omega|(exact aj)|(simp only [RZ])))|(refine appD_fresh rfl trivial rfl ?_ ?_ ?_ ?_ ?_ ?_;omega;(first|rfl|first|omega|(exact aj)|(simp only [RZ]));(first|rfl|first|omega|(exact aj)|(simp only [RZ]))));(unfold maxLen;omega);omega)|(refine Ct (d1) ?_)|(refine Ct (d2) ?_)|(refine Ct (d3) ?_)|(refine Ct (d4) ?_))<;>(try simp only [↓R1,RR,seval,q1,he,hw,hcl,hca,hc0,h31,h32,hln,hlt6,l32,hv,hany,bG,aW,List.append_nil])))
      · rw [o1,Nat.add_assoc];simp [av,slot,ae]
      · rw [Nat.add_assoc]
        refine (St.aO (σ':=(σ.aa B (bh c)).ao τ (80,2,1+(k+1))) (St.le_refl _) ?_:St.le _ _)
        show (σ.aa B (bh c)).box _=none
        simp only [St.cv];assumption
    have hke:k=c.cls.length:=MX
    subst hke
    have q1:decide ((c.cls.length:Int)<(c.cls.length:Int))=false:=M1
    simp only [q1,↓R1,RR,seval,q1,he,hw,hcl,hca,hc0,h31,h32,hln,hlt6,l32,hv,hany,bG,aW,List.append_nil]
    skip
    refine aQ 6 (fun k=> [(1, .ptr B 0),(6, .tsl τ (1+c.cls.length+k) (fg (O2 k))),(9, .int .i64 (k:Nat))]) (fun k=>(σ.aa B (bh c)).ao τ (80,2,1+c.cls.length+k)) (fun _=>True) (by rw [z2];simp [av,slot,ae]) (St.le_refl _) trivial (fun k hk _=>?_)
    by_cases hlt:k<6
    · obtain ⟨x,hx⟩:∃ x,c.tens[k]? =some x:=⟨_,List.getElem?_eq_getElem MX⟩
      have hv:=vR ck hx
      have hlt6:1+k*5+5≤33:=MX
      have q1:decide ((k:Int)<6)=true:=M3
      have hw:IntKind.i64.wrap ((k:Int)+1)=((k+1:Nat):Int):=MZ
      have hfx:=nz (hF.ten x (List.mem_of_getElem? hx))
      simp only [eZ] at hv
      have d1:=dR x.budget Nl
      have d2:=dR x.queries Nl
      have d3:=dR x.cap Nl
      have d4:=dR x.out Nl
      have d5:=dR x.audit Nl
      have d6:=mk _ (qy hfx)
      have o1:fg (O2 k)++cRI (mkR (gV x))=fg (O2 (k+1)):=by rw [jC];subst hO2;rw [kT _ hx]
      have l1:=kS (O2 k)
      rw [len2 k hk] at l1
      simp only [q1,↓R1,RR,seval,q1,he,hw,hcl,hca,hc0,h31,h32,hln,hlt6,l32,hv,hany,bG,aW,List.append_nil]
      repeat' (first|(with_reducible rw [ai])|(with_reducible refine And.intro ?_ ?_;exact af)|(with_reducible apply And.intro)|((first|(with_reducible intro β hβ;(try simp only [RB] at hβ);(repeat (obtain ⟨⟨_,_⟩,hβ⟩:=hβ));(try (have hbis:=ah M0 hβ;obtain ⟨_,_⟩:=hbis)))|((first|(refine bp (.inr rfl) rfl ?_ ?_ ?_ ?_ ?_ ?_;(first|rfl|exact St.aH _ _ _|(simp only [↓R1,RR,seval,q1,he,hw,hcl,hca,hc0,h31,h32,hln,hlt6,l32,hv,hany,bG,aW,List.append_nil]));(first|omega|(exact aj)|(simp only [RZ]));(first|rfl|first|omega|(exact aj)|(simp only [RZ])))|(refine aV rfl ?_ ?_ ?_ ?_ ?_ ?_;(first|rfl|exact St.aH _ _ _|(simp only [↓R1,RR,seval,q1,he,hw,hcl,hca,hc0,h31,h32,hln,hlt6,l32,hv,hany,bG,aW,List.append_nil]));(first|omega|(exact aj)|(simp only [RZ]));(first|rfl|first|omega|(exact aj)|(simp only [RZ])))|(refine appV_own ?_ ?_ ?_ ?_;exact aF Ni _)|(refine appD_own ?_ ?_ ?_ ?_ ?_;omega;exact aF Ni _)|(refine appV_fresh rfl trivial rfl ?_ ?_ ?_ ?_ ?_;(first|rfl|first|omega|(exact aj)|(simp only [RZ]));(first|rfl|first|omega|(exact aj)|(simp only [RZ])))|(refine appD_fresh rfl trivial rfl ?_ ?_ ?_ ?_ ?_ ?_;omega;(first|rfl|first|omega|(exact aj)|(simp only [RZ]));(first|rfl|first|omega|(exact aj)|(simp only [RZ]))));(unfold maxLen;omega);omega)|(refine Ct (d1) ?_)|(refine Ct (d2) ?_)|(refine Ct (d3) ?_)|(refine Ct (d4) ?_)|(refine Ct (d5) ?_)|(refine Ct (d6) ?_))<;>(try simp only [↓R1,RR,seval,q1,he,hw,hcl,hca,hc0,h31,h32,hln,hlt6,l32,hv,hany,bG,aW,List.append_nil])))
      · rw [o1,Nat.add_assoc _ k 1];simp [av,slot,ae]
      · rw [Nat.add_assoc _ k 1]
        refine (St.aO (σ':=(σ.aa B (bh c)).ao τ (80,2,1+c.cls.length+(k+1))) (St.le_refl _) ?_:St.le _ _)
        show (σ.aa B (bh c)).box _=none
        simp only [St.cv];assumption
    have hke:k=6:=MX
    subst hke
    have q1:decide (((6:Nat):Int)<6)=false:=Na
    simp only [q1,↓R1,RR,seval,q1,he,hw,hcl,hca,hc0,h31,h32,hln,hlt6,l32,hv,hany,bG,aW,List.append_nil]
    skip
    refine aQ c.ruls.length (fun k=> [(1, .ptr B 0),(6, .tsl τ (1+c.cls.length+6+k) (fg (O3 k))),(11, .int .i64 (k:Nat))]) (fun k=>(σ.aa B (bh c)).ao τ (80,2,1+c.cls.length+6+k)) (fun _=>True) (by rw [z3];simp [av,slot,ae]) (St.le_refl _) trivial (fun k hk _=>?_)
    have l31:31<33:=Na
    by_cases hlt:k<c.ruls.length
    · obtain ⟨x,hx⟩:∃ x,c.ruls[k]? =some x:=⟨_,List.getElem?_eq_getElem hlt⟩
      have he:=cJ (f:=eL) (m:=7) (fun _=>rfl) hx
      have hln:=kc c.ruls
      simp only [eL] at he
      have q1:decide ((k:Int)<(c.ruls.length:Int))=true:=M3
      have hw:IntKind.i64.wrap ((k:Int)+1)=((k+1:Nat):Int):=MZ
      have hxm:=List.mem_of_getElem? hx
      have hfx:=nA (hF.rul x hxm)
      have hxl:=ck.lrul x hxm
      have hx64:=h64 x hxm
      have d1:=dR x.owner Nl
      have d2:=p58 (lab x.auth)
      have d3:=p58 (lab x.res)
      rw [dt hxl.1] at d2
      rw [dt hxl.2] at d3
      have d4:=p59 x.kind
      have d5:=p60 x.low hx64.1
      have d6:=p60 x.high hx64.2
      have hrw:=qz hfx.1 hfx.2.1 hx64.1 hx64.2
      have d7:=mk _ hrw
      have o1:fg (O3 k)++cRI (mkR (fE x))=fg (O3 (k+1)):=by rw [jC];subst hO3;rw [kT _ hx]
      have l1:=kS (O3 k)
      rw [len3 k hk] at l1
      cases hany:x.any with
      | true =>
        have hkw:gT x= [97,110,121]:=by rw [gT,hany];rfl
        have hrl:fE x= [[114,117,108,101],itoa x.owner,cO (lab x.auth),cO (lab x.res),[97,110,121],itoa x.low,itoa x.high]:=by rw [fE,hkw]
        rw [hrl] at d7 o1
        simp only [q1,l31,↓R1,RR,seval,q1,he,hw,hcl,hca,hc0,h31,h32,hln,hlt6,l32,hv,hany,bG,aW,List.append_nil]
        repeat' (first|(with_reducible rw [ai])|(with_reducible refine And.intro ?_ ?_;exact af)|(with_reducible apply And.intro)|((first|(with_reducible intro β hβ;(try simp only [RB] at hβ);(repeat (obtain ⟨⟨_,_⟩,hβ⟩:=hβ));(try (have hbis:=ah M0 hβ;obtain ⟨_,_⟩:=hbis)))|((first|(refine bp (.inr rfl) rfl ?_ ?_ ?_ ?_ ?_ ?_;(first|rfl|exact St.aH _ _ _|(simp only [↓R1,RR,seval,q1,he,hw,hcl,hca,hc0,h31,h32,hln,hlt6,l32,hv,hany,bG,aW,List.append_nil]));(first|omega|(exact aj)|(simp only [RZ]));(first|rfl|first|omega|(exact aj)|(simp only [RZ])))|(refine aV rfl ?_ ?_ ?_ ?_ ?_ ?_;(first|rfl|exact St.aH _ _ _|(simp only [↓R1,RR,seval,q1,he,hw,hcl,hca,hc0,h31,h32,hln,hlt6,l32,hv,hany,bG,aW,List.append_nil]));(first|omega|(exact aj)|(simp only [RZ]));(first|rfl|first|omega|(exact aj)|(simp only [RZ])))|(refine appV_own ?_ ?_ ?_ ?_;exact aF Ni _)|(refine appD_own ?_ ?_ ?_ ?_ ?_;omega;exact aF Ni _)|(refine appV_fresh rfl trivial rfl ?_ ?_ ?_ ?_ ?_;(first|rfl|first|omega|(exact aj)|(simp only [RZ]));(first|rfl|first|omega|(exact aj)|(simp only [RZ])))|(refine appD_fresh rfl trivial rfl ?_ ?_ ?_ ?_ ?_ ?_;omega;(first|rfl|first|omega|(exact aj)|(simp only [RZ]));(first|rfl|first|omega|(exact aj)|(simp only [RZ]))));(unfold maxLen;omega);omega)|(refine Ct (d1) ?_)|(refine Ct (d2) ?_)|(refine Ct (d3) ?_)|(refine Ct (d5) ?_)|(refine Ct (d6) ?_)|(refine Ct (d7) ?_))<;>(try simp only [↓R1,RR,seval,q1,he,hw,hcl,hca,hc0,h31,h32,hln,hlt6,l32,hv,hany,bG,aW,List.append_nil])))
        · rw [o1,Nat.add_assoc _ k 1];simp [av,slot,ae]
        · rw [Nat.add_assoc _ k 1]
          refine (St.aO (σ':=(σ.aa B (bh c)).ao τ (80,2,1+c.cls.length+6+(k+1))) (St.le_refl _) ?_:St.le _ _)
          show (σ.aa B (bh c)).box _=none
          simp only [St.cv];assumption
      | false =>
        have hkw:gT x=cE x.kind:=by rw [gT,hany];rfl
        have hrl:fE x= [[114,117,108,101],itoa x.owner,cO (lab x.auth),cO (lab x.res),cE x.kind,itoa x.low,itoa x.high]:=by rw [fE,hkw]
        rw [hrl] at d7 o1
        simp only [q1,l31,↓R1,RR,seval,q1,he,hw,hcl,hca,hc0,h31,h32,hln,hlt6,l32,hv,hany,bG,aW,List.append_nil]
        repeat' (first|(with_reducible rw [ai])|(with_reducible refine And.intro ?_ ?_;exact af)|(with_reducible apply And.intro)|((first|(with_reducible intro β hβ;(try simp only [RB] at hβ);(repeat (obtain ⟨⟨_,_⟩,hβ⟩:=hβ));(try (have hbis:=ah M0 hβ;obtain ⟨_,_⟩:=hbis)))|((first|(refine bp (.inr rfl) rfl ?_ ?_ ?_ ?_ ?_ ?_;(first|rfl|exact St.aH _ _ _|(simp only [↓R1,RR,seval,q1,he,hw,hcl,hca,hc0,h31,h32,hln,hlt6,l32,hv,hany,bG,aW,List.append_nil]));(first|omega|(exact aj)|(simp only [RZ]));(first|rfl|first|omega|(exact aj)|(simp only [RZ])))|(refine aV rfl ?_ ?_ ?_ ?_ ?_ ?_;(first|rfl|exact St.aH _ _ _|(simp only [↓R1,RR,seval,q1,he,hw,hcl,hca,hc0,h31,h32,hln,hlt6,l32,hv,hany,bG,aW,List.append_nil]));(first|omega|(exact aj)|(simp only [RZ]));(first|rfl|first|omega|(exact aj)|(simp only [RZ])))|(refine appV_own ?_ ?_ ?_ ?_;exact aF Ni _)|(refine appD_own ?_ ?_ ?_ ?_ ?_;omega;exact aF Ni _)|(refine appV_fresh rfl trivial rfl ?_ ?_ ?_ ?_ ?_;(first|rfl|first|omega|(exact aj)|(simp only [RZ]));(first|rfl|first|omega|(exact aj)|(simp only [RZ])))|(refine appD_fresh rfl trivial rfl ?_ ?_ ?_ ?_ ?_ ?_;omega;(first|rfl|first|omega|(exact aj)|(simp only [RZ]));(first|rfl|first|omega|(exact aj)|(simp only [RZ]))));(unfold maxLen;omega);omega)|(refine Pt (d4) ?_)|(refine Ct (d1) ?_)|(refine Ct (d2) ?_)|(refine Ct (d3) ?_)|(refine Ct (d5) ?_)|(refine Ct (d6) ?_)|(refine Ct (d7) ?_))<;>(try simp only [↓R1,RR,seval,q1,he,hw,hcl,hca,hc0,h31,h32,hln,hlt6,l32,hv,hany,bG,aW,List.append_nil])))
        · rw [o1,Nat.add_assoc _ k 1];simp [av,slot,ae]
        · rw [Nat.add_assoc _ k 1]
          refine (St.aO (σ':=(σ.aa B (bh c)).ao τ (80,2,1+c.cls.length+6+(k+1))) (St.le_refl _) ?_:St.le _ _)
          show (σ.aa B (bh c)).box _=none
          simp only [St.cv];assumption
    have hke:k=c.ruls.length:=MX
    subst hke
    have q1:decide ((c.ruls.length:Int)<(c.ruls.length:Int))=false:=M1
    have ht:=p61 ((jB c).map mkR) (u0 hr hrl)
    rw [nv hr hrl] at ht
    simp only [mI] at ht
    have hlw:(jB c).length=1+c.cls.length+6+c.ruls.length:=by rw [←z4,len3 _ (Nat.le_refl _)]
    simp only [List.length_map,hlw] at ht
    rw [z4]
    simp only [q1,l31,↓R1,RR,seval,q1,he,hw,hcl,hca,hc0,h31,h32,hln,hlt6,l32,hv,hany,bG,aW,List.append_nil]
    repeat' (((refine Pu.to (ht) ?_ ?_;(focus exact cW)))<;>(try simp only [↓R1,RR,seval,q1,he,hw,hcl,hca,hc0,h31,h32,hln,hlt6,l32,hv,hany,bG,aW,List.append_nil]))
    refine ak ?_ Nd (St.iK (St.aO (St.le_refl _) hB) hτ)
    simp only [aq,↓R1,RR,seval,q1,he,hw,hcl,hca,hc0,h31,h32,hln,hlt6,l32,hv,hany,bG,aW,List.append_nil]
    exact ae _
  · have q1:((dv c).1 != 0)=true:=by rw [bne_iff_ne];exact hz
    rw [kg,if_neg hz]
    (refine al Bq JX fun σ=>?_;simp only [Bq,↓R1,RR,seval,q1,he,hw,hcl,hca,hc0,h31,h32,hln,hlt6,l32,hv,hany,bG,aW,List.append_nil])
    repeat' ((first|(with_reducible intro β hβ;(try simp only [RB] at hβ);(repeat (obtain ⟨⟨_,_⟩,hβ⟩:=hβ));(try (have hbis:=ah M0 hβ;obtain ⟨_,_⟩:=hbis)))|(refine Pt (hck) ?_))<;>(try simp only [↓R1,RR,seval,q1,he,hw,hcl,hca,hc0,h31,h32,hln,hlt6,l32,hv,hany,bG,aW,List.append_nil]))
    refine ak ?_
    simp only [aq,↓R1,RR,seval,q1,he,hw,hcl,hca,hc0,h31,h32,hln,hlt6,l32,hv,hany,bG,aW,List.append_nil]
    exact ae _
theorem sR (x:OpI):(cOp x).length=8:=rfl
theorem ki (l:List OpI):(l.flatMap cOp).length=l.length*8:=aF sR l
set_option maxHeartbeats 2000000 in
theorem CG (f g:Bool) (l:List OpI) (hl:l.length≤1000000):Pu Tryz.prog 16 [.sl f l.length (l.flatMap cOp), .sl g l.length (l.flatMap cOp)] (.bool true):=by
 have q1:True:=trivial
 have he:True:=trivial
 have hw:True:=trivial
 have h1:=ki l
 (refine al c16 b16 fun σ=>?_;simp only [c16,↓R1,RR,seval,q1,he,hw,cOp,h1,List.cons_append,List.nil_append,List.drop_nil])
 skip
 refine aQ l.length (fun k=> [(0, .sl f l.length (l.flatMap cOp)),(1, .sl g l.length (l.flatMap cOp)),(5, .int .i64 (k:Nat))]) (fun _=>σ) (fun _=>True) M8 (St.le_refl _) trivial (fun k hk _=>?_)
 by_cases hlt:k<l.length
 ·obtain ⟨x,hx⟩:∃ x,l[k]? =some x:=⟨_,List.getElem?_eq_getElem hlt⟩
  have he:=cJ (f:=cOp) (m:=8) sR hx
  simp only [cOp] at he
  have q1:decide ((k:Int)<(l.length:Int))=true:=M3
  have hw:IntKind.i64.wrap ((k:Int)+1)=((k+1:Nat):Int):=MZ
  simp only [q1,↓R1,RR,seval,q1,he,hw,cOp,h1,List.cons_append,List.nil_append,List.drop_nil]
  repeat' (first|(with_reducible refine And.intro ?_ ?_;exact af)|(with_reducible apply And.intro))
  ·simp [av,slot,ae]
  ·exact St.le_refl _
 ·have hke:k=l.length:=by omega
  subst hke
  have q1:decide ((l.length:Int)<(l.length:Int))=false:=M1
  simp only [q1,↓R1,RR,seval,q1,he,hw,cOp,h1,List.cons_append,List.nil_append,List.drop_nil]
  skip
  (refine ak (ag ?_))
  (simp only [aq,↓R1,RR,seval,q1,he,hw,cOp,h1,List.cons_append,List.nil_append,List.drop_nil])
def jD (l:List OpI):Bool:=l.all (fun x=>decide (x.text.length≤1100))&&(decide (l.length≤30)||(decide (400<l.length)&&decide (l.length≤403)))
theorem _root_.NL {p:Prop} (h:p:=by rw [decide_eq_decide];omega):p:=h
set_option maxHeartbeats 2000000 in
theorem p23 (f:Bool) (l:List OpI) (hl:l.length≤9223372036854775807):Pu Tryz.prog 23 [.sl f l.length (l.flatMap cOp)] (.bool (jD l)):=by
 have q1:True:=trivial
 have he:True:=trivial
 have hw:True:=trivial
 have h1:=ki l
 (refine al c23 b23 fun σ=>?_;simp only [c23,↓R1,RR,seval,q1,he,hw,cOp,h1,List.cons_append,List.nil_append,List.drop_nil])
 skip
 refine aQ l.length (fun k=> [(0, .sl f l.length (l.flatMap cOp)),(3, .int .i64 (k:Nat))]) (fun _=>σ) (fun k=>(l.take k).all (fun x=>decide (x.text.length≤1100))=true) M8 (St.le_refl _) rfl (fun k hk hI=>?_)
 by_cases hlt:k<l.length
 ·obtain ⟨x,hx⟩:∃ x,l[k]? =some x:=⟨_,List.getElem?_eq_getElem hlt⟩
  have he:=cJ (f:=cOp) (m:=8) sR hx
  simp only [cOp] at he
  have q1:decide ((k:Int)<(l.length:Int))=true:=M3
  have hw:IntKind.i64.wrap ((k:Int)+1)=((k+1:Nat):Int):=MZ
  simp only [q1,↓R1,RR,seval,q1,he,hw,cOp,h1,List.cons_append,List.nil_append,List.drop_nil]
  repeat' (first|(with_reducible refine And.intro ?_ ?_;exact af)|(with_reducible apply And.intro)|((refine an (fun hc=>?_) (fun hc=>?_))<;>(try simp only [↓R1,RR,seval,q1,he,hw,cOp,h1,List.cons_append,List.nil_append,List.drop_nil])))
  ·(refine ak (ag ?_))
   (simp only [aq,↓R1,RR,seval,q1,he,hw,cOp,h1,List.cons_append,List.nil_append,List.drop_nil])
   have:¬ x.text.length≤1100:=by rw [decide_eq_true_eq] at hc;omega
   have h2:(l.all fun x=>decide (x.text.length≤1100))=false:=by
    rw [←Bool.not_eq_true,List.all_eq_true]
    intro h;exact this (by simpa using h x (List.mem_of_getElem? hx))
   rw [jD,h2];rfl
  ·rw [decide_eq_false_iff_not] at hc
   obtain ⟨h3,h4⟩:=List.getElem?_eq_some_iff.1 hx
   rw [←List.take_append_getElem h3,List.all_append,hI,h4]
   simp;omega
  ·simp [av,slot,ae]
  ·exact St.le_refl _
 ·have hke:k=l.length:=by omega
  subst hke
  have q1:decide ((l.length:Int)<(l.length:Int))=false:=M1
  simp only [q1,↓R1,RR,seval,q1,he,hw,cOp,h1,List.cons_append,List.nil_append,List.drop_nil]
  rw [List.take_length] at hI
  have hres:jD l=(decide (((l.length:Nat):Int)≤30)||decide ((400:Int)<((l.length:Nat):Int))&&decide (((l.length:Nat):Int)≤403)):=by
   have h30:decide (((l.length:Nat):Int)≤30)=decide (l.length≤30):=NL
   have h400:decide ((400:Int)<((l.length:Nat):Int))=decide (400<l.length):=NL
   have h403:decide (((l.length:Nat):Int)≤403)=decide (l.length≤403):=NL
   rw [jD,hI,Bool.true_and,h30,h400,h403]
  repeat' (first|(with_reducible apply And.intro)|((with_reducible intro β hβ;(try simp only [RB] at hβ);(repeat (obtain ⟨⟨_,_⟩,hβ⟩:=hβ));(try (have hbis:=ah M0 hβ;obtain ⟨_,_⟩:=hbis)))<;>(try simp only [↓R1,RR,seval,q1,he,hw,cOp,h1,List.cons_append,List.nil_append,List.drop_nil])))
  ·simp_all
  ·(refine ak (ag ?_))
   (simp only [aq,↓R1,RR,seval,q1,he,hw,cOp,h1,List.cons_append,List.nil_append,List.drop_nil])
   rw [hres]
def exC:CfgI:=⟨[⟨0,2,2⟩,⟨1,2,2⟩],List.replicate 6 ⟨2,1,4,2,1⟩,[⟨2,1,0,true,0,0,9⟩],3⟩
def exK (k:Nat):List AV:= .sl true 2 [.int .u64 0, .int .i64 2, .int .i64 2, .int .u64 1, .int .i64 2, .int .i64 2]::((List.replicate k [AV.int .i64 2, .int .i64 1, .int .i64 4, .int .i64 2, .int .i64 1]++List.replicate (6 - k) [AV.int .i64 0, .int .i64 0, .int .i64 0, .int .i64 0, .int .i64 0]).flatten++ [.sl true 1 [.int .i64 2, .int .u64 1, .int .u64 0, .bool true, .int .i64 0, .int .i64 0, .int .i64 9], .int .u64 3])
theorem IK:wk (.agg (exK 6)) (.agg (bh exC)):=pn (by
 show wkL (_::(_++ [_,_])) (_::(_++ [_,_]))
 refine .cons (fl _ _) (D7 (ad _) (.cons (fl _ _) (ad _))))
set_option maxHeartbeats 8000000 in
theorem p36:Pu Tryz.prog 36 [] (.agg (exK 6)):=by
 (refine al c36 b36 fun σ=>?_;simp only [c36,↓R1,RR,seval,exK,List.replicate,List.flatten_cons,List.flatten_nil,List.cons_append,List.nil_append])
 repeat' (first|(with_reducible rw [ai])|((with_reducible intro β hβ;(try simp only [RB] at hβ);(repeat (obtain ⟨⟨_,_⟩,hβ⟩:=hβ));(try (have hbis:=ah M0 hβ;obtain ⟨_,_⟩:=hbis)))<;>(try simp only [↓R1,RR,seval,exK,List.replicate,List.flatten_cons,List.flatten_nil,List.cons_append,List.nil_append])))
 rename_i A hA a1 a2
 obtain ⟨z,hz⟩:∃ z,z=(AV.nils::(List.replicate 30 (AV.int .i64 0)++ [.nils, .int .u64 0])):=⟨_,rfl⟩
 refine aQ 6 (fun k=> [(0, .ptr A 0),(1, .ptr β 0),(2, .int .i64 (k:Nat))]) (fun k=>(σ.aa A z).aa β (exK k)) (fun _=>True) M8 (by subst hz;rw [St.set_set];exact St.le_refl _) trivial (fun k hk _=>?_)
 rcases (show k=0∨k=1∨k=2∨k=3∨k=4∨k=5∨k=6 by omega) with rfl|rfl|rfl|rfl|rfl|rfl|rfl
 ·simp only [↓R1,RR,seval,exK,List.replicate,List.flatten_cons,List.flatten_nil,List.cons_append,List.nil_append]
  repeat' (with_reducible apply And.intro)
  ·simp only [show IntKind.i64.wrap 1=1 from rfl];simp [av,slot,ae]
  ·exact St.le_refl _
 ·simp only [↓R1,RR,seval,exK,List.replicate,List.flatten_cons,List.flatten_nil,List.cons_append,List.nil_append]
  repeat' (with_reducible apply And.intro)
  ·simp only [show IntKind.i64.wrap 2=2 from rfl];simp [av,slot,ae]
  ·exact St.le_refl _
 ·simp only [↓R1,RR,seval,exK,List.replicate,List.flatten_cons,List.flatten_nil,List.cons_append,List.nil_append]
  repeat' (with_reducible apply And.intro)
  ·simp only [show IntKind.i64.wrap 3=3 from rfl];simp [av,slot,ae]
  ·exact St.le_refl _
 ·simp only [↓R1,RR,seval,exK,List.replicate,List.flatten_cons,List.flatten_nil,List.cons_append,List.nil_append]
  repeat' (with_reducible apply And.intro)
  ·simp only [show IntKind.i64.wrap 4=4 from rfl];simp [av,slot,ae]
  ·exact St.le_refl _
 ·simp only [↓R1,RR,seval,exK,List.replicate,List.flatten_cons,List.flatten_nil,List.cons_append,List.nil_append]
  repeat' (with_reducible apply And.intro)
  ·simp only [show IntKind.i64.wrap 5=5 from rfl];simp [av,slot,ae]
  ·exact St.le_refl _
 ·simp only [↓R1,RR,seval,exK,List.replicate,List.flatten_cons,List.flatten_nil,List.cons_append,List.nil_append]
  repeat' (with_reducible apply And.intro)
  ·simp only [show IntKind.i64.wrap 6=6 from rfl];simp [av,slot,ae]
  ·exact St.le_refl _
 ·subst hz
  simp only [↓R1,RR,seval,exK,List.replicate,List.flatten_cons,List.flatten_nil,List.cons_append,List.nil_append]
  skip
  refine ak ?_ (by first|(simp [ax,rvS];done)|(simp only [ax,rvS,↓R1,RR,seval,exK,List.replicate,List.flatten_cons,List.flatten_nil,List.cons_append,List.nil_append];try simp))
  simp only [aq,↓R1,RR,seval,exK,List.replicate,List.flatten_cons,List.flatten_nil,List.cons_append,List.nil_append]
  exact ae _
def exU:List UInt8:= [104,111,114,105,122,111,110,32,51,10,99,108,97,115,115,32,123,125,32,50,32,50,10,99,108,97,115,115,32,123,48,125,32,50,32,50,10,116,101,110,97,110,116,32,50,32,49,32,52,32,50,32,49,10,116,101,110,97,110,116,32,50,32,49,32,52,32,50,32,49,10,116,101,110,97,110,116,32,50,32,49,32,52,32,50,32,49,10,116,101,110,97,110,116,32,50,32,49,32,52,32,50,32,49,10,116,101,110,97,110,116,32,50,32,49,32,52,32,50,32,49,10,116,101,110,97,110,116,32,50,32,49,32,52,32,50,32,49,10,114,117,108,101,32,50,32,123,48,125,32,123,125,32,97,110,121,32,48,32,57,10]
theorem IL:CfgOk exC:=⟨rfl,by decide,by decide,fun x h=>by (rcases List.mem_cons.1 (show x∈([⟨0,2,2⟩,⟨1,2,2⟩]:List ClsI) from h) with rfl|h;· exact ⟨by decide,by decide⟩);rw [List.mem_singleton.1 h];exact ⟨by decide,by decide⟩,fun x h=>by rw [List.mem_singleton.1 (show x∈ [(⟨2,1,0,true,0,0,9⟩:RulI)] from h)];exact ⟨⟨by decide,by decide⟩,by decide,by decide⟩⟩
theorem IM:Cfg64 exC:=by
 intro x hx
 rw [List.mem_singleton.1 (show x∈ [(⟨2,1,0,true,0,0,9⟩:RulI)] from hx)]
 exact ⟨by unfold I64;decide,by unfold I64;decide⟩
theorem KD:dv exC=(0,0):=Na
theorem KE:yL exC=exU:=by
 decide +kernel
theorem exP:gL [112,111,108,108,32,49,32,53]= .ok [⟨6,1,0,[],0,5,0,0⟩]:=by
 kernel_rfl
def CH:Rw:=⟨0,[⟨false,[112,111,108,108],0⟩,⟨false,[49],5⟩,⟨false,[53],7⟩]⟩
theorem IN:dZ [112,111,108,108,32,49,32,53]= .ok [CH]:=MY
theorem IP:nj CH=some 6:=MY
theorem IQ:∀ rs,dZ [112,111,108,108,32,49,32,53]= .ok rs→∀ r∈rs,kQ r:=by
 intro rs h r hr
 rw [IN] at h
 cases h
 rw [List.mem_singleton] at hr
 subst hr
 intro σ σ0 β k hf hc hσ hn
 rw [IP] at hf
 cases hf
 exact x94 hc rfl
set_option maxHeartbeats 2000000 in
theorem CJ:PuG Tryz.prog gl3 11 [] (.bool true):=by
 have h1:=p18 IL IM
 rw [kg,KD,KE] at h1
 simp only [if_true] at h1
 have h1:PuG Tryz.prog gl3 18 [.agg (exK 6)] (.tup [.str exU, .int .i64 0]):=fun σ hσ=>AC.wk (h1 σ hσ) (.cons IK .nil)
 have h2:=Ff [112,111,108,108,32,49,32,53] IQ Na
 rw [qs,exP] at h2
 simp only [List.flatMap_cons,List.flatMap_nil,List.append_nil,List.length_cons,List.length_nil,Nat.zero_add,cOp] at h2
 have h3:=CG false true [⟨6,1,0,[],0,5,0,0⟩] Na
 simp only [List.flatMap_cons,List.flatMap_nil,List.append_nil,List.length_cons,List.length_nil,Nat.zero_add,cOp] at h3
 have q1:(exU == exU)=true:=M1
 unfold exU at h1
 (refine aR c11 b11 fun σ hσ=>?_;simp only [c11,↓R1,RR,seval,q1,cOp])
 repeat' (first|(with_reducible rw [ai])|((first|(with_reducible intro β hβ;(try simp only [RB] at hβ);(repeat (obtain ⟨⟨_,_⟩,hβ⟩:=hβ));(try (have hbis:=ah M0 hβ;obtain ⟨_,_⟩:=hbis)))|(refine Pt (p36) ?_)|(refine PuG.to (h1) hσ (ad _) ?_)|(refine PuG.to (h2) hσ (ad _) ?_)|(refine Pt (h3) ?_))<;>(try simp only [↓R1,RR,seval,q1,cOp])))
 refine ak ?_
 simp only [aq,↓R1,RR,seval,q1,cOp]
 exact ae _
def nm (k:Nat):List UInt8:=match k with
 | 1=> [114,101,103,105,115,116,101,114]
 | 2=> [113,117,101,114,121]
 | 3=> [100,114,111,112]
 | 4=> [105,110,103,101,115,116]
 | 5=> [116,105,99,107]
 | 6=> [112,111,108,108]
 | 7=> [100,101,99,108,97,115,115,105,102,121]
 | 8=> [97,117,100,105,116]
 | _=> []
def u4:List AV:=(List.range 9).map fun k=> .str (nm k)
def gl4:List (Nat × List AV):= [(1,rS),(2,Ba),(0,u4)]
theorem Fj {σ:St} (h:bR gl4 σ):bR gl3 σ:=fun k cs hk=>by
  refine h k cs ?_
  simp only [gl3,gl4,Go.Abs.look] at hk ⊢
  cases h1:Nat.beq k 1 with
  | true=>rw [h1] at hk;exact hk
  | false =>
    rw [h1] at hk
    cases h2:Nat.beq k 2 with
    | true=>rw [h2] at hk;exact hk
    | false=>rw [h2] at hk;cases hk
theorem yN {σ:St} (h:bR gl4 σ):σ.glob 0=some u4:=h _ _ rfl
theorem PuG.up4 {f:Nat} {xs:List AV} {v:AV} (h:PuG Tryz.prog gl3 f xs v):PuG Tryz.prog gl4 f xs v:=fun σ hσ=>h σ (Fj hσ)
def fb (k:Int):Bool:=decide (1≤k)&&decide (k≤8)
def kU (k:Int):Bool:=k == 2||k == 4
def opE (o:OpI):Int:=if fb o.kind=false then 11 else if kU o.kind=true∧1000<o.text.length then 4 else 0
theorem KF (k:Int):Pu Tryz.prog 131 [.int .i64 k] (.bool (fb k)):=by
 (refine al HP LP fun σ=>?_;simp only [HP,↓R1,RR,seval])
 skip
 (refine ak (ag ?_))
 (simp only [aq,↓R1,RR,seval])
 rfl
theorem MV (k:Int):Pu Tryz.prog 132 [.int .i64 k] (.bool (kU k)):=by
 (refine al HQ LQ fun σ=>?_;simp only [HQ,↓R1,RR,seval])
 skip
 (refine ak (ag ?_))
 (simp only [aq,↓R1,RR,seval])
 rfl
def kj (k:Int):List Bool:=if k=1 then [true,true,false,false,false,false] else if k=2 then [true,false,false,false,false,true] else if k=3 then [true,false,true,false,false,false]
 else if k=4 then [false,false,false,false,false,true] else if k=5 then [false,false,false,false,false,false] else if k=6 then [true,false,false,true,false,false]
 else if k=7 then [true,false,true,false,true,false] else if k=8 then [true,false,true,true,false,false] else [false,false,false,false,false,false]
theorem _root_.NX {p:Prop} (h:p:=by first|(simp [ax,rvS];done)|(simp only [ax,rvS,↓R1,RR,seval,q1,q2,q3,q4,q5,q6,q7,q8];try simp)):p:=h
theorem p81 (k:Int):Pu Tryz.prog 81 [.int .i64 k] (.tup [.agg ((kj k).map AV.bool), .bool (fb k)]):=by
 have q1:True:=trivial
 have q2:True:=trivial
 have q3:True:=trivial
 have q4:True:=trivial
 have q5:True:=trivial
 have q6:True:=trivial
 have q7:True:=trivial
 have q8:True:=trivial
 by_cases h:fb k=true
 ·have hk:k=1∨k=2∨k=3∨k=4∨k=5∨k=6∨k=7∨k=8:=by
   simp only [fb,Bool.and_eq_true,decide_eq_true_eq] at h;omega
  rcases hk with rfl|rfl|rfl|rfl|rfl|rfl|rfl|rfl
  all_goals ((refine al c81 b81 fun σ=>?_;simp only [c81,↓R1,RR,seval,q1,q2,q3,q4,q5,q6,q7,q8]);rw [ai];intro β hβ;simp only [↓R1,RR,seval,q1,q2,q3,q4,q5,q6,q7,q8];(refine ak ?_ NX (St.aO (St.le_refl _) hβ));simp only [aq,↓R1,RR,seval,q1,q2,q3,q4,q5,q6,q7,q8];exact ae _)
 ·have hk:∀ n:Int,1≤n→n≤8→(k == n)=false:=fun n h1 h2=>by
   rw [beq_eq_false_iff_ne];rintro rfl
   exact h (by simp only [fb,Bool.and_eq_true,decide_eq_true_eq];exact ⟨h1,h2⟩)
  have q1:=hk 1 Na Na
  have q2:=hk 2 Na Na
  have q3:=hk 3 Na Na
  have q4:=hk 4 Na Na
  have q5:=hk 5 Na Na
  have q6:=hk 6 Na Na
  have q7:=hk 7 Na Na
  have q8:=hk 8 Na Na
  have hf:kj k= [false,false,false,false,false,false]:=by
   simp only [beq_eq_false_iff_ne] at q1 q2 q3 q4 q5 q6 q7 q8
   simp only [kj,if_neg q1,if_neg q2,if_neg q3,if_neg q4,if_neg q5,if_neg q6,if_neg q7,if_neg q8]
  have hb:fb k=false:=NZ
  rw [hf,hb]
  (refine al c81 b81 fun σ=>?_;simp only [c81,↓R1,RR,seval,q1,q2,q3,q4,q5,q6,q7,q8])
  rw [ai];intro β hβ
  simp only [↓R1,RR,seval,q1,q2,q3,q4,q5,q6,q7,q8]
  (refine ak ?_ NX (St.aO (St.le_refl _) hβ))
  simp only [aq,↓R1,RR,seval,q1,q2,q3,q4,q5,q6,q7,q8]
  exact ae _
theorem u5 (k:Int):∃ a b c d e,kj k= [a,b,c,d,e,kU k]:=by
 unfold kj kU
 split
 ·rename_i h;subst h;exact ⟨_,_,_,_,_,rfl⟩
 split
 ·rename_i h;subst h;exact ⟨_,_,_,_,_,rfl⟩
 split
 ·rename_i h;subst h;exact ⟨_,_,_,_,_,rfl⟩
 split
 ·rename_i h;subst h;exact ⟨_,_,_,_,_,rfl⟩
 rename_i h2 _ h4
 have e2:(k == 2)=false:=by rw [beq_eq_false_iff_ne];exact h2
 have e4:(k == 4)=false:=by rw [beq_eq_false_iff_ne];exact h4
 rw [e2,e4]
 split
 ·exact ⟨_,_,_,_,_,rfl⟩
 split
 ·exact ⟨_,_,_,_,_,rfl⟩
 split
 ·exact ⟨_,_,_,_,_,rfl⟩
 split<;>exact ⟨_,_,_,_,_,rfl⟩
theorem _root_.Oq {p:Prop} (h:p:=by rw [opE,if_neg (by rw [kk];decide),if_neg (by rw [tt];simp)]):p:=h
theorem _root_.N8 {p:Prop} (h:p:=by rw [kk];decide):p:=h
theorem p72 (o:OpI):Pu Tryz.prog 72 [.agg (cOp o)] (.int .i64 (opE o)):=by
  have hk:=KF o.kind
  have ht:=MV o.kind
  have tt:True:=trivial
  have ll:True:=trivial
  have hne:∀ b:Bool,b≠false→b=true:=Na
  simp only [cOp]
  cases kk:fb o.kind with
  | false =>
    have ho:opE o=11:=by rw [opE,if_pos kk]
    rw [kk] at hk
    rw [ho]
    (refine al c72 b72 fun σ=>?_;simp only [c72,↓R1,RR,seval,kk,tt,ll])
    repeat' ((first|(with_reducible intro β hβ;(try simp only [RB] at hβ);(repeat (obtain ⟨⟨_,_⟩,hβ⟩:=hβ));(try (have hbis:=ah M0 hβ;obtain ⟨_,_⟩:=hbis)))|(refine Pt (hk) ?_))<;>(try simp only [↓R1,RR,seval,kk,tt,ll]))
    (refine ak ?_)
    simp only [aq,↓R1,RR,seval,kk,tt,ll]
    exact ae _
  | true =>
    rw [kk] at hk
    cases tt:kU o.kind with
    | false =>
      have ho:opE o=0:=Oq
      rw [tt] at ht
      rw [ho]
      (refine al c72 b72 fun σ=>?_;simp only [c72,↓R1,RR,seval,kk,tt,ll])
      repeat' ((first|(with_reducible intro β hβ;(try simp only [RB] at hβ);(repeat (obtain ⟨⟨_,_⟩,hβ⟩:=hβ));(try (have hbis:=ah M0 hβ;obtain ⟨_,_⟩:=hbis)))|(refine Pt (hk) ?_)|(refine Pt (ht) ?_))<;>(try simp only [↓R1,RR,seval,kk,tt,ll]))
      (refine ak ?_)
      simp only [aq,↓R1,RR,seval,kk,tt,ll]
      exact ae _
    | true =>
      rw [tt] at ht
      by_cases hl:1000<o.text.length
      · have ho:opE o=4:=by rw [opE,if_neg N8,if_pos ⟨tt,hl⟩]
        have ll:decide ((1000:Int)<(o.text.length:Int))=true:=M3
        rw [ho]
        (refine al c72 b72 fun σ=>?_;simp only [c72,↓R1,RR,seval,kk,tt,ll])
        repeat' ((first|(with_reducible intro β hβ;(try simp only [RB] at hβ);(repeat (obtain ⟨⟨_,_⟩,hβ⟩:=hβ));(try (have hbis:=ah M0 hβ;obtain ⟨_,_⟩:=hbis)))|(refine Pt (hk) ?_)|(refine Pt (ht) ?_))<;>(try simp only [↓R1,RR,seval,kk,tt,ll]))
        (refine ak ?_)
        simp only [aq,↓R1,RR,seval,kk,tt,ll]
        exact ae _
      · have ho:opE o=0:=by rw [opE,if_neg N8,if_neg (fun h=>hl h.2)]
        have ll:decide ((1000:Int)<(o.text.length:Int))=false:=Nk
        rw [ho]
        (refine al c72 b72 fun σ=>?_;simp only [c72,↓R1,RR,seval,kk,tt,ll])
        repeat' ((first|(with_reducible intro β hβ;(try simp only [RB] at hβ);(repeat (obtain ⟨⟨_,_⟩,hβ⟩:=hβ));(try (have hbis:=ah M0 hβ;obtain ⟨_,_⟩:=hbis)))|(refine Pt (hk) ?_)|(refine Pt (ht) ?_))<;>(try simp only [↓R1,RR,seval,kk,tt,ll]))
        (refine ak ?_)
        simp only [aq,↓R1,RR,seval,kk,tt,ll]
        exact ae _
theorem p77 (o:OpI):Pu Tryz.prog 77 [.agg (cOp o)] (.int .i64 (opE o)):=by
  obtain ⟨a,b,c,d,e,hs⟩:=u5 o.kind
  have hf:=p81 o.kind
  rw [hs] at hf
  simp only [List.map_cons,List.map_nil] at hf
  have tt:True:=trivial
  have ll:True:=trivial
  simp only [cOp]
  cases kk:fb o.kind with
  | false =>
    have ho:opE o=11:=by rw [opE,if_pos kk]
    rw [kk] at hf
    rw [ho]
    (refine al c77 b77 fun σ=>?_;simp only [c77,↓R1,RR,seval,kk,tt,ll])
    repeat' (first|(with_reducible rw [ai])|((first|(with_reducible intro β hβ;(try simp only [RB] at hβ);(repeat (obtain ⟨⟨_,_⟩,hβ⟩:=hβ));(try (have hbis:=ah M0 hβ;obtain ⟨_,_⟩:=hbis)))|(refine Pt (hf) ?_))<;>(try simp only [↓R1,RR,seval,kk,tt,ll])))
    (refine ak ?_)
    simp only [aq,↓R1,RR,seval,kk,tt,ll]
    exact ae _
  | true =>
    rw [kk] at hf
    cases tt:kU o.kind with
    | false =>
      have ho:opE o=0:=Oq
      rw [tt] at hf
      rw [ho]
      (refine al c77 b77 fun σ=>?_;simp only [c77,↓R1,RR,seval,kk,tt,ll])
      repeat' (first|(with_reducible rw [ai])|((first|(with_reducible intro β hβ;(try simp only [RB] at hβ);(repeat (obtain ⟨⟨_,_⟩,hβ⟩:=hβ));(try (have hbis:=ah M0 hβ;obtain ⟨_,_⟩:=hbis)))|(refine Pt (hf) ?_))<;>(try simp only [↓R1,RR,seval,kk,tt,ll])))
      (refine ak ?_)
      simp only [aq,↓R1,RR,seval,kk,tt,ll]
      exact ae _
    | true =>
      rw [tt] at hf
      by_cases hl:1000<o.text.length
      · have ho:opE o=4:=by rw [opE,if_neg N8,if_pos ⟨tt,hl⟩]
        have ll:decide ((1000:Int)<(o.text.length:Int))=true:=M3
        rw [ho]
        (refine al c77 b77 fun σ=>?_;simp only [c77,↓R1,RR,seval,kk,tt,ll])
        repeat' (first|(with_reducible rw [ai])|((first|(with_reducible intro β hβ;(try simp only [RB] at hβ);(repeat (obtain ⟨⟨_,_⟩,hβ⟩:=hβ));(try (have hbis:=ah M0 hβ;obtain ⟨_,_⟩:=hbis)))|(refine Pt (hf) ?_))<;>(try simp only [↓R1,RR,seval,kk,tt,ll])))
        (refine ak ?_)
        simp only [aq,↓R1,RR,seval,kk,tt,ll]
        exact ae _
      · have ho:opE o=0:=by rw [opE,if_neg N8,if_neg (fun h=>hl h.2)]
        have ll:decide ((1000:Int)<(o.text.length:Int))=false:=Nk
        rw [ho]
        (refine al c77 b77 fun σ=>?_;simp only [c77,↓R1,RR,seval,kk,tt,ll])
        repeat' (first|(with_reducible rw [ai])|((first|(with_reducible intro β hβ;(try simp only [RB] at hβ);(repeat (obtain ⟨⟨_,_⟩,hβ⟩:=hβ));(try (have hbis:=ah M0 hβ;obtain ⟨_,_⟩:=hbis)))|(refine Pt (hf) ?_))<;>(try simp only [↓R1,RR,seval,kk,tt,ll])))
        (refine ak ?_)
        simp only [aq,↓R1,RR,seval,kk,tt,ll]
        exact ae _
theorem p73 {k:Nat} (h:1≤k∧k≤8):PuG Tryz.prog gl4 73 [.int .i64 (k:Nat)] (.tup [.str (nm k), .int .i64 0]):=by
 have hk:fb (k:Int)=true:=by simp only [fb,Bool.and_eq_true,decide_eq_true_eq];omega
 have h0:=KF k
 rw [hk] at h0
 have q1:(u4.drop (k*1))[0]? =some (.str (nm k)):=by
  have:∀ n:Fin 9,(u4.drop (n.val*1))[0]? =some (.str (nm n.val)):=by
   intro n
   rcases n with ⟨n,hn⟩
   rcases (show n=0∨n=1∨n=2∨n=3∨n=4∨n=5∨n=6∨n=7∨n=8 by omega) with rfl|rfl|rfl|rfl|rfl|rfl|rfl|rfl|rfl<;>rfl
  exact this ⟨k,by omega⟩
 have q2:u4.length=9:=rfl
 have q3:True:=trivial
 (refine aR c73 b73 fun σ hσ=>?_;simp only [c73,↓R1,RR,seval,q1,q2,q3])
 have q3:=yN hσ
 repeat' (first|(with_reducible refine And.intro ?_ ?_;exact af)|((refine Pt (h0) ?_)<;>(try simp only [↓R1,RR,seval,q1,q2,q3])))
 (refine ak (ag ?_))
 (simp only [aq,↓R1,RR,seval,q1,q2,q3])
def u6 (s:List UInt8):Bool:=s.length == 17&&decide ((s[8]?.getD 0).toNat<26)
def evL (s:List UInt8):BitVec 64:=iW (s.take 8)
def evK (s:List UInt8):Nat:=(s[8]?.getD 0).toNat
def evV (s:List UInt8):Int:=IntKind.i64.wrap ((iW (s.drop 9)).toNat:Int)
theorem l8 {s:List UInt8} (h:u6 s=true):fK s= [.int .u64 (evL s).toNat, .int .i64 (evK s), .int .i64 (evV s)]∧ga s= [.int .i64 0, .int .i64 0]:=by
 unfold u6 at h
 refine ⟨by unfold fK;rw [h];rfl,?_⟩
 simp only [Bool.and_eq_true,beq_iff_eq,decide_eq_true_eq] at h
 unfold ga
 have h1:decide (s.length<8)=false:=Ng
 have h2:decide (s.length<9)=false:=Ng
 have h3:decide (26≤(s[8]?.getD 0).toNat)=false:=Ng
 have h4:decide (s.length<17)=false:=Ng
 have h5:decide (17<s.length)=false:=Ng
 simp only [h1,h2,h3,h4,h5,cond_false]
theorem CK {s:List UInt8} (h:u6 s=false):∃ e a:Int,e≠0∧fK s= [.int .u64 0, .int .i64 0, .int .i64 0]∧ga s= [.int .i64 e, .int .i64 a]:=by
  unfold u6 at h
  have hE:fK s= [.int .u64 0, .int .i64 0, .int .i64 0]:=by unfold fK;rw [h];rfl
  unfold ga
  cases h1:decide (s.length<8) with
  | true=>exact ⟨_,_,by decide,hE,rfl⟩
  | false =>
    cases h2:decide (s.length<9) with
    | true=>exact ⟨_,_,by decide,hE,rfl⟩
    | false =>
      cases h3:decide (26≤(s[8]?.getD 0).toNat) with
      | true=>exact ⟨_,_,by decide,hE,rfl⟩
      | false =>
        cases h4:decide (s.length<17) with
        | true=>exact ⟨_,_,by decide,hE,rfl⟩
        | false =>
          cases h5:decide (17<s.length) with
          | true=>exact ⟨_,_,by decide,hE,rfl⟩
          | false =>
            exfalso
            simp only [decide_eq_false_iff_not] at h1 h2 h3 h4 h5
            rw [show s.length=17 by omega,decide_eq_true MX] at h
            cases h
structure OpOk (o:OpI):Prop where
 tenant:I64 o.tenant
 number:I64 o.number
 most:I64 o.most
 label:U64 o.label
 idl:U64 o.idl
def nD:List UInt8:= [98,121,116,101,115]
def bD (o:OpI):List (List UInt8) :=
 if o.kind=1 then [nm 1,itoa o.tenant,cO (lab o.label)] else if o.kind=2 then [nm 2,itoa o.tenant,o.text] else if o.kind=3 then [nm 3,itoa o.tenant,itoa o.number]
 else if o.kind=4 then (if u6 o.text=true then [nm 4,cE (evK o.text),cO (evL o.text),itoa (evV o.text)] else [nD,o.text]) else if o.kind=6 then [nm 6,itoa o.tenant,itoa o.most]
 else if o.kind=7 then [nm 7,itoa o.tenant,itoa o.number,dL (lab o.idl) o.idn] else if o.kind=8 then [nm 8,itoa o.tenant,itoa o.number,itoa o.most] else [nm 5]
def fh (o:OpI):AV:=if opE o≠0 then .tup [.str [], .int .i64 (opE o)] else if o.kind=7∧idE o.idn≠0 then .tup [.str [], .int .i64 (idE o.idn)] else mI (ff [mkR (bD o)])
def WOk (ws:List (List UInt8)):Prop:=ws.length≤20∧∀ t∈ws,t.length≤1100
theorem oW {ws:List (List UInt8)} (h:WOk ws):mK [mkR ws]:=by
 refine ⟨by simp,fun r hr=>?_⟩
 have e:=List.mem_singleton.1 hr
 subst e
 have h1:=h.1
 refine ⟨by simp [mkR];omega,fun w hw=>?_⟩
 obtain ⟨t,ht,rfl⟩:=List.mem_map.1 hw
 have:=h.2 t ht
 show t.length≤20000
 omega
theorem kV (ws:List (List UInt8)):∃ (t:List UInt8) (e:Int),mI (ff [mkR ws])= .tup [.str t, .int .i64 e]:=by
 cases ff [mkR ws] with
 | error e=>exact ⟨_,_,rfl⟩
 | ok t=>exact ⟨_,_,rfl⟩
theorem CL {l:List (List UInt8)} (h:WOk l):Pu Tryz.prog 74 [.sl true l.length (l.map AV.str)] (mI (ff [mkR l])):=by
 have h0:=Km l Oi (fun t ht=>by have:=h.2 t ht;omega)
 have h1:=Kl [mkR l] (oW h)
 obtain ⟨t,e,hv⟩:=kV l
 rw [hv] at h1 ⊢
 simp only [List.flatMap_cons,List.flatMap_nil,List.append_nil,List.length_cons,List.length_nil,Nat.zero_add] at h1
 (refine al c74 b74 fun σ=>?_;simp only [c74,↓R1,RR,seval,List.length_map,hv])
 repeat' (first|(with_reducible apply And.intro)|((first|((refine Pu.to (h0) ?_ ?_;(focus exact cW)))|((refine Pu.to (h1) ?_ ?_;(focus exact cW))))<;>(try simp only [↓R1,RR,seval,List.length_map,hv])))
 ·rfl
 ·(refine ak (ag ?_))
  (simp only [aq,↓R1,RR,seval,List.length_map,hv])
theorem sS (l:BitVec 64) (n:Int):(dL l n).length≤1100:=by have:=uC l n;omega
theorem u7 (s:List UInt8):I64 (evV s):=by
 unfold evV I64
 rw [wI];split<;>omega
theorem nE (o:OpI) (ho:OpOk o) (ht:o.text.length≤1100):WOk (bD o):=by
 have h1:=cI o.tenant ho.tenant
 have h2:=cI o.number ho.number
 have h3:=cI o.most ho.most
 have h4:=dY (lab o.label)
 have h5:=dY (evL o.text)
 have h6:=cI (evV o.text) (u7 _)
 have h7:=lx (evK o.text)
 have h8:=sS (lab o.idl) o.idn
 have hn:∀ k:Nat,(nm k).length≤1100:=by
  intro k;unfold nm;split<;>decide
 unfold bD
 (repeat' split)<;>refine ⟨by simp,fun t h=>?_⟩<;>simp only [List.mem_cons,List.not_mem_nil,or_false] at h
 ·rcases h with rfl|rfl|rfl<;>first|exact hn _|omega
 ·rcases h with rfl|rfl|rfl<;>first|exact hn _|omega
 ·rcases h with rfl|rfl|rfl<;>first|exact hn _|omega
 ·rcases h with rfl|rfl|rfl|rfl<;>first|exact hn _|omega
 ·rcases h with rfl|rfl<;>first|decide|omega
 ·rcases h with rfl|rfl|rfl<;>first|exact hn _|omega
 ·rcases h with rfl|rfl|rfl|rfl<;>first|exact hn _|omega
 ·rcases h with rfl|rfl|rfl|rfl<;>first|exact hn _|omega
 ·subst h;exact hn _
theorem oY {o:OpI} (h:opE o=0):(o.kind=1∨o.kind=2∨o.kind=3∨o.kind=4∨o.kind=5∨o.kind=6∨o.kind=7∨o.kind=8)∧(o.kind=2∨o.kind=4→o.text.length≤1000):=by
 unfold opE at h
 split at h
 ·cases h
 ·rename_i h1
  split at h
  ·cases h
  ·rename_i h2
   simp only [Bool.not_eq_false,fb,Bool.and_eq_true,decide_eq_true_eq] at h1
   refine ⟨by omega,fun hk=>?_⟩
   refine Classical.byContradiction fun hc=>h2 ⟨?_,by omega⟩
   rcases hk with hk|hk<;>rw [hk]<;>rfl
theorem _root_.N2 {p:Prop} (h:p:=by rw [bD,if_neg (by omega),if_neg (by omega),if_neg (by omega),if_pos hkd,if_pos hev]):p:=h
theorem _root_.NU {p:Prop} (h:p:=by rw [bD,if_neg (by omega),if_neg (by omega),if_neg (by omega),if_pos hkd,if_neg (by rw [hev];decide)]):p:=h
set_option maxHeartbeats 8000000 in
theorem p27 (o:OpI) (ho:OpOk o) (ht:o.text.length≤1100):PuG Tryz.prog gl4 27 [.agg (cOp o)] (fh o):=by
  have hck:=p72 o
  have h74:=CL (nE o ho ht)
  obtain ⟨t,e,hv⟩:=kV (bD o)
  have hten:=PuG.up4 (p52 o.tenant ho.tenant)
  have hnum:=PuG.up4 (p52 o.number ho.number)
  have hmost:=PuG.up4 (p52 o.most ho.most)
  have hlab:=PuG.up4 (PuG.up3 (p51 (lab o.label)))
  rw [dt ho.label] at hlab
  have q1:True:=trivial
  have hkd:True:=trivial
  by_cases hz:opE o=0
  · obtain ⟨hkk,htk⟩:=oY hz
    have hz2:=hz
    rw [hv] at h74
    have hL:(o.kind=7→idE o.idn=0)→fh o= .tup [.str t, .int .i64 e]:=fun h=>by
      rw [fh,if_neg (fun h=>h hz),if_neg (fun hh=>hh.2 (h hh.1)),hv]
    rw [hz] at hck
    have hz:True:=trivial
    simp only [cOp] at hck ⊢
    rcases hkk with hkd|hkd|hkd|hkd|hkd|hkd|hkd|hkd
    · have hw:bD o= [nm 1,itoa o.tenant,cO (lab o.label)]:=by rw [bD,if_pos hkd]
      have hname:=p73 (k:=1) Na
      rw [hw] at h74
      rw [hL (fun h=>by omega)]
      rw [hkd] at hck ⊢
      (refine aR c27 b27 fun σ hσ=>?_;simp only [c27,↓R1,RR,seval,hkd,q1,hz])
      repeat' ((first|(with_reducible intro β hβ;(try simp only [RB] at hβ);(repeat (obtain ⟨⟨_,_⟩,hβ⟩:=hβ));(try (have hbis:=ah M0 hβ;obtain ⟨_,_⟩:=hbis)))|(refine Pt (hck) ?_)|(refine PuG.to (hname) hσ (ad _) ?_)|(refine PuG.to (hten) hσ (ad _) ?_)|(refine PuG.to (hlab) hσ (ad _) ?_)|(refine Pt (h74) ?_))<;>(try simp only [↓R1,RR,seval,hkd,q1,hz]))
      (refine ak ?_);(simp only [aq,↓R1,RR,seval,hkd,q1,hz];exact ae _)
    · have hw:bD o= [nm 2,itoa o.tenant,o.text]:=by rw [bD,if_neg MX,if_pos hkd]
      have hname:=p73 (k:=2) Na
      rw [hw] at h74
      rw [hL (fun h=>by omega)]
      rw [hkd] at hck ⊢
      (refine aR c27 b27 fun σ hσ=>?_;simp only [c27,↓R1,RR,seval,hkd,q1,hz])
      repeat' ((first|(with_reducible intro β hβ;(try simp only [RB] at hβ);(repeat (obtain ⟨⟨_,_⟩,hβ⟩:=hβ));(try (have hbis:=ah M0 hβ;obtain ⟨_,_⟩:=hbis)))|(refine Pt (hck) ?_)|(refine PuG.to (hname) hσ (ad _) ?_)|(refine PuG.to (hten) hσ (ad _) ?_)|(refine Pt (h74) ?_))<;>(try simp only [↓R1,RR,seval,hkd,q1,hz]))
      (refine ak ?_);(simp only [aq,↓R1,RR,seval,hkd,q1,hz];exact ae _)
    · have hw:bD o= [nm 3,itoa o.tenant,itoa o.number]:=by rw [bD,if_neg MX,if_neg MX,if_pos hkd]
      have hname:=p73 (k:=3) Na
      rw [hw] at h74
      rw [hL (fun h=>by omega)]
      rw [hkd] at hck ⊢
      (refine aR c27 b27 fun σ hσ=>?_;simp only [c27,↓R1,RR,seval,hkd,q1,hz])
      repeat' ((first|(with_reducible intro β hβ;(try simp only [RB] at hβ);(repeat (obtain ⟨⟨_,_⟩,hβ⟩:=hβ));(try (have hbis:=ah M0 hβ;obtain ⟨_,_⟩:=hbis)))|(refine Pt (hck) ?_)|(refine PuG.to (hname) hσ (ad _) ?_)|(refine PuG.to (hten) hσ (ad _) ?_)|(refine PuG.to (hnum) hσ (ad _) ?_)|(refine Pt (h74) ?_))<;>(try simp only [↓R1,RR,seval,hkd,q1,hz]))
      (refine ak ?_);(simp only [aq,↓R1,RR,seval,hkd,q1,hz];exact ae _)
    · have hname:=p73 (k:=4) Na
      have hpar:=p75 o.text (htk (.inr hkd))
      rw [(BX o.text).1,(BX o.text).2] at hpar
      rw [hL (fun h=>by omega)]
      cases hev:u6 o.text with
      | true =>
        have hw:bD o= [nm 4,cE (evK o.text),cO (evL o.text),itoa (evV o.text)]:=N2
        rw [hw] at h74
        rw [hkd] at hck ⊢
        rw [(l8 hev).1,(l8 hev).2] at hpar
        have hlet:=p53 (evK o.text)
        have hl2:=PuG.up4 (PuG.up3 (p51 (evL o.text)))
        have hn2:=PuG.up4 (p54 (evV o.text) (u7 _))
        (refine aR c27 b27 fun σ hσ=>?_;simp only [c27,↓R1,RR,seval,hkd,q1,hz])
        repeat' (first|(with_reducible rw [ai])|((first|(with_reducible intro β hβ;(try simp only [RB] at hβ);(repeat (obtain ⟨⟨_,_⟩,hβ⟩:=hβ));(try (have hbis:=ah M0 hβ;obtain ⟨_,_⟩:=hbis)))|(refine Pt (hck) ?_)|(refine PuG.to (hname) hσ (ad _) ?_)|(refine PuG.to (hten) hσ (ad _) ?_)|(refine Pt (hpar) ?_)|(refine Pt (hlet) ?_)|(refine a7 (hl2) hσ (ad _) ?_)|(refine a7 (hn2) hσ (ad _) ?_)|(refine Ct (h74) ?_))<;>(try simp only [↓R1,RR,seval,hkd,q1,hz])))
        (refine ak ?_);(simp only [aq,↓R1,RR,seval,hkd,q1,hz];exact ae _)
      | false =>
        have hw:bD o= [nD,o.text]:=NU
        rw [hw] at h74
        rw [hkd] at hck ⊢
        obtain ⟨f,a,hf,hE,hF⟩:=CK hev
        rw [hE,hF] at hpar
        have q1:(f != 0)=true:=by rw [bne_iff_ne];exact hf
        unfold nD at h74
        (refine aR c27 b27 fun σ hσ=>?_;simp only [c27,↓R1,RR,seval,hkd,q1,hz])
        repeat' (first|(with_reducible rw [ai])|((first|(with_reducible intro β hβ;(try simp only [RB] at hβ);(repeat (obtain ⟨⟨_,_⟩,hβ⟩:=hβ));(try (have hbis:=ah M0 hβ;obtain ⟨_,_⟩:=hbis)))|(refine Pt (hck) ?_)|(refine PuG.to (hname) hσ (ad _) ?_)|(refine PuG.to (hten) hσ (ad _) ?_)|(refine Pt (hpar) ?_)|(refine Pt (h74) ?_))<;>(try simp only [↓R1,RR,seval,hkd,q1,hz])))
        (refine ak ?_);(simp only [aq,↓R1,RR,seval,hkd,q1,hz];exact ae _)
    · have hw:bD o= [nm 5]:=by rw [bD,if_neg MX,if_neg MX,if_neg MX,if_neg MX,if_neg MX,if_neg MX,if_neg MX]
      have hname:=p73 (k:=5) Na
      rw [hw] at h74
      rw [hL (fun h=>by omega)]
      rw [hkd] at hck ⊢
      (refine aR c27 b27 fun σ hσ=>?_;simp only [c27,↓R1,RR,seval,hkd,q1,hz])
      repeat' ((first|(with_reducible intro β hβ;(try simp only [RB] at hβ);(repeat (obtain ⟨⟨_,_⟩,hβ⟩:=hβ));(try (have hbis:=ah M0 hβ;obtain ⟨_,_⟩:=hbis)))|(refine Pt (hck) ?_)|(refine PuG.to (hname) hσ (ad _) ?_)|(refine PuG.to (hten) hσ (ad _) ?_)|(refine Pt (h74) ?_))<;>(try simp only [↓R1,RR,seval,hkd,q1,hz]))
      (refine ak ?_);(simp only [aq,↓R1,RR,seval,hkd,q1,hz];exact ae _)
    · have hw:bD o= [nm 6,itoa o.tenant,itoa o.most]:=by rw [bD,if_neg MX,if_neg MX,if_neg MX,if_neg MX,if_pos hkd]
      have hname:=p73 (k:=6) Na
      rw [hw] at h74
      rw [hL (fun h=>by omega)]
      rw [hkd] at hck ⊢
      (refine aR c27 b27 fun σ hσ=>?_;simp only [c27,↓R1,RR,seval,hkd,q1,hz])
      repeat' ((first|(with_reducible intro β hβ;(try simp only [RB] at hβ);(repeat (obtain ⟨⟨_,_⟩,hβ⟩:=hβ));(try (have hbis:=ah M0 hβ;obtain ⟨_,_⟩:=hbis)))|(refine Pt (hck) ?_)|(refine PuG.to (hname) hσ (ad _) ?_)|(refine PuG.to (hten) hσ (ad _) ?_)|(refine PuG.to (hmost) hσ (ad _) ?_)|(refine Pt (h74) ?_))<;>(try simp only [↓R1,RR,seval,hkd,q1,hz]))
      (refine ak ?_);(simp only [aq,↓R1,RR,seval,hkd,q1,hz];exact ae _)
    · have hname:=p73 (k:=7) Na
      have hid:=PuG.up4 (p76 (lab o.idl) o.idn)
      rw [dt ho.idl] at hid
      by_cases hi:idE o.idn=0
      · have hw:bD o= [nm 7,itoa o.tenant,itoa o.number,dL (lab o.idl) o.idn]:=by rw [bD,if_neg MX,if_neg MX,if_neg MX,if_neg MX,if_neg MX,if_pos hkd]
        rw [hw] at h74
        rw [hL (fun h=>hi)]
        rw [hkd] at hck ⊢
        rw [hi] at hid
        (refine aR c27 b27 fun σ hσ=>?_;simp only [c27,↓R1,RR,seval,hkd,q1,hz])
        repeat' ((first|(with_reducible intro β hβ;(try simp only [RB] at hβ);(repeat (obtain ⟨⟨_,_⟩,hβ⟩:=hβ));(try (have hbis:=ah M0 hβ;obtain ⟨_,_⟩:=hbis)))|(refine Pt (hck) ?_)|(refine PuG.to (hname) hσ (ad _) ?_)|(refine PuG.to (hten) hσ (ad _) ?_)|(refine PuG.to (hid) hσ (ad _) ?_)|(refine PuG.to (hnum) hσ (ad _) ?_)|(refine Pt (h74) ?_))<;>(try simp only [↓R1,RR,seval,hkd,q1,hz]))
        (refine ak ?_);(simp only [aq,↓R1,RR,seval,hkd,q1,hz];exact ae _)
      · have hL2:fh o= .tup [.str [], .int .i64 (idE o.idn)]:=by rw [fh,if_neg (fun h=>h hz2),if_pos ⟨hkd,hi⟩]
        have q1:(idE o.idn != 0)=true:=by rw [bne_iff_ne];exact hi
        rw [hL2]
        rw [hkd] at hck ⊢
        (refine aR c27 b27 fun σ hσ=>?_;simp only [c27,↓R1,RR,seval,hkd,q1,hz])
        repeat' ((first|(with_reducible intro β hβ;(try simp only [RB] at hβ);(repeat (obtain ⟨⟨_,_⟩,hβ⟩:=hβ));(try (have hbis:=ah M0 hβ;obtain ⟨_,_⟩:=hbis)))|(refine Pt (hck) ?_)|(refine PuG.to (hname) hσ (ad _) ?_)|(refine PuG.to (hten) hσ (ad _) ?_)|(refine PuG.to (hid) hσ (ad _) ?_))<;>(try simp only [↓R1,RR,seval,hkd,q1,hz]))
        (refine ak ?_);(simp only [aq,↓R1,RR,seval,hkd,q1,hz];exact ae _)
    · have hw:bD o= [nm 8,itoa o.tenant,itoa o.number,itoa o.most]:=by rw [bD,if_neg MX,if_neg MX,if_neg MX,if_neg MX,if_neg MX,if_neg MX,if_pos hkd]
      have hname:=p73 (k:=8) Na
      rw [hw] at h74
      rw [hL (fun h=>by omega)]
      rw [hkd] at hck ⊢
      (refine aR c27 b27 fun σ hσ=>?_;simp only [c27,↓R1,RR,seval,hkd,q1,hz])
      repeat' ((first|(with_reducible intro β hβ;(try simp only [RB] at hβ);(repeat (obtain ⟨⟨_,_⟩,hβ⟩:=hβ));(try (have hbis:=ah M0 hβ;obtain ⟨_,_⟩:=hbis)))|(refine Pt (hck) ?_)|(refine PuG.to (hname) hσ (ad _) ?_)|(refine PuG.to (hten) hσ (ad _) ?_)|(refine a7 (hnum) hσ (ad _) ?_)|(refine a7 (hmost) hσ (ad _) ?_)|(refine Ct (h74) ?_))<;>(try simp only [↓R1,RR,seval,hkd,q1,hz]))
      (refine ak ?_);(simp only [aq,↓R1,RR,seval,hkd,q1,hz];exact ae _)
  · have q1:(opE o != 0)=true:=by rw [bne_iff_ne];exact hz
    have hL:fh o= .tup [.str [], .int .i64 (opE o)]:=by rw [fh,if_pos hz]
    rw [hL]
    have hz:True:=trivial
    simp only [cOp] at hck ⊢
    (refine aR c27 b27 fun σ hσ=>?_;simp only [c27,↓R1,RR,seval,hkd,q1,hz])
    repeat' ((first|(with_reducible intro β hβ;(try simp only [RB] at hβ);(repeat (obtain ⟨⟨_,_⟩,hβ⟩:=hβ));(try (have hbis:=ah M0 hβ;obtain ⟨_,_⟩:=hbis)))|(refine Pt (hck) ?_))<;>(try simp only [↓R1,RR,seval,hkd,q1,hz]))
    (refine ak ?_);(simp only [aq,↓R1,RR,seval,hkd,q1,hz];exact ae _)
theorem Fk {l:List (List UInt8)} (h:WOk l):Pu Tryz.prog 56 [.sl true l.length (l.map AV.str)] (.agg (cRI (mkR l))):=fun σ =>
 AC.wk (p56 l Oi (fun t ht=>by have:=h.2 t ht;omega) σ) (.cons (fl _ _) .nil)
theorem _root_.M7 {p:Prop} (h:p:=by first|(simp [ax,rvS];done)|(simp only [ax,rvS,↓R1,RR,seval,hkd,q1,cRI,List.length_map];try simp)):p:=h
set_option maxHeartbeats 8000000 in
theorem p78 (o:OpI) (ho:OpOk o) (ht:o.text.length≤1100) (hz:opE o=0):Pu Tryz.prog 78 [.agg (cOp o)] (.tup [.agg (cRI (mkR (bD o))), .int .i64 (if o.kind=7 then idE o.idn else 0)]):=by
  have hmk:=Fk (nE o ho ht)
  have hten:=dR o.tenant ho.tenant
  have hnum:=dR o.number ho.number
  have hmost:=dR o.most ho.most
  have hlab:=p58 (lab o.label)
  rw [dt ho.label] at hlab
  have q1:True:=trivial
  have hkd:True:=trivial
  obtain ⟨hkk,htk⟩:=oY hz
  obtain ⟨c0,c1,hc⟩:∃ c0 c1,cRI (mkR (bD o))= [c0,c1]:=⟨_,_,rfl⟩
  rw [hc] at hmk ⊢
  simp only [cOp]
  rcases hkk with hkd|hkd|hkd|hkd|hkd|hkd|hkd|hkd
  · have hw:bD o= [nm 1,itoa o.tenant,cO (lab o.label)]:=by rw [bD,if_pos hkd]
    rw [hw] at hmk
    have he:(if o.kind=7 then idE o.idn else 0)=0:=NC
    rw [he,hkd]
    (refine al c78 b78 fun σ=>?_;simp only [c78,↓R1,RR,seval,hkd,q1,cRI,List.length_map])
    repeat' (first|(with_reducible rw [ai])|((first|(with_reducible intro β hβ;(try simp only [RB] at hβ);(repeat (obtain ⟨⟨_,_⟩,hβ⟩:=hβ));(try (have hbis:=ah M0 hβ;obtain ⟨_,_⟩:=hbis)))|(refine Ct (hten) ?_)|(refine Ct (hlab) ?_)|(refine Ct (hmk) ?_))<;>(try simp only [↓R1,RR,seval,hkd,q1,cRI,List.length_map])))
    (refine ak ?_ M7);(simp only [aq,↓R1,RR,seval,hkd,q1,cRI,List.length_map];exact ae _)
  · have hw:bD o= [nm 2,itoa o.tenant,o.text]:=by rw [bD,if_neg MX,if_pos hkd]
    rw [hw] at hmk
    have he:(if o.kind=7 then idE o.idn else 0)=0:=NC
    rw [he,hkd]
    (refine al c78 b78 fun σ=>?_;simp only [c78,↓R1,RR,seval,hkd,q1,cRI,List.length_map])
    repeat' (first|(with_reducible rw [ai])|((first|(with_reducible intro β hβ;(try simp only [RB] at hβ);(repeat (obtain ⟨⟨_,_⟩,hβ⟩:=hβ));(try (have hbis:=ah M0 hβ;obtain ⟨_,_⟩:=hbis)))|(refine Ct (hten) ?_)|(refine Ct (hmk) ?_))<;>(try simp only [↓R1,RR,seval,hkd,q1,cRI,List.length_map])))
    (refine ak ?_ M7);(simp only [aq,↓R1,RR,seval,hkd,q1,cRI,List.length_map];exact ae _)
  · have hw:bD o= [nm 3,itoa o.tenant,itoa o.number]:=by rw [bD,if_neg MX,if_neg MX,if_pos hkd]
    rw [hw] at hmk
    have he:(if o.kind=7 then idE o.idn else 0)=0:=NC
    rw [he,hkd]
    (refine al c78 b78 fun σ=>?_;simp only [c78,↓R1,RR,seval,hkd,q1,cRI,List.length_map])
    repeat' (first|(with_reducible rw [ai])|((first|(with_reducible intro β hβ;(try simp only [RB] at hβ);(repeat (obtain ⟨⟨_,_⟩,hβ⟩:=hβ));(try (have hbis:=ah M0 hβ;obtain ⟨_,_⟩:=hbis)))|(refine Ct (hten) ?_)|(refine Ct (hnum) ?_)|(refine Ct (hmk) ?_))<;>(try simp only [↓R1,RR,seval,hkd,q1,cRI,List.length_map])))
    (refine ak ?_ M7);(simp only [aq,↓R1,RR,seval,hkd,q1,cRI,List.length_map];exact ae _)
  · have hpar:=Mr o.text (htk (.inr hkd))
    have he:(if o.kind=7 then idE o.idn else 0)=0:=NC
    rw [he]
    cases hev:u6 o.text with
    | true =>
      have hw:bD o= [nm 4,cE (evK o.text),cO (evL o.text),itoa (evV o.text)]:=N2
      rw [hw] at hmk
      rw [hkd]
      rw [(l8 hev).1,(l8 hev).2] at hpar
      have hlet:=p59 (evK o.text)
      have hl2:=p58 (evL o.text)
      have hn2:=p60 (evV o.text) (u7 _)
      (refine al c78 b78 fun σ=>?_;simp only [c78,↓R1,RR,seval,hkd,q1,cRI,List.length_map])
      repeat' (first|(with_reducible rw [ai])|((first|(with_reducible intro β hβ;(try simp only [RB] at hβ);(repeat (obtain ⟨⟨_,_⟩,hβ⟩:=hβ));(try (have hbis:=ah M0 hβ;obtain ⟨_,_⟩:=hbis)))|(refine Pt (hpar) ?_)|(refine Pt (hlet) ?_)|(refine Ct (hl2) ?_)|(refine Ct (hn2) ?_)|(refine Ct (hmk) ?_))<;>(try simp only [↓R1,RR,seval,hkd,q1,cRI,List.length_map])))
      (refine ak ?_ M7);(simp only [aq,↓R1,RR,seval,hkd,q1,cRI,List.length_map];exact ae _)
    | false =>
      have hw:bD o= [nD,o.text]:=NU
      rw [hw] at hmk
      rw [hkd]
      obtain ⟨f,a,hf,hE,hF⟩:=CK hev
      rw [hE,hF] at hpar
      have q1:(f != 0)=true:=by rw [bne_iff_ne];exact hf
      unfold nD at hmk
      (refine al c78 b78 fun σ=>?_;simp only [c78,↓R1,RR,seval,hkd,q1,cRI,List.length_map])
      repeat' (first|(with_reducible rw [ai])|((first|(with_reducible intro β hβ;(try simp only [RB] at hβ);(repeat (obtain ⟨⟨_,_⟩,hβ⟩:=hβ));(try (have hbis:=ah M0 hβ;obtain ⟨_,_⟩:=hbis)))|(refine Pt (hpar) ?_)|(refine Pt (hmk) ?_))<;>(try simp only [↓R1,RR,seval,hkd,q1,cRI,List.length_map])))
      (refine ak ?_ M7);(simp only [aq,↓R1,RR,seval,hkd,q1,cRI,List.length_map];exact ae _)
  · have hw:bD o= [nm 5]:=by rw [bD,if_neg MX,if_neg MX,if_neg MX,if_neg MX,if_neg MX,if_neg MX,if_neg MX]
    rw [hw] at hmk
    have he:(if o.kind=7 then idE o.idn else 0)=0:=NC
    rw [he,hkd]
    (refine al c78 b78 fun σ=>?_;simp only [c78,↓R1,RR,seval,hkd,q1,cRI,List.length_map])
    repeat' (first|(with_reducible rw [ai])|((first|(with_reducible intro β hβ;(try simp only [RB] at hβ);(repeat (obtain ⟨⟨_,_⟩,hβ⟩:=hβ));(try (have hbis:=ah M0 hβ;obtain ⟨_,_⟩:=hbis)))|(refine Pt (hmk) ?_))<;>(try simp only [↓R1,RR,seval,hkd,q1,cRI,List.length_map])))
    (refine ak ?_ M7);(simp only [aq,↓R1,RR,seval,hkd,q1,cRI,List.length_map];exact ae _)
  · have hw:bD o= [nm 6,itoa o.tenant,itoa o.most]:=by rw [bD,if_neg MX,if_neg MX,if_neg MX,if_neg MX,if_pos hkd]
    rw [hw] at hmk
    have he:(if o.kind=7 then idE o.idn else 0)=0:=NC
    rw [he,hkd]
    (refine al c78 b78 fun σ=>?_;simp only [c78,↓R1,RR,seval,hkd,q1,cRI,List.length_map])
    repeat' (first|(with_reducible rw [ai])|((first|(with_reducible intro β hβ;(try simp only [RB] at hβ);(repeat (obtain ⟨⟨_,_⟩,hβ⟩:=hβ));(try (have hbis:=ah M0 hβ;obtain ⟨_,_⟩:=hbis)))|(refine Ct (hten) ?_)|(refine Ct (hmost) ?_)|(refine Ct (hmk) ?_))<;>(try simp only [↓R1,RR,seval,hkd,q1,cRI,List.length_map])))
    (refine ak ?_ M7);(simp only [aq,↓R1,RR,seval,hkd,q1,cRI,List.length_map];exact ae _)
  · have hid:=Mh (lab o.idl) o.idn
    rw [dt ho.idl] at hid
    have hw:bD o= [nm 7,itoa o.tenant,itoa o.number,dL (lab o.idl) o.idn]:=by rw [bD,if_neg MX,if_neg MX,if_neg MX,if_neg MX,if_neg MX,if_pos hkd]
    rw [hw] at hmk
    have he:(if o.kind=7 then idE o.idn else 0)=idE o.idn:=if_pos hkd
    rw [he,hkd]
    (refine al c78 b78 fun σ=>?_;simp only [c78,↓R1,RR,seval,hkd,q1,cRI,List.length_map])
    repeat' (first|(with_reducible rw [ai])|((first|(with_reducible intro β hβ;(try simp only [RB] at hβ);(repeat (obtain ⟨⟨_,_⟩,hβ⟩:=hβ));(try (have hbis:=ah M0 hβ;obtain ⟨_,_⟩:=hbis)))|(refine Pt (hid) ?_)|(refine Ct (hten) ?_)|(refine Ct (hnum) ?_)|(refine Ct (hmk) ?_))<;>(try simp only [↓R1,RR,seval,hkd,q1,cRI,List.length_map])))
    (refine ak ?_ M7);(simp only [aq,↓R1,RR,seval,hkd,q1,cRI,List.length_map];exact ae _)
  · have hw:bD o= [nm 8,itoa o.tenant,itoa o.number,itoa o.most]:=by rw [bD,if_neg MX,if_neg MX,if_neg MX,if_neg MX,if_neg MX,if_neg MX,if_pos hkd]
    rw [hw] at hmk
    have he:(if o.kind=7 then idE o.idn else 0)=0:=NC
    rw [he,hkd]
    (refine al c78 b78 fun σ=>?_;simp only [c78,↓R1,RR,seval,hkd,q1,cRI,List.length_map])
    repeat' (first|(with_reducible rw [ai])|((first|(with_reducible intro β hβ;(try simp only [RB] at hβ);(repeat (obtain ⟨⟨_,_⟩,hβ⟩:=hβ));(try (have hbis:=ah M0 hβ;obtain ⟨_,_⟩:=hbis)))|(refine Ct (hten) ?_)|(refine Ct (hnum) ?_)|(refine Ct (hmost) ?_)|(refine Ct (hmk) ?_))<;>(try simp only [↓R1,RR,seval,hkd,q1,cRI,List.length_map])))
    (refine ak ?_ M7);(simp only [aq,↓R1,RR,seval,hkd,q1,cRI,List.length_map];exact ae _)
set_option maxHeartbeats 4000000 in
theorem p28 (o:OpI) (ho:OpOk o) (ht:o.text.length≤1100):Pu Tryz.prog 28 [.agg (cOp o)] (fh o):=by
 have hck:=p77 o
 have q1:True:=trivial
 have hc2:True:=trivial
 have hc8:(cOp o).take 8=cOp o:=rfl
 by_cases hz:opE o=0
 ·have hrow:=p78 o ho ht hz
  rw [hz] at hck
  have htx:=p61 [mkR (bD o)] (oW (nE o ho ht))
  obtain ⟨t,e,hv⟩:=kV (bD o)
  rw [hv] at htx
  simp only [List.flatMap_cons,List.flatMap_nil,List.append_nil,List.length_cons,List.length_nil,Nat.zero_add] at htx
  have hc2:(cRI (mkR (bD o))).length=2:=rfl
  obtain ⟨c0,c1,hc⟩:∃ c0 c1,cRI (mkR (bD o))= [c0,c1]:=⟨_,_,rfl⟩
  rw [hc] at hrow htx
  by_cases hi:(if o.kind=7 then idE o.idn else 0)=0
  ·have hL:fh o= .tup [.str t, .int .i64 e]:=by
    rw [fh,if_neg (fun h=>h hz),if_neg (fun hh=>hh.2 (by rw [if_pos hh.1] at hi;exact hi)),hv]
   rw [hL]
   rw [hi] at hrow
   simp only [cOp] at hck hrow ⊢
   (refine al c28 b28 fun σ=>?_;simp only [c28,↓R1,RR,seval,q1,cOp,aW,List.append_nil,hc2])
   repeat' (first|(with_reducible rw [ai])|((first|(with_reducible intro β hβ;(try simp only [RB] at hβ);(repeat (obtain ⟨⟨_,_⟩,hβ⟩:=hβ));(try (have hbis:=ah M0 hβ;obtain ⟨_,_⟩:=hbis)))|(refine Pt (hck) ?_)|(refine Pt (hrow) ?_)|((refine Pu.to (htx) ?_ ?_;(focus exact cW))))<;>(try simp only [↓R1,RR,seval,q1,cOp,aW,List.append_nil,hc2])))
   (refine ak ?_);(simp only [aq,↓R1,RR,seval,q1,cOp,aW,List.append_nil,hc2];exact ae _)
  ·have h7:o.kind=7:=Classical.byContradiction fun h=>hi (if_neg h)
   rw [if_pos h7] at hi hrow
   have hL:fh o= .tup [.str [], .int .i64 (idE o.idn)]:=by rw [fh,if_neg (fun h=>h hz),if_pos ⟨h7,hi⟩]
   have q1:(idE o.idn != 0)=true:=by rw [bne_iff_ne];exact hi
   rw [hL]
   simp only [cOp] at hck hrow ⊢
   (refine al c28 b28 fun σ=>?_;simp only [c28,↓R1,RR,seval,q1,cOp,aW,List.append_nil,hc2])
   repeat' (first|(with_reducible rw [ai])|((first|(with_reducible intro β hβ;(try simp only [RB] at hβ);(repeat (obtain ⟨⟨_,_⟩,hβ⟩:=hβ));(try (have hbis:=ah M0 hβ;obtain ⟨_,_⟩:=hbis)))|(refine Pt (hck) ?_)|(refine Pt (hrow) ?_))<;>(try simp only [↓R1,RR,seval,q1,cOp,aW,List.append_nil,hc2])))
   (refine ak ?_);(simp only [aq,↓R1,RR,seval,q1,cOp,aW,List.append_nil,hc2];exact ae _)
 ·have q1:(opE o != 0)=true:=by rw [bne_iff_ne];exact hz
  have hL:fh o= .tup [.str [], .int .i64 (opE o)]:=by rw [fh,if_pos hz]
  rw [hL]
  simp only [cOp] at hck ⊢
  (refine al c28 b28 fun σ=>?_;simp only [c28,↓R1,RR,seval,q1,cOp,aW,List.append_nil,hc2])
  repeat' ((first|(with_reducible intro β hβ;(try simp only [RB] at hβ);(repeat (obtain ⟨⟨_,_⟩,hβ⟩:=hβ));(try (have hbis:=ah M0 hβ;obtain ⟨_,_⟩:=hbis)))|(refine Pt (hck) ?_))<;>(try simp only [↓R1,RR,seval,q1,cOp,aW,List.append_nil,hc2]))
  (refine ak ?_);(simp only [aq,↓R1,RR,seval,q1,cOp,aW,List.append_nil,hc2];exact ae _)
def gq (o:OpI):List UInt8 × Int:=if opE o≠0 then ([],opE o) else if o.kind=7∧idE o.idn≠0 then ([],idE o.idn) else match ff [mkR (bD o)] with
 | .ok t=>(t,0)
 | .error e=>([],(e:Nat))
theorem sU (o:OpI):fh o= .tup [.str (gq o).1, .int .i64 (gq o).2]:=by
 unfold fh gq
 split
 ·rfl
 ·split
  ·rfl
  ·cases ff [mkR (bD o)]<;>rfl
theorem sW (o:OpI):(gq o).1.length≤1001:=by
  unfold gq
  split
  · simp
  · split
    · simp
    · cases h:ff [mkR (bD o)] with
      | error e=>simp
      | ok t =>
        simp only [ff,fy] at h
        split at h
        · cases h
        · split at h
          · cases h
          · split at h
            · cases h
            · rename_i h2
              cases h
              simp only [not_or,Nat.not_lt,List.nil_append,List.length_append,List.length_cons,List.length_nil] at h2 ⊢
              omega
def iB (out:List UInt8):List OpI→List UInt8 × Int
 | []=>if 20000<out.length then ([],4) else (out,0)
 | o::l=>if (gq o).2≠0 then ([],(gq o).2) else iB (out++(gq o).1) l
def iC (l:List OpI):List UInt8 × Int:=if 400<l.length then ([],6) else iB [] l
def lF (l:List OpI):AV:= .tup [.str (iC l).1, .int .i64 (iC l).2]
theorem oZ {out:List UInt8} {l:List OpI} {k:Nat} {x:OpI} (h:l[k]? =some x):iB out (l.drop k)=if (gq x).2≠0 then ([],(gq x).2) else iB (out++(gq x).1) (l.drop (k+1)):=by
 obtain ⟨h1,h2⟩:=List.getElem?_eq_some_iff.1 h
 rw [List.drop_eq_getElem_cons h1,h2];rfl
structure OpsOk (l:List OpI):Prop where
 len:l.length≤403
 ok:∀ x∈l,OpOk x
 text:∀ x∈l,x.text.length≤1100
set_option maxHeartbeats 4000000 in
theorem p25 (f:Bool) (l:List OpI) (hl:OpsOk l):PuG Tryz.prog gl4 25 [.sl f l.length (l.flatMap cOp)] (lF l):=by
 have q1:True:=trivial
 have he:True:=trivial
 have hw:True:=trivial
 have h1:=ki l
 have hn:=hl.len
 by_cases hbig:400<l.length
 ·have q1:decide ((400:Int)<(l.length:Int))=true:=by rw [decide_eq_true_eq];omega
  have ho:iC l=([],6):=by rw [iC,if_pos hbig]
  rw [lF,ho]
  (refine aR c25 b25 fun σ hσ=>?_;simp only [c25,↓R1,RR,seval,q1,he,hw,cOp,h1])
  skip
  (refine ak (ag ?_))
  (simp only [aq,↓R1,RR,seval,q1,he,hw,cOp,h1])
 ·have q1:decide ((400:Int)<(l.length:Int))=false:=by rw [decide_eq_false_iff_not];omega
  have ho:iC l=iB [] l:=by rw [iC,if_neg hbig]
  rw [lF,ho]
  (refine aR c25 b25 fun σ hσ=>?_;simp only [c25,↓R1,RR,seval,q1,he,hw,cOp,h1])
  skip
  refine b6 (α:=Nat × List UInt8) (fun a=> [(4, .str a.2),(12, .sl f l.length (l.flatMap cOp)),(13, .int .i64 (l.length:Nat)),(14, .int .i64 (a.1:Nat))]) (fun _=>σ) (fun a=>a.1≤l.length∧a.2.length≤1001*a.1∧iB [] l=iB a.2 (l.drop a.1)) (fun a=>l.length - a.1) (0,[]) M8 (St.le_refl _) ⟨Nat.zero_le _,Nat.le_refl _,rfl⟩ ?_
  rintro ⟨k,out⟩ ⟨hk,hlen,hI⟩
  simp only at hk hlen hI ⊢
  by_cases hlt:k<l.length
  ·obtain ⟨x,hx⟩:∃ x,l[k]? =some x:=⟨_,List.getElem?_eq_getElem hlt⟩
   have hxm:=List.mem_of_getElem? hx
   rw [oZ hx] at hI
   have he:=cJ (f:=cOp) (m:=8) sR hx
   have hline:=p27 x (hl.ok x hxm) (hl.text x hxm)
   rw [sU] at hline
   have hll:=sW x
   simp only [cOp] at he hline
   have q1:decide ((k:Int)<(l.length:Int))=true:=M3
   have hw:IntKind.i64.wrap ((k:Int)+1)=((k+1:Nat):Int):=MZ
   simp only [q1,↓R1,RR,seval,q1,he,hw,cOp,h1]
   repeat' (first|(with_reducible rw [ai])|(with_reducible refine And.intro ?_ ?_;exact af)|((first|(refine an (fun hc=>?_) (fun hc=>?_))|(with_reducible intro β hβ;(try simp only [RB] at hβ);(repeat (obtain ⟨⟨_,_⟩,hβ⟩:=hβ));(try (have hbis:=ah M0 hβ;obtain ⟨_,_⟩:=hbis)))|(refine PuG.to (hline) hσ (ad _) ?_))<;>(try simp only [↓R1,RR,seval,q1,he,hw,cOp,h1])))
   ·rw [if_pos Nu] at hI
    rw [hI]
    (refine ak ?_);(simp only [aq,↓R1,RR,seval,q1,he,hw,cOp,h1];exact ae _)
   ·rw [if_neg Nu] at hI
    refine ⟨(k+1,out++(gq x).1),⟨hlt,?_,hI⟩,by simp [av,slot,ae],by (repeat (first|exact St.le_refl _|(refine St.aO ?_ M0)|(refine St.iK ?_ M0))),by simp only;omega⟩
    rw [List.length_append];omega
  ·have hke:k=l.length:=by omega
   subst hke
   have q1:decide ((l.length:Int)<(l.length:Int))=false:=M1
   rw [List.drop_length] at hI
   simp only [q1,↓R1,RR,seval,q1,he,hw,cOp,h1]
   repeat' ((refine an (fun hc=>?_) (fun hc=>?_))<;>(try simp only [↓R1,RR,seval,q1,he,hw,cOp,h1]))
   ·rw [decide_eq_true_eq] at hc
    rw [hI,iB,if_pos MX]
    (refine ak ?_);(simp only [aq,↓R1,RR,seval,q1,he,hw,cOp,h1];exact ae _)
   ·rw [decide_eq_false_iff_not] at hc
    rw [hI,iB,if_neg MX]
    (refine ak ?_);(simp only [aq,↓R1,RR,seval,q1,he,hw,cOp,h1];exact ae _)
set_option maxHeartbeats 4000000 in
theorem p26 (f:Bool) (l:List OpI) (hl:OpsOk l):Pu Tryz.prog 26 [.sl f l.length (l.flatMap cOp)] (lF l):=by
 have q1:True:=trivial
 have he:True:=trivial
 have hw:True:=trivial
 have h1:=ki l
 have hn:=hl.len
 by_cases hbig:400<l.length
 ·have q1:decide ((400:Int)<(l.length:Int))=true:=by rw [decide_eq_true_eq];omega
  have ho:iC l=([],6):=by rw [iC,if_pos hbig]
  rw [lF,ho]
  (refine al c26 b26 fun σ=>?_;simp only [c26,↓R1,RR,seval,q1,he,hw,cOp,h1])
  skip
  (refine ak (ag ?_))
  (simp only [aq,↓R1,RR,seval,q1,he,hw,cOp,h1])
 ·have q1:decide ((400:Int)<(l.length:Int))=false:=by rw [decide_eq_false_iff_not];omega
  have ho:iC l=iB [] l:=by rw [iC,if_neg hbig]
  rw [lF,ho]
  (refine al c26 b26 fun σ=>?_;simp only [c26,↓R1,RR,seval,q1,he,hw,cOp,h1])
  skip
  refine b6 (α:=Nat × List UInt8) (fun a=> [(0, .sl f l.length (l.flatMap cOp)),(4, .str a.2),(5, .int .i64 (a.1:Nat))]) (fun _=>σ) (fun a=>a.1≤l.length∧a.2.length≤1001*a.1∧iB [] l=iB a.2 (l.drop a.1)) (fun a=>l.length - a.1) (0,[]) M8 (St.le_refl _) ⟨Nat.zero_le _,Nat.le_refl _,rfl⟩ ?_
  rintro ⟨k,out⟩ ⟨hk,hlen,hI⟩
  simp only at hk hlen hI ⊢
  by_cases hlt:k<l.length
  ·obtain ⟨x,hx⟩:∃ x,l[k]? =some x:=⟨_,List.getElem?_eq_getElem hlt⟩
   have hxm:=List.mem_of_getElem? hx
   rw [oZ hx] at hI
   have he:=cJ (f:=cOp) (m:=8) sR hx
   have hline:=p28 x (hl.ok x hxm) (hl.text x hxm)
   rw [sU] at hline
   have hll:=sW x
   simp only [cOp] at he hline
   have q1:decide ((k:Int)<(l.length:Int))=true:=M3
   have hw:IntKind.i64.wrap ((k:Int)+1)=((k+1:Nat):Int):=MZ
   simp only [q1,↓R1,RR,seval,q1,he,hw,cOp,h1]
   repeat' (first|(with_reducible refine And.intro ?_ ?_;exact af)|((first|(refine an (fun hc=>?_) (fun hc=>?_))|(refine Pt (hline) ?_))<;>(try simp only [↓R1,RR,seval,q1,he,hw,cOp,h1])))
   ·rw [if_pos Nu] at hI
    rw [hI]
    (refine ak ?_);(simp only [aq,↓R1,RR,seval,q1,he,hw,cOp,h1];exact ae _)
   ·rw [if_neg Nu] at hI
    refine ⟨(k+1,out++(gq x).1),⟨hlt,?_,hI⟩,by simp [av,slot,ae],by (repeat (first|exact St.le_refl _|(refine St.aO ?_ M0)|(refine St.iK ?_ M0))),by simp only;omega⟩
    rw [List.length_append];omega
  ·have hke:k=l.length:=by omega
   subst hke
   have q1:decide ((l.length:Int)<(l.length:Int))=false:=M1
   rw [List.drop_length] at hI
   simp only [q1,↓R1,RR,seval,q1,he,hw,cOp,h1]
   repeat' ((refine an (fun hc=>?_) (fun hc=>?_))<;>(try simp only [↓R1,RR,seval,q1,he,hw,cOp,h1]))
   ·rw [decide_eq_true_eq] at hc
    rw [hI,iB,if_pos MX]
    (refine ak ?_);(simp only [aq,↓R1,RR,seval,q1,he,hw,cOp,h1];exact ae _)
   ·rw [decide_eq_false_iff_not] at hc
    rw [hI,iB,if_neg MX]
    (refine ak ?_);(simp only [aq,↓R1,RR,seval,q1,he,hw,cOp,h1];exact ae _)
theorem yO {l:List OpI} (h:jD l=true) (hk:∀ x∈l,OpOk x):OpsOk l:=by
 simp only [jD,Bool.and_eq_true,Bool.or_eq_true,List.all_eq_true,decide_eq_true_eq] at h
 exact ⟨by omega,hk,h.1⟩
theorem qA:PuG Tryz.prog gl4 11 [] (.bool true):=PuG.up4 CJ
theorem yP (w:Wd):Pu Tryz.prog 64 [.agg [.bool w.q, .str w.t, .int .i64 (w.a:Nat)], .sl true 1 [.str dA]] (.tup [.int .i64 0, .int .i64 (if (!w.q&&(dA == w.t))=true then 0 else 7)]):=by
 have pw:=p64 w.q w.t (w.a:Nat) [dA] Na
 have e:kL w.q w.t [dA]= .tup [.int .i64 0, .int .i64 (if (!w.q&&(dA == w.t))=true then 0 else 7)]:=by
  unfold kL de
  cases w.q<;>cases hs:(dA == w.t)<;>simp [de]
 rw [e] at pw
 exact fun σ=>AC.wk (pw σ) (.cons (ae _) (.cons (fl _ _) .nil))
theorem u9 (s:List UInt8) (a:Nat):di s a=a+(aP (s.drop a)).length:=rfl
theorem sX {r:Rw} (h:r.ws.length≠1):cH r=false:=by
 unfold cH
 split
 ·rename_i w hw;rw [hw] at h;exact (h rfl).elim
 ·rfl
theorem _root_.Nv {p:Prop} (h:p:=by first|(simp [ax,rvS];done)|(simp only [ax,rvS,↓R1,RR,seval,q1,q2,q3,q4,h1,he,he2,hw,hw2,hm,hsl];try simp)):p:=h
set_option maxHeartbeats 4000000 in
theorem p35 (s:List UInt8) (hs:s.length≤800000):Pu Tryz.prog 35 [.str s] (fN s):=by
  have q1:True:=trivial
  have q2:True:=trivial
  have q3:True:=trivial
  have q4:True:=trivial
  have h1:True:=trivial
  have he:True:=trivial
  have he2:True:=trivial
  have hw:True:=trivial
  have hw2:True:=trivial
  have hm:True:=trivial
  have hsl:True:=trivial
  have pr:=p45 s hs
  cases hr:c8 s with
  | error x =>
    obtain ⟨e,a⟩:=x
    have hx:dZ s= .error ((e:Nat),(a:Nat)):=by rw [dZ,hr]
    have hpe:cR s= .error ((e:Nat),(a:Nat)):=by rw [cR,hx];rfl
    rw [fN,hpe]
    have q1:(((e:Nat):Int) != 0)=true:=by rw [bne_iff_ne];have:=oR hr;omega
    rw [hr,eY,dy] at pr
    (refine al c35 b35 fun σ=>?_;simp only [c35,↓R1,RR,seval,q1,q2,q3,q4,h1,he,he2,hw,hw2,hm,hsl])
    repeat' (first|(with_reducible rw [ai])|((first|(with_reducible intro β hβ;(try simp only [RB] at hβ);(repeat (obtain ⟨⟨_,_⟩,hβ⟩:=hβ));(try (have hbis:=ah M0 hβ;obtain ⟨_,_⟩:=hbis)))|(refine Pt (pr) ?_))<;>(try simp only [↓R1,RR,seval,q1,q2,q3,q4,h1,he,he2,hw,hw2,hm,hsl])))
    all_goals all_goals first|omega|exact Nat.le_refl _|assumption|exact St.le_refl _|(exact af)|(simp only [av,slot,ae,↓R1,RR,seval,q1,q2,q3,q4,h1,he,he2,hw,hw2,hm,hsl];all_goals exact bE)|exact bu|(simp_all;done)|skip
    all_goals (refine ak (ag ?_) Nv)
    all_goals ((simp only [aq,↓R1,RR,seval,q1,q2,q3,q4,h1,he,he2,hw,hw2,hm,hsl]))
  | ok rs =>
    have hx:dZ s= .ok rs:=by rw [dZ,hr]
    have hpe:cR s=nW s (rs.drop 0):=by rw [cR,hx];rfl
    obtain ⟨hz1,hz2⟩:=jy hx
    have hat:=sO hx
    rw [hr,eY,dy] at pr
    rw [fN]
    (refine al c35 b35 fun σ=>?_;simp only [c35,↓R1,RR,seval,q1,q2,q3,q4,h1,he,he2,hw,hw2,hm,hsl])
    repeat' (first|(with_reducible rw [ai])|((first|(with_reducible intro β hβ;(try simp only [RB] at hβ);(repeat (obtain ⟨⟨_,_⟩,hβ⟩:=hβ));(try (have hbis:=ah M0 hβ;obtain ⟨_,_⟩:=hbis)))|(refine Pt (pr) ?_))<;>(try simp only [↓R1,RR,seval,q1,q2,q3,q4,h1,he,he2,hw,hw2,hm,hsl])))
    rename_i b3 hb3 p1 p2
    refine aQ rs.length (fun k=> [(0, .str s),(4, .ptr b3 0),(5, .sl false rs.length (rs.flatMap cRw)),(7, .int .i64 (k:Nat))]) (fun _=>σ.aa b3 [.int .i64 0, .int .i64 0]) (fun k=>cR s=nW s (rs.drop k)) M8 (St.aO (St.aO (St.le_refl _) (St.aE.2 ⟨⟨inferInstance,inferInstance⟩,hβ⟩)) (St.aE.2 ⟨⟨inferInstance,inferInstance⟩,hβ⟩)) hpe (fun k hk hI=>?_)
    by_cases hlt:k<rs.length
    · obtain ⟨r,hrk⟩:∃ r,rs[k]? =some r:=⟨_,List.getElem?_eq_getElem hlt⟩
      have hra:=hat r (List.mem_of_getElem? hrk)
      have q1:decide ((k:Int)<(rs.length:Int))=true:=M3
      have he:=uX hrk
      simp only [cRw] at he
      have hcl:=qn rs
      have hw:IntKind.i64.wrap ((k:Int)+1)=((k+1:Nat):Int):=MZ
      rw [vQ hrk] at hI
      by_cases hn1:r.ws.length=1
      · obtain ⟨w,hws⟩:=yC hn1
        have q2:((r.ws.length:Int) != 1)=false:=by rw [hn1];rfl
        have he2:(r.ws.flatMap cWd).take 3= [.bool w.q, .str w.t, .int .i64 (w.a:Nat)]:=by rw [hws];rfl
        have hwl:3≤(r.ws.flatMap cWd).length:=by rw [hws];simp [cWd]
        have hb:cH r=(!w.q&&(dA == w.t)):=by unfold cH;rw [hws]
        have pw:=yP w
        rw [←hb] at pw
        cases hbt:cH r with
        | false =>
          rw [hbt] at hI pw
          simp only [Bool.false_eq_true,if_false] at hI pw
          simp only [q1,↓R1,RR,seval,q1,q2,q3,q4,h1,he,he2,hw,hw2,hm,hsl]
          repeat' (first|(with_reducible refine And.intro ?_ ?_;exact af)|(with_reducible apply And.intro)|((refine Pt (pw) ?_)<;>(try simp only [↓R1,RR,seval,q1,q2,q3,q4,h1,he,he2,hw,hw2,hm,hsl])))
          all_goals (try (first|omega|rfl))
          all_goals first|(simp [av,slot,ae];done)|(exact St.le_refl _)|(exact hI)
        | true =>
          rw [hbt] at hI pw
          simp only [if_true] at hI pw
          rw [hI]
          simp only [q1,↓R1,RR,seval,q1,q2,q3,q4,h1,he,he2,hw,hw2,hm,hsl]
          repeat' (first|(with_reducible refine And.intro ?_ ?_;exact af)|((refine Pt (pw) ?_)<;>(try simp only [↓R1,RR,seval,q1,q2,q3,q4,h1,he,he2,hw,hw2,hm,hsl])))
          all_goals (try (first|omega|rfl))
          rw [u9]
          generalize hm':(aP (s.drop r.a)).length=m
          have hml:m≤s.length - r.a:=by rw [←hm',←List.length_drop];exact oP _
          refine aQ m (fun j=> [(0, .str s),(4, .ptr b3 0),(5, .sl false rs.length (rs.flatMap cRw)),(7, .int .i64 (k:Nat)),(10, .int .i64 ((r.a+j:Nat):Int))]) (fun _=>σ.aa b3 [.int .i64 0, .int .i64 0]) (fun _=>True) M8 (St.le_refl _) trivial (fun j hj _=>?_)
          have hst:=vN (s:=s.drop r.a) (k:=j) (by rw [hm'];exact hj)
          rw [hm',List.getElem?_drop] at hst
          by_cases hjl:j<m
          · obtain ⟨d,h1,hd10⟩:=hst.1 hjl
            have q3:decide (((r.a+j:Nat):Int)<(s.length:Int))=true:=M3
            have q4:((d.toNat:Int) != 10)=true:=by
              have:((d.toNat:Int) == 10)=false:=j9 (n:=10) MX (by simpa using hd10)
              rw [bne,this];rfl
            have hw2:IntKind.i64.wrap (((r.a+j:Nat):Int)+1)=((r.a+j+1:Nat):Int):=MZ
            simp only [q3,↓R1,RR,seval,q1,q2,q3,q4,h1,he,he2,hw,hw2,hm,hsl]
            repeat' (first|(with_reducible refine And.intro ?_ ?_;exact af)|(with_reducible apply And.intro))
            all_goals all_goals first|omega|exact Nat.le_refl _|assumption|exact St.le_refl _|(exact af)|(simp only [av,slot,ae,↓R1,RR,seval,q1,q2,q3,q4,h1,he,he2,hw,hw2,hm,hsl];all_goals exact bE)|exact bu|(simp_all;done)|skip
            all_goals first|(simp [av,slot,ae];done)|(simp [av,slot,ae];exact ag (by congr 1))|(exact St.le_refl _)
          · have hje:j=m:=by omega
            subst hje
            have hab:(decide (((r.a+j:Nat):Int)<(s.length:Int))=true∧∃ d,s[r.a+j]? =some d∧((d.toNat:Int) != 10)=false)∨decide (((r.a+j:Nat):Int)<(s.length:Int))=false:=by
              by_cases hlj:r.a+j<s.length
              · refine .inl ⟨by rw [decide_eq_true_eq];omega,_,List.getElem?_eq_getElem hlj,?_⟩
                cases hd:(s[r.a+j] != 10) with
                | true=>exact (hjl (hst.2 ⟨_,List.getElem?_eq_getElem hlj,hd⟩)).elim
                | false =>
                  have:s[r.a+j]=10:=by simpa using hd
                  rw [this];rfl
              · exact .inr Nk
            have hw2:IntKind.i64.wrap (((r.a+j:Nat):Int)+1)=((r.a+j+1:Nat):Int):=MZ
            have hm:(if (s.length:Int)<((r.a+j+1:Nat):Int) then (s.length:Int) else ((r.a+j+1:Nat):Int))=((min (r.a+j+1) s.length:Nat):Int):=by split<;>omega
            have hsl:(s.drop (min (r.a+j+1) s.length)).take (s.length - min (r.a+j+1) s.length)=s.drop (min (r.a+j+1) s.length):=List.take_of_length_le M1
            rcases hab with ⟨q3,d,h1,q4⟩|q3
            all_goals
              simp only [q3,↓R1,RR,seval,q1,q2,q3,q4,h1,he,he2,hw,hw2,hm,hsl]
              repeat' (first|(with_reducible refine And.intro ?_ ?_;exact af)|(with_reducible apply And.intro))
              all_goals (try (first|omega|rfl|exact of_decide_eq_true q3))
              all_goals (refine ak (ag ?_) Nv)
              all_goals ((simp only [aq,↓R1,RR,seval,q1,q2,q3,q4,h1,he,he2,hw,hw2,hm,hsl]))
      · have q2:((r.ws.length:Int) != 1)=true:=by rw [bne_iff_ne];omega
        rw [sX hn1,if_neg Na] at hI
        simp only [q1,↓R1,RR,seval,q1,q2,q3,q4,h1,he,he2,hw,hw2,hm,hsl]
        repeat' (first|(with_reducible refine And.intro ?_ ?_;exact af)|(with_reducible apply And.intro))
        all_goals (try (first|omega|rfl))
        all_goals first|(simp [av,slot,ae];done)|(exact St.le_refl _)|(exact hI)
    · have hke:rs.drop k= []:=List.drop_eq_nil_of_le MX
      have q1:decide ((k:Int)<(rs.length:Int))=false:=Nk
      have pf:=p98 7 (s.length:Nat)
      rw [hke,nW] at hI
      rw [hI]
      simp only [q1,↓R1,RR,seval,q1,q2,q3,q4,h1,he,he2,hw,hw2,hm,hsl]
      skip
      all_goals all_goals first|omega|exact Nat.le_refl _|assumption|exact St.le_refl _|(exact af)|(simp only [av,slot,ae,↓R1,RR,seval,q1,q2,q3,q4,h1,he,he2,hw,hw2,hm,hsl];all_goals exact bE)|exact bu|(simp_all;done)|skip
      all_goals (refine ak (ag ?_) Nv)
      all_goals ((simp only [aq,↓R1,RR,seval,q1,q2,q3,q4,h1,he,he2,hw,hw2,hm,hsl]))
def nY (c:CfgI):List UInt8 × Int:=if (dv c).1=0 then (yL c,0) else ([],(dv c).1)
theorem sY (c:CfgI):kg c= .tup [.str (nY c).1, .int .i64 (nY c).2]:=by
 unfold kg nY;split<;>rfl
def ew:List UInt8:= [115,99,114,105,112,116,10]
def e8 (a b:List UInt8 × Int):List UInt8 × Int :=
 if a.2≠0 then ([],a.2) else if b.2≠0 then ([],b.2) else if 20000<(a.1++ew++b.1).length then ([],4) else (a.1++ew++b.1,0)
def sZ (c:CfgI) (l:List OpI):AV:= .tup [.str (e8 (nY c) (iC l)).1, .int .i64 (e8 (nY c) (iC l)).2]
def nF (c:CfgI):Bool:=decide (c.cls.length≤12)&&decide (c.ruls.length≤12)
theorem nG {c:CfgI} (h:c.tens.length=6):(bh c).length=33:=by
 simp only [bh,List.length_cons,List.length_append,List.length_nil,cZ,h]
theorem Fl {c:CfgI} (h:c.tens.length=6):(bh c)[31]? =some (.sl false c.ruls.length (c.ruls.flatMap eL)):=by
 simp only [bh,List.getElem?_cons_succ]
 rw [List.getElem?_append_right (by rw [cZ,h];decide),cZ,h];rfl
theorem s6 {c:CfgI} (h:c.tens.length=6):(bh c).take 33=bh c:=List.take_of_length_le (by rw [nG h];decide)
theorem p17 {c:CfgI} (h6:c.tens.length=6):Pu Tryz.prog 17 [.agg (bh c)] (.bool (nF c)):=by
 have hcl:=nG h6
 have hc0:=lC c
 have hca:=s6 h6
 have h31:=Fl h6
 (refine al c17 b17 fun σ=>?_;simp only [c17,↓R1,RR,seval,hcl,hca,hc0,h31])
 repeat' ((with_reducible intro β hβ;(try simp only [RB] at hβ);(repeat (obtain ⟨⟨_,_⟩,hβ⟩:=hβ));(try (have hbis:=ah M0 hβ;obtain ⟨_,_⟩:=hbis)))<;>(try simp only [↓R1,RR,seval,hcl,hca,hc0,h31]))
 (refine ak (ag ?_))
 (simp only [aq,↓R1,RR,seval,hcl,hca,hc0,h31])
 have e1:decide ((c.cls.length:Int)≤12)=decide (c.cls.length≤12):=NL
 have e2:decide ((c.ruls.length:Int)≤12)=decide (c.ruls.length≤12):=NL
 rw [nF,e1,e2]
theorem s7:∀ (l:List OpI) (out:List UInt8),(iB out l).1.length≤20000
  | [],out=>by unfold iB;split<;>simp;omega
  | o :: l, out => by
    unfold iB
    split
    · simp
    · exact s7 l _
theorem s8 (l:List OpI):(iC l).1.length≤20000:=by
 unfold iC;split
 ·simp
 ·exact s7 l _
theorem nH:∀ (W:List (List (List UInt8))),(∀ ws∈W,RowOk ws)→(W.map rowT).flatten.length≤700*W.length
  | [],_=>by simp
  | w :: W, h => by
    have h1:=(h w M1).len
    have h2:=nH W fun x hx=>h x NI
    simp only [List.map_cons,List.flatten_cons,List.length_append,List.length_cons];omega
theorem s9 {c:CfgI} (ck:CfgOk c) (h64:Cfg64 c):(nY c).1.length≤20000:=by
 unfold nY
 split
 ·rename_i h
  obtain ⟨h1,h2⟩:=nB ck (nx h) h64
  have:=nH _ h1
  simp only [yL];omega
 ·simp
set_option maxHeartbeats 1000000 in
theorem p32 (f:Bool) {c:CfgI} (ck:CfgOk c) (h64:Cfg64 c) (l:List OpI) (hl:OpsOk l):PuG Tryz.prog gl4 32 [.agg (bh c), .sl f l.length (l.flatMap cOp)] (sZ c l):=by
 have q1:True:=trivial
 have q2:True:=trivial
 have q3:True:=trivial
 have hcl:=du ck
 have hca:=eQ ck
 have hc0:=lC c
 have h31:=jw ck
 have h32:=kO ck
 have p1:=PuG.up4 (p18 ck h64)
 have p2:=p25 f l hl
 rw [sY] at p1
 unfold lF at p2
 unfold sZ
 have hal:=s9 ck h64
 have hbl:=s8 l
 generalize nY c=a at p1 hal
 generalize iC l=b at p2 hbl
 by_cases ha:a.2=0
 ·have q1:(a.2 != 0)=false:=by rw [ha];rfl
  by_cases hb:b.2=0
  ·have q2:(b.2 != 0)=false:=by rw [hb];rfl
   by_cases hl:20000<(a.1++ew++b.1).length
   ·have e:e8 a b=([],4):=by rw [e8,if_neg (by simp [ha]),if_neg (by simp [hb]),if_pos hl]
    have q3:decide (((a.1++ew++b.1).length:Int)≤20000)=false:=Nk
    unfold ew at q3
    rw [e]
    (refine aR c32 b32 fun σ hσ=>?_;simp only [c32,↓R1,RR,seval,q1,q2,q3,hcl,hca,hc0,h31,h32])
    repeat' (first|(with_reducible refine And.intro ?_ ?_;exact af)|((first|(with_reducible intro β hβ;(try simp only [RB] at hβ);(repeat (obtain ⟨⟨_,_⟩,hβ⟩:=hβ));(try (have hbis:=ah M0 hβ;obtain ⟨_,_⟩:=hbis)))|(refine PuG.to (p1) hσ (ad _) ?_)|(refine PuG.to (p2) hσ (ad _) ?_))<;>(try simp only [↓R1,RR,seval,q1,q2,q3,hcl,hca,hc0,h31,h32])))
    all_goals (try (simp only [List.length_append,List.length_cons,List.length_nil];omega))
    (refine ak ?_);(simp only [aq,↓R1,RR,seval,q1,q2,q3,hcl,hca,hc0,h31,h32];exact ae _)
   ·have e:e8 a b=(a.1++ew++b.1,0):=by rw [e8,if_neg (by simp [ha]),if_neg (by simp [hb]),if_neg hl]
    have q3:decide (((a.1++ew++b.1).length:Int)≤20000)=true:=M3
    unfold ew at q3 e
    rw [e]
    (refine aR c32 b32 fun σ hσ=>?_;simp only [c32,↓R1,RR,seval,q1,q2,q3,hcl,hca,hc0,h31,h32])
    repeat' (first|(with_reducible refine And.intro ?_ ?_;exact af)|((first|(with_reducible intro β hβ;(try simp only [RB] at hβ);(repeat (obtain ⟨⟨_,_⟩,hβ⟩:=hβ));(try (have hbis:=ah M0 hβ;obtain ⟨_,_⟩:=hbis)))|(refine PuG.to (p1) hσ (ad _) ?_)|(refine PuG.to (p2) hσ (ad _) ?_))<;>(try simp only [↓R1,RR,seval,q1,q2,q3,hcl,hca,hc0,h31,h32])))
    all_goals (try (simp only [List.length_append,List.length_cons,List.length_nil];omega))
    (refine ak ?_);(simp only [aq,↓R1,RR,seval,q1,q2,q3,hcl,hca,hc0,h31,h32];exact ae _)
  ·have q2:(b.2 != 0)=true:=by rw [bne_iff_ne];exact hb
   have e:e8 a b=([],b.2):=by rw [e8,if_neg (by simp [ha]),if_pos hb]
   rw [e]
   (refine aR c32 b32 fun σ hσ=>?_;simp only [c32,↓R1,RR,seval,q1,q2,q3,hcl,hca,hc0,h31,h32])
   repeat' ((first|(with_reducible intro β hβ;(try simp only [RB] at hβ);(repeat (obtain ⟨⟨_,_⟩,hβ⟩:=hβ));(try (have hbis:=ah M0 hβ;obtain ⟨_,_⟩:=hbis)))|(refine PuG.to (p1) hσ (ad _) ?_)|(refine PuG.to (p2) hσ (ad _) ?_))<;>(try simp only [↓R1,RR,seval,q1,q2,q3,hcl,hca,hc0,h31,h32]))
   (refine ak ?_);(simp only [aq,↓R1,RR,seval,q1,q2,q3,hcl,hca,hc0,h31,h32];exact ae _)
 ·have q1:(a.2 != 0)=true:=by rw [bne_iff_ne];exact ha
  have e:e8 a b=([],a.2):=if_pos ha
  rw [e]
  (refine aR c32 b32 fun σ hσ=>?_;simp only [c32,↓R1,RR,seval,q1,q2,q3,hcl,hca,hc0,h31,h32])
  repeat' ((first|(with_reducible intro β hβ;(try simp only [RB] at hβ);(repeat (obtain ⟨⟨_,_⟩,hβ⟩:=hβ));(try (have hbis:=ah M0 hβ;obtain ⟨_,_⟩:=hbis)))|(refine PuG.to (p1) hσ (ad _) ?_))<;>(try simp only [↓R1,RR,seval,q1,q2,q3,hcl,hca,hc0,h31,h32]))
  (refine ak ?_);(simp only [aq,↓R1,RR,seval,q1,q2,q3,hcl,hca,hc0,h31,h32];exact ae _)
set_option maxHeartbeats 1000000 in
theorem p33 (f:Bool) {c:CfgI} (ck:CfgOk c) (h64:Cfg64 c) (l:List OpI) (hl:OpsOk l):Pu Tryz.prog 33 [.agg (bh c), .sl f l.length (l.flatMap cOp)] (sZ c l):=by
 have q1:True:=trivial
 have q2:True:=trivial
 have q3:True:=trivial
 have hcl:=du ck
 have hca:=eQ ck
 have hc0:=lC c
 have h31:=jw ck
 have h32:=kO ck
 have p1:=p19 ck h64
 have p2:=p26 f l hl
 rw [sY] at p1
 unfold lF at p2
 unfold sZ
 have hal:=s9 ck h64
 have hbl:=s8 l
 generalize nY c=a at p1 hal
 generalize iC l=b at p2 hbl
 by_cases ha:a.2=0
 ·have q1:(a.2 != 0)=false:=by rw [ha];rfl
  by_cases hb:b.2=0
  ·have q2:(b.2 != 0)=false:=by rw [hb];rfl
   by_cases hl:20000<(a.1++ew++b.1).length
   ·have e:e8 a b=([],4):=by rw [e8,if_neg (by simp [ha]),if_neg (by simp [hb]),if_pos hl]
    have q3:decide ((20000:Int)<((a.1++ew++b.1).length:Int))=true:=M3
    unfold ew at q3
    rw [e]
    (refine al c33 b33 fun σ=>?_;simp only [c33,↓R1,RR,seval,q1,q2,q3,hcl,hca,hc0,h31,h32])
    repeat' (first|(with_reducible refine And.intro ?_ ?_;exact af)|((first|(with_reducible intro β hβ;(try simp only [RB] at hβ);(repeat (obtain ⟨⟨_,_⟩,hβ⟩:=hβ));(try (have hbis:=ah M0 hβ;obtain ⟨_,_⟩:=hbis)))|(refine Pt (p1) ?_)|(refine Pt (p2) ?_))<;>(try simp only [↓R1,RR,seval,q1,q2,q3,hcl,hca,hc0,h31,h32])))
    all_goals (try (simp only [List.length_append,List.length_cons,List.length_nil];omega))
    (refine ak ?_);(simp only [aq,↓R1,RR,seval,q1,q2,q3,hcl,hca,hc0,h31,h32];exact ae _)
   ·have e:e8 a b=(a.1++ew++b.1,0):=by rw [e8,if_neg (by simp [ha]),if_neg (by simp [hb]),if_neg hl]
    have q3:decide ((20000:Int)<((a.1++ew++b.1).length:Int))=false:=Nk
    unfold ew at q3 e
    rw [e]
    (refine al c33 b33 fun σ=>?_;simp only [c33,↓R1,RR,seval,q1,q2,q3,hcl,hca,hc0,h31,h32])
    repeat' (first|(with_reducible refine And.intro ?_ ?_;exact af)|((first|(with_reducible intro β hβ;(try simp only [RB] at hβ);(repeat (obtain ⟨⟨_,_⟩,hβ⟩:=hβ));(try (have hbis:=ah M0 hβ;obtain ⟨_,_⟩:=hbis)))|(refine Pt (p1) ?_)|(refine Pt (p2) ?_))<;>(try simp only [↓R1,RR,seval,q1,q2,q3,hcl,hca,hc0,h31,h32])))
    all_goals (try (simp only [List.length_append,List.length_cons,List.length_nil];omega))
    (refine ak ?_);(simp only [aq,↓R1,RR,seval,q1,q2,q3,hcl,hca,hc0,h31,h32];exact ae _)
  ·have q2:(b.2 != 0)=true:=by rw [bne_iff_ne];exact hb
   have e:e8 a b=([],b.2):=by rw [e8,if_neg (by simp [ha]),if_pos hb]
   rw [e]
   (refine al c33 b33 fun σ=>?_;simp only [c33,↓R1,RR,seval,q1,q2,q3,hcl,hca,hc0,h31,h32])
   repeat' ((first|(with_reducible intro β hβ;(try simp only [RB] at hβ);(repeat (obtain ⟨⟨_,_⟩,hβ⟩:=hβ));(try (have hbis:=ah M0 hβ;obtain ⟨_,_⟩:=hbis)))|(refine Pt (p1) ?_)|(refine Pt (p2) ?_))<;>(try simp only [↓R1,RR,seval,q1,q2,q3,hcl,hca,hc0,h31,h32]))
   (refine ak ?_);(simp only [aq,↓R1,RR,seval,q1,q2,q3,hcl,hca,hc0,h31,h32];exact ae _)
 ·have q1:(a.2 != 0)=true:=by rw [bne_iff_ne];exact ha
  have e:e8 a b=([],a.2):=if_pos ha
  rw [e]
  (refine al c33 b33 fun σ=>?_;simp only [c33,↓R1,RR,seval,q1,q2,q3,hcl,hca,hc0,h31,h32])
  repeat' ((first|(with_reducible intro β hβ;(try simp only [RB] at hβ);(repeat (obtain ⟨⟨_,_⟩,hβ⟩:=hβ));(try (have hbis:=ah M0 hβ;obtain ⟨_,_⟩:=hbis)))|(refine Pt (p1) ?_))<;>(try simp only [↓R1,RR,seval,q1,q2,q3,hcl,hca,hc0,h31,h32]))
  (refine ak ?_);(simp only [aq,↓R1,RR,seval,q1,q2,q3,hcl,hca,hc0,h31,h32];exact ae _)
structure CfgArg (c:CfgI):Prop where
 six:c.tens.length=6
 lcls:∀ x∈c.cls,U64 x.l
 lrul:∀ x∈c.ruls,U64 x.auth∧U64 x.res
 c64:Cfg64 c
theorem CfgArg.ok {c:CfgI} (h:CfgArg c) (hl:nF c=true):CfgOk c:=by
 simp only [nF,Bool.and_eq_true,decide_eq_true_eq] at hl
 exact ⟨h.six,by omega,by omega,h.lcls,h.lrul⟩
def yQ (s:List UInt8):List UInt8 × List UInt8 × Ft:=match cR s with
 | .ok p=>(p.1,p.2,(0,0))
 | .error e=>([],[],e)
theorem va (s:List UInt8):fN s= .tup [.str (yQ s).1, .str (yQ s).2.1, .agg [.int .i64 (yQ s).2.2.1, .int .i64 (yQ s).2.2.2]]:=by
 unfold fN yQ
 cases cR s<;>rfl
set_option maxHeartbeats 4000000 in
theorem lM (f:Bool) {c:CfgI} (ck:CfgArg c) (l:List OpI) (s:List UInt8) (hl:l.length≤9223372036854775807) (hk:∀ x∈l,OpOk x) (hs:s.length≤9223372036854775807) :
    PuG Tryz.prog gl4 7 [.agg (bh c), .sl f l.length (l.flatMap cOp), .str s] (.bool true):=by
  have hlt:=p23 f l hl
  have hlc:=p17 ck.six
  have hca:=s6 ck.six
  have hcl:=nG ck.six
  have q1:True:=trivial
  cases hC:nF c with
  | false =>
    rw [hC] at hlc
    (refine aR c7 b7 fun σ hσ=>?_;simp only [c7,↓R1,RR,seval,q1,hca,beq_self_eq_true,bne_self_eq_false])
    repeat' (first|(with_reducible refine And.intro ?_ ?_;exact af)|((first|(with_reducible intro β hβ;(try simp only [RB] at hβ);(repeat (obtain ⟨⟨_,_⟩,hβ⟩:=hβ));(try (have hbis:=ah M0 hβ;obtain ⟨_,_⟩:=hbis)))|(refine Pt (hlc) ?_)|(refine PuG.to (qA) hσ (ad _) ?_))<;>(try simp only [↓R1,RR,seval,q1,hca,beq_self_eq_true,bne_self_eq_false])))
    (refine ak ?_);(simp only [aq,↓R1,RR,seval,q1,hca,beq_self_eq_true,bne_self_eq_false];exact ae _)
  | true =>
    rw [hC] at hlc
    cases hb:jD l with
    | false =>
      rw [hb] at hlt
      (refine aR c7 b7 fun σ hσ=>?_;simp only [c7,↓R1,RR,seval,q1,hca,beq_self_eq_true,bne_self_eq_false])
      repeat' (first|(with_reducible refine And.intro ?_ ?_;exact af)|((first|(with_reducible intro β hβ;(try simp only [RB] at hβ);(repeat (obtain ⟨⟨_,_⟩,hβ⟩:=hβ));(try (have hbis:=ah M0 hβ;obtain ⟨_,_⟩:=hbis)))|(refine Pt (hlc) ?_)|(refine Pt (hlt) ?_)|(refine PuG.to (qA) hσ (ad _) ?_))<;>(try simp only [↓R1,RR,seval,q1,hca,beq_self_eq_true,bne_self_eq_false])))
      (refine ak ?_);(simp only [aq,↓R1,RR,seval,q1,hca,beq_self_eq_true,bne_self_eq_false];exact ae _)
    | true =>
      rw [hb] at hlt
      by_cases h15:1500<s.length
      · have q1:decide ((1500:Int)<(s.length:Int))=true:=by rw [decide_eq_true_eq];omega
        (refine aR c7 b7 fun σ hσ=>?_;simp only [c7,↓R1,RR,seval,q1,hca,beq_self_eq_true,bne_self_eq_false])
        repeat' (first|(with_reducible refine And.intro ?_ ?_;exact af)|((first|(with_reducible intro β hβ;(try simp only [RB] at hβ);(repeat (obtain ⟨⟨_,_⟩,hβ⟩:=hβ));(try (have hbis:=ah M0 hβ;obtain ⟨_,_⟩:=hbis)))|(refine Pt (hlc) ?_)|(refine Pt (hlt) ?_)|(refine PuG.to (qA) hσ (ad _) ?_))<;>(try simp only [↓R1,RR,seval,q1,hca,beq_self_eq_true,bne_self_eq_false])))
        (refine ak ?_);(simp only [aq,↓R1,RR,seval,q1,hca,beq_self_eq_true,bne_self_eq_false];exact ae _)
      · have q1:decide ((1500:Int)<(s.length:Int))=false:=by rw [decide_eq_false_iff_not];omega
        have hO:=yO hb hk
        have hK:=ck.ok hC
        have h1:=p32 f hK ck.c64 l hO
        have h2:=p33 f hK ck.c64 l hO
        have h3:=PuG.up4 (p34 s MX)
        have h4:=p35 s MX
        unfold sZ at h1 h2
        rw [va] at h3 h4
        generalize e8 (nY c) (iC l)=x at h1 h2
        generalize yQ s=y at h3 h4
        (refine aR c7 b7 fun σ hσ=>?_;simp only [c7,↓R1,RR,seval,q1,hca,beq_self_eq_true,bne_self_eq_false])
        repeat' (first|(with_reducible rw [ai])|(with_reducible refine And.intro ?_ ?_;exact af)|((first|(with_reducible intro β hβ;(try simp only [RB] at hβ);(repeat (obtain ⟨⟨_,_⟩,hβ⟩:=hβ));(try (have hbis:=ah M0 hβ;obtain ⟨_,_⟩:=hbis)))|(refine Pt (hlc) ?_)|(refine Pt (hlt) ?_)|(refine PuG.to (h1) hσ (ad _) ?_)|(refine Pt (h2) ?_)|(refine PuG.to (h3) hσ (ad _) ?_)|(refine Pt (h4) ?_)|(refine PuG.to (qA) hσ (ad _) ?_))<;>(try simp only [↓R1,RR,seval,q1,hca,beq_self_eq_true,bne_self_eq_false])))
        (refine ak ?_);(simp only [aq,↓R1,RR,seval,q1,hca,beq_self_eq_true,bne_self_eq_false];exact ae _)
end Go.Proofs.YtgephffbfiemeaaGreatDoor
namespace Go.Proofs.YtgephffbfiemeaaGreatDoor
open Go.Abs
set_option linter.all false
def MW:TD:= .cons (.int .u64) (.cons (.int .u64) .nil)
def KG:TD:= .cons (.int .i64) (.cons (.int .i64) (.cons (.int .u64) (.cons .str (.cons (.int .i64) (.cons (.int .i64) (.cons MW .nil))))))
theorem IS (l:List AV) (h:KG.Has l):∃ y,l=cOp y∧(OpOk y∧y.text.length≤maxLen):=by
 obtain ⟨_,_,rfl,⟨a,rfl,ha⟩,_,_,rfl,⟨b,rfl,hb⟩,_,_,rfl,⟨c,rfl,hc⟩,_,_,rfl,⟨t,rfl,ht⟩,_,_,rfl,⟨d,rfl,hd⟩,_,_,rfl,⟨e,rfl,he⟩,_,_,rfl,⟨_,_,rfl,⟨f,rfl,hf⟩,_,_,rfl,⟨g,rfl,hg⟩,rfl⟩,rfl⟩:=h
 refine ⟨⟨a,b,c,t,d,e,f,g⟩,by simp [cOp],⟨?_,?_,?_,?_,?_⟩,ht⟩
 ·simpa [I64,Lit.wf,IntKind.min,IntKind.max,IntKind.bits,IntKind.signed] using hb
 ·simpa [I64,Lit.wf,IntKind.min,IntKind.max,IntKind.bits,IntKind.signed] using hd
 ·simpa [I64,Lit.wf,IntKind.min,IntKind.max,IntKind.bits,IntKind.signed] using he
 ·have:=hc;simp [Lit.wf,IntKind.min,IntKind.max,IntKind.bits,IntKind.signed] at this;exact ⟨this.1,by show c<18446744073709551616;omega⟩
 ·have:=hf;simp [Lit.wf,IntKind.min,IntKind.max,IntKind.bits,IntKind.signed] at this;exact ⟨this.1,by show f<18446744073709551616;omega⟩
def FN:TD:= .cons (.int .u64) (.cons (.int .i64) (.cons (.int .i64) .nil))
def nI:TD:= .cons (.int .i64) (.cons (.int .i64) (.cons (.int .i64) (.cons (.int .i64) (.cons (.int .i64) .nil))))
def FO:TD:= .cons (.int .i64) (.cons (.int .u64) (.cons (.int .u64) (.cons .bool (.cons (.int .i64) (.cons (.int .i64) (.cons (.int .i64) .nil))))))
def FP:TD:= .cons nI (.cons nI (.cons nI (.cons nI (.cons nI (.cons nI .nil)))))
def FQ:TD:= .cons (.sl FN) (.cons FP (.cons (.sl FO) (.cons (.int .u64) .nil)))
theorem vb {n:Int} (h:(Lit.int .u64 n).wf=true):U64 n:=by
 have:=h;simp [Lit.wf,IntKind.min,IntKind.max,IntKind.bits,IntKind.signed] at this;exact ⟨this.1,by omega⟩
theorem CM {n:Int} (h:(Lit.int .i64 n).wf=true):I64 n:=by
 simpa [I64,Lit.wf,IntKind.min,IntKind.max,IntKind.bits,IntKind.signed] using h
theorem Fm (l:List AV) (h:FN.Has l):∃ y,l=cm y∧U64 y.l:=by
 obtain ⟨_,_,rfl,⟨a,rfl,ha⟩,_,_,rfl,⟨b,rfl,_⟩,_,_,rfl,⟨c,rfl,_⟩,rfl⟩:=h
 exact ⟨⟨a,b,c⟩,rfl,vb ha⟩
theorem iQ (l:List AV) (h:nI.Has l):∃ y,l=eZ y:=by
 obtain ⟨_,_,rfl,⟨a,rfl,_⟩,_,_,rfl,⟨b,rfl,_⟩,_,_,rfl,⟨c,rfl,_⟩,_,_,rfl,⟨d,rfl,_⟩,_,_,rfl,⟨e,rfl,_⟩,rfl⟩:=h
 exact ⟨⟨a,b,c,d,e⟩,rfl⟩
theorem Fo (l:List AV) (h:FO.Has l):∃ y,l=eL y∧((U64 y.auth∧U64 y.res)∧I64 y.low∧I64 y.high):=by
 obtain ⟨_,_,rfl,⟨a,rfl,_⟩,_,_,rfl,⟨b,rfl,hb⟩,_,_,rfl,⟨c,rfl,hc⟩,_,_,rfl,⟨d,rfl⟩,_,_,rfl,⟨e,rfl,_⟩,_,_,rfl,⟨f,rfl,hf⟩,_,_,rfl,⟨g,rfl,hg⟩,rfl⟩:=h
 exact ⟨⟨a,b,c,d,e,f,g⟩,rfl,⟨vb hb,vb hc⟩,CM hf,CM hg⟩
theorem Fp (l:List AV) (h:FP.Has l):∃ y:List TenI,l=y.flatMap eZ∧y.length=6:=by
 obtain ⟨_,_,rfl,h1,_,_,rfl,h2,_,_,rfl,h3,_,_,rfl,h4,_,_,rfl,h5,_,_,rfl,h6,rfl⟩:=h
 obtain ⟨y1,rfl⟩:=iQ _ h1
 obtain ⟨y2,rfl⟩:=iQ _ h2
 obtain ⟨y3,rfl⟩:=iQ _ h3
 obtain ⟨y4,rfl⟩:=iQ _ h4
 obtain ⟨y5,rfl⟩:=iQ _ h5
 obtain ⟨y6,rfl⟩:=iQ _ h6
 exact ⟨[y1,y2,y3,y4,y5,y6],by simp,rfl⟩
theorem Fq (l:List AV) (h:FQ.Has l):∃ c,l=bh c∧CfgArg c:=by
 obtain ⟨_,_,rfl,h1,_,_,rfl,h2,_,_,rfl,h3,_,_,rfl,⟨hor,rfl,_⟩,rfl⟩:=h
 obtain ⟨cs,rfl,_,hc⟩:=mP Fm h1
 obtain ⟨ts,rfl,ht⟩:=Fp _ h2
 obtain ⟨rs,rfl,_,hr⟩:=mP Fo h3
 exact ⟨⟨cs,ts,rs,hor⟩,by simp [bh,sl],ht,hc,fun x hx=>(hr x hx).1,fun x hx=>(hr x hx).2⟩
theorem lN (c:CfgI) (l:List OpI) (s:List UInt8) (hc:CfgArg c) (m:l.length≤maxLen) (hl:∀ x∈l,OpOk x∧x.text.length≤maxLen) (hs:s.length≤maxLen):PuG Tryz.prog gl4 7 [.agg (bh c),sl cOp l, .str s] (.bool true) :=
 lM false hc l s m (fun x hx=>(hl x hx).1) hs
end Go.Proofs.YtgephffbfiemeaaGreatDoor
