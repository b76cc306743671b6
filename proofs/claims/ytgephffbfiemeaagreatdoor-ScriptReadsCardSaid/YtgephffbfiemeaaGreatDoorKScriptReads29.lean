/- Part 29 of the proof of ScriptReads: an abstract semantics that is proved sound for the model, contracts of functions in it, and plain facts (X10 Y8 X13 X14 X15 X16 X18 X19 X20 X22 X23 Y9 A40r). No condition. -/
import Derived.Test.YtgephffbfiemeaaGreatDoorKScriptReads28
set_option linter.all false
namespace Go.Proofs.YtgephffbfiemeaaGreatDoor
open Go.Abs Go.Lib
set_option linter.all false
set_option maxRecDepth 100000
def oneOf (n:Nat):List Rw→Except Ft OpI
  | []=> .error (7,(n:Nat))
  | r :: rest => eb (gO   r) fun o => match rest with
    | []=> .ok o
    | r2::_=> .error (4,(r2.a:Int))
def eJ (s:List UInt8):Except Ft OpI:=eb (eO s) (oneOf s.length)
set_option maxHeartbeats 4000000 in
theorem x47 {σ σ0:St} {ζ l:Nat} {s:List UInt8} (hσ:cG gl3 σ) (hlw:St.lw σ0 σ) (hs:s.length≤1000000) (hz:σ.box ζ=some [.str s]) (hl:σ.box l=some z8) (hne:l≠ζ) :
    AX Tryz.prog 47 [.ptr ζ 0, .ptr l 0] σ (oX TS (eJ s) (fun _=> .tup []) (fun o=>σ.ae l (cOp o)) σ0):=by
  haveI:BoxIs σ ζ [.str s]:=⟨hz⟩
  haveI:BoxIs σ l [.int .i64 0, .int .i64 0, .int .u64 0, .str [], .int .i64 0, .int .i64 0, .int .u64 0, .int .u64 0]:=⟨hl⟩
  have q1:True:=trivial
  have q2:True:=trivial
  have he:True:=trivial
  have he2:True:=trivial
  (refine bl c47 b47 ?_;simp only [c47,↓R1,RR,seval,RX,cRw,q1,q2,he,he2,bm,bn])
  refine bM (x42 (σ0:=σ0) s hs hlw) (aa _) (fun rs ho1=>?_) (fun e ho1=>?_)
  case refine_2 =>
    simp only [↓R1,RR,seval,RX,cRw,q1,q2,he,he2,bm,bn]
    exact a7 (by simp only [eJ,eb,ho1]) (St.aH _)
  obtain ⟨hz1,hz2⟩:=fR ho1
  match rs,ho1,hz1,hz2 with
  | [], ho1, _, _ =>
    have q1:(((0:Nat):Int) == 0)=true:=rfl
    simp only [List.length_nil,↓R1,RR,seval,RX,cRw,q1,q2,he,he2,bm,bn]
    repeat' (first|(with_reducible rw [ai])|(with_reducible refine And.intro ?_ ?_;exact ag)|(with_reducible apply And.intro)|((first|(refine cZ (fun hc=>?_) (fun hc=>?_)<;>(try simp only [hc,↓R1,RR,seval,RX,cRw,q1,q2,he,he2,bm,bn]))|refine ar (fun hc=>?_) (fun hc=>?_)|(with_reducible intro β hβ;(try simp only [RB] at hβ);(repeat (obtain ⟨⟨_,_⟩,hβ⟩:=hβ));(try (have hbis:=ah (by assumption) hβ;obtain ⟨_,_⟩:=hbis)))|((first|(refine bQ (.inr rfl) rfl ?_ ?_ ?_ ?_ ?_ ?_;(first|rfl|exact St.bg _ _ _|(simp only [↓R1,RR,seval,RX,cRw,q1,q2,he,he2,bm,bn]));(first|omega|(simp only [RZ,List.length_nil,List.length_cons];omega)|(simp only [RZ,List.length_nil,List.length_cons]));(first|rfl|first|omega|(simp only [RZ,List.length_nil,List.length_cons];omega)|(simp only [RZ,List.length_nil,List.length_cons])))|(refine bD rfl ?_ ?_ ?_ ?_ ?_ ?_;(first|rfl|exact St.bg _ _ _|(simp only [↓R1,RR,seval,RX,cRw,q1,q2,he,he2,bm,bn]));(first|omega|(simp only [RZ,List.length_nil,List.length_cons];omega)|(simp only [RZ,List.length_nil,List.length_cons]));(first|rfl|first|omega|(simp only [RZ,List.length_nil,List.length_cons];omega)|(simp only [RZ,List.length_nil,List.length_cons])))|(refine appV_own ?_ ?_ ?_ ?_;exact aS (by intro _;rfl) _)|(refine appD_own ?_ ?_ ?_ ?_ ?_;omega;exact aS (by intro _;rfl) _)|(refine appV_fresh rfl trivial rfl ?_ ?_ ?_ ?_ ?_;(first|rfl|first|omega|(simp only [RZ,List.length_nil,List.length_cons];omega)|(simp only [RZ,List.length_nil,List.length_cons]));(first|rfl|first|omega|(simp only [RZ,List.length_nil,List.length_cons];omega)|(simp only [RZ,List.length_nil,List.length_cons])))|(refine appD_fresh rfl trivial rfl ?_ ?_ ?_ ?_ ?_ ?_;omega;(first|rfl|first|omega|(simp only [RZ,List.length_nil,List.length_cons];omega)|(simp only [RZ,List.length_nil,List.length_cons]));(first|rfl|first|omega|(simp only [RZ,List.length_nil,List.length_cons];omega)|(simp only [RZ,List.length_nil,List.length_cons]))));(unfold maxLen;omega);omega)|(refine fh (fun hc=>?_) (fun hc=>?_))|(refine cm (σ0:=σ0) (by decide) (by exact bI) ?_))<;>(try simp only [↓R1,RR,seval,RX,cRw,q1,q2,he,he2,bm,bn])))
    exact a7 (by simp only [eJ,eb,ho1,oneOf]) (St.aH _)
  | r :: rest, ho1, hz1, hz2 =>
    obtain ⟨hr1,hr2,hr3⟩:=hz2 r (by simp)
    have he:((cRw r++rest.flatMap cRw).drop (0*2)).take 2= [.int .i64 (r.a:Nat), .sl false r.ws.length (r.ws.flatMap cWd)]:=by simp [cRw]
    have hcl:=di rest
    have hcr:(cRw r).length=2:=rfl
    cases hrest:rest with
    | nil =>
      have q1:(((1:Nat):Int) == 0)=false:=rfl
      have q2:decide ((1:Int)<((1:Nat):Int))=false:=by decide
      simp only [List.length_cons,List.length_nil,List.flatMap_cons,List.flatMap_nil,↓R1,RR,seval,RX,cRw,q1,q2,he,he2,bm,bn]
      repeat' (first|(with_reducible rw [ai])|(with_reducible refine And.intro ?_ ?_;exact ag)|(with_reducible apply And.intro)|((first|(refine cZ (fun hc=>?_) (fun hc=>?_)<;>(try simp only [hc,↓R1,RR,seval,RX,cRw,q1,q2,he,he2,bm,bn]))|refine ar (fun hc=>?_) (fun hc=>?_)|(with_reducible intro β hβ;(try simp only [RB] at hβ);(repeat (obtain ⟨⟨_,_⟩,hβ⟩:=hβ));(try (have hbis:=ah (by assumption) hβ;obtain ⟨_,_⟩:=hbis)))|((first|(refine bQ (.inr rfl) rfl ?_ ?_ ?_ ?_ ?_ ?_;(first|rfl|exact St.bg _ _ _|(simp only [↓R1,RR,seval,RX,cRw,q1,q2,he,he2,bm,bn]));(first|omega|(simp only [RZ,List.length_nil,List.length_cons];omega)|(simp only [RZ,List.length_nil,List.length_cons]));(first|rfl|first|omega|(simp only [RZ,List.length_nil,List.length_cons];omega)|(simp only [RZ,List.length_nil,List.length_cons])))|(refine bD rfl ?_ ?_ ?_ ?_ ?_ ?_;(first|rfl|exact St.bg _ _ _|(simp only [↓R1,RR,seval,RX,cRw,q1,q2,he,he2,bm,bn]));(first|omega|(simp only [RZ,List.length_nil,List.length_cons];omega)|(simp only [RZ,List.length_nil,List.length_cons]));(first|rfl|first|omega|(simp only [RZ,List.length_nil,List.length_cons];omega)|(simp only [RZ,List.length_nil,List.length_cons])))|(refine appV_own ?_ ?_ ?_ ?_;exact aS (by intro _;rfl) _)|(refine appD_own ?_ ?_ ?_ ?_ ?_;omega;exact aS (by intro _;rfl) _)|(refine appV_fresh rfl trivial rfl ?_ ?_ ?_ ?_ ?_;(first|rfl|first|omega|(simp only [RZ,List.length_nil,List.length_cons];omega)|(simp only [RZ,List.length_nil,List.length_cons]));(first|rfl|first|omega|(simp only [RZ,List.length_nil,List.length_cons];omega)|(simp only [RZ,List.length_nil,List.length_cons])))|(refine appD_fresh rfl trivial rfl ?_ ?_ ?_ ?_ ?_ ?_;omega;(first|rfl|first|omega|(simp only [RZ,List.length_nil,List.length_cons];omega)|(simp only [RZ,List.length_nil,List.length_cons]));(first|rfl|first|omega|(simp only [RZ,List.length_nil,List.length_cons];omega)|(simp only [RZ,List.length_nil,List.length_cons]))));(unfold maxLen;omega);omega)|(refine bM (x43 (σ0:=σ0) (r:=r) ?_ ?_ hr1 hr2 hr3) (aa _) (fun o ho2=>?_) (fun e ho2=>?_);(focus (intro k cs hk;exact hσ k cs hk));(focus (exact bI;done)))|(refine fh (fun hc=>?_) (fun hc=>?_))|(refine cm (σ0:=σ0) (by decide) (by exact bI) ?_))<;>(try simp only [↓R1,RR,seval,RX,cRw,q1,q2,he,he2,bm,bn])))
      · refine cX ((by simp only [eJ,eb,ho1,oneOf,hrest,ho2];rfl)) ?_ ?_ (by first|(simp [aj,rvS];done)|(simp only [aj,rvS,↓R1,RR,seval,RX,cRw,q1,q2,he,he2,bm,bn];try simp))
        · simp only [ao,↓R1,RR,seval,RX,cRw,q1,q2,he,he2,bm,bn]
          exact af _
        · exact bI
      · exact a7 (by simp only [eJ,eb,ho1,oneOf,ho2]) (St.aH _)
    | cons r2 rest2 =>
      have q1:(((rest2.length+1+1:Nat):Int) == 0)=false:=by simp;omega
      have q2:decide ((1:Int)<((rest2.length+1+1:Nat):Int))=true:=by rw [decide_eq_true_eq];omega
      subst hrest
      have hcl2:=di rest2
      have hcr2:(cRw r2).length=2:=rfl
      have he:((cRw r++(cRw r2++rest2.flatMap cRw)).drop (0*2)).take 2= [.int .i64 (r.a:Nat), .sl false r.ws.length (r.ws.flatMap cWd)]:=by simp [cRw]
      have he2:((cRw r++(cRw r2++rest2.flatMap cRw)).drop (1*2)).take 2= [.int .i64 (r2.a:Nat), .sl false r2.ws.length (r2.ws.flatMap cWd)]:=by simp [cRw]
      simp only [List.length_cons,List.flatMap_cons,↓R1,RR,seval,RX,cRw,q1,q2,he,he2,bm,bn]
      repeat' (first|(with_reducible rw [ai])|(with_reducible refine And.intro ?_ ?_;exact ag)|(with_reducible apply And.intro)|((first|(refine cZ (fun hc=>?_) (fun hc=>?_)<;>(try simp only [hc,↓R1,RR,seval,RX,cRw,q1,q2,he,he2,bm,bn]))|refine ar (fun hc=>?_) (fun hc=>?_)|(with_reducible intro β hβ;(try simp only [RB] at hβ);(repeat (obtain ⟨⟨_,_⟩,hβ⟩:=hβ));(try (have hbis:=ah (by assumption) hβ;obtain ⟨_,_⟩:=hbis)))|((first|(refine bQ (.inr rfl) rfl ?_ ?_ ?_ ?_ ?_ ?_;(first|rfl|exact St.bg _ _ _|(simp only [↓R1,RR,seval,RX,cRw,q1,q2,he,he2,bm,bn]));(first|omega|(simp only [RZ,List.length_nil,List.length_cons];omega)|(simp only [RZ,List.length_nil,List.length_cons]));(first|rfl|first|omega|(simp only [RZ,List.length_nil,List.length_cons];omega)|(simp only [RZ,List.length_nil,List.length_cons])))|(refine bD rfl ?_ ?_ ?_ ?_ ?_ ?_;(first|rfl|exact St.bg _ _ _|(simp only [↓R1,RR,seval,RX,cRw,q1,q2,he,he2,bm,bn]));(first|omega|(simp only [RZ,List.length_nil,List.length_cons];omega)|(simp only [RZ,List.length_nil,List.length_cons]));(first|rfl|first|omega|(simp only [RZ,List.length_nil,List.length_cons];omega)|(simp only [RZ,List.length_nil,List.length_cons])))|(refine appV_own ?_ ?_ ?_ ?_;exact aS (by intro _;rfl) _)|(refine appD_own ?_ ?_ ?_ ?_ ?_;omega;exact aS (by intro _;rfl) _)|(refine appV_fresh rfl trivial rfl ?_ ?_ ?_ ?_ ?_;(first|rfl|first|omega|(simp only [RZ,List.length_nil,List.length_cons];omega)|(simp only [RZ,List.length_nil,List.length_cons]));(first|rfl|first|omega|(simp only [RZ,List.length_nil,List.length_cons];omega)|(simp only [RZ,List.length_nil,List.length_cons])))|(refine appD_fresh rfl trivial rfl ?_ ?_ ?_ ?_ ?_ ?_;omega;(first|rfl|first|omega|(simp only [RZ,List.length_nil,List.length_cons];omega)|(simp only [RZ,List.length_nil,List.length_cons]));(first|rfl|first|omega|(simp only [RZ,List.length_nil,List.length_cons];omega)|(simp only [RZ,List.length_nil,List.length_cons]))));(unfold maxLen;omega);omega)|(refine bM (x43 (σ0:=σ0) (r:=r) ?_ ?_ hr1 hr2 hr3) (aa _) (fun o ho2=>?_) (fun e ho2=>?_);(focus (intro k cs hk;exact hσ k cs hk));(focus (exact bI;done)))|(refine fh (fun hc=>?_) (fun hc=>?_))|(refine cm (σ0:=σ0) (by decide) (by exact bI) ?_))<;>(try simp only [↓R1,RR,seval,RX,cRw,q1,q2,he,he2,bm,bn])))
      · exact a7 (by simp only [eJ,eb,ho1,oneOf,ho2]) (St.aH _)
      · exact a7 (by simp only [eJ,eb,ho1,oneOf,ho2]) (St.aH _)
def lO (s:List UInt8):AV:=match eJ s with
 | .ok o=> .tup [.agg (cOp o), .agg [.int .i64 0, .int .i64 0]]
 | .error e=> .tup [.agg z8, .agg [.int .i64 e.1, .int .i64 e.2]]
theorem vM {σ:St} {ζ l:Nat} {s:List UInt8} (hσ:cG gl3 σ) (hs:s.length≤1000000) (hz:σ.box ζ=some [.str s]) (hl:σ.box l=some z8) (hne:l≠ζ):∀ β,σ.box β=none→AX Tryz.prog 47 [.ptr ζ 0, .ptr l 0] (σ.ae β z2) (oX TS (eJ s) (fun _=> .tup []) (fun o=>(σ.ae l (cOp o)).ae β z2) (σ.ae β z2)):=fun β hβ =>
 Fz (x47 (σ:=σ.ae β z2) (σ0:=σ.ae β z2) hσ (St.aH _) hs (ir hz hβ) (ir hl hβ) hne) (fun os=>sL hl hβ) rfl
theorem p14 (s:List UInt8) (hs:s.length≤1000000):PuG Tryz.prog gl3 14 [.str s] (lO s):=by
  have hent:=Go.Proofs.enters_of Tryz.func47 (by kernel_rfl) rfl
  cases hp:eJ s with
  | ok os =>
    rw [lO,hp]
    (refine b9 c14 b14 fun σ hσ=>?_;simp only [c14,↓R1,RR,seval,bm,bn])
    repeat' (first|(with_reducible rw [ai])|(with_reducible refine And.intro ?_ ?_;exact ag)|(with_reducible apply And.intro)|((first|(refine cZ (fun hc=>?_) (fun hc=>?_)<;>(try simp only [hc,↓R1,RR,seval,bm,bn]))|refine ar (fun hc=>?_) (fun hc=>?_)|(with_reducible intro β hβ;(try simp only [RB] at hβ);(repeat (obtain ⟨⟨_,_⟩,hβ⟩:=hβ));(try (have hbis:=ah (by assumption) hβ;obtain ⟨_,_⟩:=hbis)))|((first|(refine bQ (.inr rfl) rfl ?_ ?_ ?_ ?_ ?_ ?_;(first|rfl|exact St.bg _ _ _|(simp only [↓R1,RR,seval,bm,bn]));(first|omega|(simp only [RZ,List.length_nil,List.length_cons];omega)|(simp only [RZ,List.length_nil,List.length_cons]));(first|rfl|first|omega|(simp only [RZ,List.length_nil,List.length_cons];omega)|(simp only [RZ,List.length_nil,List.length_cons])))|(refine bD rfl ?_ ?_ ?_ ?_ ?_ ?_;(first|rfl|exact St.bg _ _ _|(simp only [↓R1,RR,seval,bm,bn]));(first|omega|(simp only [RZ,List.length_nil,List.length_cons];omega)|(simp only [RZ,List.length_nil,List.length_cons]));(first|rfl|first|omega|(simp only [RZ,List.length_nil,List.length_cons];omega)|(simp only [RZ,List.length_nil,List.length_cons])))|(refine appV_own ?_ ?_ ?_ ?_;exact aS (by intro _;rfl) _)|(refine appD_own ?_ ?_ ?_ ?_ ?_;omega;exact aS (by intro _;rfl) _)|(refine appV_fresh rfl trivial rfl ?_ ?_ ?_ ?_ ?_;(first|rfl|first|omega|(simp only [RZ,List.length_nil,List.length_cons];omega)|(simp only [RZ,List.length_nil,List.length_cons]));(first|rfl|first|omega|(simp only [RZ,List.length_nil,List.length_cons];omega)|(simp only [RZ,List.length_nil,List.length_cons])))|(refine appD_fresh rfl trivial rfl ?_ ?_ ?_ ?_ ?_ ?_;omega;(first|rfl|first|omega|(simp only [RZ,List.length_nil,List.length_cons];omega)|(simp only [RZ,List.length_nil,List.length_cons]));(first|rfl|first|omega|(simp only [RZ,List.length_nil,List.length_cons];omega)|(simp only [RZ,List.length_nil,List.length_cons]))));(unfold maxLen;omega);omega))<;>(try simp only [↓R1,RR,seval,bm,bn])))
    rename_i ζ hζ l hl p1 p2 p3 p4 p5 p6
    have hat:=vM (s:=s) (ζ:=ζ) (l:=l) (σ:=((σ.ae ζ [AV.str s]).ae l [.int .i64 0, .int .i64 0, .int .u64 0, .str [], .int .i64 0, .int .i64 0, .int .u64 0, .int .u64 0]).ae β [AV.int IntKind.i64 0,AV.int IntKind.i64 0]) hσ hs (by simp only [↓R1,RR,seval,bm,bn]) (by simp only [z8,↓R1,RR,seval,bm,bn]) p1.ne
    refine AC.mono (AC.wk (nG hent hat (fun γ a hγ=>gq (d:=z8) (by simp only [z8,↓R1,RR,seval,bm,bn]) hγ) (fun γ hγ=>hγ) hp) (aa _)) ?_
    rintro _ _ ⟨rfl,rfl⟩
    simp only [↓R1,RR,seval,bm,bn]
    repeat' (first|(with_reducible rw [ai])|(with_reducible refine And.intro ?_ ?_;exact ag)|(with_reducible apply And.intro)|((first|(refine cZ (fun hc=>?_) (fun hc=>?_)<;>(try simp only [hc,↓R1,RR,seval,bm,bn]))|refine ar (fun hc=>?_) (fun hc=>?_)|(with_reducible intro β hβ;(try simp only [RB] at hβ);(repeat (obtain ⟨⟨_,_⟩,hβ⟩:=hβ));(try (have hbis:=ah (by assumption) hβ;obtain ⟨_,_⟩:=hbis)))|((first|(refine bQ (.inr rfl) rfl ?_ ?_ ?_ ?_ ?_ ?_;(first|rfl|exact St.bg _ _ _|(simp only [↓R1,RR,seval,bm,bn]));(first|omega|(simp only [RZ,List.length_nil,List.length_cons];omega)|(simp only [RZ,List.length_nil,List.length_cons]));(first|rfl|first|omega|(simp only [RZ,List.length_nil,List.length_cons];omega)|(simp only [RZ,List.length_nil,List.length_cons])))|(refine bD rfl ?_ ?_ ?_ ?_ ?_ ?_;(first|rfl|exact St.bg _ _ _|(simp only [↓R1,RR,seval,bm,bn]));(first|omega|(simp only [RZ,List.length_nil,List.length_cons];omega)|(simp only [RZ,List.length_nil,List.length_cons]));(first|rfl|first|omega|(simp only [RZ,List.length_nil,List.length_cons];omega)|(simp only [RZ,List.length_nil,List.length_cons])))|(refine appV_own ?_ ?_ ?_ ?_;exact aS (by intro _;rfl) _)|(refine appD_own ?_ ?_ ?_ ?_ ?_;omega;exact aS (by intro _;rfl) _)|(refine appV_fresh rfl trivial rfl ?_ ?_ ?_ ?_ ?_;(first|rfl|first|omega|(simp only [RZ,List.length_nil,List.length_cons];omega)|(simp only [RZ,List.length_nil,List.length_cons]));(first|rfl|first|omega|(simp only [RZ,List.length_nil,List.length_cons];omega)|(simp only [RZ,List.length_nil,List.length_cons])))|(refine appD_fresh rfl trivial rfl ?_ ?_ ?_ ?_ ?_ ?_;omega;(first|rfl|first|omega|(simp only [RZ,List.length_nil,List.length_cons];omega)|(simp only [RZ,List.length_nil,List.length_cons]));(first|rfl|first|omega|(simp only [RZ,List.length_nil,List.length_cons];omega)|(simp only [RZ,List.length_nil,List.length_cons]))));(unfold maxLen;omega);omega))<;>(try simp only [↓R1,RR,seval,bm,bn])))
    all_goals (refine ak ?_ (by simp only [aj,rvS,↓R1,RR,seval,bm,bn];simp [bm]))
    all_goals (simp only [ao,↓R1,RR,seval,bm,bn];exact af _)
  | error e =>
    rw [lO,hp]
    (refine b9 c14 b14 fun σ hσ=>?_;simp only [c14,↓R1,RR,seval,bm,bn])
    repeat' (first|(with_reducible rw [ai])|(with_reducible refine And.intro ?_ ?_;exact ag)|(with_reducible apply And.intro)|((first|(refine cZ (fun hc=>?_) (fun hc=>?_)<;>(try simp only [hc,↓R1,RR,seval,bm,bn]))|refine ar (fun hc=>?_) (fun hc=>?_)|(with_reducible intro β hβ;(try simp only [RB] at hβ);(repeat (obtain ⟨⟨_,_⟩,hβ⟩:=hβ));(try (have hbis:=ah (by assumption) hβ;obtain ⟨_,_⟩:=hbis)))|((first|(refine bQ (.inr rfl) rfl ?_ ?_ ?_ ?_ ?_ ?_;(first|rfl|exact St.bg _ _ _|(simp only [↓R1,RR,seval,bm,bn]));(first|omega|(simp only [RZ,List.length_nil,List.length_cons];omega)|(simp only [RZ,List.length_nil,List.length_cons]));(first|rfl|first|omega|(simp only [RZ,List.length_nil,List.length_cons];omega)|(simp only [RZ,List.length_nil,List.length_cons])))|(refine bD rfl ?_ ?_ ?_ ?_ ?_ ?_;(first|rfl|exact St.bg _ _ _|(simp only [↓R1,RR,seval,bm,bn]));(first|omega|(simp only [RZ,List.length_nil,List.length_cons];omega)|(simp only [RZ,List.length_nil,List.length_cons]));(first|rfl|first|omega|(simp only [RZ,List.length_nil,List.length_cons];omega)|(simp only [RZ,List.length_nil,List.length_cons])))|(refine appV_own ?_ ?_ ?_ ?_;exact aS (by intro _;rfl) _)|(refine appD_own ?_ ?_ ?_ ?_ ?_;omega;exact aS (by intro _;rfl) _)|(refine appV_fresh rfl trivial rfl ?_ ?_ ?_ ?_ ?_;(first|rfl|first|omega|(simp only [RZ,List.length_nil,List.length_cons];omega)|(simp only [RZ,List.length_nil,List.length_cons]));(first|rfl|first|omega|(simp only [RZ,List.length_nil,List.length_cons];omega)|(simp only [RZ,List.length_nil,List.length_cons])))|(refine appD_fresh rfl trivial rfl ?_ ?_ ?_ ?_ ?_ ?_;omega;(first|rfl|first|omega|(simp only [RZ,List.length_nil,List.length_cons];omega)|(simp only [RZ,List.length_nil,List.length_cons]));(first|rfl|first|omega|(simp only [RZ,List.length_nil,List.length_cons];omega)|(simp only [RZ,List.length_nil,List.length_cons]))));(unfold maxLen;omega);omega))<;>(try simp only [↓R1,RR,seval,bm,bn])))
    rename_i ζ hζ l hl p1 p2 p3 p4 p5 p6
    have hat:=vM (s:=s) (ζ:=ζ) (l:=l) (σ:=((σ.ae ζ [AV.str s]).ae l [.int .i64 0, .int .i64 0, .int .u64 0, .str [], .int .i64 0, .int .i64 0, .int .u64 0, .int .u64 0]).ae β [AV.int IntKind.i64 0,AV.int IntKind.i64 0]) hσ hs (by simp only [↓R1,RR,seval,bm,bn]) (by simp only [z8,↓R1,RR,seval,bm,bn]) p1.ne
    refine AC.mono (AC.wk (nH hent hat (fun γ a hγ=>gq (d:=z8) (by simp only [z8,↓R1,RR,seval,bm,bn]) hγ) (fun γ hγ=>hγ) hp) (aa _)) ?_
    rintro _ _ ⟨rfl,rfl⟩
    simp only [↓R1,RR,seval,bm,bn]
    repeat' (first|(with_reducible rw [ai])|(with_reducible refine And.intro ?_ ?_;exact ag)|(with_reducible apply And.intro)|((first|(refine cZ (fun hc=>?_) (fun hc=>?_)<;>(try simp only [hc,↓R1,RR,seval,bm,bn]))|refine ar (fun hc=>?_) (fun hc=>?_)|(with_reducible intro β hβ;(try simp only [RB] at hβ);(repeat (obtain ⟨⟨_,_⟩,hβ⟩:=hβ));(try (have hbis:=ah (by assumption) hβ;obtain ⟨_,_⟩:=hbis)))|((first|(refine bQ (.inr rfl) rfl ?_ ?_ ?_ ?_ ?_ ?_;(first|rfl|exact St.bg _ _ _|(simp only [↓R1,RR,seval,bm,bn]));(first|omega|(simp only [RZ,List.length_nil,List.length_cons];omega)|(simp only [RZ,List.length_nil,List.length_cons]));(first|rfl|first|omega|(simp only [RZ,List.length_nil,List.length_cons];omega)|(simp only [RZ,List.length_nil,List.length_cons])))|(refine bD rfl ?_ ?_ ?_ ?_ ?_ ?_;(first|rfl|exact St.bg _ _ _|(simp only [↓R1,RR,seval,bm,bn]));(first|omega|(simp only [RZ,List.length_nil,List.length_cons];omega)|(simp only [RZ,List.length_nil,List.length_cons]));(first|rfl|first|omega|(simp only [RZ,List.length_nil,List.length_cons];omega)|(simp only [RZ,List.length_nil,List.length_cons])))|(refine appV_own ?_ ?_ ?_ ?_;exact aS (by intro _;rfl) _)|(refine appD_own ?_ ?_ ?_ ?_ ?_;omega;exact aS (by intro _;rfl) _)|(refine appV_fresh rfl trivial rfl ?_ ?_ ?_ ?_ ?_;(first|rfl|first|omega|(simp only [RZ,List.length_nil,List.length_cons];omega)|(simp only [RZ,List.length_nil,List.length_cons]));(first|rfl|first|omega|(simp only [RZ,List.length_nil,List.length_cons];omega)|(simp only [RZ,List.length_nil,List.length_cons])))|(refine appD_fresh rfl trivial rfl ?_ ?_ ?_ ?_ ?_ ?_;omega;(first|rfl|first|omega|(simp only [RZ,List.length_nil,List.length_cons];omega)|(simp only [RZ,List.length_nil,List.length_cons]));(first|rfl|first|omega|(simp only [RZ,List.length_nil,List.length_cons];omega)|(simp only [RZ,List.length_nil,List.length_cons]))));(unfold maxLen;omega);omega))<;>(try simp only [↓R1,RR,seval,bm,bn])))
    all_goals (refine ak ?_ (by first|(simp [aj,rvS];done)|(simp only [aj,rvS,↓R1,RR,seval,bm,bn];try simp)))
    all_goals (simp only [ao,↓R1,RR,seval,bm,bn];exact af _)
theorem Iv {α β:Type} {o:Except Ft α} {f:α→Except Ft β} {e:Ft} (h:eb o f= .error e):o= .error e∨∃ a,o= .ok a∧f a= .error e:=by
 cases o with
 | error x=>simp only [eb] at h;cases h;exact .inl rfl
 | ok a=>exact .inr ⟨a,rfl,h⟩
theorem E6 {k:Nat} {ws:List Wd} {e:Ft} (h:opW k ws= .error e):e.1≠0:=by
 unfold opW at h
 split at h
 all_goals (first|(unfold dT at h)|(unfold im at h)|(unfold kD at h)|(unfold e7 at h)|(unfold iZ at h)|(unfold kF at h)|(unfold cQ at h)|(unfold gy at h)|(unfold sI at h))
 all_goals repeat (first|(exact cE h)|(exact nF h)|(cases h;done)|(rcases Iv h with h|⟨_,_,h⟩))
theorem nI {r:Rw} {e:Ft} (h:gO r= .error e):e.1≠0:=by
 unfold gO at h
 split at h
 ·cases h;exact (by decide:(11:Int)≠0)
 ·split at h
  ·exact E6 h
  ·cases h;exact (by decide:(3:Int)≠0)
set_option maxHeartbeats 4000000 in
theorem p13 (s:List UInt8) (hs:s.length≤800000):Pu Tryz.prog 13 [.str s] (iu s):=by
  have q1:True:=trivial
  have q2:True:=trivial
  have q3:True:=trivial
  have he:True:=trivial
  have hw:True:=trivial
  have hol:True:=trivial
  have pr:=p45 s hs
  cases hr:dt s with
  | error x =>
    obtain ⟨e,a⟩:=x
    have hx:eO s= .error ((e:Nat),(a:Nat)):=by rw [eO,hr]
    have hpe:cN s= .error ((e:Nat),(a:Nat)):=by rw [cN,hx];rfl
    rw [iu,hpe]
    have q1:(((e:Nat):Int) != 0)=true:=by rw [bne_iff_ne];have:=lh hr;omega
    rw [hr,eI,dA] at pr
    (refine an c13 b13 fun σ=>?_;simp only [c13,↓R1,RR,seval,q1,q2,q3,he,hw,hol,bm,bn])
    repeat' (first|(with_reducible rw [ai])|((first|(with_reducible intro β hβ;(try simp only [RB] at hβ);(repeat (obtain ⟨⟨_,_⟩,hβ⟩:=hβ));(try (have hbis:=ah (by assumption) hβ;obtain ⟨_,_⟩:=hbis)))|(refine Pt (pr) ?_))<;>(try simp only [↓R1,RR,seval,q1,q2,q3,he,hw,hol,bm,bn])))
    all_goals all_goals first|omega|exact Nat.le_refl _|assumption|exact St.le_refl _|(intros;(repeat' (with_reducible apply And.intro))<;>first|omega|(simp only [RZ,dH,di];omega))|(simp only [az,slot,af,↓R1,RR,seval,q1,q2,q3,he,hw,hol,bm,bn];(repeat' (with_reducible apply And.intro))<;>first|exact bU (by have:=av;omega)|exact ay _ _ _|exact aq _ _|exact ad (congrArg (AV.tsl _ _) (flat_step (by assumption))))|((repeat (first|exact St.le_refl _|(refine St.aw ?_ (by assumption))|(refine St.aG ?_ (by assumption))));done)|(simp_all;done)|skip
    all_goals (refine ak ?_ (by first|(simp [aj,rvS];done)|(simp only [aj,rvS,↓R1,RR,seval,q1,q2,q3,he,hw,hol,bm,bn];try simp)))
    all_goals (simp only [ao,↓R1,RR,seval,q1,q2,q3,he,hw,hol,bm,bn];(repeat' (first|exact af _|exact bz|exact ay _ _ _|exact aq _ _|exact wkL.nil|exact aa _|refine c9 ?_|refine cR ?_|refine wkL.cons ?_ ?_)))
  | ok rs =>
    have hx:eO s= .ok rs:=by rw [eO,hr]
    have hpe:cN s=iq rs 0:=by rw [cN,hx];rfl
    obtain ⟨hz1,hz2⟩:=fR hx
    rw [hr,eI,dA] at pr
    rw [iu,hpe]
    (refine an c13 b13 fun σ=>?_;simp only [c13,↓R1,RR,seval,q1,q2,q3,he,hw,hol,bm,bn])
    repeat' (first|(with_reducible rw [ai])|((first|(with_reducible intro β hβ;(try simp only [RB] at hβ);(repeat (obtain ⟨⟨_,_⟩,hβ⟩:=hβ));(try (have hbis:=ah (by assumption) hβ;obtain ⟨_,_⟩:=hbis)))|(refine Pt (pr) ?_))<;>(try simp only [↓R1,RR,seval,q1,q2,q3,he,hw,hol,bm,bn])))
    rename_i b3 hb3 p1 p2
    refine gF (α:=List OpI) 6 33 8 0 [] (fun τ acc=> [(3, .ptr b3 0),(4, .sl false rs.length (rs.flatMap cRw)),(6, .tsl τ acc.length (acc.flatMap cOp)),(7, .int .i64 (acc.length:Nat))]) (fun τ acc=>(σ.ae b3 [.int .i64 0, .int .i64 0]).al τ (33,8,acc.length))
      (fun acc=>acc.length≤rs.length∧acc.length≤400∧iq rs 0=eb (iq (rs.drop acc.length) acc.length) fun m=> .ok (acc++m)) (fun acc=>rs.length - acc.length) [] trivial rfl ⟨by simp,by simp,by simp only [List.length_nil,List.drop_zero,List.nil_append];cases iq rs 0<;>rfl⟩ (fun τ hτ=>by simp [az,slot,af]) (fun τ hτ=>kz (St.aw (St.aw (St.le_refl _) (St.bf.2 ⟨⟨inferInstance,inferInstance⟩,hβ⟩)) (St.bf.2 ⟨⟨inferInstance,inferInstance⟩,hβ⟩))) ?_
    intro τ hτ acc ⟨hk,hk4,hI⟩
    by_cases hlt:acc.length<rs.length
    · obtain ⟨r,hrk⟩:∃ r,rs[acc.length]? =some r:=⟨_,List.getElem?_eq_getElem hlt⟩
      obtain ⟨hr1,hr2,hr3⟩:=hz2 r (List.mem_of_getElem? hrk)
      have q1:decide ((acc.length:Int)<(rs.length:Int))=true:=by rw [decide_eq_true_eq];omega
      have he:=Cq hrk
      simp only [cRw] at he
      have hw:IntKind.i64.wrap ((acc.length:Int)+1)=((acc.length+1:Nat):Int):=by rw [wrap64 (by omega) (by omega)];omega
      rw [o4 hrk,kG] at hI
      have hcl:=di rs
      have hol:=dH acc
      have po:=p46 r hr1 hr2 hr3
      simp only [cRw] at po
      cases ho:gO r with
      | error e =>
        have q2:(e.1 != 0)=true:=by rw [bne_iff_ne];exact nI ho
        rw [ho,dO] at po
        rw [oW _ ho] at hI
        rw [hI]
        simp only [q1,↓R1,RR,seval,q1,q2,q3,he,hw,hol,bm,bn]
        repeat' (first|(with_reducible rw [ai])|(with_reducible refine And.intro ?_ ?_;focus (intros;(repeat' (with_reducible apply And.intro))<;>first|omega|(simp only [RZ,dH,di];omega)))|(with_reducible apply And.intro)|((first|(with_reducible intro β hβ;(try simp only [RB] at hβ);(repeat (obtain ⟨⟨_,_⟩,hβ⟩:=hβ));(try (have hbis:=ah (by assumption) hβ;obtain ⟨_,_⟩:=hbis)))|(refine Pt (po) ?_))<;>(try simp only [↓R1,RR,seval,q1,q2,q3,he,hw,hol,bm,bn])))
        · rfl
        all_goals (refine ak ?_ (by first|(simp [aj,rvS];done)|(simp only [aj,rvS,↓R1,RR,seval,q1,q2,q3,he,hw,hol,bm,bn];try simp)))
        all_goals (simp only [ao,↓R1,RR,seval,q1,q2,q3,he,hw,hol,bm,bn];(repeat' (first|exact af _|exact bz|exact ay _ _ _|exact aq _ _|exact wkL.nil|exact aa _|refine c9 ?_|refine cR ?_|refine wkL.cons ?_ ?_)))
      | ok o =>
        rw [ho,dO] at po
        rw [nD _ ho] at hI
        by_cases h4:acc.length=400
        · have q3:((acc.length:Int) == 400)=true:=by rw [h4];rfl
          rw [if_pos h4] at hI
          simp only [eb] at hI
          rw [hI]
          simp only [q1,↓R1,RR,seval,q1,q2,q3,he,hw,hol,bm,bn]
          repeat' (first|(with_reducible rw [ai])|(with_reducible refine And.intro ?_ ?_;focus (intros;(repeat' (with_reducible apply And.intro))<;>first|omega|(simp only [RZ,dH,di];omega)))|((first|(with_reducible intro β hβ;(try simp only [RB] at hβ);(repeat (obtain ⟨⟨_,_⟩,hβ⟩:=hβ));(try (have hbis:=ah (by assumption) hβ;obtain ⟨_,_⟩:=hbis)))|(refine Pt (po) ?_))<;>(try simp only [↓R1,RR,seval,q1,q2,q3,he,hw,hol,bm,bn])))
          all_goals all_goals first|omega|exact Nat.le_refl _|assumption|exact St.le_refl _|(intros;(repeat' (with_reducible apply And.intro))<;>first|omega|(simp only [RZ,dH,di];omega))|(simp only [az,slot,af,↓R1,RR,seval,q1,q2,q3,he,hw,hol,bm,bn];(repeat' (with_reducible apply And.intro))<;>first|exact bU (by have:=av;omega)|exact ay _ _ _|exact aq _ _|exact ad (congrArg (AV.tsl _ _) (flat_step (by assumption))))|((repeat (first|exact St.le_refl _|(refine St.aw ?_ (by assumption))|(refine St.aG ?_ (by assumption))));done)|(simp_all;done)|skip
          all_goals (refine ak ?_ (by first|(simp [aj,rvS];done)|(simp only [aj,rvS,↓R1,RR,seval,q1,q2,q3,he,hw,hol,bm,bn];try simp)))
          all_goals (simp only [ao,↓R1,RR,seval,q1,q2,q3,he,hw,hol,bm,bn];(repeat' (first|exact af _|exact bz|exact ay _ _ _|exact aq _ _|exact wkL.nil|exact aa _|refine c9 ?_|refine cR ?_|refine wkL.cons ?_ ?_)))
        · have q3:((acc.length:Int) == 400)=false:=by rw [beq_eq_false_iff_ne];omega
          rw [if_neg h4] at hI
          simp only [q1,↓R1,RR,seval,q1,q2,q3,he,hw,hol,bm,bn]
          repeat' (first|(with_reducible rw [ai])|(with_reducible refine And.intro ?_ ?_;focus (intros;(repeat' (with_reducible apply And.intro))<;>first|omega|(simp only [RZ,dH,di];omega)))|((first|(with_reducible intro β hβ;(try simp only [RB] at hβ);(repeat (obtain ⟨⟨_,_⟩,hβ⟩:=hβ));(try (have hbis:=ah (by assumption) hβ;obtain ⟨_,_⟩:=hbis)))|((first|refine bQ (.inr rfl) rfl ?_ ?_ ?_ ?_ ?_ ?_|refine bD rfl ?_ ?_ ?_ ?_ ?_ ?_);(first|rfl|exact St.bg _ _ _|simp only [↓R1,RR,seval,q1,q2,q3,he,hw,hol,bm,bn]);(iterate 2 (first|omega|(simp only [RZ,dH,di];first|done|omega)|rfl));(unfold maxLen;omega);omega)|(refine Pt (po) ?_))<;>(try simp only [↓R1,RR,seval,q1,q2,q3,he,hw,hol,bm,bn])))
          all_goals all_goals first|omega|exact Nat.le_refl _|assumption|exact St.le_refl _|(intros;(repeat' (with_reducible apply And.intro))<;>first|omega|(simp only [RZ,dH,di];omega))|(simp only [az,slot,af,↓R1,RR,seval,q1,q2,q3,he,hw,hol,bm,bn];(repeat' (with_reducible apply And.intro))<;>first|exact bU (by have:=av;omega)|exact ay _ _ _|exact aq _ _|exact ad (congrArg (AV.tsl _ _) (flat_step (by assumption))))|((repeat (first|exact St.le_refl _|(refine St.aw ?_ (by assumption))|(refine St.aG ?_ (by assumption))));done)|(simp_all;done)|skip
          refine ⟨acc++ [o],⟨by simp;omega,by simp;omega,?_⟩,?_,?_,by simp;omega⟩
          · rw [hI,kG,List.length_append,List.length_singleton]
            simp only [eb,List.append_assoc,List.singleton_append]
          · simp only [List.length_append,List.length_singleton,List.flatMap_append,List.flatMap_cons,List.flatMap_nil,List.append_nil]
            simp [az,slot,af]
          · simp only [List.length_append,List.length_singleton]
            exact kz (St.aw (St.aw (St.le_refl _) (St.bf.2 ⟨⟨inferInstance,inferInstance⟩,by assumption⟩)) (St.bf.2 ⟨⟨inferInstance,inferInstance⟩,by assumption⟩))
    · have hke:acc.length=rs.length:=by omega
      have q1:decide ((acc.length:Int)<(rs.length:Int))=false:=by rw [decide_eq_false_iff_not];omega
      have ho:iq rs 0= .ok acc:=by
        rw [hI,hke,List.drop_length];simp only [iq,eb,List.append_nil]
      rw [ho]
      simp only [q1,↓R1,RR,seval,q1,q2,q3,he,hw,hol,bm,bn]
      skip
      all_goals all_goals first|omega|exact Nat.le_refl _|assumption|exact St.le_refl _|(intros;(repeat' (with_reducible apply And.intro))<;>first|omega|(simp only [RZ,dH,di];omega))|(simp only [az,slot,af,↓R1,RR,seval,q1,q2,q3,he,hw,hol,bm,bn];(repeat' (with_reducible apply And.intro))<;>first|exact bU (by have:=av;omega)|exact ay _ _ _|exact aq _ _|exact ad (congrArg (AV.tsl _ _) (flat_step (by assumption))))|((repeat (first|exact St.le_refl _|(refine St.aw ?_ (by assumption))|(refine St.aG ?_ (by assumption))));done)|(simp_all;done)|skip
      all_goals (refine ak ?_ (by first|(simp [aj,rvS];done)|(simp only [aj,rvS,↓R1,RR,seval,q1,q2,q3,he,hw,hol,bm,bn];try simp)))
      all_goals (simp only [ao,↓R1,RR,seval,q1,q2,q3,he,hw,hol,bm,bn];(repeat' (first|exact af _|exact bz|exact ay _ _ _|exact aq _ _|exact wkL.nil|exact aa _|refine c9 ?_|refine cR ?_|refine wkL.cons ?_ ?_)))
set_option maxHeartbeats 4000000 in
theorem p15 (s:List UInt8) (hs:s.length≤800000):Pu Tryz.prog 15 [.str s] (lO s):=by
  have q1:True:=trivial
  have q2:True:=trivial
  have q3:True:=trivial
  have he:True:=trivial
  have he2:True:=trivial
  have hw:True:=trivial
  have pr:=p45 s hs
  cases hr:dt s with
  | error x =>
    obtain ⟨e,a⟩:=x
    have hx:eO s= .error ((e:Nat),(a:Nat)):=by rw [eO,hr]
    have hpe:eJ s= .error ((e:Nat),(a:Nat)):=by rw [eJ,hx];rfl
    rw [lO,hpe]
    have q1:(((e:Nat):Int) != 0)=true:=by rw [bne_iff_ne];have:=lh hr;omega
    rw [hr,eI,dA] at pr
    (refine an c15 b15 fun σ=>?_;simp only [c15,↓R1,RR,seval,q1,q2,q3,he,he2,hw,bm,bn])
    repeat' (first|(with_reducible rw [ai])|(with_reducible apply And.intro)|((first|(with_reducible intro β hβ;(try simp only [RB] at hβ);(repeat (obtain ⟨⟨_,_⟩,hβ⟩:=hβ));(try (have hbis:=ah (by assumption) hβ;obtain ⟨_,_⟩:=hbis)))|(refine Pt (pr) ?_))<;>(try simp only [↓R1,RR,seval,q1,q2,q3,he,he2,hw,bm,bn])))
    all_goals all_goals first|omega|exact Nat.le_refl _|assumption|exact St.le_refl _|(intros;(repeat' (with_reducible apply And.intro))<;>first|omega|(simp only [RZ,dH,di];omega))|(simp only [az,slot,af,↓R1,RR,seval,q1,q2,q3,he,he2,hw,bm,bn];(repeat' (with_reducible apply And.intro))<;>first|exact bU (by have:=av;omega)|exact ay _ _ _|exact aq _ _|exact ad (congrArg (AV.tsl _ _) (flat_step (by assumption))))|((repeat (first|exact St.le_refl _|(refine St.aw ?_ (by assumption))|(refine St.aG ?_ (by assumption))));done)|(simp_all;done)|skip
    all_goals (refine ak ?_ (by first|(simp [aj,rvS];done)|(simp only [aj,rvS,↓R1,RR,seval,q1,q2,q3,he,he2,hw,bm,bn];try simp)))
    all_goals (simp only [ao,↓R1,RR,seval,q1,q2,q3,he,he2,hw,bm,bn];(repeat' (first|exact af _|exact bz|exact ay _ _ _|exact aq _ _|exact wkL.nil|exact aa _|refine c9 ?_|refine cR ?_|refine wkL.cons ?_ ?_)))
  | ok rs =>
    have hx:eO s= .ok rs:=by rw [eO,hr]
    have hpe:eJ s=oneOf s.length rs:=by rw [eJ,hx];rfl
    obtain ⟨hz1,hz2⟩:=fR hx
    rw [hr,eI,dA] at pr
    rw [lO,hpe]
    match rs,hz2,pr with
    | [], _, pr =>
      rw [oneOf]
      have q2:(((0:Nat):Int) == 0)=true:=rfl
      simp only [List.length_nil] at pr
      (refine an c15 b15 fun σ=>?_;simp only [c15,↓R1,RR,seval,q1,q2,q3,he,he2,hw,bm,bn])
      repeat' (first|(with_reducible rw [ai])|((first|(with_reducible intro β hβ;(try simp only [RB] at hβ);(repeat (obtain ⟨⟨_,_⟩,hβ⟩:=hβ));(try (have hbis:=ah (by assumption) hβ;obtain ⟨_,_⟩:=hbis)))|(refine Pt (pr) ?_))<;>(try simp only [↓R1,RR,seval,q1,q2,q3,he,he2,hw,bm,bn])))
      all_goals (refine ak (ad ?_) (by first|(simp [aj,rvS];done)|(simp only [aj,rvS,↓R1,RR,seval,q1,q2,q3,he,he2,hw,bm,bn];try simp)))
      all_goals ((simp only [ao,↓R1,RR,seval,q1,q2,q3,he,he2,hw,bm,bn]))
      all_goals rfl
    | r :: rest, hz2, pr =>
      obtain ⟨hr1,hr2,hr3⟩:=hz2 r (by simp)
      have po:=p46 r hr1 hr2 hr3
      simp only [cRw] at po
      have he:((r::rest).flatMap cRw).take 2= [.int .i64 (r.a:Nat), .sl false r.ws.length (r.ws.flatMap cWd)]:=by simp [cRw]
      have hcl:2≤((r::rest).flatMap cRw).length:=by simp [cRw]
      have hn0:0<(r::rest).length:=by simp
      have hw:(((r::rest).length:Int) == 0)=false:=by rw [beq_eq_false_iff_ne];simp;omega
      cases ho:gO r with
      | error e =>
        have q1:(e.1 == 0)=false:=by rw [beq_eq_false_iff_ne];exact nI ho
        have q2:(e.1 != 0)=true:=by rw [bne_iff_ne];exact nI ho
        rw [ho,dO] at po
        rw [oneOf,oW _ ho]
        generalize (r::rest).flatMap cRw=L at pr he hcl
        generalize (r::rest).length=n at pr hw hn0
        (refine an c15 b15 fun σ=>?_;simp only [c15,↓R1,RR,seval,q1,q2,q3,he,he2,hw,bm,bn])
        repeat' (first|(with_reducible rw [ai])|(with_reducible refine And.intro ?_ ?_;focus (intros;(repeat' (with_reducible apply And.intro))<;>first|omega|(simp only [RZ,dH,di];omega)))|(with_reducible apply And.intro)|((first|(with_reducible intro β hβ;(try simp only [RB] at hβ);(repeat (obtain ⟨⟨_,_⟩,hβ⟩:=hβ));(try (have hbis:=ah (by assumption) hβ;obtain ⟨_,_⟩:=hbis)))|(refine Pt (pr) ?_)|(refine Pt (po) ?_))<;>(try simp only [↓R1,RR,seval,q1,q2,q3,he,he2,hw,bm,bn])))
        all_goals (try (first|omega|rfl|(rw [he];simp;done)))
        all_goals (refine ak (ad ?_) (by first|(simp [aj,rvS];done)|(simp only [aj,rvS,↓R1,RR,seval,q1,q2,q3,he,he2,hw,bm,bn];try simp)))
        all_goals ((simp only [ao,↓R1,RR,seval,q1,q2,q3,he,he2,hw,bm,bn]))
        all_goals (try rfl)
      | ok o =>
        rw [ho,dO] at po
        rw [oneOf,nD _ ho]
        cases hrest:rest with
        | nil =>
          rw [hrest] at pr he hcl hw hn0
          have q3:decide ((1:Int)<(([r]:List Rw).length:Int))=false:=by rw [decide_eq_false_iff_not];simp
          simp only
          generalize [r].flatMap cRw=L at pr he hcl
          generalize [r].length=n at pr hw hn0 q3
          (refine an c15 b15 fun σ=>?_;simp only [c15,↓R1,RR,seval,q1,q2,q3,he,he2,hw,bm,bn])
          repeat' (first|(with_reducible rw [ai])|(with_reducible refine And.intro ?_ ?_;focus (intros;(repeat' (with_reducible apply And.intro))<;>first|omega|(simp only [RZ,dH,di];omega)))|((first|(with_reducible intro β hβ;(try simp only [RB] at hβ);(repeat (obtain ⟨⟨_,_⟩,hβ⟩:=hβ));(try (have hbis:=ah (by assumption) hβ;obtain ⟨_,_⟩:=hbis)))|(refine Pt (pr) ?_)|(refine Pt (po) ?_))<;>(try simp only [↓R1,RR,seval,q1,q2,q3,he,he2,hw,bm,bn])))
          all_goals (try (first|omega|rfl|(rw [he];simp;done)))
          all_goals (refine ak (ad ?_) (by first|(simp [aj,rvS];done)|(simp only [aj,rvS,↓R1,RR,seval,q1,q2,q3,he,he2,hw,bm,bn];try simp)))
          all_goals ((simp only [ao,↓R1,RR,seval,q1,q2,q3,he,he2,hw,bm,bn]))
          all_goals (try rfl)
        | cons r2 rest2 =>
          rw [hrest] at pr he hcl hw hn0
          have q3:decide ((1:Int)<((r::r2::rest2).length:Int))=true:=by rw [decide_eq_true_eq];simp;omega
          have he2:(((r::r2::rest2).flatMap cRw).drop 2).take 2= [.int .i64 (r2.a:Nat), .sl false r2.ws.length (r2.ws.flatMap cWd)]:=by simp [cRw]
          have hcl:4≤((r::r2::rest2).flatMap cRw).length:=by simp [cRw]
          have hn0:1<(r::r2::rest2).length:=by simp
          simp only
          generalize (r::r2::rest2).flatMap cRw=L at pr he hcl he2
          generalize (r::r2::rest2).length=n at pr hw hn0 q3
          (refine an c15 b15 fun σ=>?_;simp only [c15,↓R1,RR,seval,q1,q2,q3,he,he2,hw,bm,bn])
          repeat' (first|(with_reducible rw [ai])|(with_reducible refine And.intro ?_ ?_;focus (intros;(repeat' (with_reducible apply And.intro))<;>first|omega|(simp only [RZ,dH,di];omega)))|(with_reducible apply And.intro)|((first|(with_reducible intro β hβ;(try simp only [RB] at hβ);(repeat (obtain ⟨⟨_,_⟩,hβ⟩:=hβ));(try (have hbis:=ah (by assumption) hβ;obtain ⟨_,_⟩:=hbis)))|(refine Pt (pr) ?_)|(refine Pt (po) ?_))<;>(try simp only [↓R1,RR,seval,q1,q2,q3,he,he2,hw,bm,bn])))
          all_goals (try (first|omega|rfl|(rw [he];simp;done)))
          all_goals (refine ak (ad ?_) (by first|(simp [aj,rvS];done)|(simp only [aj,rvS,↓R1,RR,seval,q1,q2,q3,he,he2,hw,bm,bn];try simp)))
          all_goals ((simp only [ao,↓R1,RR,seval,q1,q2,q3,he,he2,hw,bm,bn]))
          all_goals (try rfl)
def sO (l:List Int):List AV:=l.map fun n=> .int .i64 n
def cPr (p:Int × Int):List AV:= [.int .i64 p.1, .int .i64 p.2]
theorem E7 (l:List Int):(sO l).length=l.length:=by simp [sO]
theorem E8 (l:List (Int × Int)):(l.flatMap cPr).length=l.length*2:=aS (f:=cPr) (fun _=>rfl) l
theorem Iw {l:List Int} {k:Nat} {n:Int} (h:l[k]? =some n):((sO l).drop (k*1)).take 1= [.int .i64 n]:=by
 obtain ⟨h1,h2⟩:=List.getElem?_eq_some_iff.1 h
 simp only [sO,Nat.mul_one]
 rw [List.drop_eq_getElem_cons (by simpa using h1)]
 simp [h2]
theorem Ix {l:List (Int × Int)} {k:Nat} {p:Int × Int} (h:l[k]? =some p):((l.flatMap cPr).drop (k*2)).take 2=cPr p:=by
  induction l generalizing k with
  | nil=>simp at h
  | cons x l ih =>
    cases k with
    | zero=>simp at h;subst h;simp [cPr]
    | succ k =>
      simp only [List.getElem?_cons_succ] at h
      have:=ih h
      rw [List.flatMap_cons,show (k+1)*2=(cPr x).length+k*2 by simp [cPr];omega,List.drop_append,List.drop_eq_nil_of_le (by omega),List.nil_append,Nat.add_sub_cancel_left]
      exact this
def inB (n:Int) (p:Int × Int):Bool:= !(decide (n<p.1)||decide (p.2<n))
def eh:List Int→List (Int × Int)→Bool
 | n::l,p::r=>inB n p&&eh l r
 | _,_=>true
theorem u0 {l:List Int} {r:List (Int × Int)} {k:Nat} {n:Int} {p:Int × Int} (h:l[k]? =some n) (h2:r[k]? =some p):eh (l.drop k) (r.drop k)=(inB n p&&eh (l.drop (k+1)) (r.drop (k+1))):=by
 obtain ⟨h1,h3⟩:=List.getElem?_eq_some_iff.1 h
 obtain ⟨h4,h5⟩:=List.getElem?_eq_some_iff.1 h2
 rw [List.drop_eq_getElem_cons h1,List.drop_eq_getElem_cons h4,h3,h5];rfl
set_option maxHeartbeats 2000000 in
theorem Kc (f g:Bool) (l:List Int) (r:List (Int × Int)) (hlr:l.length=r.length) (hl:l.length≤1000):Pu Tryz.prog 163 [.sl f l.length (sO l), .sl g r.length (r.flatMap cPr)] (.bool (eh l r)):=by
 have q1:True:=trivial
 have he:True:=trivial
 have he2:True:=trivial
 have hw:True:=trivial
 (refine an HG Lt fun σ=>?_;simp only [HG,↓R1,RR,seval,q1,he,he2,hw,cPr])
 refine bK l.length (fun k=> [(1, .sl g r.length (r.flatMap cPr)),(7, .sl f l.length (sO l)),(8, .int .i64 (l.length:Nat)),(9, .int .i64 (k:Nat))]) (fun _=>σ) (fun k=>eh l r=eh (l.drop k) (r.drop k)) (by simp [az,slot,af]) (St.le_refl _) rfl (fun k hk hI=>?_)
 by_cases hlt:k<l.length
 ·obtain ⟨n,hn⟩:∃ n,l[k]? =some n:=⟨_,List.getElem?_eq_getElem hlt⟩
  obtain ⟨p,hp⟩:∃ p,r[k]? =some p:=⟨_,List.getElem?_eq_getElem (by omega)⟩
  rw [u0 hn hp] at hI
  have he:=Iw hn
  have he2:=Ix hp
  have hil:=E7 l
  have hcl:=E8 r
  simp only [cPr] at he2
  have q1:decide ((k:Int)<(l.length:Int))=true:=by rw [decide_eq_true_eq];omega
  have hw:IntKind.i64.wrap ((k:Int)+1)=((k+1:Nat):Int):=by rw [wrap64 (by omega) (by omega)];omega
  simp only [q1,↓R1,RR,seval,q1,he,he2,hw,cPr]
  repeat' (first|(with_reducible refine And.intro ?_ ?_;exact ag)|(with_reducible apply And.intro)|((refine ar (fun hc=>?_) (fun hc=>?_))<;>(try simp only [↓R1,RR,seval,q1,he,he2,hw,cPr])))
  ·(refine ak (ad ?_))
   (simp only [ao,↓R1,RR,seval,q1,he,he2,hw,cPr])
   rw [hI,inB,hc];rfl
  ·rw [hI]
   simp_all [inB]
  ·simp [az,slot,af]
  ·exact St.le_refl _
 ·have hke:k=l.length:=by omega
  subst hke
  have q1:decide ((l.length:Int)<(l.length:Int))=false:=by simp
  rw [List.drop_length] at hI
  simp only [q1,↓R1,RR,seval,q1,he,he2,hw,cPr]
  skip
  (refine ak (ad ?_))
  (simp only [ao,↓R1,RR,seval,q1,he,he2,hw,cPr])
  rw [hI];rfl
structure ClsI where
 l:Int
 size:Int
 rate:Int
structure TenI where
 budget:Int
 queries:Int
 cap:Int
 out:Int
 audit:Int
structure RulI where
 owner:Int
 auth:Int
 res:Int
 any:Bool
 kind:Int
 low:Int
 high:Int
structure CfgI where
 cls:List ClsI
 tens:List TenI
 ruls:List RulI
 hor:Int
def fU (x:ClsI):List AV:= [.int .u64 x.l, .int .i64 x.size, .int .i64 x.rate]
def ja (x:TenI):List AV:= [.int .i64 x.budget, .int .i64 x.queries, .int .i64 x.cap, .int .i64 x.out, .int .i64 x.audit]
def iE (x:RulI):List AV:= [.int .i64 x.owner, .int .u64 x.auth, .int .u64 x.res, .bool x.any, .int .i64 x.kind, .int .i64 x.low, .int .i64 x.high]
def cd (c:CfgI):List AV:= .sl false c.cls.length (c.cls.flatMap fU)::(c.tens.flatMap ja++ [.sl false c.ruls.length (c.ruls.flatMap iE), .int .u64 c.hor])
def U64 (n:Int):Prop:=0≤n∧n<18446744073709551616
structure CfgOk (c:CfgI):Prop where
 six:c.tens.length=6
 ncls:c.cls.length≤1000
 nrul:c.ruls.length≤1000
 lcls:∀ x∈c.cls,U64 x.l
 lrul:∀ x∈c.ruls,U64 x.auth∧U64 x.res
def lab (n:Int):BitVec 64:=BitVec.ofInt 64 n
theorem kH {n:Int} (h:U64 n):((lab n).toNat:Int)=n:=by
 unfold lab U64 at *
 rw [BitVec.toNat_ofInt]
 omega
theorem sP (l:List ClsI):(l.flatMap fU).length=l.length*3:=aS (f:=fU) (fun _=>rfl) l
theorem eK (l:List TenI):(l.flatMap ja).length=l.length*5:=aS (f:=ja) (fun _=>rfl) l
theorem sQ (l:List RulI):(l.flatMap iE).length=l.length*7:=aS (f:=iE) (fun _=>rfl) l
theorem gr {α:Type} {f:α→List AV} {m:Nat} (hf:∀ a,(f a).length=m):∀ {l:List α} {k:Nat} {x:α},l[k]? =some x→((l.flatMap f).drop (k*m)).take m=f x
  | [],_,_,h=>by simp at h
  | y :: l, 0, x, h => by
    simp at h;subst h
    rw [List.flatMap_cons,Nat.zero_mul,List.drop_zero,List.take_append_of_le_length (by rw [hf];exact Nat.le_refl _),List.take_of_length_le (by rw [hf];exact Nat.le_refl _)]
  | y :: l, k + 1, x, h => by
    simp only [List.getElem?_cons_succ] at h
    have:=gr hf h
    have hy:=hf y
    rw [List.flatMap_cons,show (k+1)*m=(f y).length+k*m by rw [hy,Nat.add_mul];omega,List.drop_append,List.drop_eq_nil_of_le (by omega),List.nil_append,Nat.add_sub_cancel_left]
    exact this
theorem e8 {c:CfgI} (h:CfgOk c):(cd c).length=33:=by
 simp only [cd,List.length_cons,List.length_append,List.length_nil,eK,h.six]
theorem Cr (c:CfgI):(cd c)[0]? =some (.sl false c.cls.length (c.cls.flatMap fU)):=rfl
theorem u4 {c:CfgI} (h:CfgOk c):(cd c)[31]? =some (.sl false c.ruls.length (c.ruls.flatMap iE)):=by
 simp only [cd,List.getElem?_cons_succ]
 rw [List.getElem?_append_right (by rw [eK,h.six];decide),eK,h.six];rfl
theorem Cs {c:CfgI} (h:CfgOk c):(cd c)[32]? =some (.int .u64 c.hor):=by
 simp only [cd,List.getElem?_cons_succ]
 rw [List.getElem?_append_right (by rw [eK,h.six];decide),eK,h.six];rfl
theorem FA {c:CfgI} (h:CfgOk c):((cd c).drop 1).take 30=c.tens.flatMap ja:=by
 simp only [cd,List.drop_succ_cons,List.drop_zero]
 rw [List.take_append_of_le_length (by rw [eK,h.six];decide),List.take_of_length_le (by rw [eK,h.six];decide)]
theorem jn {c:CfgI} (h:CfgOk c):(cd c).take 33=cd c:=List.take_of_length_le (by rw [e8 h];decide)
def qk (seen:List Int) (x:ClsI):Int:=if eh [x.size,x.rate] [(1,64),(0,64)]=false then 2 else if x.l∈seen then 8 else 0
def clsEs:List Int→List ClsI→List Int
 | _,[]=> []
 | seen,x::l=>qk seen x::clsEs (seen++ [x.l]) l
def tenE (x:TenI):Int:=if eh [x.budget,x.queries,x.cap,x.out,x.audit] [(1,64),(0,4),(0,64),(0,64),(0,64)]=false then 2 else 0
def rulE (x:RulI):Int:=if (decide (x.owner<1)||decide (6<x.owner)||decide (x.kind<0)||decide (25<x.kind)||(x.any&&x.kind != 0))=true then 2 else if leB (lab x.res) (lab x.auth)=false then 13 else if x.high<x.low then 9 else 0
def firstE:List Int→Nat→Option (Int × Nat)
 | [],_=>none
 | e::l,i=>if e=0 then firstE l (i+1) else some (e,i)
def iv (c:CfgI):Int × Nat :=
  if 8<c.cls.length∨8<c.ruls.length then (6,0) else match firstE (clsEs [] c.cls) 0 with
  | some p=>p
  | none => match firstE (c.tens.map tenE) 0 with
    | some p=>p
    | none => match firstE (c.ruls.map rulE) 0 with
      | some p=>p
      | none=>if c.hor<1∨10000<c.hor then (2,0) else (0,0)
def Round (prs:List Nat) (asg body:CC) (fr:Fr) (L:Nat) (r:Loop) (xs:List AV) (σ1:St) (K:AV→St→Prop):Prop :=
 aC Tryz.prog asg (jt prs xs fr) σ1 (fun e fr1 σ2=>e= .normal∧σ2.lp L=some (.loop r,fr)∧aC Tryz.prog body fr1 (σ2.aB L (busy r,fr)) (fun e _ σ3=>σ3.lp L=some (.loop (busy r),fr)∧match e with
    | .normal=>K (.bool true) (σ3.aB L (r,fr))
    | .ret=>K (.bool false) (σ3.aB L (left r .ret,fr))
    | .exit id=>K (.bool false) (σ3.aB L (left r (.exit id),fr))
    | _=>False))
structure Errs (prs:List Nat) (asg body:CC) (fr:Fr) (σ:St) (Q:Exit→Fr→St→Prop) (es:List Int):Prop where
 two:prs.length=2
 go:∀ L r i σ1 (K:AV→St→Prop),es[i]? =some 0→σ1.lp L=some (.loop r,fr)→St.le σ (σ1.dropLp L)→K (.bool true) σ1→Round prs asg body fr L r [.int .i64 (i:Nat), .int .i64 0] σ1 K
 stop:∀ L r i e σ1 (K:AV→St→Prop),es[i]? =some e→e≠0→σ1.lp L=some (.loop r,fr)→St.le σ (σ1.dropLp L)→(∀ s,s.lp L=some (.loop (left r .ret),fr)→(firstE es 0=some (e,i)→Q .ret fr (s.dropLp L))→K (.bool false) s)→Round prs asg body fr L r [.int .i64 (i:Nat), .int .i64 e] σ1 K
 fin:firstE es 0=none→∀ s,St.le σ s→Q .normal fr s
theorem jb {es:List Int} {k:Nat} {e:Int} (h:es[k]? =some e):firstE (es.drop k) k=if e=0 then firstE (es.drop (k+1)) (k+1) else some (e,k):=by
 obtain ⟨h1,h2⟩:=List.getElem?_eq_some_iff.1 h
 rw [List.drop_eq_getElem_cons h1,h2];rfl
theorem nJ:∀ {l:List ClsI} {seen:List Int} {k:Nat} {x:ClsI},l[k]? =some x→(clsEs seen l)[k]? =some (qk (seen++(l.take k).map ClsI.l) x)
  | [],_,_,_,h=>by simp at h
  | y::l,seen,0,x,h=>by simp at h;subst h;simp [clsEs]
  | y :: l, seen, k + 1, x, h => by
    simp only [List.getElem?_cons_succ] at h
    simp only [clsEs,List.getElem?_cons_succ]
    rw [nJ h]
    simp [List.take_succ_cons]
theorem o5:∀ (l:List ClsI) (seen:List Int),(clsEs seen l).length=l.length
 | [],_=>rfl
 | x::l,seen=>by simp [clsEs,o5 l]
theorem dF {σ s:St} {L:Nat} {x:LO × Fr} (hL:σ.lp L=none) (h:St.le (σ.aB L x) s):St.le σ (s.dropLp L):=by
 refine ⟨h.1,h.2.1,h.2.2.1,fun l r hl=>?_,h.2.2.2.2⟩
 have hne:l≠L:=fun e=>by subst e;rw [hL] at hl;cases hl
 have h2:=h.2.2.2.1 l r (by simp only [St.aB,upd,if_neg hne];exact hl)
 simp only [St.dropLp,if_neg hne]
 exact h2
theorem vN {σ:St} {M:Nat} {x:LO × Fr} (hM:σ.lp M=none):St.le σ (σ.aB M x):=by
 refine ⟨fun _ _ h=>h,fun _ _ h=>h,fun _ _ h=>h,fun l r hl=>?_,fun _ _ h=>h⟩
 have hne:l≠M:=fun e=>by subst e;rw [hM] at hl;cases hl
 simp only [St.aB,upd,if_neg hne];exact hl
theorem n5 {l:List ClsI} {k:Nat} {x:ClsI} (h:l[k]? =some x) (n:Int):n∈(l.take (k+1)).map ClsI.l↔x.l=n∨n∈(l.take k).map ClsI.l:=by
 obtain ⟨h1,h2⟩:=List.getElem?_eq_some_iff.1 h
 rw [←List.take_append_getElem h1,h2]
 simp only [List.map_append,List.map_cons,List.map_nil,List.mem_append,List.mem_singleton]
 constructor
 ·rintro (h|h)
  ·exact .inr h
  ·exact .inl h.symm
 ·rintro (h|h)
  ·exact .inr h.symm
  ·exact .inl h
set_option maxHeartbeats 4000000 in
theorem u5 {prs:List Nat} {asg body:CC} {fr:Fr} {σ:St} {Q:Exit→Fr→St→Prop} {β:Nat} {c:CfgI} (hc:CfgOk c) (hβ:σ.box β=some (cd c)) (h:Errs prs asg body fr σ Q (clsEs [] c.cls)) :
    RF Tryz.prog 162 [.ptr β 0] prs asg body fr σ Q:=by
  refine ⟨by kernel_rfl,fun L r hL hr1 hr2 hY=>?_⟩
  have q1:True:=trivial
  have he:True:=trivial
  have hw:True:=trivial
  have hc0:=Cr c
  have hcl:=e8 hc
  have hn:=hc.ncls
  have hlen:=o5 c.cls []
  have hb2:(σ.aB L (r,fr)).box β=some (cd c):=hβ
  refine bw HF Ls ?_
  simp only [HF,↓R1,RR,seval,RM,q1,he,hw,fU]
  refine Gw fun M hM=>?_
  have hML:M≠L:=fun e=>by rw [e,St.bA] at hM;cases hM
  have hb3:((σ.aB L (r,fr)).aB M (.map [] 0,[])).box β=some (cd c):=hβ
  have h0:0<(cd c).length:=by rw [hcl];decide
  simp only [hb3,hc0,h0,↓R1,RR,seval,RM,q1,he,hw,fU]
  refine cS (α:=Nat × List (Int × Bool × Nat) × Nat) (fun a=> [(0, .yld L),(3, .mpv M),(9, .sl false c.cls.length (c.cls.flatMap fU)),(10, .int .i64 (c.cls.length:Nat)),(11, .int .i64 (a.1:Nat))]) (fun a=>(σ.aB L (r,fr)).aB M (.map a.2.1 a.2.2,[]))
    (fun a=>a.1≤c.cls.length∧firstE (clsEs [] c.cls) 0=firstE ((clsEs [] c.cls).drop a.1) a.1∧∀ n,jq a.2.1 n=decide (n∈(c.cls.take a.1).map ClsI.l)) (fun a=>c.cls.length - a.1) (0,[],0) (by simp [az,slot,af]) (St.le_refl _) ⟨Nat.zero_le _,rfl,fun n=>by simp [rD]⟩ ?_
  rintro ⟨k,m,cl⟩ ⟨hk,hI,hmm⟩
  simp only at hk hI hmm ⊢
  by_cases hlt:k<c.cls.length
  · obtain ⟨x,hx⟩:∃ x,c.cls[k]? =some x:=⟨_,List.getElem?_eq_getElem hlt⟩
    have hat:=nJ (seen:= []) hx
    rw [List.nil_append] at hat
    rw [jb hat] at hI
    have he:=gr (f:=fU) (m:=3) (fun _=>rfl) hx
    have hln:=sP c.cls
    have q1:decide ((k:Int)<(c.cls.length:Int))=true:=by rw [decide_eq_true_eq];omega
    have hw:IntKind.i64.wrap ((k:Int)+1)=((k+1:Nat):Int):=by rw [wrap64 (by omega) (by omega)];omega
    simp only [fU] at he
    have hpw:=Kc true true [x.size,x.rate] [(1,64),(0,64)] rfl (by simp)
    simp only [sO,cPr,List.map,List.flatMap_cons,List.flatMap_nil,List.append_nil,List.cons_append,List.nil_append,List.length_cons,List.length_nil] at hpw
    have hnext:∀ (cl:Nat) (n:Int),jq (jr m cl x.l true).1 n=decide (n∈(c.cls.take (k+1)).map ClsI.l):=fun _ n=>by
      rw [rE,hmm]
      have:=n5 hx n
      by_cases e1:x.l=n
      · rw [if_pos e1];exact (decide_eq_true (this.2 (.inl e1))).symm
      · rw [if_neg e1,decide_eq_decide,this];simp [e1]
    simp only [q1,↓R1,RR,seval,RM,q1,he,hw,fU]
    cases hwi:eh [x.size,x.rate] [(1,64),(0,64)] with
    | false =>
      rw [hwi] at hpw
      have e2:qk ((c.cls.take k).map ClsI.l) x=2:=by simp only [qk,hwi,if_true]
      rw [e2] at hI hat
      repeat' (first|(with_reducible rw [ai])|(with_reducible refine And.intro ?_ ?_;exact ag)|((first|(with_reducible intro β hβ;(try simp only [RB] at hβ);(repeat (obtain ⟨⟨_,_⟩,hβ⟩:=hβ));(try (have hbis:=ah (by assumption) hβ;obtain ⟨_,_⟩:=hbis)))|(refine Pt (hpw) ?_)|((refine ua (St.bA _ _ _) ?_)))<;>(try simp only [↓R1,RR,seval,RM,q1,he,hw,fU])))
      (have hlp:∀ γ cs y,(((σ.aB L (.loop r,fr)).aB M y).ae γ cs).lp L=some (.loop r,fr):=fun γ cs y=>(St.ke (fun e=>hML e.symm) ..).trans (St.bA _ _ _));(refine hY _ _ _ (by simp [h.two]) (hlp _ _ _) (h.stop L r k _ _ _ hat (by decide) (hlp _ _ _) (dF hL (St.aw (vN hM) (by assumption))) (fun s hs hq=>?_)));simp only [↓R1,RR,seval,RM,q1,he,hw,fU];(refine ct (.inr (.inl ⟨hs,hq (by rw [hI];rfl)⟩)) (by simp [aj]))
    | true =>
      rw [hwi] at hpw
      cases hmg:jq m x.l with
      | true =>
        have e2:qk ((c.cls.take k).map ClsI.l) x=8:=by
          rw [hmm,decide_eq_true_eq] at hmg
          simp only [qk,hwi,hmg,if_true];rfl
        rw [e2] at hI hat
        repeat' (first|(with_reducible rw [ai])|(with_reducible refine And.intro ?_ ?_;exact ag)|((first|(with_reducible intro β hβ;(try simp only [RB] at hβ);(repeat (obtain ⟨⟨_,_⟩,hβ⟩:=hβ));(try (have hbis:=ah (by assumption) hβ;obtain ⟨_,_⟩:=hbis)))|(refine Pt (hpw) ?_)|((refine Bf (St.bA _ _ _) ?_;rw [hmg];simp only [↓R1,RR,seval,RM,q1,he,hw,fU]))|((refine ua (St.bA _ _ _) ?_)))<;>(try simp only [↓R1,RR,seval,RM,q1,he,hw,fU])))
        (have hlp:∀ γ cs y,(((σ.aB L (.loop r,fr)).aB M y).ae γ cs).lp L=some (.loop r,fr):=fun γ cs y=>(St.ke (fun e=>hML e.symm) ..).trans (St.bA _ _ _));(refine hY _ _ _ (by simp [h.two]) (hlp _ _ _) (h.stop L r k _ _ _ hat (by decide) (hlp _ _ _) (dF hL (St.aw (vN hM) (by assumption))) (fun s hs hq=>?_)));simp only [↓R1,RR,seval,RM,q1,he,hw,fU];(refine ct (.inr (.inl ⟨hs,hq (by rw [hI];rfl)⟩)) (by simp [aj]))
      | false =>
        have e2:qk ((c.cls.take k).map ClsI.l) x=0:=by
          rw [hmm,decide_eq_false_iff_not] at hmg
          simp only [qk,hwi,hmg,if_false];rfl
        rw [e2] at hI hat
        repeat' (first|(with_reducible rw [ai])|(with_reducible refine And.intro ?_ ?_;exact ag)|((first|(with_reducible intro β hβ;(try simp only [RB] at hβ);(repeat (obtain ⟨⟨_,_⟩,hβ⟩:=hβ));(try (have hbis:=ah (by assumption) hβ;obtain ⟨_,_⟩:=hbis)))|(refine Pt (hpw) ?_)|((refine Bf (St.bA _ _ _) ?_;rw [hmg];simp only [↓R1,RR,seval,RM,q1,he,hw,fU]))|((refine ua (St.bA _ _ _) ?_)))<;>(try simp only [↓R1,RR,seval,RM,q1,he,hw,fU])))
        have hlp:∀ γ cs y,(((σ.aB L (.loop r,fr)).aB M y).ae γ cs).lp L=some (.loop r,fr):=fun γ cs y=>(St.ke (fun e=>hML e.symm) ..).trans (St.bA _ _ _)
        refine hY _ _ _ (by simp [h.two]) (hlp _ _ _) (h.go L r k _ _ hat (hlp _ _ _) (dF hL (St.aw (vN hM) (by assumption))) ?_)
        rw [if_pos rfl] at hI
        simp only [↓R1,RR,seval,RM,q1,he,hw,fU]
        exact ⟨(k+1,_,_),⟨hlt,hI,hnext _⟩,by simp [az,slot,af],St.aw (St.le_refl _) (by assumption),by simp only;omega⟩
  · have hke:k=c.cls.length:=by omega
    subst hke
    have q1:decide ((c.cls.length:Int)<(c.cls.length:Int))=false:=by simp
    rw [List.drop_eq_nil_of_le (by omega)] at hI
    simp only [q1,↓R1,RR,seval,RM,q1,he,hw,fU]
    skip
    refine ct (.inl ⟨(St.ke (fun e=>hML e.symm) ..).trans (St.bA _ _ _),h.fin hI _ (dF hL (vN hM))⟩) (by simp [aj])
theorem Cv {α:Type} {f:α→Int} {l:List α} {k:Nat} {x:α} (h:l[k]? =some x):(l.map f)[k]? =some (f x):=by simp [h]
set_option maxHeartbeats 4000000 in
theorem u6 {prs:List Nat} {asg body:CC} {fr:Fr} {σ:St} {Q:Exit→Fr→St→Prop} {β:Nat} {c:CfgI} (hc:CfgOk c) (hβ:σ.box β=some (cd c)) (h:Errs prs asg body fr σ Q (c.tens.map tenE)) :
    RF Tryz.prog 164 [.ptr β 0] prs asg body fr σ Q:=by
  refine ⟨by kernel_rfl,fun L r hL hr1 hr2 hY=>?_⟩
  have q1:True:=trivial
  have he:True:=trivial
  have hw:True:=trivial
  have hln:True:=trivial
  have hc1:=FA hc
  have hcl:=e8 hc
  have h6:=hc.six
  have hlen:(c.tens.map tenE).length=6:=by simp [h6]
  have hb2:(σ.aB L (r,fr)).box β=some (cd c):=hβ
  refine bw HH Lu ?_
  have h0:1+30≤(cd c).length:=by rw [hcl];decide
  simp only [HH,hb2,hc1,h0,hcl,↓R1,RR,seval,q1,he,hw,ja,hln]
  refine bK 6 (fun k=> [(0, .yld L),(3, .sl true 5 [.int .i64 1, .int .i64 64, .int .i64 0, .int .i64 4, .int .i64 0, .int .i64 64, .int .i64 0, .int .i64 64, .int .i64 0, .int .i64 64]),(14, .agg (c.tens.flatMap ja)),(15, .int .i64 (k:Nat))]) (fun _=>σ.aB L (r,fr))
    (fun k=>firstE (c.tens.map tenE) 0=firstE ((c.tens.map tenE).drop k) k) (by simp [az,slot,af]) (St.le_refl _) rfl (fun k hk hI=>?_)
  by_cases hlt:k<6
  · obtain ⟨x,hx⟩:∃ x,c.tens[k]? =some x:=⟨_,List.getElem?_eq_getElem (by omega)⟩
    have hat:=Cv (f:=tenE) hx
    rw [jb hat] at hI
    have he:=gr (f:=ja) (m:=5) (fun _=>rfl) hx
    have hln:=eK c.tens
    rw [h6] at hln
    have q1:decide ((k:Int)<6)=true:=by rw [decide_eq_true_eq];omega
    have hw:IntKind.i64.wrap ((k:Int)+1)=((k+1:Nat):Int):=by rw [wrap64 (by omega) (by omega)];omega
    simp only [ja] at he
    have hpw:=Kc true true [x.budget,x.queries,x.cap,x.out,x.audit] [(1,64),(0,4),(0,64),(0,64),(0,64)] rfl (by simp)
    simp only [sO,cPr,List.map,List.flatMap_cons,List.flatMap_nil,List.append_nil,List.cons_append,List.nil_append,List.length_cons,List.length_nil] at hpw
    simp only [q1,↓R1,RR,seval,q1,he,hw,ja,hln]
    cases hwi:eh [x.budget,x.queries,x.cap,x.out,x.audit] [(1,64),(0,4),(0,64),(0,64),(0,64)] with
    | false =>
      rw [hwi] at hpw
      have e2:tenE x=2:=by simp only [tenE,hwi,if_true]
      rw [e2] at hI hat
      repeat' (first|(with_reducible rw [ai])|(with_reducible refine And.intro ?_ ?_;exact ag)|((first|(with_reducible intro β hβ;(try simp only [RB] at hβ);(repeat (obtain ⟨⟨_,_⟩,hβ⟩:=hβ));(try (have hbis:=ah (by assumption) hβ;obtain ⟨_,_⟩:=hbis)))|(refine Pt (hpw) ?_))<;>(try simp only [↓R1,RR,seval,q1,he,hw,ja,hln])))
      (refine hY _ _ _ (by simp [h.two]) (St.bA _ _ _) (h.stop L r k _ _ _ hat (by decide) (St.bA _ _ _) (dF hL (St.aw (St.le_refl _) (by assumption))) (fun s hs hq=>?_)));simp only [↓R1,RR,seval,q1,he,hw,ja,hln];(refine ct (.inr (.inl ⟨hs,hq (by rw [hI];rfl)⟩)) (by simp [aj]))
    | true =>
      rw [hwi] at hpw
      have e2:tenE x=0:=by simp only [tenE,hwi];rfl
      rw [e2] at hI hat
      repeat' (first|(with_reducible rw [ai])|(with_reducible refine And.intro ?_ ?_;exact ag)|((first|(with_reducible intro β hβ;(try simp only [RB] at hβ);(repeat (obtain ⟨⟨_,_⟩,hβ⟩:=hβ));(try (have hbis:=ah (by assumption) hβ;obtain ⟨_,_⟩:=hbis)))|(refine Pt (hpw) ?_))<;>(try simp only [↓R1,RR,seval,q1,he,hw,ja,hln])))
      (refine hY _ _ _ (by simp [h.two]) (St.bA _ _ _) (h.go L r k _ _ hat (St.bA _ _ _) (dF hL (St.aw (St.le_refl _) (by assumption))) ?_));rw [if_pos rfl] at hI;simp only [↓R1,RR,seval,q1,he,hw,ja,hln];exact ⟨hlt,hI,by simp [az,slot,af],St.aw (St.le_refl _) (by assumption)⟩
  · have hke:k=6:=by omega
    subst hke
    rw [List.drop_eq_nil_of_le (by omega)] at hI
    have q1:decide (((6:Nat):Int)<6)=false:=by decide
    simp only [q1,↓R1,RR,seval,q1,he,hw,ja,hln]
    skip
    refine ct (.inl ⟨St.bA _ _ _,h.fin hI _ (dF hL (St.le_refl _))⟩) (by simp [aj])
set_option maxHeartbeats 4000000 in
theorem Cw {prs:List Nat} {asg body:CC} {fr:Fr} {σ:St} {Q:Exit→Fr→St→Prop} {β:Nat} {c:CfgI} (hc:CfgOk c) (hβ:σ.box β=some (cd c)) (h:Errs prs asg body fr σ Q (c.ruls.map rulE)) :
  RF Tryz.prog 165 [.ptr β 0] prs asg body fr σ Q:=by
 refine ⟨by kernel_rfl,fun L r hL hr1 hr2 hY=>?_⟩
 have q1:True:=trivial
 have he:True:=trivial
 have hw:True:=trivial
 have hln:True:=trivial
 have hc1:=u4 hc
 have hcl:=e8 hc
 have hn:=hc.nrul
 have hlen:(c.ruls.map rulE).length=c.ruls.length:=by simp
 have hb2:(σ.aB L (r,fr)).box β=some (cd c):=hβ
 refine bw HI Lx ?_
 have h0:31<(cd c).length:=by rw [hcl];decide
 simp only [HI,hb2,hc1,h0,↓R1,RR,seval,q1,he,hw,iE,hln]
 refine bK c.ruls.length (fun k=> [(0, .yld L),(7, .sl false c.ruls.length (c.ruls.flatMap iE)),(8, .int .i64 (c.ruls.length:Nat)),(9, .int .i64 (k:Nat))]) (fun _=>σ.aB L (r,fr))
  (fun k=>firstE (c.ruls.map rulE) 0=firstE ((c.ruls.map rulE).drop k) k) (by simp [az,slot,af]) (St.le_refl _) rfl (fun k hk hI=>?_)
 by_cases hlt:k<c.ruls.length
 ·obtain ⟨x,hx⟩:∃ x,c.ruls[k]? =some x:=⟨_,List.getElem?_eq_getElem hlt⟩
  have hat:=Cv (f:=rulE) hx
  rw [jb hat] at hI
  have he:=gr (f:=iE) (m:=7) (fun _=>rfl) hx
  have hln:=sQ c.ruls
  have hxm:=hc.lrul x (List.mem_of_getElem? hx)
  have q1:decide ((k:Int)<(c.ruls.length:Int))=true:=by rw [decide_eq_true_eq];omega
  have hw:IntKind.i64.wrap ((k:Int)+1)=((k+1:Nat):Int):=by rw [wrap64 (by omega) (by omega)];omega
  simp only [iE] at he
  have hpw:=LH (lab x.res) (lab x.auth)
  rw [kH hxm.1,kH hxm.2] at hpw
  simp only [q1,↓R1,RR,seval,q1,he,hw,iE,hln]
  repeat' (first|(with_reducible rw [ai])|(with_reducible refine And.intro ?_ ?_;exact ag)|(with_reducible apply And.intro)|((first|(refine ar (fun hc=>?_) (fun hc=>?_))|(with_reducible intro β hβ;(try simp only [RB] at hβ);(repeat (obtain ⟨⟨_,_⟩,hβ⟩:=hβ));(try (have hbis:=ah (by assumption) hβ;obtain ⟨_,_⟩:=hbis)))|(refine Pt (hpw) ?_))<;>(try simp only [↓R1,RR,seval,q1,he,hw,iE,hln])))
  ·simp_all
  ·have e2:rulE x=2:=by simp only [rulE,hc,if_true]
   rw [e2] at hI hat
   (refine hY _ _ _ (by simp [h.two]) (St.bA _ _ _) (h.stop L r k _ _ _ hat (by decide) (St.bA _ _ _) (dF hL (St.aw (St.le_refl _) (by assumption))) (fun s hs hq=>?_)));simp only [↓R1,RR,seval,q1,he,hw,iE,hln];(refine ct (.inr (.inl ⟨hs,hq (by rw [hI];rfl)⟩)) (by simp [aj]))
  ·rename_i hc2
   have e2:rulE x=13:=by
    rw [Bool.not_eq_true'] at hc
    simp only [rulE,hc2,hc,if_true];rfl
   rw [e2] at hI hat
   (refine hY _ _ _ (by simp [h.two]) (St.bA _ _ _) (h.stop L r k _ _ _ hat (by decide) (St.bA _ _ _) (dF hL (St.aw (St.le_refl _) (by assumption))) (fun s hs hq=>?_)));simp only [↓R1,RR,seval,q1,he,hw,iE,hln];(refine ct (.inr (.inl ⟨hs,hq (by rw [hI];rfl)⟩)) (by simp [aj]))
  ·rename_i hc2 hc3
   have e2:rulE x=9:=by
    rw [Bool.not_eq_false'] at hc3
    rw [decide_eq_true_eq] at hc
    simp only [rulE,hc2,hc3,hc,if_true];rfl
   rw [e2] at hI hat
   (refine hY _ _ _ (by simp [h.two]) (St.bA _ _ _) (h.stop L r k _ _ _ hat (by decide) (St.bA _ _ _) (dF hL (St.aw (St.le_refl _) (by assumption))) (fun s hs hq=>?_)));simp only [↓R1,RR,seval,q1,he,hw,iE,hln];(refine ct (.inr (.inl ⟨hs,hq (by rw [hI];rfl)⟩)) (by simp [aj]))
  ·rename_i hc2 hc3
   have e2:rulE x=0:=by
    rw [Bool.not_eq_false'] at hc3
    rw [decide_eq_false_iff_not] at hc
    simp only [rulE,hc2,hc3,hc,if_false];rfl
   rw [e2] at hI hat
   (refine hY _ _ _ (by simp [h.two]) (St.bA _ _ _) (h.go L r k _ _ hat (St.bA _ _ _) (dF hL (St.aw (St.le_refl _) (by assumption))) ?_));rw [if_pos rfl] at hI;simp only [↓R1,RR,seval,q1,he,hw,iE,hln];exact ⟨hlt,hI,by simp [az,slot,af],St.aw (St.le_refl _) (by assumption)⟩
 ·have hke:k=c.ruls.length:=by omega
  subst hke
  have q1:decide ((c.ruls.length:Int)<(c.ruls.length:Int))=false:=by simp
  rw [List.drop_eq_nil_of_le (by omega)] at hI
  simp only [q1,↓R1,RR,seval,q1,he,hw,iE,hln]
  skip
  refine ct (.inl ⟨St.bA _ _ _,h.fin hI _ (dF hL (St.le_refl _))⟩) (by simp [aj])
theorem Cx {P:Program} {f:Nat} {xs:List AV} {α:Type} {T:Nat} {a:α} {t:α→AV} {v:AV} (h:∀ σ,AX P f xs σ (oX T (.ok a) t (fun _=>σ) σ)) (hv:v=t a):Pu P f xs v:=fun σ=>by
 refine AC.JA ((h σ).mono fun b r s hb=>?_)
 cases b with
 | false=>obtain ⟨a',h1,rfl,rfl⟩:=hb;cases h1;exact ⟨rfl,hv.symm,rfl⟩
 | true=>obtain ⟨e,h1,_⟩:=hb;cases h1
theorem St.Cy {σ:St} {L:Nat} {x:LO × Fr} (h:σ.lp L=some x):σ.aB L x=σ:=by
 obtain ⟨b,t,g,l,bt⟩:=σ
 simp only [St.aB,St.mk.injEq,true_and,and_true]
 funext j;simp only [upd]
 split
 ·rename_i e;subst e;exact h.symm
 ·rfl
theorem MN {c:CfgI} (hc:CfgOk c) (σ:St):AC Tryz.prog 106 [.agg (cd c)] σ (fun r s=>∃ β,σ.box β=none∧r= .fn 162 [.ptr β 0]∧s=σ.ae β (cd c)):=by
 have hcl:=e8 hc
 have hca:=jn hc
 refine bw Hw Lj ?_
 simp only [Hw,↓R1,RR,seval,hcl,hca]
 intro β hβ
 refine ct ?_
 exact ⟨β,hβ,rfl,rfl⟩
theorem MO {c:CfgI} (hc:CfgOk c) (σ:St):AC Tryz.prog 107 [.agg (cd c)] σ (fun r s=>∃ β,σ.box β=none∧r= .fn 164 [.ptr β 0]∧s=σ.ae β (cd c)):=by
 have hcl:=e8 hc
 have hca:=jn hc
 refine bw Hx Lk ?_
 simp only [Hx,↓R1,RR,seval,hcl,hca]
 intro β hβ
 refine ct ?_
 exact ⟨β,hβ,rfl,rfl⟩
theorem MP {c:CfgI} (hc:CfgOk c) (σ:St):AC Tryz.prog 108 [.agg (cd c)] σ (fun r s=>∃ β,σ.box β=none∧r= .fn 165 [.ptr β 0]∧s=σ.ae β (cd c)):=by
 have hcl:=e8 hc
 have hca:=jn hc
 refine bw Hy Ll ?_
 simp only [Hy,↓R1,RR,seval,hcl,hca]
 intro β hβ
 refine ct ?_
 exact ⟨β,hβ,rfl,rfl⟩
def V9 (c:CfgI) (i:Nat) (v:AV) (s:St):Prop:=match i with
 | 0=>v= .agg (cd c)
 | 1=>∃ β,v= .fn 162 [.ptr β 0]∧s.box β=some (cd c)
 | 2=>v= .agg (cd c)
 | 3=>∃ β,v= .fn 164 [.ptr β 0]∧s.box β=some (cd c)
 | 4=>v= .agg (cd c)
 | 5=>∃ β,v= .fn 165 [.ptr β 0]∧s.box β=some (cd c)
 | 6=>∃ β γ δ,v= .sl true 3 [.fn 162 [.ptr β 0], .fn 164 [.ptr γ 0], .fn 165 [.ptr δ 0]]∧s.box β=some (cd c)∧s.box γ=some (cd c)∧s.box δ=some (cd c)
 | 7=>v= .int .i64 3
 | _=>v= .int .i64 0
set_option maxHeartbeats 4000000 in
theorem yO {σ:St} {c:CfgI} {B:Nat} {fr:Fr} {Q:Exit→Fr→St→Prop} (hc:CfgOk c) (hB:σ.box B=some (cd c)) (h1:slot 1 fr= .ptr B 0)
  (hok:∀ f s β γ δ,St.le σ s→(∀ t,t ∉ [18,19,20,21,22,23,24,25,26]→slot t f=slot t fr)→slot 24 f= .sl true 3 [.fn 162 [.ptr β 0], .fn 164 [.ptr γ 0], .fn 165 [.ptr δ 0]]→slot 25 f= .int .i64 3→slot 26 f= .int .i64 0→s.box β=some (cd c)→s.box γ=some (cd c)→s.box δ=some (cd c)→Q .normal f s) :
  aX Tryz.prog (.invX [.o ⟨some 18, .ld (some 33) (.t 1),none⟩, .o ⟨some 19, .call 106 [(.t 18)],none⟩, .o ⟨some 20, .ld (some 33) (.t 1),none⟩, .o ⟨some 21, .call 107 [(.t 20)],none⟩, .o ⟨some 22, .ld (some 33) (.t 1),none⟩, .o ⟨some 23, .call 108 [(.t 22)],none⟩, .o ⟨some 24, .mkSl 1 3 [.nilf, .nilf, .nilf] [(0,1,(.t 19)),(1,1,(.t 21)),(2,1,(.t 23))],none⟩, .o ⟨some 25, .len (.t 24),none⟩, .o ⟨some 26, .mv (.c (.int .i64 0)),none⟩] [[],[0],[],[2,1],[],[4,3],[1,3,5],[6],[]]) fr σ Q:=by
 have hcl:=e8 hc
 have hca:=jn hc
 refine oI [18,19,20,21,22,23,24,25,26] 9 (V9 c) (by decide) ?_ ?_ ?_
 ·intro i v s s' h hs
  unfold V9 at h ⊢
  split at h
  all_goals first|exact h|skip
  ·obtain ⟨κ,q1,q2⟩:=h;exact ⟨κ,q1,hs.1 _ _ q2⟩
  ·obtain ⟨κ,q1,q2⟩:=h;exact ⟨κ,q1,hs.1 _ _ q2⟩
  ·obtain ⟨κ,q1,q2⟩:=h;exact ⟨κ,q1,hs.1 _ _ q2⟩
  ·obtain ⟨κ,μ,ν,q1,q2,q3,q4⟩:=h;exact ⟨κ,μ,ν,q1,hs.1 _ _ q2,hs.1 _ _ q3,hs.1 _ _ q4⟩
 ·intro j x d hj hx hd f s hs hfr hv
  have h1':slot 1 f= .ptr B 0:=by rw [hfr 1 (by decide)];exact h1
  have hcs:j=0∨j=1∨j=2∨j=3∨j=4∨j=5∨j=6∨j=7∨j=8:=by omega
  have hb:s.box B=some (cd c):=jV hs hB
  have h1:=h1'
  have e0:True:=trivial
  have e1:True:=trivial
  have e2:True:=trivial
  rcases hcs with rfl|rfl|rfl|rfl|rfl|rfl|rfl|rfl|rfl
  ·cases hx;cases hd
   refine gp ?_
   simp only [↓R1,RR,seval,RX,h1,e0,e1,e2,hb,hcl,hca]
   exact ⟨_,rfl,St.le_refl _,rfl⟩
  ·cases hx;cases hd
   have e0:slot 18 f= .agg (cd c):=hv 0 18 (by simp) rfl
   refine gp ?_
   simp only [↓R1,RR,seval,RX,h1,e0,e1,e2,hb,hcl,hca]
   refine (MN hc s).mono ?_
   rintro _ _ ⟨β,hβ,rfl,rfl⟩
   simp only [↓R1,RR,seval,RX,h1,e0,e1,e2,hb,hcl,hca]
   exact ⟨_,rfl,St.aw (St.le_refl _) hβ,β,rfl,St.ef _ _ _⟩
  ·cases hx;cases hd
   refine gp ?_
   simp only [↓R1,RR,seval,RX,h1,e0,e1,e2,hb,hcl,hca]
   exact ⟨_,rfl,St.le_refl _,rfl⟩
  ·cases hx;cases hd
   have e0:slot 20 f= .agg (cd c):=hv 2 20 (by simp) rfl
   refine gp ?_
   simp only [↓R1,RR,seval,RX,h1,e0,e1,e2,hb,hcl,hca]
   refine (MO hc s).mono ?_
   rintro _ _ ⟨β,hβ,rfl,rfl⟩
   simp only [↓R1,RR,seval,RX,h1,e0,e1,e2,hb,hcl,hca]
   exact ⟨_,rfl,St.aw (St.le_refl _) hβ,β,rfl,St.ef _ _ _⟩
  ·cases hx;cases hd
   refine gp ?_
   simp only [↓R1,RR,seval,RX,h1,e0,e1,e2,hb,hcl,hca]
   exact ⟨_,rfl,St.le_refl _,rfl⟩
  ·cases hx;cases hd
   have e0:slot 22 f= .agg (cd c):=hv 4 22 (by simp) rfl
   refine gp ?_
   simp only [↓R1,RR,seval,RX,h1,e0,e1,e2,hb,hcl,hca]
   refine (MP hc s).mono ?_
   rintro _ _ ⟨β,hβ,rfl,rfl⟩
   simp only [↓R1,RR,seval,RX,h1,e0,e1,e2,hb,hcl,hca]
   exact ⟨_,rfl,St.aw (St.le_refl _) hβ,β,rfl,St.ef _ _ _⟩
  ·cases hx;cases hd
   obtain ⟨β,e0,k0⟩:∃ β,slot 19 f= .fn 162 [.ptr β 0]∧s.box β=some (cd c):=hv 1 19 (by simp) rfl
   obtain ⟨γ,e1,k1⟩:∃ β,slot 21 f= .fn 164 [.ptr β 0]∧s.box β=some (cd c):=hv 3 21 (by simp) rfl
   obtain ⟨δ,e2,k2⟩:∃ β,slot 23 f= .fn 165 [.ptr β 0]∧s.box β=some (cd c):=hv 5 23 (by simp) rfl
   refine gp ?_
   simp only [↓R1,RR,seval,RX,h1,e0,e1,e2,hb,hcl,hca]
   exact ⟨_,rfl,St.le_refl _,β,γ,δ,rfl,k0,k1,k2⟩
  ·cases hx;cases hd
   obtain ⟨β,γ,δ,e0,_⟩:∃ β γ δ,slot 24 f= .sl true 3 [.fn 162 [.ptr β 0], .fn 164 [.ptr γ 0], .fn 165 [.ptr δ 0]]∧_:=hv 6 24 (by simp) rfl
   refine gp ?_
   simp only [↓R1,RR,seval,RX,h1,e0,e1,e2,hb,hcl,hca]
   exact ⟨_,rfl,St.le_refl _,rfl⟩
  ·cases hx;cases hd
   refine gp ?_
   simp only [↓R1,RR,seval,RX,h1,e0,e1,e2,hb,hcl,hca]
   exact ⟨_,rfl,St.le_refl _,rfl⟩
 ·intro f s hs hfr hv
  obtain ⟨β,γ,δ,k1,k2,k3,k4⟩:∃ β γ δ,slot 24 f= .sl true 3 [.fn 162 [.ptr β 0], .fn 164 [.ptr γ 0], .fn 165 [.ptr δ 0]]∧s.box β=some (cd c)∧s.box γ=some (cd c)∧s.box δ=some (cd c):=hv 6 24 rfl
  exact hok f s β γ δ hs hfr k1 (hv 7 25 rfl) (hv 8 26 rfl) k2 k3 k4
theorem yP {σ:St} {L E N:Nat} {a:LO × Fr} {x y:List AV}:(((σ.aB L a).ae E x).ae N y).dropLp L=((σ.dropLp L).ae E x).ae N y:=by
 obtain ⟨b1,t,g,l,bt⟩:=σ
 simp only [St.aB,St.ae,St.dropLp,St.mk.injEq,true_and,and_true]
 funext j;simp only [upd];split<;>rfl
set_option maxHeartbeats 2000000 in
theorem jW {σ s:St} {E N B:Nat} {v30 v5 v24 v25 v26:AV} {Q:Exit→Fr→St→Prop} {es:List Int} (hle:St.le σ s) (hE:σ.box E=none) (hN:σ.box N=none) (hne:N≠E) (sE:s.box E=some [.int .i64 0]) (sN:s.box N=some [.int .i64 0])
  (ret:∀ e i s',firstE es 0=some (e,i)→s'.box E=some [.int .i64 e]→s'.box N=some [.int .i64 (i:Nat)]→St.le σ s'→Q .ret [(30,v30),(1, .ptr B 0),(2, .ptr E 0),(3, .ptr N 0),(5,v5),(24,v24),(25,v25),(26,v26)] s')
  (fin:firstE es 0=none→∀ s',St.le s s'→Q .normal [(30,v30),(1, .ptr B 0),(2, .ptr E 0),(3, .ptr N 0),(5,v5),(24,v24),(25,v25),(26,v26)] s') :
  Errs [31,32] (.seq (.keep [2,3,31,32] (.ops [⟨some 6, .mv (.t 31),none⟩])) (.keep [2,3,6,32] (.ops [⟨some 7, .mv (.t 32),none⟩])))
   (.block 3 (.seq (.keep [2,3,6,7] (.ops [⟨some 33, .mv (.t 7),none⟩,⟨some 34, .bin .neq (.t 33) (.c (.int .i64 0)),none⟩]))
   (.cond (.t 34)
    (.seq (.keep [2,3,6,7] (.ops [⟨some 35, .mv (.t 7),none⟩,⟨some 36, .mv (.t 6),none⟩,⟨none, .st 1 (.t 2) (.t 35),none⟩,⟨none, .st 1 (.t 3) (.t 36),none⟩]))
    .ret)
    .skip)))
   [(30,v30),(1, .ptr B 0),(2, .ptr E 0),(3, .ptr N 0),(5,v5),(24,v24),(25,v25),(26,v26)] s Q es:=by
 refine ⟨rfl,fun L r i σ1 K hat hl hs hk=>?_,fun L r i e σ1 K hat he hl hs hk=>?_,fin⟩
 ·unfold Round
  simp only [jt,putF,↓R1,RR,seval]
  refine ⟨hl,?_⟩
  rw [St.Cy hl];exact hk
 ·unfold Round
  have q1:(e != 0)=true:=by rw [bne_iff_ne];exact he
  have k1:∀ x,(σ1.aB L x).box E=some [.int .i64 0]:=fun x=>hs.1 _ _ sE
  have k2:∀ x,(σ1.aB L x).box N=some [.int .i64 0]:=fun x=>hs.1 _ _ sN
  haveI:Apart N E:=⟨hne⟩
  haveI:Apart E N:=⟨hne.symm⟩
  simp only [jt,putF,q1,k1,k2,↓R1,RR,seval]
  refine ⟨hl,?_⟩
  refine hk _ (St.bA _ _ _) (fun h1=>ret e i _ h1 ?_ ?_ ?_)
  all_goals rw [yP]
  ·simp only [↓R1,RR,seval]
  ·simp only [↓R1,RR,seval]
  ·exact St.aw (St.aw (St.le_trans hle hs) hE) hN
theorem fF {σ s:St} {E N i:Nat} {e:Int} {c:CfgI} {fr:Fr} (h2:slot 2 fr= .ptr E 0) (h3:slot 3 fr= .ptr N 0) (hc:iv c=(e,i)) (kE:s.box E=some [.int .i64 e]) (kN:s.box N=some [.int .i64 (i:Nat)]) (hl:St.le σ s) :
  pE [.cl 2 none, .cl 3 none] (oXW TS (.ok (iv c)) (fun p=> .tup [.int .i64 p.1, .int .i64 (p.2:Nat)]) (fun _=>σ) σ) .ret fr s:=by
 refine pL (a:=(e,i)) (.inl rfl) (by rw [hc]) ?_ ?_ (St.ri hl)
 ·simp [aj,rvS,h2,h3,kE,kN,dj,ldS]
 ·simp [fp,rvV,h2,h3,kE,kN,dj,ldV,af]
set_option maxHeartbeats 4000000 in
theorem E9 {c:CfgI} (ck:CfgOk c) (σ:St):AX Tryz.prog 48 [.agg (cd c)] σ (oX TS (.ok (iv c)) (fun p=> .tup [.int .i64 p.1, .int .i64 (p.2:Nat)]) (fun _=>σ) σ):=by
 have hcl:=e8 ck
 have hca:=jn ck
 have hc0:=Cr c
 have h31:=u4 ck
 have h32:=Cs ck
 (refine bl c48 b48 ?_;simp only [c48,↓R1,RR,seval,RX,hcl,hca,hc0,h31,h32])
 repeat' (first|(with_reducible rw [ai])|((first|(refine ar (fun hc=>?_) (fun hc=>?_))|(with_reducible intro β hβ;(try simp only [RB] at hβ);(repeat (obtain ⟨⟨_,_⟩,hβ⟩:=hβ));(try (have hbis:=ah (by assumption) hβ;obtain ⟨_,_⟩:=hbis))))<;>(try simp only [↓R1,RR,seval,RX,hcl,hca,hc0,h31,h32])))
 ·rename_i B hB E hE a1 a2 a3 a4 a5 a6
  refine fF rfl rfl (e:=6) (i:=0) ?_ (by first|rfl|(simp only [↓R1,RR,seval,RX,hcl,hca,hc0,h31,h32];done)) (by first|rfl|(simp only [↓R1,RR,seval,RX,hcl,hca,hc0,h31,h32];done)) ?_
  ·rw [iv,if_pos]
   rw [Bool.or_eq_true,decide_eq_true_eq,decide_eq_true_eq] at hc;omega
  ·exact St.aw (St.aw (St.aw (St.le_refl _) hB) hE) hβ
 ·rename_i B hB E hE a1 a2 a3 a4 a5 a6
  refine yO ck (B:=B) (by simp only [↓R1,RR,seval,RX,hcl,hca,hc0,h31,h32]) rfl (fun f s γ1 γ2 γ3 hs hfr f24 f25 f26 g1 g2 g3=>?_)
  have hov:¬(8<c.cls.length∨8<c.ruls.length):=by
   rw [Bool.or_eq_false_iff,decide_eq_false_iff_not,decide_eq_false_iff_not] at hc;omega
  have hσs:St.le σ s:=St.le_trans (St.aw (St.aw (St.aw (St.le_refl _) hB) hE) hβ) hs
  have f1:slot 1 f= .ptr B 0:=hfr 1 (by decide)
  have f2:slot 2 f= .ptr E 0:=hfr 2 (by decide)
  have f3:slot 3 f= .ptr β 0:=hfr 3 (by decide)
  have sB:s.box B=some (cd c):=jV hs (by simp only [↓R1,RR,seval,RX,hcl,hca,hc0,h31,h32])
  have sE:s.box E=some [.int .i64 0]:=jV hs (by simp only [↓R1,RR,seval,RX,hcl,hca,hc0,h31,h32])
  have sN:s.box β=some [.int .i64 0]:=jV hs (by simp only [↓R1,RR,seval,RX,hcl,hca,hc0,h31,h32])
  simp only [↓R1,RR,seval,RX,hcl,hca,hc0,h31,h32]
  refine bK 3 (fun k=> [(1, .ptr B 0),(2, .ptr E 0),(3, .ptr β 0),(24, .sl true 3 [.fn 162 [.ptr γ1 0], .fn 164 [.ptr γ2 0], .fn 165 [.ptr γ3 0]]),(25, .int .i64 3),(26, .int .i64 (k:Nat))]) (fun _=>s)
   (fun k=>(1≤k→firstE (clsEs [] c.cls) 0=none)∧(2≤k→firstE (c.tens.map tenE) 0=none)∧(3≤k→firstE (c.ruls.map rulE) 0=none)) (by simp [az,af,f1,f2,f3,f24,f25,f26]) (St.le_refl _) ⟨fun h=>by omega,fun h=>by omega,fun h=>by omega⟩ (fun k hk hI=>?_)
  rcases (show k=0∨k=1∨k=2∨k=3 by omega) with rfl|rfl|rfl|rfl
  ·simp only [↓R1,RR,seval,RX,hcl,hca,hc0,h31,h32]
   refine fk [] ?_
   simp only [cW]
   refine ⟨_,_,rfl,u5 ck g1 (jW (σ:=σ) hσs hE hβ a3.ne sE sN (fun e i s' h1 h2 h3 h4=>?_) (fun h1 s' h2=>?_))⟩
   ·simp only [↓R1,RR,seval,RX,hcl,hca,hc0,h31,h32]
    exact fF rfl rfl (by rw [iv,if_neg hov,h1]) h2 h3 h4
   ·simp only [↓R1,RR,seval,RX,hcl,hca,hc0,h31,h32]
    exact ⟨h1,by simp [az,slot,af,show IntKind.i64.wrap 1=1 from rfl],h2⟩
  ·have hI1:=hI.1 (by omega)
   simp only [↓R1,RR,seval,RX,hcl,hca,hc0,h31,h32]
   refine fk [] ?_
   simp only [cW]
   refine ⟨_,_,rfl,u6 ck g2 (jW (σ:=σ) hσs hE hβ a3.ne sE sN (fun e i s' h1 h2 h3 h4=>?_) (fun h1 s' h2=>?_))⟩
   ·simp only [↓R1,RR,seval,RX,hcl,hca,hc0,h31,h32]
    exact fF rfl rfl (by rw [iv,if_neg hov,hI1];simp only [h1]) h2 h3 h4
   ·simp only [↓R1,RR,seval,RX,hcl,hca,hc0,h31,h32]
    exact ⟨⟨hI1,h1⟩,by simp [az,slot,af,show IntKind.i64.wrap 2=2 from rfl],h2⟩
  ·have hI1:=hI.1 (by omega)
   have hI2:=hI.2.1 (by omega)
   simp only [↓R1,RR,seval,RX,hcl,hca,hc0,h31,h32]
   refine fk [] ?_
   simp only [cW]
   refine ⟨_,_,rfl,Cw ck g3 (jW (σ:=σ) hσs hE hβ a3.ne sE sN (fun e i s' h1 h2 h3 h4=>?_) (fun h1 s' h2=>?_))⟩
   ·simp only [↓R1,RR,seval,RX,hcl,hca,hc0,h31,h32]
    exact fF rfl rfl (by rw [iv,if_neg hov,hI1];simp only [hI2,h1]) h2 h3 h4
   ·simp only [↓R1,RR,seval,RX,hcl,hca,hc0,h31,h32]
    exact ⟨⟨hI1,hI2,h1⟩,by simp [az,slot,af,show IntKind.i64.wrap 3=3 from rfl],h2⟩
  ·have hI1:=hI.1 (by omega)
   have hI2:=hI.2.1 (by omega)
   have hI3:=hI.2.2 (by omega)
   haveI:BoxIs s B (cd c):=⟨sB⟩
   haveI:BoxIs s E [.int .i64 0]:=⟨sE⟩
   haveI:BoxIs s β [.int .i64 0]:=⟨sN⟩
   have l32:32<(cd c).length:=by rw [hcl];decide
   simp only [h32,l32,↓R1,RR,seval,RX,hcl,hca,hc0,h31,h32]
   repeat' ((refine ar (fun hc=>?_) (fun hc=>?_))<;>(try simp only [↓R1,RR,seval,RX,hcl,hca,hc0,h31,h32]))
   ·refine fF rfl rfl (e:=2) (i:=0) ?_ (by first|rfl|(simp only [↓R1,RR,seval,RX,hcl,hca,hc0,h31,h32];done)) (by first|rfl|(simp only [↓R1,RR,seval,RX,hcl,hca,hc0,h31,h32];done)) ?_
    ·rw [iv,if_neg hov,hI1];simp only [hI2,hI3]
     rw [if_pos]
     rwa [Bool.or_eq_true,decide_eq_true_eq,decide_eq_true_eq] at hc
    ·exact St.aw (St.aw hσs hE) hβ
   ·refine fF rfl rfl (e:=0) (i:=0) ?_ (by first|rfl|(simp only [↓R1,RR,seval,RX,hcl,hca,hc0,h31,h32];done)) (by first|rfl|(simp only [↓R1,RR,seval,RX,hcl,hca,hc0,h31,h32];done)) ?_
    ·rw [iv,if_neg hov,hI1];simp only [hI2,hI3]
     rw [if_neg]
     rw [Bool.or_eq_false_iff,decide_eq_false_iff_not,decide_eq_false_iff_not] at hc
     omega
    ·exact St.aw (St.aw hσs hE) hβ
def Kd (c:CfgI):AV:= .tup [.int .i64 (iv c).1, .int .i64 ((iv c).2:Nat)]
theorem p48 {c:CfgI} (hc:CfgOk c):Pu Tryz.prog 48 [.agg (cd c)] (Kd c):=Cx (E9 hc) rfl
def kI (t:List UInt8):Bool:=t.all aT
theorem ql {c:UInt8} {t:List UInt8} (h:kI (c::t)=true) (hc:c≠35):bareS (c::t)=true:=by
 unfold kI at h
 simp [bareS,h,hc]
theorem gP {a b:List UInt8}:kI (a++b)=(kI a&&kI b):=by simp [kI]
theorem nK:∀ k:Fin 10,aT (UInt8.ofNat (48+k.val))=true∧UInt8.ofNat (48+k.val)≠35:=by decide
theorem sR (n:Nat):kI (decDigits n)=true∧∃ c t,decDigits n=c::t∧c≠35:=by
  induction n using Nat.strongRecOn with
  | _ n ih =>
    rw [decDigits]
    split
    · rename_i h
      obtain ⟨h1,h2⟩:=nK ⟨n,h⟩
      exact ⟨by simp only [kI,List.all_cons,List.all_nil,Bool.and_true];exact h1,_,_,rfl,h2⟩
    · rename_i h
      obtain ⟨h1,c,t,h2,h3⟩:=ih (n / 10) (by omega)
      obtain ⟨h4,_⟩:=nK ⟨n % 10,by omega⟩
      refine ⟨?_,c,t++_,by rw [h2];rfl,h3⟩
      rw [gP,h1,Bool.true_and]
      simp only [kI,List.all_cons,List.all_nil,Bool.and_true];exact h4
theorem sS (n:Nat):bareS (decDigits n)=true:=by
 obtain ⟨h1,c,t,h2,h3⟩:=sR n
 rw [h2] at h1 ⊢;exact ql h1 h3
theorem fG (n:Int):bareS (itoa n)=true:=by
 unfold itoa
 split
 ·refine ql ?_ (by decide)
  have:=(sR n.natAbs).1
  simp only [kI,List.all_cons] at this ⊢
  rw [this];rfl
 ·exact sS _
theorem o6 (k:Nat) (hk:k<100):kI (jN k)=true:=by
 have:∀ k:Fin 100,kI (jN k.val)=true:=by decide
 exact this ⟨k,hk⟩
theorem lP:∀ l:List Nat,(∀ k∈l,k<100)→kI (eQ l)=true
  | [],_=>rfl
  | k :: l, h => by
    have h1:=o6 k (h k (by simp))
    have h2:=lP l (fun j hj=>h j (by simp [hj]))
    simp only [eQ]
    rw [show (44::(jN k++eQ l))= [44]++(jN k++eQ l) from rfl,gP,gP,h1,h2];rfl
theorem jX (a:BitVec 64):bareS (fg a)=true:=by
  refine ql ?_ (by decide)
  rw [show (123::(iB (ff a)++ [125]))= [123]++(iB (ff a)++ [125]) from rfl,gP,gP]
  have hc:∀ k∈ff a,k<100:=fun k hk=>by
    have:k<64:=List.mem_range.1 (List.mem_filter.1 hk).1
    omega
  have:kI (iB (ff a))=true:=by
    cases hq:ff a with
    | nil=>rfl
    | cons k l =>
      rw [hq] at hc
      simp only [iB]
      rw [gP,o6 k (hc k (by simp)),lP l (fun j hj=>hc j (by simp [hj]))];rfl
  rw [this];rfl
theorem qm {k:Int} (h:0≤k∧k≤25):bareS (eZ k)=true:=by
 obtain ⟨n,rfl⟩:=Int.eq_ofNat_of_zero_le h.1
 have:∀ n:Fin 26,bareS (eZ (n.val:Int))=true:=by decide
 exact this ⟨n,by omega⟩
def rowT (ws:List (List UInt8)):List UInt8:=Lib.join ws [32]++ [10]
theorem lQ:∀ {ws:List (List UInt8)},(∀ t∈ws,bareS t=true)→da (ws.map mkW)=some ws
  | [],_=>rfl
  | t :: ws, h => by
    have h1:=h t (by simp)
    have h2:=lQ (ws:=ws) (fun x hx=>h x (by simp [hx]))
    simp only [List.map_cons,da,mkW,h1,h2,dN,Bool.not_true]
    rfl
structure RowOk (ws:List (List UInt8)):Prop where
 ne:ws≠ []
 bare:∀ t∈ws,bareS t=true
 len:(rowT ws).length≤700
 num:ws.length≤20
 wl:∀ t∈ws,t.length≤300
theorem nL:∀ (W:List (List (List UInt8))) (out:List UInt8),(∀ ws∈W,RowOk ws)→out.length+700*W.length≤20000→gI out (W.map mkR)= .ok (out++(W.map rowT).flatten)
  | [],out,_,_=>by simp [gI]
  | ws :: W, out, h, hl => by
    have h1:=h ws (by simp)
    have h0:¬ (mkR ws).ws.length=0:=by
      simp only [mkR,List.length_map]
      intro h0;exact h1.ne (List.eq_nil_of_length_eq_zero h0)
    have h2:=h1.len
    rw [List.length_cons] at hl
    have h3:¬ (1000<(Lib.join ws [32]).length∨20000<(out++(Lib.join ws [32]++ [10])).length):=by
      rw [List.length_append]
      unfold rowT at h2
      rw [List.length_append] at h2 ⊢
      simp only [List.length_cons,List.length_nil] at h2 ⊢
      omega
    simp only [List.map_cons,gI]
    rw [if_neg h0,show da (mkR ws).ws=some ws from lQ h1.bare]
    simp only
    rw [if_neg h3,show out++(Lib.join ws [32]++ [10])=out++rowT ws from rfl,nL W (out++rowT ws) (fun x hx=>h x (by simp [hx])) (by rw [List.length_append];omega)]
    simp
theorem u7 {W:List (List (List UInt8))} (h:∀ ws∈W,RowOk ws) (hl:W.length≤28):rL (W.map mkR)= .ok (W.map rowT).flatten:=by
 rw [rL,nL W [] h (by simp;omega)];rfl
theorem yQ {ws:List (List UInt8)} (h:RowOk ws):rL [mkR ws]= .ok (rowT ws):=by
 have:=u7 (W:= [ws]) (by simpa using h) (by simp)
 simpa using this
theorem gu:∀ {l:List Int} {i:Nat},firstE l i=none→∀ e∈l,e=0
  | [],_,_,_,h=>by simp at h
  | x :: l, i, h, e, he => by
    unfold firstE at h
    split at h
    · rename_i h0
      rcases List.mem_cons.1 he with rfl|he
      · exact h0
      · exact gu h e he
    · cases h
theorem jo:∀ {l:List Int} {i:Nat} {p:Int × Nat},firstE l i=some p→p.1≠0
  | [],_,_,h=>by cases h
  | x :: l, i, p, h => by
    unfold firstE at h
    split at h
    · exact jo h
    · rename_i h0;cases h;exact h0
structure Fine (c:CfgI):Prop where
 ncls:c.cls.length≤8
 nrul:c.ruls.length≤8
 cls:firstE (clsEs [] c.cls) 0=none
 ten:∀ x∈c.tens,tenE x=0
 rul:∀ x∈c.ruls,rulE x=0
 hor:1≤c.hor∧c.hor≤10000
theorem Cz {c:CfgI} (h:(iv c).1=0):Fine c:=by
 unfold iv at h
 split at h
 ·cases h
 ·rename_i h0
  split at h
  ·rename_i p hp;exact (jo hp h).elim
  ·rename_i h1
   split at h
   ·rename_i p hp;exact (jo hp h).elim
   ·rename_i h2
    split at h
    ·rename_i p hp;exact (jo hp h).elim
    ·rename_i h3
     split at h
     ·cases h
     ·refine ⟨by omega,by omega,h1,fun x hx=>gu h2 _ (List.mem_map.2 ⟨x,hx,rfl⟩),fun x hx=>gu h3 _ (List.mem_map.2 ⟨x,hx,rfl⟩),by omega⟩
theorem sU {l:List ClsI} {k:Nat} {x:ClsI} (h:firstE (clsEs [] l) 0=none) (hx:l[k]? =some x):(1≤x.size∧x.size≤64)∧(0≤x.rate∧x.rate≤64):=by
 have h1:=nJ (seen:= []) hx
 have h2:=gu h _ (List.mem_of_getElem? h1)
 unfold qk at h2
 split at h2
 ·cases h2
 ·rename_i h3
  simp only [eh,inB,Bool.and_true,Bool.not_eq_false,Bool.and_eq_true,Bool.not_eq_true',Bool.or_eq_false_iff,decide_eq_false_iff_not] at h3
  omega
theorem sW {x:TenI} (h:tenE x=0):(1≤x.budget∧x.budget≤64)∧(0≤x.queries∧x.queries≤4)∧(0≤x.cap∧x.cap≤64)∧(0≤x.out∧x.out≤64)∧(0≤x.audit∧x.audit≤64):=by
 unfold tenE at h
 split at h
 ·cases h
 ·rename_i h3
  simp only [eh,inB,Bool.and_true,Bool.not_eq_false,Bool.and_eq_true,Bool.not_eq_true',Bool.or_eq_false_iff,decide_eq_false_iff_not] at h3
  omega
theorem sX {x:RulI} (h:rulE x=0):(1≤x.owner∧x.owner≤6)∧(0≤x.kind∧x.kind≤25)∧(x.any=true→x.kind=0)∧leB (lab x.res) (lab x.auth)=true∧x.low≤x.high:=by
 unfold rulE at h
 split at h
 ·cases h
 ·rename_i h3
  split at h
  ·cases h
  ·rename_i h4
   split at h
   ·cases h
   ·rename_i h5
    simp only [Bool.or_eq_true,decide_eq_true_eq,Bool.and_eq_true,bne_iff_ne,ne_eq,not_or,not_and,Decidable.not_not] at h3
    refine ⟨by omega,by omega,h3.2,by simpa using h4,by omega⟩
theorem yR {ws:List (List UInt8)} (h:RowOk ws):BC [mkR ws]:=by
 refine ⟨by simp,fun r hr=>?_⟩
 have e:=List.mem_singleton.1 hr
 subst e
 have h1:=h.num
 refine ⟨by simp [mkR];omega,fun w hw=>?_⟩
 obtain ⟨t,ht,rfl⟩:=List.mem_map.1 hw
 have:=h.wl t ht
 show t.length≤20000
 omega
theorem kJ:∀ (ws:List (List UInt8)),ws≠ []→(rowT ws).length=(ws.map (fun t=>t.length+1)).sum
  | [],h=>(h rfl).elim
  | [x],_=>by simp [rowT,Lib.join_one]
  | x :: y :: l, _ => by
    have h1:=kJ (y::l) (by simp)
    simp only [rowT,List.length_append,List.length_cons,List.length_nil,List.map_cons,List.sum_cons,Lib.join,List.intercalate,List.intersperse,List.flatten_cons,List.flatten_nil] at h1 ⊢
    omega
theorem Ke (u:Nat) (h:u<18446744073709551616):PuG Tryz.prog gl3 168 [.int .u64 u, .int .i64 10] (.str (decDigits u)):=by
 intro σ hσ
 refine AC.fi (Go.Proofs.enters_of Tryz.func168 (by kernel_rfl) rfl) ?_
 intro g w vs hI hv
 obtain ⟨v1,vs,rfl,r1,hv⟩:=hv.cons_inv
 obtain ⟨v2,vs,rfl,r2,hv⟩:=hv.cons_inv
 rw [hv.cq,r1.bE,r2.bE]
 refine (Mc u h w (ly hI EB (hσ _ _ rfl))).mono ?_
 rintro e w' ⟨rfl,k',os,rfl⟩
 refine ⟨_,rfl,⟨rfl,rfl,rfl,by simp [Go.Sort.grow,World.drewN],fun i hi=>?_⟩,fun g' _=> .str _⟩
 simp only [Go.Sort.grow,World.drewN]
 rw [Array.getElem?_append_left hi]
theorem Iy (u:Nat) (h:u<18446744073709551616):PuG Tryz.prog gl3 110 [.int .u64 u, .int .i64 10] (.str (decDigits u)):=by
 have h1:=Ke u h
 (refine b9 Gx Kr fun σ hσ=>?_;simp only [Gx,↓R1,RR,seval])
 repeat' ((refine PuG.to (h1) hσ (aa _) ?_)<;>(try simp only [↓R1,RR,seval]))
 (refine ak (ad ?_))
 (simp only [ao,↓R1,RR,seval])
theorem Kf (n:Int) (hn:I64 n):PuG Tryz.prog gl3 109 [.int .i64 n, .int .i64 10] (.str (itoa n)):=fun σ hσ=>JR n σ hn.1 hn.2 (hσ _ _ rfl)
theorem p50 (n:Nat) (hn:n<18446744073709551616):PuG Tryz.prog gl3 50 [.int .u64 (n:Nat)] (.str (decDigits n)):=by
 have h1:=Iy n hn
 have q1:decide ((n:Int)<0)=false:=by simp
 (refine b9 c50 b50 fun σ hσ=>?_;simp only [c50,↓R1,RR,seval,q1])
 repeat' ((refine PuG.to (h1) hσ (aa _) ?_)<;>(try simp only [↓R1,RR,seval,q1]))
 (refine ak (ad ?_))
 (simp only [ao,↓R1,RR,seval,q1])
theorem p52 (n:Int) (hn:I64 n):PuG Tryz.prog gl3 52 [.int .i64 n] (.str (itoa n)):=by
 have hw:True:=trivial
 by_cases h0:n<0
 ·have h1:=Kf n hn
  have q1:decide (n<0)=true:=by simpa using h0
  (refine b9 c52 b52 fun σ hσ=>?_;simp only [c52,↓R1,RR,seval,q1,hw])
  repeat' ((refine PuG.to (h1) hσ (aa _) ?_)<;>(try simp only [↓R1,RR,seval,q1,hw]))
  (refine ak (ad ?_))
  (simp only [ao,↓R1,RR,seval,q1,hw])
 ·obtain ⟨m,rfl⟩:=Int.eq_ofNat_of_zero_le (show 0≤n by omega)
  unfold I64 at hn
  have h1:=Iy m (by omega)
  have q1:decide ((m:Int)<0)=false:=by simp
  have hw:IntKind.u64.wrap (m:Int)=(m:Int):=vn (by omega) (by omega)
  rw [nj]
  (refine b9 c52 b52 fun σ hσ=>?_;simp only [c52,↓R1,RR,seval,q1,hw])
  repeat' ((refine PuG.to (h1) hσ (aa _) ?_)<;>(try simp only [↓R1,RR,seval,q1,hw]))
  (refine ak (ad ?_))
  (simp only [ao,↓R1,RR,seval,q1,hw])
theorem p54 (n:Int) (hn:I64 n):PuG Tryz.prog gl3 54 [.int .i64 n] (.str (itoa n)):=by
 have hw:True:=trivial
 by_cases h0:n<0
 ·have h1:=Kf n hn
  have q1:decide (n<0)=true:=by simpa using h0
  (refine b9 c54 b54 fun σ hσ=>?_;simp only [c54,↓R1,RR,seval,q1,hw])
  repeat' ((refine PuG.to (h1) hσ (aa _) ?_)<;>(try simp only [↓R1,RR,seval,q1,hw]))
  (refine ak (ad ?_))
  (simp only [ao,↓R1,RR,seval,q1,hw])
 ·obtain ⟨m,rfl⟩:=Int.eq_ofNat_of_zero_le (show 0≤n by omega)
  unfold I64 at hn
  have h1:=Iy m (by omega)
  have q1:decide ((m:Int)<0)=false:=by simp
  have hw:IntKind.u64.wrap (m:Int)=(m:Int):=vn (by omega) (by omega)
  rw [nj]
  (refine b9 c54 b54 fun σ hσ=>?_;simp only [c54,↓R1,RR,seval,q1,hw])
  repeat' ((refine PuG.to (h1) hσ (aa _) ?_)<;>(try simp only [↓R1,RR,seval,q1,hw]))
  (refine ak (ad ?_))
  (simp only [ao,↓R1,RR,seval,q1,hw])
theorem p74 {l:List (List UInt8)} (h:RowOk l):Pu Tryz.prog 74 [.sl true l.length (l.map AV.str)] (.tup [.str (rowT l), .int .i64 0]):=by
 have h0:=Mg l (by have:=h.num;omega) (fun t ht=>by have:=h.wl t ht;omega)
 have h1:=Mf [mkR l] (yR h)
 rw [yQ h] at h1
 simp only [List.flatMap_cons,List.flatMap_nil,List.append_nil,List.length_cons,List.length_nil,Nat.zero_add,Fp] at h1
 (refine an c74 b74 fun σ=>?_;simp only [c74,↓R1,RR,seval,List.length_map])
 repeat' (first|(with_reducible apply And.intro)|((first|((refine Pu.to (h0) ?_ ?_;(focus ((repeat' (first|exact af _|exact bz|exact ay _ _ _|exact aq _ _|exact wkL.nil|exact aa _|refine c9 ?_|refine cR ?_|refine wkL.cons ?_ ?_));done))))|((refine Pu.to (h1) ?_ ?_;(focus ((repeat' (first|exact af _|exact bz|exact ay _ _ _|exact aq _ _|exact wkL.nil|exact aa _|refine c9 ?_|refine cR ?_|refine wkL.cons ?_ ?_));done)))))<;>(try simp only [↓R1,RR,seval,List.length_map])))
 ·rfl
 ·(refine ak (ad ?_))
  (simp only [ao,↓R1,RR,seval,List.length_map])
theorem a49 {σ:St} {β:Nat} {out:List UInt8} {l:List (List UInt8)} (hb:σ.box β=some [.str out, .int .i64 0]) (h:RowOk l) (hl:out.length≤20000):AC Tryz.prog 49 [.ptr β 0, .sl true l.length (l.map AV.str)] σ (fun r s=>r= .tup []∧s=σ.ae β [.str (out++rowT l), .int .i64 0]):=by
 have h0:=p74 h
 have h300:=h.len
 (refine bw c49 b49 ?_;simp only [c49,↓R1,RR,seval,hb,List.length_map,h300])
 repeat' (first|(with_reducible refine And.intro ?_ ?_;exact ag)|((refine Pt (h0) ?_)<;>(try simp only [↓R1,RR,seval,hb,List.length_map,h300])))
 (refine ct ?_)
 exact ⟨rfl,rfl⟩
def jc (c:CfgI):List (List UInt8):= [[104,111,114,105,122,111,110],decDigits c.hor.toNat]
def jx (x:ClsI):List (List UInt8):= [[99,108,97,115,115],fg (lab x.l),itoa x.size,itoa x.rate]
def kK (x:TenI):List (List UInt8):= [[116,101,110,97,110,116],itoa x.budget,itoa x.queries,itoa x.cap,itoa x.out,itoa x.audit]
def lR (x:RulI):List UInt8:=if x.any then [97,110,121] else eZ x.kind
def jY (x:RulI):List (List UInt8):= [[114,117,108,101],itoa x.owner,fg (lab x.auth),fg (lab x.res),lR x,itoa x.low,itoa x.high]
def sY (c:CfgI):List (List (List UInt8)):=jc c::(c.cls.map jx++c.tens.map kK++c.ruls.map jY)
theorem qn {c:CfgI} (h:Fine c):RowOk (jc c):=by
 have h1:=sS c.hor.toNat
 have h2:=fE c.hor.toNat (by have:=h.hor;omega)
 refine ⟨by simp [jc],?_,?_,by simp [jc],?_⟩
 ·intro t ht
  simp only [jc,List.mem_cons,List.not_mem_nil,or_false] at ht
  rcases ht with rfl|rfl
  ·decide
  ·exact h1
 ·rw [kJ _ (by simp [jc])]
  simp only [jc,List.map_cons,List.map_nil,List.sum_cons,List.sum_nil,List.length_cons,List.length_nil];omega
 ·intro t ht
  simp only [jc,List.mem_cons,List.not_mem_nil,or_false] at ht
  rcases ht with rfl|rfl
  ·decide
  ·omega
theorem vO {x:ClsI} (h:(1≤x.size∧x.size≤64)∧(0≤x.rate∧x.rate≤64)):RowOk (jx x):=by
 have h1:=jl (lab x.l)
 have h2:=eg x.size (by unfold I64;omega)
 have h3:=eg x.rate (by unfold I64;omega)
 refine ⟨by simp [jx],?_,?_,by simp [jx],?_⟩
 ·intro t ht
  simp only [jx,List.mem_cons,List.not_mem_nil,or_false] at ht
  rcases ht with rfl|rfl|rfl|rfl
  ·decide
  ·exact jX _
  ·exact fG _
  ·exact fG _
 ·rw [kJ _ (by simp [jx])]
  simp only [jx,List.map_cons,List.map_nil,List.sum_cons,List.sum_nil,List.length_cons,List.length_nil];omega
 ·intro t ht
  simp only [jx,List.mem_cons,List.not_mem_nil,or_false] at ht
  rcases ht with rfl|rfl|rfl|rfl
  ·decide
  all_goals omega
theorem vP {x:TenI} (h:(1≤x.budget∧x.budget≤64)∧(0≤x.queries∧x.queries≤4)∧(0≤x.cap∧x.cap≤64)∧(0≤x.out∧x.out≤64)∧(0≤x.audit∧x.audit≤64)):RowOk (kK x):=by
 have h1:=eg x.budget (by unfold I64;omega)
 have h2:=eg x.queries (by unfold I64;omega)
 have h3:=eg x.cap (by unfold I64;omega)
 have h4:=eg x.out (by unfold I64;omega)
 have h5:=eg x.audit (by unfold I64;omega)
 refine ⟨by simp [kK],?_,?_,by simp [kK],?_⟩
 ·intro t ht
  simp only [kK,List.mem_cons,List.not_mem_nil,or_false] at ht
  rcases ht with rfl|rfl|rfl|rfl|rfl|rfl
  ·decide
  all_goals exact fG _
 ·rw [kJ _ (by simp [kK])]
  simp only [kK,List.map_cons,List.map_nil,List.sum_cons,List.sum_nil,List.length_cons,List.length_nil];omega
 ·intro t ht
  simp only [kK,List.mem_cons,List.not_mem_nil,or_false] at ht
  rcases ht with rfl|rfl|rfl|rfl|rfl|rfl
  ·decide
  all_goals omega
theorem yS {x:RulI} (h:0≤x.kind∧x.kind≤25):bareS (lR x)=true∧(lR x).length≤3:=by
 unfold lR
 split
 ·decide
 ·exact ⟨qm h,by have:=r4 x.kind;omega⟩
theorem vQ {x:RulI} (ho:1≤x.owner∧x.owner≤6) (hk:0≤x.kind∧x.kind≤25) (hl:I64 x.low) (hh:I64 x.high):RowOk (jY x):=by
 have h1:=eg x.owner (by unfold I64;omega)
 have h2:=jl (lab x.auth)
 have h3:=jl (lab x.res)
 obtain ⟨k1,k2⟩:=yS hk
 have h5:=eg x.low hl
 have h6:=eg x.high hh
 refine ⟨by simp [jY],?_,?_,by simp [jY],?_⟩
 ·intro t ht
  simp only [jY,List.mem_cons,List.not_mem_nil,or_false] at ht
  rcases ht with rfl|rfl|rfl|rfl|rfl|rfl|rfl
  ·decide
  ·exact fG _
  ·exact jX _
  ·exact jX _
  ·exact k1
  ·exact fG _
  ·exact fG _
 ·rw [kJ _ (by simp [jY])]
  simp only [jY,List.map_cons,List.map_nil,List.sum_cons,List.sum_nil,List.length_cons,List.length_nil];omega
 ·intro t ht
  simp only [jY,List.mem_cons,List.not_mem_nil,or_false] at ht
  rcases ht with rfl|rfl|rfl|rfl|rfl|rfl|rfl
  ·decide
  all_goals omega
def CA (c:CfgI):Prop:=∀ x∈c.ruls,I64 x.low∧I64 x.high
theorem CB {c:CfgI} (hk:CfgOk c) (h:Fine c) (h64:CA c):(∀ ws∈sY c,RowOk ws)∧(sY c).length≤28:=by
 refine ⟨fun ws hw=>?_,?_⟩
 ·rcases List.mem_cons.1 hw with rfl|hw
  ·exact qn h
  rcases List.mem_append.1 hw with hw|hw
  ·rcases List.mem_append.1 hw with hw|hw
   ·obtain ⟨x,hx,rfl⟩:=List.mem_map.1 hw
    obtain ⟨k,hk⟩:=List.getElem?_of_mem hx
    exact vO (sU h.cls hk)
   ·obtain ⟨x,hx,rfl⟩:=List.mem_map.1 hw
    exact vP (sW (h.ten x hx))
  ·obtain ⟨x,hx,rfl⟩:=List.mem_map.1 hw
   have h1:=sX (h.rul x hx)
   exact vQ h1.1 h1.2.1 (h64 x hx).1 (h64 x hx).2
 ·have h1:=h.ncls
  have h2:=h.nrul
  have h3:=hk.six
  simp only [sY,List.length_cons,List.length_append,List.length_map];omega
def Fb (c:CfgI):List UInt8:=((sY c).map rowT).flatten
def vR (c:CfgI):AV:=if (iv c).1=0 then .tup [.str (Fb c), .int .i64 0] else .tup [.str [], .int .i64 (iv c).1]
theorem yT {W:List (List (List UInt8))} (h:∀ ws∈W,RowOk ws):(W.map rowT).flatten.length≤700*W.length:=by
  induction W with
  | nil=>simp
  | cons x W ih =>
    have h1:=(h x (by simp)).len
    have h2:=ih (fun y hy=>h y (by simp [hy]))
    simp only [List.map_cons,List.flatten_cons,List.length_append,List.length_cons];omega
theorem ll {α:Type} {f:α→List (List UInt8)} {l:List α} {k:Nat} {x:α} (A:List (List (List UInt8))) (h:l[k]? =some x):((A++(l.take k).map f).map rowT).flatten++rowT (f x)=((A++(l.take (k+1)).map f).map rowT).flatten:=by
 obtain ⟨h1,h2⟩:=List.getElem?_eq_some_iff.1 h
 rw [←List.take_append_getElem h1,h2]
 simp
theorem nM {α:Type} {f:α→List (List UInt8)} {A:List (List (List UInt8))} {l:List α} (hA:∀ ws∈A,RowOk ws) (hl:∀ x∈l,RowOk (f x)) (hn:A.length+l.length≤28) (k:Nat):((A++(l.take k).map f).map rowT).flatten.length≤20000:=by
 have h:=yT (W:=A++(l.take k).map f) (fun ws hw=>by
  rcases List.mem_append.1 hw with hw|hw
  ·exact hA ws hw
  ·obtain ⟨x,hx,rfl⟩:=List.mem_map.1 hw
   exact hl x (List.mem_of_mem_take hx))
 rw [List.length_append,List.length_map,List.length_take] at h
 omega
set_option maxHeartbeats 8000000 in
theorem p18 {c:CfgI} (ck:CfgOk c) (h64:CA c):PuG Tryz.prog gl3 18 [.agg (cd c)] (vR c):=by
  have hcl:=e8 ck
  have hca:=jn ck
  have hc0:=Cr c
  have h31:=u4 ck
  have h32:=Cs ck
  have q1:True:=trivial
  have he:True:=trivial
  have hw:True:=trivial
  have hln:True:=trivial
  have hany:True:=trivial
  have l32:32<(cd c).length:=by rw [hcl];decide
  have hck:=p48 ck
  unfold Kd at hck
  by_cases hz:(iv c).1=0
  · have hF:=Cz hz
    obtain ⟨hr,hrl⟩:=CB ck hF h64
    have n1:=hF.ncls
    have n2:=hF.nrul
    have h6:=ck.six
    have hhn:((c.hor.toNat:Nat):Int)=c.hor:=by have:=hF.hor;omega
    have h50:=p50 c.hor.toNat (by have:=hF.hor;omega)
    rw [hhn] at h50
    have q1:((iv c).1 != 0)=false:=by rw [hz];rfl
    rw [vR,if_pos hz]
    (refine b9 c18 b18 fun σ hσ=>?_;simp only [c18,↓R1,RR,seval,q1,he,hw,hcl,hca,hc0,h31,h32,hln,l32,hany])
    repeat' ((first|(with_reducible intro β hβ;(try simp only [RB] at hβ);(repeat (obtain ⟨⟨_,_⟩,hβ⟩:=hβ));(try (have hbis:=ah (by assumption) hβ;obtain ⟨_,_⟩:=hbis)))|(refine Pt (hck) ?_)|(refine PuG.to (h50) hσ (aa _) ?_)|((refine AC.mono (AC.wk (a49 (out:= []) (l:=jc c) ?_ (qn hF) (by decide)) (aa _)) ?_;(focus (simp only [↓R1,RR,seval,q1,he,hw,hcl,hca,hc0,h31,h32,hln,l32,hany];done));(rintro _ _ ⟨rfl,rfl⟩))))<;>(try simp only [↓R1,RR,seval,q1,he,hw,hcl,hca,hc0,h31,h32,hln,l32,hany]))
    rename_i B hB aB1 aB2
    have rc:∀ x∈c.cls,RowOk (jx x):=fun x hx=>hr _ (by simp only [sY,List.mem_cons,List.mem_append,List.mem_map];exact .inr (.inl (.inl ⟨x,hx,rfl⟩)))
    have rt:∀ x∈c.tens,RowOk (kK x):=fun x hx=>hr _ (by simp only [sY,List.mem_cons,List.mem_append,List.mem_map];exact .inr (.inl (.inr ⟨x,hx,rfl⟩)))
    have rr:∀ x∈c.ruls,RowOk (jY x):=fun x hx=>hr _ (by simp only [sY,List.mem_cons,List.mem_append,List.mem_map];exact .inr (.inr ⟨x,hx,rfl⟩))
    have r1:∀ ws∈ [jc c],RowOk ws:=fun ws h=>by rw [List.mem_singleton.1 h];exact qn hF
    have r2:∀ ws∈ [jc c]++c.cls.map jx,RowOk ws:=fun ws h=>by
      rcases List.mem_append.1 h with h|h
      · exact r1 ws h
      · obtain ⟨x,hx,rfl⟩:=List.mem_map.1 h;exact rc x hx
    have r3:∀ ws∈([jc c]++c.cls.map jx)++c.tens.map kK,RowOk ws:=fun ws h=>by
      rcases List.mem_append.1 h with h|h
      · exact r2 ws h
      · obtain ⟨x,hx,rfl⟩:=List.mem_map.1 h;exact rt x hx
    obtain ⟨O1,hO1⟩:∃ O1:Nat→List UInt8,O1=fun k=>(([jc c]++(c.cls.take k).map jx).map rowT).flatten:=⟨_,rfl⟩
    obtain ⟨O2,hO2⟩:∃ O2:Nat→List UInt8,O2=fun k=>((([jc c]++c.cls.map jx)++(c.tens.take k).map kK).map rowT).flatten:=⟨_,rfl⟩
    obtain ⟨O3,hO3⟩:∃ O3:Nat→List UInt8,O3=fun k=>(((([jc c]++c.cls.map jx)++c.tens.map kK)++(c.ruls.take k).map jY).map rowT).flatten:=⟨_,rfl⟩
    have z1:([]++rowT (jc c):List UInt8)=O1 0:=by subst hO1;simp
    have z2:O1 c.cls.length=O2 0:=by subst hO1 hO2;simp
    have z3:O2 6=O3 0:=by subst hO2 hO3;simp only;rw [List.take_of_length_le (by omega)];simp
    have z4:O3 c.ruls.length=Fb c:=by subst hO3;simp [Fb,sY]
    have E2:∀ k,(O1 k).length≤20000:=fun k=>by subst hO1;exact nM r1 rc (by simp;omega) k
    have E3:∀ k,(O2 k).length≤20000:=fun k=>by subst hO2;exact nM r2 rt (by simp;omega) k
    have nE:∀ k,(O3 k).length≤20000:=fun k=>by subst hO3;exact nM r3 rr (by simp;omega) k
    refine bK c.cls.length (fun k=> [(1, .ptr B 0),(6, .ptr β 0),(31, .sl false c.cls.length (c.cls.flatMap fU)),(32, .int .i64 (c.cls.length:Nat)),(33, .int .i64 (k:Nat))]) (fun k=>(σ.ae B (cd c)).ae β [.str (O1 k), .int .i64 0]) (fun _=>True) (by simp [az,slot,af]) (by rw [z1,St.set_set];exact St.le_refl _) trivial (fun k hk _=>?_)
    by_cases hlt:k<c.cls.length
    · obtain ⟨x,hx⟩:∃ x,c.cls[k]? =some x:=⟨_,List.getElem?_eq_getElem hlt⟩
      have he:=gr (f:=fU) (m:=3) (fun _=>rfl) hx
      have hln:=sP c.cls
      simp only [fU] at he
      have q1:decide ((k:Int)<(c.cls.length:Int))=true:=by rw [decide_eq_true_eq];omega
      have hw:IntKind.i64.wrap ((k:Int)+1)=((k+1:Nat):Int):=by rw [wrap64 (by omega) (by omega)];omega
      have hfx:=sU hF.cls hx
      have d1:=PuG.up3 (p51 (lab x.l))
      rw [kH (ck.lcls x (List.mem_of_getElem? hx))] at d1
      have d2:=p52 x.size (by unfold I64;omega)
      have d3:=p52 x.rate (by unfold I64;omega)
      have o1:O1 k++rowT (jx x)=O1 (k+1):=by subst hO1;exact ll [jc c] hx
      simp only [q1,↓R1,RR,seval,q1,he,hw,hcl,hca,hc0,h31,h32,hln,l32,hany]
      repeat' (first|(with_reducible rw [ai])|(with_reducible refine And.intro ?_ ?_;exact ag)|(with_reducible apply And.intro)|((first|(with_reducible intro β hβ;(try simp only [RB] at hβ);(repeat (obtain ⟨⟨_,_⟩,hβ⟩:=hβ));(try (have hbis:=ah (by assumption) hβ;obtain ⟨_,_⟩:=hbis)))|(refine bL (d1) hσ (aa _) ?_)|(refine bL (d2) hσ (aa _) ?_)|(refine bL (d3) hσ (aa _) ?_)|(refine eV (d:= [.str (O1 k), .int .i64 0]) (by simp only [↓R1,RR,seval,q1,he,hw,hcl,hca,hc0,h31,h32,hln,l32,hany]) (a49 (out:=O1 k) (l:=jx x) (by simp only [↓R1,RR,seval,q1,he,hw,hcl,hca,hc0,h31,h32,hln,l32,hany]) (vO hfx) (E2 k)) (aa _) ?_))<;>(try simp only [↓R1,RR,seval,q1,he,hw,hcl,hca,hc0,h31,h32,hln,l32,hany])))
      · simp [az,slot,af]
      · rw [o1]
        (refine St.aw (St.le_refl _) ?_;simp only [St.bH];assumption)
    have hke:k=c.cls.length:=by omega
    subst hke
    have q1:decide ((c.cls.length:Int)<(c.cls.length:Int))=false:=by simp
    have hc1:=FA ck
    have l31:1+30≤33:=by decide
    simp only [q1,hc1,l31,↓R1,RR,seval,q1,he,hw,hcl,hca,hc0,h31,h32,hln,l32,hany]
    skip
    refine bK 6 (fun k=> [(1, .ptr B 0),(6, .ptr β 0),(51, .agg (c.tens.flatMap ja)),(52, .int .i64 (k:Nat))]) (fun k=>(σ.ae B (cd c)).ae β [.str (O2 k), .int .i64 0]) (fun _=>True) (by simp [az,slot,af]) (by rw [z2];exact St.le_refl _) trivial (fun k hk _=>?_)
    by_cases hlt:k<6
    · obtain ⟨x,hx⟩:∃ x,c.tens[k]? =some x:=⟨_,List.getElem?_eq_getElem (by omega)⟩
      have he:=gr (f:=ja) (m:=5) (fun _=>rfl) hx
      have hln:=eK c.tens
      rw [h6] at hln
      simp only [ja] at he
      have q1:decide ((k:Int)<6)=true:=by rw [decide_eq_true_eq];omega
      have hw:IntKind.i64.wrap ((k:Int)+1)=((k+1:Nat):Int):=by rw [wrap64 (by omega) (by omega)];omega
      have hfx:=sW (hF.ten x (List.mem_of_getElem? hx))
      have d1:=p52 x.budget (by unfold I64;omega)
      have d2:=p52 x.queries (by unfold I64;omega)
      have d3:=p52 x.cap (by unfold I64;omega)
      have d4:=p52 x.out (by unfold I64;omega)
      have d5:=p52 x.audit (by unfold I64;omega)
      have o1:O2 k++rowT (kK x)=O2 (k+1):=by subst hO2;exact ll _ hx
      simp only [q1,↓R1,RR,seval,q1,he,hw,hcl,hca,hc0,h31,h32,hln,l32,hany]
      repeat' (first|(with_reducible rw [ai])|(with_reducible refine And.intro ?_ ?_;exact ag)|(with_reducible apply And.intro)|((first|(with_reducible intro β hβ;(try simp only [RB] at hβ);(repeat (obtain ⟨⟨_,_⟩,hβ⟩:=hβ));(try (have hbis:=ah (by assumption) hβ;obtain ⟨_,_⟩:=hbis)))|(refine bL (d1) hσ (aa _) ?_)|(refine bL (d2) hσ (aa _) ?_)|(refine bL (d3) hσ (aa _) ?_)|(refine bL (d4) hσ (aa _) ?_)|(refine bL (d5) hσ (aa _) ?_)|(refine eV (d:= [.str (O2 k), .int .i64 0]) (by simp only [↓R1,RR,seval,q1,he,hw,hcl,hca,hc0,h31,h32,hln,l32,hany]) (a49 (out:=O2 k) (l:=kK x) (by simp only [↓R1,RR,seval,q1,he,hw,hcl,hca,hc0,h31,h32,hln,l32,hany]) (vP hfx) (E3 k)) (aa _) ?_))<;>(try simp only [↓R1,RR,seval,q1,he,hw,hcl,hca,hc0,h31,h32,hln,l32,hany])))
      · simp [az,slot,af]
      · rw [o1]
        (refine St.aw (St.le_refl _) ?_;simp only [St.bH];assumption)
    have hke:k=6:=by omega
    subst hke
    have q1:decide (((6:Nat):Int)<6)=false:=by decide
    have l31:31<33:=by decide
    simp only [q1,l31,↓R1,RR,seval,q1,he,hw,hcl,hca,hc0,h31,h32,hln,l32,hany]
    skip
    refine bK c.ruls.length (fun k=> [(6, .ptr β 0),(75, .sl false c.ruls.length (c.ruls.flatMap iE)),(76, .int .i64 (c.ruls.length:Nat)),(77, .int .i64 (k:Nat))]) (fun k=>(σ.ae B (cd c)).ae β [.str (O3 k), .int .i64 0]) (fun _=>True) (by simp [az,slot,af]) (by rw [z3];exact St.le_refl _) trivial (fun k hk _=>?_)
    by_cases hlt:k<c.ruls.length
    · obtain ⟨x,hx⟩:∃ x,c.ruls[k]? =some x:=⟨_,List.getElem?_eq_getElem hlt⟩
      have he:=gr (f:=iE) (m:=7) (fun _=>rfl) hx
      have hln:=sQ c.ruls
      simp only [iE] at he
      have q1:decide ((k:Int)<(c.ruls.length:Int))=true:=by rw [decide_eq_true_eq];omega
      have hw:IntKind.i64.wrap ((k:Int)+1)=((k+1:Nat):Int):=by rw [wrap64 (by omega) (by omega)];omega
      have hxm:=List.mem_of_getElem? hx
      have hfx:=sX (hF.rul x hxm)
      have hxl:=ck.lrul x hxm
      have hx64:=h64 x hxm
      have d1:=p52 x.owner (by unfold I64;omega)
      have d2:=PuG.up3 (p51 (lab x.auth))
      have d3:=PuG.up3 (p51 (lab x.res))
      rw [kH hxl.1] at d2
      rw [kH hxl.2] at d3
      have d4:=p53 x.kind
      have d5:=p54 x.low hx64.1
      have d6:=p54 x.high hx64.2
      have o1:O3 k++rowT (jY x)=O3 (k+1):=by subst hO3;exact ll _ hx
      have hrw:=vQ hfx.1 hfx.2.1 hx64.1 hx64.2
      cases hany:x.any with
      | true =>
        have hkw:lR x= [97,110,121]:=by rw [lR,hany];rfl
        have hrl:jY x= [[114,117,108,101],itoa x.owner,fg (lab x.auth),fg (lab x.res),[97,110,121],itoa x.low,itoa x.high]:=by rw [jY,hkw]
        rw [hrl] at hrw o1
        simp only [q1,↓R1,RR,seval,q1,he,hw,hcl,hca,hc0,h31,h32,hln,l32,hany]
        repeat' (first|(with_reducible rw [ai])|(with_reducible refine And.intro ?_ ?_;exact ag)|(with_reducible apply And.intro)|((first|(with_reducible intro β hβ;(try simp only [RB] at hβ);(repeat (obtain ⟨⟨_,_⟩,hβ⟩:=hβ));(try (have hbis:=ah (by assumption) hβ;obtain ⟨_,_⟩:=hbis)))|(refine bL (d1) hσ (aa _) ?_)|(refine bL (d2) hσ (aa _) ?_)|(refine bL (d3) hσ (aa _) ?_)|(refine bL (d5) hσ (aa _) ?_)|(refine bL (d6) hσ (aa _) ?_)|(refine eV (d:= [.str (O3 k), .int .i64 0]) (by simp only [↓R1,RR,seval,q1,he,hw,hcl,hca,hc0,h31,h32,hln,l32,hany]) (a49 (out:=O3 k) (by simp only [↓R1,RR,seval,q1,he,hw,hcl,hca,hc0,h31,h32,hln,l32,hany]) hrw (nE k)) (aa _) ?_))<;>(try simp only [↓R1,RR,seval,q1,he,hw,hcl,hca,hc0,h31,h32,hln,l32,hany])))
        · simp [az,slot,af]
        · rw [o1]
          (refine St.aw (St.le_refl _) ?_;simp only [St.bH];assumption)
      | false =>
        have hkw:lR x=eZ x.kind:=by rw [lR,hany];rfl
        have hrl:jY x= [[114,117,108,101],itoa x.owner,fg (lab x.auth),fg (lab x.res),eZ x.kind,itoa x.low,itoa x.high]:=by rw [jY,hkw]
        rw [hrl] at hrw o1
        simp only [q1,↓R1,RR,seval,q1,he,hw,hcl,hca,hc0,h31,h32,hln,l32,hany]
        repeat' (first|(with_reducible rw [ai])|(with_reducible refine And.intro ?_ ?_;exact ag)|(with_reducible apply And.intro)|((first|(with_reducible intro β hβ;(try simp only [RB] at hβ);(repeat (obtain ⟨⟨_,_⟩,hβ⟩:=hβ));(try (have hbis:=ah (by assumption) hβ;obtain ⟨_,_⟩:=hbis)))|(refine Pt (d4) ?_)|(refine bL (d1) hσ (aa _) ?_)|(refine bL (d2) hσ (aa _) ?_)|(refine bL (d3) hσ (aa _) ?_)|(refine bL (d5) hσ (aa _) ?_)|(refine bL (d6) hσ (aa _) ?_)|(refine eV (d:= [.str (O3 k), .int .i64 0]) (by simp only [↓R1,RR,seval,q1,he,hw,hcl,hca,hc0,h31,h32,hln,l32,hany]) (a49 (out:=O3 k) (by simp only [↓R1,RR,seval,q1,he,hw,hcl,hca,hc0,h31,h32,hln,l32,hany]) hrw (nE k)) (aa _) ?_))<;>(try simp only [↓R1,RR,seval,q1,he,hw,hcl,hca,hc0,h31,h32,hln,l32,hany])))
        · simp [az,slot,af]
        · rw [o1]
          (refine St.aw (St.le_refl _) ?_;simp only [St.bH];assumption)
    have hke:k=c.ruls.length:=by omega
    subst hke
    have q1:decide ((c.ruls.length:Int)<(c.ruls.length:Int))=false:=by simp
    simp only [q1,↓R1,RR,seval,q1,he,hw,hcl,hca,hc0,h31,h32,hln,l32,hany]
    skip
    rw [z4]
    refine ak ?_
    simp only [ao,↓R1,RR,seval,q1,he,hw,hcl,hca,hc0,h31,h32,hln,l32,hany]
    exact af _
  · have q1:((iv c).1 != 0)=true:=by rw [bne_iff_ne];exact hz
    rw [vR,if_neg hz]
    (refine b9 c18 b18 fun σ hσ=>?_;simp only [c18,↓R1,RR,seval,q1,he,hw,hcl,hca,hc0,h31,h32,hln,l32,hany])
    repeat' ((first|(with_reducible intro β hβ;(try simp only [RB] at hβ);(repeat (obtain ⟨⟨_,_⟩,hβ⟩:=hβ));(try (have hbis:=ah (by assumption) hβ;obtain ⟨_,_⟩:=hbis)))|(refine Pt (hck) ?_))<;>(try simp only [↓R1,RR,seval,q1,he,hw,hcl,hca,hc0,h31,h32,hln,l32,hany]))
    refine ak ?_
    simp only [ao,↓R1,RR,seval,q1,he,hw,hcl,hca,hc0,h31,h32,hln,l32,hany]
    exact af _
theorem FB (x:OpI):(cOp x).length=8:=rfl
theorem CD (l:List OpI):(l.flatMap cOp).length=l.length*8:=aS FB l
set_option maxHeartbeats 2000000 in
theorem sZ (f g:Bool) (l:List OpI) (hl:l.length≤1000000):Pu Tryz.prog 16 [.sl f l.length (l.flatMap cOp), .sl g l.length (l.flatMap cOp)] (.bool true):=by
 have q1:True:=trivial
 have he:True:=trivial
 have hw:True:=trivial
 have h1:=CD l
 (refine an c16 b16 fun σ=>?_;simp only [c16,↓R1,RR,seval,q1,he,hw,cOp,h1,List.cons_append,List.nil_append,List.drop_nil])
 skip
 refine bK l.length (fun k=> [(0, .sl f l.length (l.flatMap cOp)),(1, .sl g l.length (l.flatMap cOp)),(5, .int .i64 (k:Nat))]) (fun _=>σ) (fun _=>True) (by simp [az,slot,af]) (St.le_refl _) trivial (fun k hk _=>?_)
 by_cases hlt:k<l.length
 ·obtain ⟨x,hx⟩:∃ x,l[k]? =some x:=⟨_,List.getElem?_eq_getElem hlt⟩
  have he:=gr (f:=cOp) (m:=8) FB hx
  simp only [cOp] at he
  have q1:decide ((k:Int)<(l.length:Int))=true:=by rw [decide_eq_true_eq];omega
  have hw:IntKind.i64.wrap ((k:Int)+1)=((k+1:Nat):Int):=by rw [wrap64 (by omega) (by omega)];omega
  simp only [q1,↓R1,RR,seval,q1,he,hw,cOp,h1,List.cons_append,List.nil_append,List.drop_nil]
  repeat' (first|(with_reducible refine And.intro ?_ ?_;exact ag)|(with_reducible apply And.intro))
  ·simp [az,slot,af]
  ·exact St.le_refl _
 ·have hke:k=l.length:=by omega
  subst hke
  have q1:decide ((l.length:Int)<(l.length:Int))=false:=by simp
  simp only [q1,↓R1,RR,seval,q1,he,hw,cOp,h1,List.cons_append,List.nil_append,List.drop_nil]
  skip
  (refine ak (ad ?_) (by first|(simp [aj,rvS];done)|(simp only [aj,rvS,↓R1,RR,seval,q1,he,hw,cOp,h1,List.cons_append,List.nil_append,List.drop_nil];try simp)))
  (simp only [ao,↓R1,RR,seval,q1,he,hw,cOp,h1,List.cons_append,List.nil_append,List.drop_nil])
def exC:CfgI:=⟨[⟨0,2,2⟩,⟨1,2,2⟩],List.replicate 6 ⟨2,1,4,2,1⟩,[⟨2,1,0,true,0,0,9⟩],3⟩
def exK (k:Nat):List AV:= .sl true 2 [.int .u64 0, .int .i64 2, .int .i64 2, .int .u64 1, .int .i64 2, .int .i64 2]::((List.replicate k [AV.int .i64 2, .int .i64 1, .int .i64 4, .int .i64 2, .int .i64 1]++List.replicate (6 - k) [AV.int .i64 0, .int .i64 0, .int .i64 0, .int .i64 0, .int .i64 0]).flatten++ [.sl true 1 [.int .i64 2, .int .u64 1, .int .u64 0, .bool true, .int .i64 0, .int .i64 0, .int .i64 9], .int .u64 3])
theorem Iz:wk (.agg (exK 6)) (.agg (cd exC)):=cR (by
 show wkL (_::(_++ [_,_])) (_::(_++ [_,_]))
 refine .cons (aq _ _) (D2 (aa _) (.cons (aq _ _) (aa _))))
set_option maxHeartbeats 8000000 in
theorem p36:Pu Tryz.prog 36 [] (.agg (exK 6)):=by
 (refine an c36 b36 fun σ=>?_;simp only [c36,↓R1,RR,seval,exK,List.replicate,List.flatten_cons,List.flatten_nil,List.cons_append,List.nil_append])
 repeat' (first|(with_reducible rw [ai])|((with_reducible intro β hβ;(try simp only [RB] at hβ);(repeat (obtain ⟨⟨_,_⟩,hβ⟩:=hβ));(try (have hbis:=ah (by assumption) hβ;obtain ⟨_,_⟩:=hbis)))<;>(try simp only [↓R1,RR,seval,exK,List.replicate,List.flatten_cons,List.flatten_nil,List.cons_append,List.nil_append])))
 rename_i A hA a1 a2
 obtain ⟨z,hz⟩:∃ z,z=(AV.nils::(List.replicate 30 (AV.int .i64 0)++ [.nils, .int .u64 0])):=⟨_,rfl⟩
 refine bK 6 (fun k=> [(0, .ptr A 0),(1, .ptr β 0),(2, .int .i64 (k:Nat))]) (fun k=>(σ.ae A z).ae β (exK k)) (fun _=>True) (by simp [az,slot,af]) (by subst hz;rw [St.set_set];exact St.le_refl _) trivial (fun k hk _=>?_)
 rcases (show k=0∨k=1∨k=2∨k=3∨k=4∨k=5∨k=6 by omega) with rfl|rfl|rfl|rfl|rfl|rfl|rfl
 ·simp only [↓R1,RR,seval,exK,List.replicate,List.flatten_cons,List.flatten_nil,List.cons_append,List.nil_append]
  repeat' (with_reducible apply And.intro)
  ·simp only [show IntKind.i64.wrap 1=1 from rfl];simp [az,slot,af]
  ·exact St.le_refl _
 ·simp only [↓R1,RR,seval,exK,List.replicate,List.flatten_cons,List.flatten_nil,List.cons_append,List.nil_append]
  repeat' (with_reducible apply And.intro)
  ·simp only [show IntKind.i64.wrap 2=2 from rfl];simp [az,slot,af]
  ·exact St.le_refl _
 ·simp only [↓R1,RR,seval,exK,List.replicate,List.flatten_cons,List.flatten_nil,List.cons_append,List.nil_append]
  repeat' (with_reducible apply And.intro)
  ·simp only [show IntKind.i64.wrap 3=3 from rfl];simp [az,slot,af]
  ·exact St.le_refl _
 ·simp only [↓R1,RR,seval,exK,List.replicate,List.flatten_cons,List.flatten_nil,List.cons_append,List.nil_append]
  repeat' (with_reducible apply And.intro)
  ·simp only [show IntKind.i64.wrap 4=4 from rfl];simp [az,slot,af]
  ·exact St.le_refl _
 ·simp only [↓R1,RR,seval,exK,List.replicate,List.flatten_cons,List.flatten_nil,List.cons_append,List.nil_append]
  repeat' (with_reducible apply And.intro)
  ·simp only [show IntKind.i64.wrap 5=5 from rfl];simp [az,slot,af]
  ·exact St.le_refl _
 ·simp only [↓R1,RR,seval,exK,List.replicate,List.flatten_cons,List.flatten_nil,List.cons_append,List.nil_append]
  repeat' (with_reducible apply And.intro)
  ·simp only [show IntKind.i64.wrap 6=6 from rfl];simp [az,slot,af]
  ·exact St.le_refl _
 ·subst hz
  simp only [↓R1,RR,seval,exK,List.replicate,List.flatten_cons,List.flatten_nil,List.cons_append,List.nil_append]
  skip
  refine ak ?_ (by first|(simp [aj,rvS];done)|(simp only [aj,rvS,↓R1,RR,seval,exK,List.replicate,List.flatten_cons,List.flatten_nil,List.cons_append,List.nil_append];try simp))
  simp only [ao,↓R1,RR,seval,exK,List.replicate,List.flatten_cons,List.flatten_nil,List.cons_append,List.nil_append]
  exact af _
def exU:List UInt8:= [104,111,114,105,122,111,110,32,51,10,99,108,97,115,115,32,123,125,32,50,32,50,10,99,108,97,115,115,32,123,48,125,32,50,32,50,10,116,101,110,97,110,116,32,50,32,49,32,52,32,50,32,49,10,116,101,110,97,110,116,32,50,32,49,32,52,32,50,32,49,10,116,101,110,97,110,116,32,50,32,49,32,52,32,50,32,49,10,116,101,110,97,110,116,32,50,32,49,32,52,32,50,32,49,10,116,101,110,97,110,116,32,50,32,49,32,52,32,50,32,49,10,116,101,110,97,110,116,32,50,32,49,32,52,32,50,32,49,10,114,117,108,101,32,50,32,123,48,125,32,123,125,32,97,110,121,32,48,32,57,10]
theorem IA:CfgOk exC:=⟨rfl,by decide,by decide,fun x h=>by (rcases List.mem_cons.1 (show x∈([⟨0,2,2⟩,⟨1,2,2⟩]:List ClsI) from h) with rfl|h;· exact ⟨by decide,by decide⟩);rw [List.mem_singleton.1 h];exact ⟨by decide,by decide⟩,fun x h=>by rw [List.mem_singleton.1 (show x∈ [(⟨2,1,0,true,0,0,9⟩:RulI)] from h)];exact ⟨⟨by decide,by decide⟩,by decide,by decide⟩⟩
theorem IB:CA exC:=by
 intro x hx
 rw [List.mem_singleton.1 (show x∈ [(⟨2,1,0,true,0,0,9⟩:RulI)] from hx)]
 exact ⟨by unfold I64;decide,by unfold I64;decide⟩
theorem Kg:iv exC=(0,0):=by decide
theorem Kh:Fb exC=exU:=by
 decide +kernel
theorem exP:cN [112,111,108,108,32,49,32,53]= .ok [⟨6,1,0,[],0,5,0,0⟩]:=by
 kernel_rfl
set_option maxHeartbeats 2000000 in
theorem s6:PuG Tryz.prog gl3 11 [] (.bool true):=by
 have h1:=p18 IA IB
 rw [vR,Kg,Kh] at h1
 simp only [if_true] at h1
 have h1:PuG Tryz.prog gl3 18 [.agg (exK 6)] (.tup [.str exU, .int .i64 0]):=fun σ hσ=>AC.wk (h1 σ hσ) (.cons Iz .nil)
 have h2:=p12 [112,111,108,108,32,49,32,53] (by decide)
 rw [iu,exP] at h2
 simp only [List.flatMap_cons,List.flatMap_nil,List.append_nil,List.length_cons,List.length_nil,Nat.zero_add,cOp] at h2
 have h3:=sZ false true [⟨6,1,0,[],0,5,0,0⟩] (by decide)
 simp only [List.flatMap_cons,List.flatMap_nil,List.append_nil,List.length_cons,List.length_nil,Nat.zero_add,cOp] at h3
 have q1:(exU == exU)=true:=by simp
 unfold exU at h1
 (refine b9 c11 b11 fun σ hσ=>?_;simp only [c11,↓R1,RR,seval,q1,cOp])
 repeat' (first|(with_reducible rw [ai])|((first|(with_reducible intro β hβ;(try simp only [RB] at hβ);(repeat (obtain ⟨⟨_,_⟩,hβ⟩:=hβ));(try (have hbis:=ah (by assumption) hβ;obtain ⟨_,_⟩:=hbis)))|(refine Pt (p36) ?_)|(refine PuG.to (h1) hσ (aa _) ?_)|(refine PuG.to (h2) hσ (aa _) ?_)|(refine Pt (h3) ?_))<;>(try simp only [↓R1,RR,seval,q1,cOp])))
 refine ak ?_
 simp only [ao,↓R1,RR,seval,q1,cOp]
 exact af _
theorem s7:∀ (rs:List Rw) (n:Nat) (l:List OpI),iq rs n= .ok l→l.length≤rs.length
  | [],n,l,h=>by simp only [iq] at h;cases h;simp
  | r :: rs, n, l, h => by
    simp only [iq] at h
    cases ho:gO r with
    | error e=>rw [oW _ ho] at h;cases h
    | ok o =>
      rw [nD _ ho] at h
      split at h
      · cases h
      · cases hx:iq rs (n+1) with
        | error e=>rw [oW _ hx] at h;cases h
        | ok m=>rw [nD _ hx] at h;cases h;have:=s7 rs (n+1) m hx;simp;omega
theorem u9 {s:List UInt8} {l:List OpI} (h:cN s= .ok l):l.length≤1000000:=by
 unfold cN at h
 cases hx:eO s with
 | error e=>rw [oW _ hx] at h;cases h
 | ok rs=>rw [nD _ hx] at h;have:=s7 rs 0 l h;have:=(fR hx).1;omega
def qo (o:Except Ft (List OpI)):List OpI × Ft:=match o with
 | .ok l=>(l,(0,0))
 | .error e=>([],e)
theorem yU (s:List UInt8):iu s= .tup [.sl false (qo (cN s)).1.length ((qo (cN s)).1.flatMap cOp), .agg [.int .i64 (qo (cN s)).2.1, .int .i64 (qo (cN s)).2.2]]:=by
 unfold iu qo
 cases cN s<;>rfl
def o0:OpI:=⟨0,0,0,[],0,0,0,0⟩
def CE (o:Except Ft OpI):OpI × Ft:=match o with
 | .ok l=>(l,(0,0))
 | .error e=>(o0,e)
theorem CG (s:List UInt8):lO s= .tup [.agg (cOp (CE (eJ s)).1), .agg [.int .i64 (CE (eJ s)).2.1, .int .i64 (CE (eJ s)).2.2]]:=by
 unfold lO CE
 cases eJ s<;>rfl
set_option maxHeartbeats 4000000 in
theorem l5 (s:List UInt8) (hs:s.length≤9223372036854775807):PuG Tryz.prog gl3 3 [.str s] (.bool true):=by
 have q1:True:=trivial
 by_cases h15:1500<s.length
 ·have q1:decide ((1500:Int)<(s.length:Int))=true:=by rw [decide_eq_true_eq];omega
  (refine b9 c3 b3 fun σ hσ=>?_;simp only [c3,↓R1,RR,seval,q1,beq_self_eq_true,bne_self_eq_false])
  repeat' ((refine PuG.to (s6) hσ (aa _) ?_)<;>(try simp only [↓R1,RR,seval,q1,beq_self_eq_true,bne_self_eq_false]))
  (refine ak ?_ (by first|(simp [aj,rvS];done)|(simp only [aj,rvS,↓R1,RR,seval,q1,beq_self_eq_true,bne_self_eq_false];try simp)));(simp only [ao,↓R1,RR,seval,q1,beq_self_eq_true,bne_self_eq_false];exact af _)
 ·have q1:decide ((1500:Int)<(s.length:Int))=false:=by rw [decide_eq_false_iff_not];omega
  have h1:=p12 s (by omega)
  have h2:=p13 s (by omega)
  have h3:=p14 s (by omega)
  have h4:=p15 s (by omega)
  rw [yU] at h1 h2
  rw [CG] at h3 h4
  have hln:(qo (cN s)).1.length≤1000000:=by
   unfold qo
   cases hp:cN s with
   | error e=>simp
   | ok l=>exact u9 hp
  have h5:=sZ false false (qo (cN s)).1 hln
  generalize qo (cN s)=x at h1 h2 h5
  generalize CE (eJ s)=y at h3 h4
  simp only [cOp] at h3 h4
  (refine b9 c3 b3 fun σ hσ=>?_;simp only [c3,↓R1,RR,seval,q1,beq_self_eq_true,bne_self_eq_false])
  repeat' (first|(with_reducible rw [ai])|((first|(with_reducible intro β hβ;(try simp only [RB] at hβ);(repeat (obtain ⟨⟨_,_⟩,hβ⟩:=hβ));(try (have hbis:=ah (by assumption) hβ;obtain ⟨_,_⟩:=hbis)))|(refine PuG.to (h1) hσ (aa _) ?_)|(refine Pt (h2) ?_)|(refine PuG.to (h3) hσ (aa _) ?_)|(refine Pt (h4) ?_)|(refine Pt (h5) ?_)|(refine PuG.to (s6) hσ (aa _) ?_))<;>(try simp only [↓R1,RR,seval,q1,beq_self_eq_true,bne_self_eq_false])))
  (refine ak ?_ (by first|(simp [aj,rvS];done)|(simp only [aj,rvS,↓R1,RR,seval,q1,beq_self_eq_true,bne_self_eq_false];try simp)));(simp only [ao,↓R1,RR,seval,q1,beq_self_eq_true,bne_self_eq_false];exact af _)
end Go.Proofs.YtgephffbfiemeaaGreatDoor
namespace Go.Proofs.YtgephffbfiemeaaGreatDoor
open Go.Abs
set_option linter.all false
theorem l6 (s:List UInt8) (m:s.length≤maxLen):PuG Tryz.prog gl3 3 [.str s] (.bool true):=l5 s m
end Go.Proofs.YtgephffbfiemeaaGreatDoor
