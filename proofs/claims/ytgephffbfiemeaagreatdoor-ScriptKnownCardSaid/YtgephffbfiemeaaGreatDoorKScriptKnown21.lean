/- Part 21 of the proof of ScriptKnown: an abstract semantics that is proved sound for the model, contracts of functions in it, and plain facts (Abs24). No condition. -/
import Derived.Test.YtgephffbfiemeaaGreatDoorKScriptKnown20
import Derived.Lib.Join
import Derived.Shelf.Strconv.Itoa3
set_option linter.all false
namespace Go.Abs
open Go.RowKit Go.Lib
def BU (P:Program) (f:Nat):Prop:=∀ (a:AV) (l:List (List UInt8)) (sep:List UInt8) (σ:St),slv a=some (l.length,l.map AV.str)→l.length≤140737488355328→(Lib.join l sep).length≤140737488355328 →
 AC P f [a, .str sep] σ (fun r s=>r= .str (Lib.join l sep)∧s=σ)
theorem rR {P:Program} {f:Nat} (he:∀ args w,(callFunc f args).run P w= .ok (.enter f args) w)
  (h0:∀ (x:Option Addr) (sep:ByteArray) (w:World),Calls P f #[.slice x 0 0, .string sep] w fun e w'=>e= .returned (.string ByteArray.empty)∧w'=w)
  (h:∀ (bk o c:Nat) (xs:List ByteArray) (sep:ByteArray) (w:World),(∀ (j:Nat) x,xs[j]? =some x→w.cell? ⟨bk,o+j,none⟩=some (.string x))→bk<w.heap.size→xs.length≤140737488355328→xs.length≤c →
   (Lib.join (xs.map (·.data.toList)) sep.data.toList).length≤140737488355328 →
   Calls P f #[.slice (some ⟨bk,o,none⟩) xs.length c, .string sep] w fun e w'=>e= .returned (.string ⟨(Lib.join (xs.map (·.data.toList)) sep.data.toList).toArray⟩)∧Below w.heap.size w w'):BU P f:=by
 intro a l sep σ ha hN hlen
 refine AC.eX he ?_
 intro g w vs hI hv
 obtain ⟨v1,vs,rfl,r1,hv⟩:=hv.cons_inv
 obtain ⟨v2,vs,rfl,r2,hv⟩:=hv.cons_inv
 rw [hv.bK,r2.cF]
 rcases r1.bL ha with ⟨x,rfl,hn,hc⟩|⟨b,off,cap,u,rfl,hnc,hl⟩
 ·have:l= []:=List.eq_nil_of_length_eq_zero hn
  subst this
  refine (h0 x _ w).mono ?_
  rintro e w' ⟨rfl,rfl⟩
  exact ⟨_,rfl,Below.refl _ _,fun g' _=> .str _⟩
 ·have hu:u=(l.map fun x=>(⟨x.toArray⟩:ByteArray)).map Value.string:=by
   apply List.ext_getElem?
   intro i
   have h1:=hl.rel.1.1
   simp only [List.length_map] at h1
   rcases Nat.lt_or_ge i l.length with hi|hi
   ·have h2:(l.map AV.str)[i]? =some (.str l[i]):=by simp [hi]
    have h3:u[i]? =some u[i]:=List.getElem?_eq_getElem Oz
    have:=hl.rel.1.2 i _ _ h2 h3
    rw [h3,this.cF]
    simp [hi]
   ·rw [List.getElem?_eq_none Oz,List.getElem?_eq_none PD]
  have hm:(l.map fun x=>(⟨x.toArray⟩:ByteArray)).map (·.data.toList)=l:=by
   rw [List.map_map]
   conv=>rhs;rw [←List.map_id l]
   exact List.map_congr_left fun x _=>by simp
  have:=h b off cap (l.map fun x=>(⟨x.toArray⟩:ByteArray)) ⟨sep.toArray⟩ w (fun j x hx=>hl.cell j _ (by rw [hu,List.getElem?_map,hx];rfl)) hl.claim.1 (by simpa using hN) (by simpa using hnc) (by rw [hm];simpa using hlen)
  rw [hm,List.length_map] at this
  refine this.mono ?_
  rintro e w' ⟨rfl,hb⟩
  exact ⟨_,rfl,hb,fun g' _=>by
   have:=Rel.str (g:=g') (w:=w') (Lib.join l sep)
   simpa using this⟩
def Gq (P:Program) (f:Nat):Prop:=∀ i:Nat,i<100→Pu P f [.int .i64 i] (.str (Lib.decDigits i))
theorem BV {P:Program} {f:Nat} (he:∀ args w,(callFunc f args).run P w= .ok (.enter f args) w)
  (h:∀ (i:Nat),i<100→∀ w:World,Calls P f #[.int .i64 i] w fun e w'=>e= .returned (.string ⟨(Lib.decDigits i).toArray⟩)∧w'=w):Gq P f:=by
 intro i hi σ
 refine AC.eX he ?_
 intro g w vs hI hv
 obtain ⟨v1,vs,rfl,r1,hv⟩:=hv.cons_inv
 rw [hv.bK,r1.a8]
 refine (h i hi w).mono ?_
 rintro e w' ⟨rfl,rfl⟩
 exact ⟨_,rfl,Below.refl _ _,fun g' _=> .str _⟩
end Go.Abs
