/- Part 22 of the proof of ScriptKnown: an abstract semantics that is proved sound for the model, contracts of functions in it, and plain facts (Abs19). No condition. -/
import Derived.Test.YtgephffbfiemeaaGreatDoorKScriptKnown21
import Derived.ProofKit
import Derived.OpenShut
import Derived.Carry
import Derived.ChangeSlices
import Derived.ChangeMaps5
set_option linter.all false
namespace Go.Abs
open Go.RowKit Go.ChangeShapes Go.WideShapes
variable {H:Type} {enc:TypeId × Value→H} {P:Program}
theorem Ff {W:World} {s:ByteArray}:Rel g0 W (.str s.data.toList) (.string s):=by
 have:=Rel.str (g:=g0) (w:=W) s.data.toList
 rwa [lZ] at this
theorem iV (hl:laidOutB P=true) {W W':World} (hb:Below W.heap.size W W') {sp:Nat→Bool}:∀ {ts:List TypeId} {vs:List Value} {ds:List (DataW H)} {ps:List MemPlace},(∀ t∈ts,P.readableRec t=true∧t<P.types.size) →
    DataW.TrodAll enc P W 0 (fun _=>true) true ts vs ds ps→(∀ p∈ps,p.block<W.heap.size)→(∀ p∈ps,sp p.block=true)→DataW.TrodAll enc P W' 0 sp true ts vs ds ps
  | [], vs, ds, ps, _, h, _, _ => by
    obtain ⟨rfl,rfl,rfl⟩:=trodAll_nil h
    exact trodAll_mk0
  | t :: ts, vs, ds, ps, ht, h, hlt, hsp => by
    obtain ⟨v,vs',d,ds',p,q,rfl,rfl,rfl,h0,r0⟩:=trodAll_cons h
    refine trodAll_cons_mk ?_ (iV hl hb (fun t' ht'=>ht t' (by simp [ht'])) r0 (fun x hx=>hlt x Pv) (fun x hx=>hsp x Pv))
    exact WideElems.Trod_stays hl (ht t OF).1 (ht t OF).2 h0 (fun x hx=>hb.same (hlt x Pv)) (fun x hx=>hsp x Pv)
def I3 (P:Program) (ts:List TypeId):Bool:=ts.all fun t=>P.readableRec t&&decide (t<P.types.size)
theorem BX {f:Func} {s:ChangeSpec} {apart fresh handsOn again:Bool} {W W':World} {args:Array Value} {ds:List (DataW H)} {p:List MemPlace} {tb:TypeId}
  (hW:DataW.Whole enc P f.params.toList s.vars apart W args.toList ds [] p) (hA:DataW.TrodAll enc P W 0 (fun _=>true) true f.params.toList args.toList ds p)
  (hspec:(s.fn H (ds++ [])).results= [.lit (.bool true)]∧(s.fn H (ds++ [])).args=ds∧(s.fn H (ds++ [])).vars= []) (hvars:s.vars= [])
  (hl:laidOutB P=true) (hts:I3 P f.params.toList=true) (hb:Below W.heap.size W W') (hrt:f.resultTypes= #[tb]) (htb:P.underlying tb=some .bool) :
  s.post enc P f apart fresh handsOn again W args (.bool true) W':=by
 have hlt:∀ x∈p,x.block<W.heap.size:=fun x hx=>hW.lt x hx
 have hty:∀ t∈f.params.toList,P.readableRec t=true∧t<P.types.size:=fun t ht=>by
  have:=List.all_eq_true.1 hts t ht
  simpa using this
 refine nE (pa:=p) (pv:= []) hW (fun b sp hd=>?_) (fun sp hsp=>?_) (fun sp _=>?_) OF hb ?_
 ·rw [hspec.1,hrt]
  exact trodAll_cons_mk (shut_bool htb _) trodAll_mk0
 ·rw [hspec.2.1]
  exact iV hl hb hty hA hlt hsp
 ·rw [hspec.2.2,hvars];rfl
 ·intro j t r hj hr
  rw [hrt] at hj hr
  exact ok_one hrt rfl (okWide_bool_mk htb _) j t r (by rw [hrt];exact hj) (by rw [hrt];exact hr)
end Go.Abs
