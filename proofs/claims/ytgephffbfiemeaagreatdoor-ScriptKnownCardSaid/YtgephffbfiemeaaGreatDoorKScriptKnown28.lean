/- Part 28 of the proof of ScriptKnown: an abstract semantics that is proved sound for the model, contracts of functions in it, and plain facts (SB SB2 SB3 SB4 RW1 RW2 RX1 RW3 RW4 RX2 RX3 RX5 RW5 RW6 RW7 RW8 RW9 RN1 RN2 RN3). No condition. -/
import Derived.Test.YtgephffbfiemeaaGreatDoorKScriptKnown27
import Derived.WalkKit
import Derived.Lib.Walk
import Derived.Lib.Builder
import Derived.Lib.UnsafeStr
import Derived.Shelf.RegionOpenPlain
import Derived.Shelf.Strings.BuilderX
import Derived.Laws.Externs
set_option linter.all false
namespace Go.Proofs.YtgephffbfiemeaaGreatDoor
open Go.Abs Go.Lib Go.RowKit
set_option linter.all false
set_option maxRecDepth 100000
theorem vB:(Tryz.prog.info? 222).map (·.size)=some 2:=OA
theorem Fy:liesAt Tryz.prog Tryz.prog.depth 222 (2 / Tryz.prog.cellsOf 222) 0 222 1=true:=OA
theorem Fz (b:Nat) (w:World) (h0:w.cell? ⟨b,0,none⟩=some (.pointer (some ⟨b,0,none⟩))) :
  Calls Tryz.prog 222 #[.pointer (some ⟨b,0,none⟩)] w fun e w'=>e= .returned (.tuple #[])∧w'=w:=by
 obtain ⟨j,hj,_⟩:=Option.map_eq_some_iff.1 vB
 go_enter Tryz.func222,Tryz.ntmps222
 go_wp2
 rw [Lib.run_neq_ptr_same w _ Tryz.underlying220 hj]
 go_wp2
 go_end0
 exact ⟨rfl,rfl⟩
theorem Cn (b:Nat) (w:World) (h0:w.cell? ⟨b,0,none⟩=some (.pointer none)) (hsh:w.shape? b=some (222,2)) (hfz:w.frozen? ⟨b,0,none⟩=false) :
  Calls Tryz.prog 222 #[.pointer (some ⟨b,0,none⟩)] w fun e w'=>e= .returned (.tuple #[])∧w'=w.setCell ⟨b,0,none⟩ (.pointer (some ⟨b,0,none⟩)):=by
 obtain ⟨j,hj,hjs⟩:=Option.map_eq_some_iff.1 vB
 go_enter Tryz.func222,Tryz.ntmps222
 go_wp2
 rw [Lib.run_to_unsafe w ⟨b,0,none⟩ Tryz.underlying220 Tryz.underlying320 hj (by rw [hjs];decide) hsh (Nat.zero_lt_succ 1)]
 simp only [Result.andThen]
 rw [Oper.upon_value]
 go_wp2
 rw [run_callFunc_extern Tryz.func259 OA OA OA (e:=Extern.AbiNoEscape.same) OA]
 rw [Lib.run_noEscape]
 simp only [Result.andThen]
 rw [Oper.upon_value]
 go_wp2
 rw [Lib.run_from_unsafe w ⟨b,0,none⟩ Tryz.underlying320 Tryz.underlying220 hj hsh Fy]
 simp only [Result.andThen]
 rw [Oper.upon_value]
 go_wp2
 go_end0
 exact ⟨rfl,rfl⟩
end Go.Proofs.YtgephffbfiemeaaGreatDoor
namespace Go.Abs
open Go.RowKit Go.Lib
set_option linter.all false
section
variable {P:Program} {g:Gh} {σ:St} {w:World}
theorem _root_.PO {p:Prop} (h:p:=by unfold World.freeze;split<;>rfl):p:=h
theorem uG (hI:Inv g σ w) {b F n:Nat} {cur:Array Value} {T:TypeId} {q:Nat × Nat} (hb:w.heap[b]? =some (.cells cur T q)) (hcl:g.cl b=some F) (hbox:∀ β,g.box β≠some b)
  (htip:∀ τ x v,σ.tip τ=some x→g.tip τ x.2.2=some v→Held x.2.2 v→v.ownBlock≠some b) :
  Inv g σ (w.freeze ⟨b,0,none⟩ n)∧Ext g w g (w.freeze ⟨b,0,none⟩ n):=by
 have hother:∀ k,k≠b→(w.freeze ⟨b,0,none⟩ n).heap[k]? =w.heap[k]? :=fun k hk=>by
  unfold World.freeze
  split
  ·rfl
  ·simp only [Array.getElem?_modify];rw [if_neg (fun e=>hk e.symm)]
 have hcell:∀ i,(w.freeze ⟨b,0,none⟩ n).cell? ⟨b,i,none⟩=w.cell? ⟨b,i,none⟩:=fun i=>by
  unfold World.freeze
  split
  ·rfl
  ·simp only [World.cell?,Array.getElem?_modify,if_true,hb,Option.map_some]
 have hos:(w.freeze ⟨b,0,none⟩ n).os=w.os:=PO
 have htp:(w.freeze ⟨b,0,none⟩ n).tape=w.tape:=PO
 have hou:(w.freeze ⟨b,0,none⟩ n).output=w.output:=PO
 have hsz:(w.freeze ⟨b,0,none⟩ n).heap.size=w.heap.size:=by unfold World.freeze;split<;>simp
 have he:Ext g w g (w.freeze ⟨b,0,none⟩ n):=by
  refine ⟨hos,htp,hou,by omega,fun _ _ h=>h,fun _ _=>rfl,Nat.le_refl _,Nat.le_refl _,fun _ _ _ h=>h,fun k hk hc=>?_,fun k G hk hc=>?_,fun _ _ h=>h,fun k us T' hx h=>by
   obtain ⟨β,hβ⟩:=hx
   exact ⟨us,by rw [hother k (fun e=>hbox β (e ▸ hβ))];exact h,rfl⟩⟩
  ·have hkb:k≠b:=by rintro rfl;rw [hcl] at hc;cases hc
   exact ⟨hc,hother k hkb⟩
  ·by_cases hkb:k=b
   ·subst hkb
    exact ⟨G,hc,Nat.le_refl _,fun i _=>hcell i⟩
   ·exact ⟨G,hc,Nat.le_refl _,fun i _=>World.cell?_of_block (hother k hkb)⟩
 refine ⟨⟨fun β cs hβ=>?_,fun β k hβ=>?_,hI.boxinj,hI.boxfresh,fun τ e s n ht=>?_,hI.tipinj,hI.tipfresh,fun k cs hk=>(hI.glob k cs hk).mono he,fun l r hl=>by
  obtain ⟨q1,q2,q3⟩:=hI.lp l r hl
  have hlb:l≠b:=fun e=>by subst e;rw [hb] at q1;exact r.1.gW q1
  exact ⟨by rw [hother l hlb];exact q1,q2,fun t=>(q3 t).mono he⟩,fun β T2 hβ=>by
  obtain ⟨k,vs,k1,k2⟩:=hI.bty β T2 hβ
  exact ⟨k,vs,k1,by rw [hother k (fun e=>hbox β (e ▸ k1))];exact k2⟩⟩,he⟩
 ·obtain ⟨k,vs,T2,k1,k2,k3⟩:=hI.box β cs hβ
  exact ⟨k,vs,T2,k1,by rw [hother k (fun e=>hbox β (e ▸ k1))];exact k2,k3.mono he⟩
 ·obtain ⟨k1,k2⟩:=hI.boxcl β k hβ
  exact ⟨by omega,k2⟩
 ·obtain ⟨v,k1,k2,k4⟩:=hI.tip τ e s n ht
  refine ⟨v,k1,fun hs=>?_,k4⟩
  obtain ⟨xs,k2,k3⟩:=k2 hs
  have hvb:=htip τ _ v ht k1 hs
  refine ⟨xs,k2.kept (row:=some b) ⟨hos,htp,hou,by omega,fun k _ hk=>hother k (fun e=>hk (by rw [e]))⟩ (.inr hvb),fun k hk=>?_⟩
  obtain ⟨k5,k6⟩:=k3 k hk
  exact ⟨k5,k6.1,k6.2.same (hother k (fun e=>hvb (e ▸ hk)))⟩
end
end Go.Abs
namespace Go.Proofs.YtgephffbfiemeaaGreatDoor
open Go.Abs Go.Lib Go.RowKit
set_option linter.all false
set_option maxRecDepth 100000
theorem uH:Tryz.prog.cellsOf 5=1:=OA
set_option maxHeartbeats 2000000 in
theorem yA (b g cap:Nat) (p:Value) (cur:Array Value) (l:List UInt8) (w:World) (hbk:w.heap[b]? =some (.cells #[p, .slice (some ⟨g,0,none⟩) l.length cap] 222 (0,0))) (hg:w.heap[g]? =some (.cells cur 5 (0,0)))
  (hnc:l.length≤cap) (hcm:cap≤maxLen) (hcs:cur.size=cap) (htake:cur.toList.take l.length=byteCells l) (h0:l≠ []) :
  Calls Tryz.prog 174 #[.pointer (some ⟨b,0,none⟩)] w fun e w'=>e= .returned (.string ⟨l.toArray⟩)∧w'=w.drew.freeze ⟨g,0,none⟩ l.length:=by
 have hl0:l.length≠0:=PE
 have c1:w.drew.cell? ⟨b,1,none⟩=some (.slice (some ⟨g,0,none⟩) l.length cap):=by
  have h:w.drew.heap[b]? =some (.cells #[p, .slice (some ⟨g,0,none⟩) l.length cap] 222 (0,0)):=hbk
  rw [Lib.cell_of_heap h];rfl
 have hSD:(Builtin.unsafeSliceData_ #[135] 286 #[.slice (some ⟨g,0,none⟩) l.length cap]).run Tryz.prog w.drew= .ok (.pointer (some ⟨g,0,none⟩)) w.drew :=
  Lib.run_unsafeSliceData_row _ _ _ _ _ _ Oz
 have hUS:(Builtin.unsafeString_ #[286,3] 9 #[.pointer (some ⟨g,0,none⟩), .int .i64 l.length]).run Tryz.prog w.drew= .ok (.string ⟨l.toArray⟩) (w.drew.freeze ⟨g,0,none⟩ l.length):=by
  refine Lib.run_unsafeString_row w.drew _ _ _ 5 Tryz.underlying286 uH g cur.size (by have hg':w.drew.heap[g]? =some (.cells cur 5 (0,0)):=hg;simp [World.shape?,hg']) l h0 Oz (by unfold maxLen at hcm;omega) ?_
  intro j x hx
  have hg':w.drew.heap[g]? =some (.cells cur 5 (0,0)):=hg
  have hj:j<l.length:=(List.getElem?_eq_some_iff.1 hx).1
  have:(cur.toList.take l.length)[j]? =some (.int .u8 x.toNat):=by rw [htake];simp [Lib.byteCells,hx]
  rw [List.getElem?_take,if_pos hj] at this
  rw [bE]
  rw [Lib.cell_of_heap hg',Nat.zero_add,←Array.getElem?_toList]
  exact this
 have mixed:Tryz.prog.follows .mixedOrders=true:=OA
 go_enter Tryz.func174,Tryz.ntmps174
 go_wp2
 go_region_o
 all_goals (go_wp2;go_ret;exact ⟨rfl,rfl⟩)
end Go.Proofs.YtgephffbfiemeaaGreatDoor
namespace Go.Proofs.YtgephffbfiemeaaGreatDoor
open Go.Abs Go.Lib Go.RowKit
set_option linter.all false
set_option maxRecDepth 100000
def eH (l:List UInt8):List AV:=l.map fun b=> .int .u8 b.toNat
theorem r5:∀ args w,(callFunc 222 args).run Tryz.prog w= .ok (.enter 222 args) w:=enters_of Tryz.func222 OA rfl
theorem Co:∀ args w,(callFunc 174 args).run Tryz.prog w= .ok (.enter 174 args) w:=enters_of Tryz.func174 OA rfl
theorem pQ {g:Gh} {w:World} {β:Nat} {vs:List Value} (hv:bQ g w [.ptr β 0] vs):∃ b,vs= [.pointer (some ⟨b,0,none⟩)]∧g.box β=some b:=by
 obtain ⟨v,vs',rfl,h1,h2⟩:=hv.cons_inv
 rw [h2.bK]
 obtain ⟨b,rfl,hb⟩:=h1.fA
 exact ⟨b,rfl,hb⟩
theorem oL {σ:St} {β:Nat} {x:AV} (hb:σ.box β=some [.ptr β 0,x]):AC Tryz.prog 222 [.ptr β 0] σ (fun r s=>r= .tup []∧s=σ):=by
 intro g w vs hI hv
 obtain ⟨b,rfl,hg⟩:=pQ hv
 obtain ⟨b',cs,T,h1,h2,h3⟩:=hI.box β _ hb
 rw [hg] at h1;cases h1
 obtain ⟨v0,r0,hl,hv0,_⟩:=h3.1.cons_inv
 obtain ⟨b2,rfl,hb2⟩:=hv0.fA
 rw [hg] at hb2;cases hb2
 have hc:w.cell? ⟨b,0,none⟩=some (.pointer (some ⟨b,0,none⟩)):=by
  rw [Lib.cell_of_heap h2,←Array.getElem?_toList,hl];rfl
 refine .inl ⟨r5 _ _,(Fz b w hc).mono ?_⟩
 rintro e w' ⟨rfl,rfl⟩
 exact ⟨_, .tup [],σ,g,rfl,⟨rfl,rfl⟩,hI, .refl g w', .dA .nil⟩
theorem _root_.PB {p:Prop} (h:p:=by rw [←Array.toArray_toList (xs:=cs),hl]):p:=h
theorem mQ {σ:St} {β:Nat} {x:AV} (hb:σ.box β=some [.nilp,x]) (ht:σ.bt β=some 222):AC Tryz.prog 222 [.ptr β 0] σ (fun r s=>r= .tup []∧s=σ.ad β [.ptr β 0,x]):=by
 intro g w vs hI hv
 obtain ⟨b,rfl,hg⟩:=pQ hv
 obtain ⟨b',cs,T,h1,h2,h3⟩:=hI.box β _ hb
 rw [hg] at h1;cases h1
 obtain ⟨b',cs',h1,h2'⟩:=hI.bty β _ ht
 rw [hg] at h1;cases h1
 rw [h2] at h2';cases h2'
 obtain ⟨v0,r0,hl,hv0,hr0⟩:=h3.1.cons_inv
 obtain ⟨v1,r1,rfl,hv1,hr1⟩:=hr0.cons_inv
 rw [hr1.bK] at hl
 have hv0':v0= .pointer none:=by cases hv0;rfl
 subst hv0'
 have hc:w.cell? ⟨b,0,none⟩=some (.pointer none):=by
  rw [Lib.cell_of_heap h2,←Array.getElem?_toList,hl];rfl
 have hsz:cs.size=2:=by rw [←Array.length_toList,hl];rfl
 have hfz:=Lib.frozen_of_heap h2 0
 refine .inl ⟨r5 _ _,(Cn b w hc (by simp only [World.shape?,h2,hsz]) hfz).mono ?_⟩
 rintro e w' ⟨rfl,rfl⟩
 obtain ⟨w2,q1,q2,q3⟩:=gY (P:=Tryz.prog) hI hb hg (off:=0) (us:= [.pointer (some ⟨b,0,none⟩)]) (cs':= [.ptr β 0]) ⟨.cons (.ptr β 0 b hg) .nil,by simp [Value.oneCell']⟩ OF
 have hw:w2=w.setCell ⟨b,0,none⟩ (.pointer (some ⟨b,0,none⟩)):=by
  have hfz':w.frozen? ((⟨b,0,none⟩:Addr).add 0)=false:=hfz
  have:=run_storeCells_at Tryz.prog b 0 222 [.pointer (some ⟨b,0,none⟩)] 0 cs w h2 OS (by simp [Value.oneCell'])
  rw [this] at q1
  simp only [Result.ok.injEq,true_and] at q1
  rw [←q1]
  have hcs:cs= #[.pointer none,v1]:=PB
  subst hcs
  have hh:(w.setRow b ((List.take (0+0) (#[Value.pointer none,v1]:Array Value).toList++ [Value.pointer (some ⟨b,0,none⟩)]++List.drop (0+0 + [Value.pointer (some ⟨b,0,none⟩)].length) (#[Value.pointer none,v1]:Array Value).toList).toArray)).heap=(w.setCell ⟨b,0,none⟩ (.pointer (some ⟨b,0,none⟩))).heap:=by
   refine Array.ext_getElem? (fun i=>?_)
   simp only [World.setRow,World.setCell,Array.getElem?_modify]
   split
   ·rename_i e;subst e;rw [h2];simp
   ·rfl
  show World.setRow w b _=_
  calc w.setRow b _={ w with heap:=(w.setRow b ((List.take (0+0) (#[Value.pointer none,v1]:Array Value).toList++ [Value.pointer (some ⟨b,0,none⟩)]++List.drop (0+0 + [Value.pointer (some ⟨b,0,none⟩)].length) (#[Value.pointer none,v1]:Array Value).toList).toArray)).heap }:=rfl
   _={ w with heap:=(w.setCell ⟨b,0,none⟩ (.pointer (some ⟨b,0,none⟩))).heap }:=by rw [hh]
   _=_:=rfl
 subst hw
 exact ⟨_, .tup [],_,g,rfl,⟨rfl,rfl⟩,by simpa using q2,q3, .dA .nil⟩
def bB (β τ:Nat) (l:List UInt8):List AV:=match l with
 | []=> [.nilp, .nils]
 | _::_=> [.ptr β 0, .tsl τ l.length (eH l)]
def bT (σ:St) (τ:Nat) (l:List UInt8):St:=match l with
 | []=>σ
 | _::_=>σ.ai τ (5,1,l.length)
def bS (σ:St) (β τ:Nat) (l:List UInt8):St:=(bT σ τ l).ad β (bB β τ l)
theorem pR (σ:St) (β τ:Nat) (l:List UInt8):(bS σ β τ l).box β=some (bB β τ l):=by simp [bS,St.ad,upd]
theorem r6 (σ:St) {β γ:Nat} (τ:Nat) (l:List UInt8) [h:Apart γ β]:(bS σ β τ l).box γ=σ.box γ:=by
 cases l<;>simp [bS,bT,St.ad,St.ai,upd,h.ne]
theorem K9 (σ:St) (β τ:Nat) (l:List UInt8):(bS σ β τ l).bt=σ.bt:=by cases l<;>rfl
theorem vC (σ:St) (β τ:Nat) (l:List UInt8):(bS σ β τ l).glob=σ.glob:=by cases l<;>rfl
theorem I9 (σ:St) {β γ:Nat} (τ:Nat) (l:List UInt8) (c:List AV) [h:Apart γ β]:(bS σ β τ l).ad γ c=bS (σ.ad γ c) β τ l:=by
 have hc:∀ (s:St) (d:List AV),(s.ad β d).ad γ c=(s.ad γ c).ad β d:=fun s d=>by
  simp only [St.ad,St.mk.injEq,and_true]
  funext j
  simp only [upd]
  by_cases h1:j=γ
  ·subst h1;rw [if_pos rfl,if_neg h.ne,if_pos rfl]
  ·rw [if_neg h1,if_neg h1]
 cases l<;>exact hc _ _
theorem uI (σ:St) (β τ:Nat):bS σ β τ []=σ.ad β [.nilp, .nils]:=rfl
theorem lf {σ:St} {β:Nat} {c:List AV} (h:σ.box β=some c):σ.ad β c=σ:=by
 unfold St.ad
 have:upd σ.box β c=σ.box:=by
  funext j
  simp only [upd]
  split
  ·rename_i e;subst e;exact h.symm
  ·rfl
 rw [this]
theorem pS {σ:St} {β γ τ:Nat} {l:List UInt8}:(bS σ β τ l).box γ=none↔(Apart γ β∧Apart β γ)∧σ.box γ=none:=by
 unfold bS
 rw [St.aG]
 cases l<;>rfl
theorem Gt {σ s:St} {β τ:Nat} {l:List UInt8} (h:St.le s σ) (hn:s.box β=none) (ht:l≠ []→s.tip τ=none):St.le s (bS σ β τ l):=by
 cases l with
 | nil=>exact St.aL h hn
 | cons x l=>exact St.aL (St.fg h (ht OF)) hn
def BW (f:Nat) (xs:List AV) (r:AV) (β:Nat) (m:List UInt8):Prop:=∀ (σ:St) (τ:Nat) (l:List UInt8),(l≠ []→σ.tip τ=none)→σ.bt β=some 222→l.length+m.length≤1000000000000 →
 AC Tryz.prog f (.ptr β 0::xs) (bS σ β τ l) (fun v s=>v=r∧∃ τ',σ.tip τ'=none∧(l≠ []→τ'=τ)∧s=bS σ β τ' (l++m))
theorem _root_.OL {p:Prop} (h:p:=by simp only [RR,seval]):p:=h
theorem fI (β:Nat) (c:UInt8):BW 228 [.int .u8 c.toNat] .nili β [c]:=by
  intro σ τ l hτ hbt hl
  simp only [List.length_cons,List.length_nil] at hl
  refine aT H7 Mz ?_
  simp only [H7,↓R1,RR,seval]
  cases l with
  | nil =>
    rw [uI]
    refine AC.mono (AC.wk (mQ (β:=β) (x:= .nils) OL (by simpa [St.ad] using hbt)) (aa _)) ?_
    rintro _ _ ⟨rfl,rfl⟩
    simp only [↓R1,RR,seval]
    refine mw (n:=0) (cs:= []) rfl trivial rfl rfl rfl ?_ ?_ (fun ρ hρ=>?_)
    · unfold maxLen;decide
    · decide
    simp only [↓R1,RR,seval]
    refine b7 ⟨rfl,ρ,hρ,(fun h=>absurd rfl h),?_⟩
    simp [bS,bT,bB,eH]
    rfl
  | cons x l =>
    have hT:(bS σ β τ (x::l)).box β=some [.ptr β 0, .tsl τ (l.length+1) (eH (x::l))]:=pR _ _ _ _
    refine AC.mono (AC.wk (oL (β:=β) hT) (aa _)) ?_
    rintro _ _ ⟨rfl,rfl⟩
    simp only [hT,↓R1,RR,seval]
    simp only [List.length_cons] at hl
    refine bx rfl ?_ ?_ rfl ?_ ?_ ?_
    · simp [bS,bT,St.ad,St.ai,upd]
    · simp [eH]
    · unfold maxLen;omega
    · omega
    simp only [hT,↓R1,RR,seval]
    refine b7 ⟨rfl,τ,hτ OF,fun _=>rfl,?_⟩
    simp [bS,bT,bB,eH,St.ad,St.ai]
    constructor<;>(funext j;simp only [upd];split<;>rfl)
theorem iW (β:Nat) (m:List UInt8) (hm:m≠ []):BW 173 [.str m] (.tup [.int .i64 m.length, .nili]) β m:=by
  intro σ τ l hτ hbt hl
  refine aT HP Mg ?_
  simp only [HP,↓R1,RR,seval]
  cases l with
  | nil =>
    rw [uI]
    refine AC.mono (AC.wk (mQ (β:=β) (x:= .nils) OL (by simpa [St.ad] using hbt)) (aa _)) ?_
    rintro _ _ ⟨rfl,rfl⟩
    simp only [mB,↓R1,RR,seval]
    simp only [List.length_nil] at hl
    refine ya hm ?_ ?_ (fun ρ hρ=>?_)
    · unfold maxLen;omega
    · omega
    simp only [↓R1,RR,seval]
    refine b7 ⟨rfl,ρ,hρ,(fun h=>absurd rfl h),?_⟩
    cases m with
    | nil=>exact (hm rfl).elim
    | cons y m=>simp [bS,bT,bB,eH];rfl
  | cons x l =>
    have hT:(bS σ β τ (x::l)).box β=some [.ptr β 0, .tsl τ (l.length+1) (eH (x::l))]:=pR _ _ _ _
    refine AC.mono (AC.wk (oL (β:=β) hT) (aa _)) ?_
    rintro _ _ ⟨rfl,rfl⟩
    simp only [mB,hT,↓R1,RR,seval]
    simp only [List.length_cons] at hl
    refine x9 hm ?_ ?_ ?_ ?_ ?_
    · simp [bS,bT,St.ad,St.ai,upd]
    · simp [eH]
    · unfold maxLen;omega
    · omega
    simp only [hT,↓R1,RR,seval]
    refine b7 ⟨rfl,τ,hτ OF,fun _=>rfl,?_⟩
    simp [bS,bT,bB,eH,St.ad,St.ai]
    (repeat' apply And.intro)
    all_goals first|omega|(funext j;simp only [upd];split<;>simp [Nat.add_assoc,Nat.add_comm])
theorem BW.used {f β τ:Nat} {xs:List AV} {r:AV} {m l:List UInt8} {σ:St} (h:BW f xs r β m) (h0:l≠ []) (hτ:σ.tip τ=none) (hb:σ.bt β=some 222) (hl:l.length+m.length≤1000000000000) :
  AC Tryz.prog f (.ptr β 0::xs) (bS σ β τ l) (fun v s=>v=r∧s=bS σ β τ (l++m)) :=
 (h σ τ l (fun _=>hτ) hb hl).mono (by rintro v s ⟨rfl,τ',_,h2,rfl⟩;rw [h2 h0];exact ⟨rfl,rfl⟩)
theorem La (σ:St) (β τ:Nat) (l:List UInt8):AC Tryz.prog 186 [.ptr β 0] (bS σ β τ l) (fun v s=>v= .int .i64 l.length∧s=bS σ β τ l):=by
  refine aT E6 Mh ?_
  have hT:(bS σ β τ l).box β=some (bB β τ l):=pR _ _ _ _
  cases l with
  | nil =>
    simp only [E6,hT,bB,↓R1,RR,seval]
    exact b7 ⟨rfl,rfl⟩
  | cons x l =>
    simp only [E6,hT,bB,↓R1,RR,seval]
    exact b7 ⟨rfl,rfl⟩
theorem mR {σ:St} {β τ:Nat} {l:List UInt8} (hτ:l≠ []→σ.tip τ=none) (hbt:σ.bt β=some 222):AC Tryz.prog 174 [.ptr β 0] (bS σ β τ l) (fun v s=>v= .str l∧s=σ.ad β (bB β τ l)):=by
  intro g w vs hI hv
  obtain ⟨b,rfl,hg⟩:=pQ hv
  have hT:(bS σ β τ l).box β=some (bB β τ l):=pR _ _ _ _
  obtain ⟨b',cs,T,h1,h2,h3⟩:=hI.box β _ hT
  rw [hg] at h1;cases h1
  obtain ⟨b',cs',h1,h2'⟩:=hI.bty β _ (by rw [K9];exact hbt)
  rw [hg] at h1;cases h1
  rw [h2] at h2';cases h2'
  refine .inl ⟨Co _ _,?_⟩
  cases l with
  | nil =>
    obtain ⟨v0,r0,hl,hv0,hr0⟩:=h3.1.cons_inv
    obtain ⟨v1,r1,rfl,hv1,hr1⟩:=hr0.cons_inv
    rw [hr1.bK] at hl
    have hv1':v1= .slice none 0 0:=by cases hv1;rfl
    subst hv1'
    have hcs:cs= #[v0, .slice none 0 0]:=PB
    subst hcs
    refine (Any.Builder_String_nil Tryz.Fg Tryz.jU w.heap.size b v0 w h2).mono ?_
    rintro e w' ⟨rfl,hb⟩
    exact ⟨_, .str [],_,_,rfl,⟨rfl,rfl⟩,hI.below hb,Ext.below g hb, .str []⟩
  | cons x m =>
    generalize hlx:x::m=l at *
    have h0:l≠ []:=by rw [←hlx];simp
    have hτ:=hτ h0
    have hbB:bB β τ l= [.ptr β 0, .tsl τ l.length (eH l)]:=by rw [←hlx];rfl
    have hbSt:bS σ β τ l=(σ.ai τ (5,1,l.length)).ad β (bB β τ l):=by rw [←hlx];rfl
    rw [hbB] at h3
    obtain ⟨v0,r0,hl,hv0,hr0⟩:=h3.1.cons_inv
    obtain ⟨v1,r1,rfl,hv1,hr1⟩:=hr0.cons_inv
    rw [hr1.bK] at hl
    have hcs:cs= #[v0,v1]:=PB
    subst hcs
    have htip:(bS σ β τ l).tip τ=some (5,1,l.length):=by rw [hbSt];simp [St.ad,St.ai,upd]
    obtain ⟨v,k1,k2,k4⟩:=hI.tip τ _ _ _ htip
    have hv1t:=hv1.lL
    rw [k1] at hv1t
    cases hv1t
    have hheld:Held l.length v1:= .inr PE
    obtain ⟨xs,hown,hblk⟩:=k2 hheld
    obtain ⟨hxl,hown⟩:=hown
    rcases hown with ⟨rfl,hz⟩|⟨gb,cap,cur,rfl,_,hgb,hnc,hcm,hsz,htk⟩
    · exact absurd (List.length_eq_zero_iff.1 hz) h0
    obtain ⟨hcl,hnb,hrow⟩:=hblk gb rfl
    have hlies:=hv1.bL (n:=l.length) (cs:=eH l) rfl
    rcases hlies with ⟨x,hx,hx2,_⟩|⟨b2,off,cap2,u,hx,hx2,hL⟩
    · exact absurd (List.length_eq_zero_iff.1 hx2) h0
    cases hx
    have hcell:cur.toList.take l.length=byteCells l:=by
      apply List.ext_getElem?
      intro i
      rw [List.getElem?_take]
      split
      · rename_i hi
        have hr:=hL.rel.1
        have hc1:(eH l)[i]? =some (.int .u8 (l[i]).toNat):=by simp [eH,hi]
        obtain ⟨v,hv,hrv⟩:=hr.get hc1
        have:=hL.cell i v hv
        rw [Lib.cell_of_heap hgb,Nat.zero_add,←Array.getElem?_toList] at this
        rw [this,hrv.a8]
        simp [byteCells,hi]
      · rename_i hi
        rw [List.getElem?_eq_none (by simp [byteCells];omega)]
    refine (yA b gb cap v0 cur l w h2 hgb hnc hcm Oz hcell h0).mono ?_
    rintro e w' ⟨rfl,rfl⟩
    have hI2:=eU hI τ
    have hI3:=iv hI2
    have hst:(bS σ β τ l).dv τ=σ.ad β (bB β τ l):=by
      rw [hbSt]
      simp only [St.dv,St.ad,St.ai,St.mk.injEq,true_and,and_true]
      funext j
      simp only [upd]
      split
      · rename_i e;subst e;exact hτ.symm
      · rfl
    rw [hst] at hI3
    have htt:∀ τ' x v,(σ.ad β (bB β τ l)).tip τ'=some x→g.tip τ' x.2.2=some v→Held x.2.2 v→v.ownBlock≠some gb:=by
      intro τ' x v hx hv hh
      have hne:τ'≠τ:=by
        rintro rfl
        rw [show (σ.ad β (bB β τ' l)).tip=σ.tip from rfl,hτ] at hx
        cases hx
      have hx':(bS σ β τ l).tip τ'=some x:=by
        rw [hbSt]
        show upd σ.tip τ _ τ'=some x
        rw [upd,if_neg hne];exact hx
      exact hI.tipinj τ τ' _ x _ v gb htip hx' (fun e=>hne e.symm) k1 hv hheld hh rfl
    have hgd:w.drew.heap[gb]? =some (.cells cur 5 (0,0)):=hgb
    obtain ⟨hI4,he4⟩:=uG (n:=l.length) hI3 hgd hcl hnb htt
    exact ⟨_, .str l,_,g,rfl,⟨rfl,rfl⟩,hI4,(eN (g:=g) (w:=w)).trans he4, .str l⟩
end Go.Proofs.YtgephffbfiemeaaGreatDoor
namespace Go.Proofs.YtgephffbfiemeaaGreatDoor
open Go.Abs
set_option linter.all false
set_option maxRecDepth 100000
theorem Ja (b:UInt8):Pu Tryz.prog 229 [.int .u8 b.toNat] (.bool (eP b)):=by
 (refine av H8 MA fun σ=>?_;simp only [H8,↓R1,RR,seval])
 skip
 all_goals (refine aq (af ?_))
 all_goals (simp only [ar,RR,seval])
 all_goals rfl
theorem Lb (b:UInt8):Pu Tryz.prog 230 [.int .u8 b.toNat] (.bool (cd b)):=by
 (refine av H9 MB fun σ=>?_;simp only [H9,↓R1,RR,seval])
 repeat' ((first|(refine b8 (fun hc=>?_) (fun hc=>?_)<;>(try simp only [hc,↓R1,RR,seval]))|(refine Pt (Ja b) ?_))<;>(try simp only [↓R1,RR,seval]))
 all_goals (refine aq (af ?_))
 all_goals (simp only [ar,RR,seval])
 all_goals simp only [cd,hc,Bool.true_and,Bool.false_and]
theorem Jb (b:UInt8):Pu Tryz.prog 246 [.int .u8 b.toNat] (.bool (aU b)):=by
 (refine av Ih MH fun σ=>?_;simp only [Ih,↓R1,RR,seval])
 skip
 all_goals (refine aq (af ?_))
 all_goals (simp only [ar,RR,seval])
 all_goals rfl
theorem oM (b:UInt8):b.toNat<256:=b.toNat_lt
def Jc (n:Nat):Int :=
 bif decide ((48:Int)≤n)&&decide ((n:Int)≤57) then IntKind.u8.wrap ((n:Int) - 48)
 else bif decide ((97:Int)≤bits .or .u8 n 32)&&decide (bits .or .u8 n 32≤102) then IntKind.u8.wrap (IntKind.u8.wrap (bits .or .u8 n 32 - 97)+10) else 16
theorem Cp:((List.range 256).all fun n=>Jc n == ((if 48≤n∧n≤57 then n - 48 else if 97≤n∧n≤102 then n - 87 else if 65≤n∧n≤70 then n - 55 else 16:Nat):Int))=true:=OA
theorem FA (b:UInt8):Jc b.toNat=iN b:=by
 have:=List.all_eq_true.1 Cp b.toNat (List.mem_range.2 (oM b))
 exact beq_iff_eq.1 this
theorem Lc (b:UInt8):Pu Tryz.prog 294 [.int .u8 b.toNat] (.int .u8 (iN b)):=by
 rw [←FA]
 (refine av Iu MR fun σ=>?_;simp only [Iu,↓R1,RR,seval])
 repeat' ((refine aj (fun hc=>?_) (fun hc=>?_))<;>(try simp only [↓R1,RR,seval]))
 all_goals (refine aq (af ?_))
 all_goals (simp only [ar,RR,seval])
 all_goals simp only [Jc, *,cond_true,cond_false]
theorem dF {σ:St} {β k:Nat} {l:List UInt8} (hb:σ.box β=some [.str l, .int .i64 k]):AC Tryz.prog 199 [.ptr β 0] σ (fun r s=>r= .bool (decide ((k:Int)<l.length))∧s=σ):=by
 haveI:BoxIs σ β [.str l, .int .i64 k]:=⟨hb⟩
 (refine aT HX Mp ?_;simp only [HX,↓R1,RR,seval])
 skip
 all_goals (refine aq (af ?_))
 all_goals (simp only [ar,RR,seval])
theorem cv {l r:List UInt8} {k:Nat} {c:UInt8} (h:l.drop k=c::r):l[k]? =some c∧k<l.length∧l.drop (k+1)=r:=by
 have h1:l[k]? =some c:=by
  have:=List.getElem?_drop (xs:=l) (i:=k) (j:=0)
  rw [h] at this;simpa using this.symm
 refine ⟨h1,(List.getElem?_eq_some_iff.1 h1).1,?_⟩
 rw [←List.drop_drop,h];rfl
theorem eI {σ:St} {β k:Nat} {l r:List UInt8} {c:UInt8} (hb:σ.box β=some [.str l, .int .i64 k]) (hr:l.drop k=c::r):AC Tryz.prog 200 [.ptr β 0] σ (fun r s=>r= .int .u8 c.toNat∧s=σ):=by
 haveI:BoxIs σ β [.str l, .int .i64 k]:=⟨hb⟩
 obtain ⟨h1,h2,_⟩:=cv hr
 (refine aT HY Mq ?_;simp only [HY,↓R1,RR,seval,h1])
 repeat' (with_reducible refine And.intro ?_ ?_;exact ak)
 (refine aq (af ?_))
 (simp only [ar,RR,seval])
theorem pT {σ:St} {β k:Nat} {l r:List UInt8} {c:UInt8} (hb:σ.box β=some [.str l, .int .i64 k]) (hr:l.drop k=c::r) (hl:l.length≤1000000):AC Tryz.prog 270 [.ptr β 0] σ (fun r s=>r= .int .u8 c.toNat∧s=σ.ad β [.str l, .int .i64 (k+1:Nat)]):=by
 haveI:BoxIs σ β [.str l, .int .i64 k]:=⟨hb⟩
 obtain ⟨h1,h2,_⟩:=cv hr
 have hw:IntKind.i64.wrap ((k:Int)+1)=((k+1:Nat):Int):=OD
 have hw2:IntKind.i64.wrap (((k+1:Nat):Int) - 1)=(k:Nat):=OD
 (refine aT Ip MN ?_;simp only [Ip,↓R1,RR,seval,h1,hw,hw2])
 repeat' (with_reducible refine And.intro ?_ ?_;exact ak)
 (refine b7 ?_)
 exact ⟨rfl,rfl⟩
def posOf (l r:List UInt8):Nat:=l.length - r.length
theorem eJ (l:List UInt8) (k:Nat) (h:k≤l.length):(l.drop k= []∧k=l.length)∨∃ c r,l.drop k=c::r∧k<l.length:=by
  cases hd:l.drop k with
  | nil =>
    have:=congrArg List.length hd
    simp at this
    exact .inl ⟨rfl,by omega⟩
  | cons c r=>exact .inr ⟨c,r,rfl,(cv hd).2.1⟩
theorem mS (l:List UInt8) (k:Nat) (h:k≤l.length):posOf l (l.drop k)=k:=by simp [posOf];omega
theorem jX {l r:List UInt8} {k:Nat} {c:UInt8} (h:l.drop k=c::r):posOf l r=k+1:=by
 obtain ⟨_,h2,h3⟩:=cv h
 rw [←h3];exact mS l (k+1) h2
theorem ij {l r:List UInt8} (h:r <:+ l):l.drop (posOf l r)=r∧posOf l r≤l.length:=by
 obtain ⟨p,rfl⟩:=h
 have:posOf (p++r) r=p.length:=by simp [posOf]
 rw [this]
 exact ⟨by simp,by simp⟩
theorem jY (l:List UInt8) (k:Nat):l.drop k <:+ l:=List.drop_suffix k l
set_option maxHeartbeats 1000000 in
theorem Cq {σ:St} {β k:Nat} {l:List UInt8} (hb:σ.box β=some [.str l, .int .i64 k]) (hk:k≤l.length) (hl:l.length≤1000000):AC Tryz.prog 198 [.ptr β 0] σ (fun r s=>r= .tup []∧s=σ.ad β [.str l, .int .i64 (posOf l ((l.drop k).dropWhile aU):Nat)]):=by
  have hc1:True:=trivial
  have hp:True:=trivial
  have hw:True:=trivial
  (refine aT HW Mo ?_;simp only [HW,↓R1,RR])
  refine cn (α:=Nat) (fun _=> [(0, .ptr β 0)]) (fun j=>σ.ad β [.str l, .int .i64 (j:Nat)]) (fun j=>j≤l.length∧(l.drop j).dropWhile aU=(l.drop k).dropWhile aU) (fun j=>l.length - j) k OP (by simp only [St.le,St.ad,upd];exact ⟨fun γ c h=>by split at h<;>simp_all,fun _ _ h=>h,fun _ _ h=>h,fun _ _ h=>h,fun _ _ h=>h⟩) ⟨hk,rfl⟩ ?_
  rintro j ⟨hj,hI⟩
  simp only [↓R1,RR,reduceCtorEq]
  have a1:=dF (σ:=σ.ad β [.str l, .int .i64 (j:Nat)]) (β:=β) (k:=j) (l:=l) (by simp only [RR])
  rcases eJ l j hj with ⟨hd,rfl⟩|⟨c,r,hd,hlt⟩
  · have hc1:decide ((l.length:Int)<(l.length:Int))=false:=by simp
    simp only [hc1] at a1
    repeat' (((refine AC.mono (AC.wk (a1) (aa _)) ?_;(rintro _ _ ⟨rfl,rfl⟩)))<;>(try simp only [↓R1,RR,Nat.reduceEqDiff,reduceCtorEq]))
    (refine b7 ?_)
    rw [←hI,hd]
    exact ⟨rfl,rfl⟩
  · have hc1:decide ((j:Int)<(l.length:Int))=true:=by simpa using hlt
    have hw:IntKind.i64.wrap ((j:Int)+1)=((j+1:Nat):Int):=OD
    simp only [hc1] at a1
    have a2:=eI (σ:=σ.ad β [.str l, .int .i64 (j:Nat)]) (β:=β) (k:=j) (l:=l) (by simp only [RR]) hd
    have a3:=Jb c
    cases hp:aU c with
    | true =>
      rw [hp] at a3
      repeat' ((first|((refine AC.mono (AC.wk (a1) (aa _)) ?_;(rintro _ _ ⟨rfl,rfl⟩)))|((refine AC.mono (AC.wk (a2) (aa _)) ?_;(rintro _ _ ⟨rfl,rfl⟩)))|(refine Pt (a3) ?_))<;>(try simp only [↓R1,RR,Nat.reduceEqDiff,Nat.reduceAdd,Nat.reduceLeDiff,Nat.reduceLT,reduceCtorEq,hw]))
      refine ⟨j+1,⟨by omega,?_⟩,by simp [aK,slot,ae],St.le_refl _,by omega⟩
      rw [←hI,hd,(cv hd).2.2,List.dropWhile_cons,hp];rfl
    | false =>
      rw [hp] at a3
      repeat' ((first|((refine AC.mono (AC.wk (a1) (aa _)) ?_;(rintro _ _ ⟨rfl,rfl⟩)))|((refine AC.mono (AC.wk (a2) (aa _)) ?_;(rintro _ _ ⟨rfl,rfl⟩)))|(refine Pt (a3) ?_))<;>(try simp only [↓R1,RR,Nat.reduceEqDiff,reduceCtorEq]))
      (refine b7 ?_)
      rw [←hI,hd,List.dropWhile_cons,hp]
      refine ⟨rfl,?_⟩
      rw [if_neg OF,←hd,mS l j hj]
theorem eK {P:Program} {σ:St} {K:AV→St→Prop} {f β:Nat} {xs ys c d:List AV} {v:AV} {h:Hold (σ,K)} (hb:σ.box β=some d) (hp:AC P f ys σ (fun x s=>x=v∧s=σ.ad β c)) (hw:wkL xs ys) (hK:K v (σ.ad β c)):tz P f xs σ K h :=
 qT hp hw ⟨rfl,fun γ hγ=>by
  simp only [St.ad,upd]
  split
  ·rename_i e;subst e;rw [hb] at hγ;cases hγ
  ·exact hγ,fun _ h=>h⟩ hK
theorem pU {σ:St} {β:Nat} {c:List AV} (hb:σ.box β=some c):St.le (σ.ad β c) σ :=
 ⟨fun γ d h=>by
  simp only [St.ad,upd] at h
  split at h
  ·rename_i e;subst e;rw [←h];exact hb
  ·exact h,fun _ _ h=>h,fun _ _ h=>h,fun _ _ h=>h,fun _ _ h=>h⟩
def r7 (σ:St) (β:Nat) (l:List UInt8) {α:Type} (o:Option (α × List UInt8)) (val:α→AV) (r:AV) (s:St):Prop :=
 match o with
 | some (x,t)=>r= .tup [val x, .bool true]∧s=σ.ad β [.str l, .int .i64 (posOf l t:Nat)]
 | none=>∃ v j,r= .tup [v, .bool false]∧s=σ.ad β [.str l, .int .i64 (j:Nat)]
def mT (b:UInt8):AV:= .int .u8 b.toNat
theorem Jd {n:Nat} (h:n<256):(UInt8.ofNat n).toNat=n:=by
 rw [UInt8.toNat_ofNat'];exact Nat.mod_eq_of_lt h
theorem FB:((List.range 16).all fun a=>(List.range 17).all fun b=>(a == 16||b == 16||decide (IntKind.u8.wrap (bits .or .u8 (IntKind.u8.wrap ((a:Int)*2^min 4 IntKind.u8.bits)) (bits .and .u8 b 15))=((16*a+b:Nat):Int))&&decide (bits .or .u8 (IntKind.u8.wrap ((a:Int)*2^min 4 IntKind.u8.bits)) (bits .and .u8 b 15)=((16*a+b:Nat):Int))))=true:=OA
theorem nib (a b:Nat) (ha:a<16) (hb:b<16):bits .or .u8 (IntKind.u8.wrap ((a:Int)*2^min 4 IntKind.u8.bits)) (bits .and .u8 b 15)=((16*a+b:Nat):Int):=by
 have h1:=List.all_eq_true.1 FB a (List.mem_range.2 ha)
 have h2:=List.all_eq_true.1 h1 b (List.mem_range.2 Oz)
 have e1:(a == 16)=false:=OS
 have e2:(b == 16)=false:=OS
 simp only [e1,e2,Bool.false_or,Bool.and_eq_true,decide_eq_true_eq] at h2
 exact h2.2
theorem Cr {k n:Nat} (h:k≤n) (hn:n≤1000000):IntKind.i64.wrap ((n:Int) - k)=((n - k:Nat):Int):=by
 rw [wrap64 Oz Oz];omega
set_option maxHeartbeats 1000000 in
theorem Je {σ:St} {β k:Nat} {l:List UInt8} (hb:σ.box β=some [.str l, .int .i64 k]) (hk:k≤l.length) (hl:l.length≤1000000):AC Tryz.prog 287 [.ptr β 0] σ (r7 σ β l (jQ (l.drop k)) mT):=by
  haveI:BoxIs σ β [.str l, .int .i64 k]:=⟨hb⟩
  have hw:=Cr hk hl
  have hlen:(l.drop k).length=l.length - k:=OF
  cases hd:l.drop k with
  | nil =>
    rw [hd] at hlen
    have hc1:decide (((l.length - k:Nat):Int)<2)=true:=by simp at hlen;simp;omega
    (refine aT ug It ?_;simp only [ug,↓R1,RR,Nat.reduceEqDiff,Nat.reduceAdd,Nat.reduceLeDiff,Nat.reduceLT,reduceCtorEq,hw,hc1])
    skip
    refine aA OF OT (ae _) (pU hb) ⟨_,k,rfl,rfl⟩
  | cons c r =>
    cases hr:r with
    | nil =>
      rw [hd,hr] at hlen
      have hc1:decide (((l.length - k:Nat):Int)<2)=true:=by simp at hlen;simp;omega
      (refine aT ug It ?_;simp only [ug,↓R1,RR,Nat.reduceEqDiff,Nat.reduceAdd,Nat.reduceLeDiff,Nat.reduceLT,reduceCtorEq,hw,hc1])
      skip
      refine aA OF OT (ae _) (pU hb) ⟨_,k,rfl,rfl⟩
    | cons c2 r2 =>
      rw [hd,hr] at hlen
      have hc1:decide (((l.length - k:Nat):Int)<2)=false:=by simp at hlen;simp;omega
      have a1:=pT hb hd hl
      have hd2:l.drop (k+1)=c2::r2:=by rw [(cv hd).2.2,hr]
      have hb2:(σ.ad β [.str l, .int .i64 (k+1:Nat)]).box β=some [.str l, .int .i64 (k+1:Nat)]:=by simp only [RR]
      have a2:=pT hb2 hd2 hl
      have d1:=Lc c
      have d2:=Lc c2
      (refine aT ug It ?_;simp only [ug,↓R1,RR,Nat.reduceEqDiff,Nat.reduceAdd,Nat.reduceLeDiff,Nat.reduceLT,reduceCtorEq,hw,hc1])
      repeat' (first|(with_reducible refine And.intro ?_ ?_;exact ak)|((first|(refine eK hb a1 (aa _) ?_)|(refine eK hb2 a2 (aa _) ?_)|(refine Ct (d1) ?_)|(refine Ct (d2) ?_))<;>(try simp only [↓R1,RR,Nat.reduceEqDiff,Nat.reduceLeDiff,reduceCtorEq])))
      have hp1:posOf l r2=k+1+1:=jX hd2
      by_cases h:iN c<16∧iN c2<16
      · have hn:=nib _ _ h.1 h.2
        refine aA (r:= .tup [mT (UInt8.ofNat (16*iN c+iN c2)), .bool true]) OF OT (af ?_) (St.le_refl _) ?_
        · (simp only [ar,RR,Nat.reduceEqDiff])
          rw [show Int.toNat 4=4 from rfl,hn,mT,Jd Oz]
          have e1:decide ((iN c:Int)<16)=true:=OS
          have e2:decide ((iN c2:Int)<16)=true:=OS
          rw [e1,e2];rfl
        · simp only [r7,jQ,if_pos h,hp1,true_and]
      · refine aA (r:= .tup [.int .u8 (bits .or .u8 (IntKind.u8.wrap ((iN c:Int)*2^min (Int.toNat 4) IntKind.u8.bits)) (bits .and .u8 (iN c2) 15)), .bool false]) OF OT (af ?_) (St.le_refl _) ?_
        · (simp only [ar,RR,Nat.reduceEqDiff])
          have:(decide ((iN c:Int)<16)&&decide ((iN c2:Int)<16))=false:=by
            rw [←Bool.not_eq_true,Bool.and_eq_true,decide_eq_true_eq,decide_eq_true_eq];omega
          rw [this]
        · simp only [r7,jQ,if_neg h]
          exact ⟨_,k+1+1,rfl,rfl⟩
theorem r9 (b c:UInt8):((b.toNat:Int) == (c.toNat:Int))=decide (b=c):=by
 rw [Bool.eq_iff_iff];simp only [beq_iff_eq,decide_eq_true_eq,Int.natCast_inj,UInt8.toNat_inj]
theorem Jf (b:UInt8):((b.toNat:Int) == 120)=decide (b=120):=r9 b 120
theorem cW (b:UInt8):((b.toNat:Int) == 34)=decide (b=34):=r9 b 34
theorem mU (b:UInt8):((b.toNat:Int) == 92)=decide (b=92):=r9 b 92
theorem vD (b:UInt8):((b.toNat:Int) == 35)=decide (b=35):=r9 b 35
set_option maxHeartbeats 1000000 in
theorem yB {σ:St} {β k:Nat} {l:List UInt8} (hb:σ.box β=some [.str l, .int .i64 k]) (hk:k≤l.length) (hl:l.length≤1000000):AC Tryz.prog 271 [.ptr β 0] σ (r7 σ β l (jR (l.drop k)) mT):=by
  haveI:BoxIs σ β [.str l, .int .i64 k]:=⟨hb⟩
  have a1:=dF hb
  rcases eJ l k hk with ⟨hd,he⟩|⟨c,r,hd,hlt⟩
  · have hc1:decide ((k:Int)<(l.length:Int))=false:=by simp;omega
    rw [hd]
    (refine aT BD KR ?_;simp only [BD,↓R1,RR,Nat.reduceEqDiff,reduceCtorEq])
    repeat' (((refine AC.mono (AC.wk (a1) (aa _)) ?_;(rintro _ _ ⟨rfl,rfl⟩)))<;>(try simp only [↓R1,RR,Nat.reduceEqDiff,reduceCtorEq,hc1]))
    refine aA OF OT (ae _) (pU hb) ⟨_,k,rfl,rfl⟩
  · have hc1:decide ((k:Int)<(l.length:Int))=true:=by simpa using hlt
    have a2:=pT hb hd hl
    have hb2:(σ.ad β [.str l, .int .i64 (k+1:Nat)]).box β=some [.str l, .int .i64 (k+1:Nat)]:=by simp only [RR]
    have a3:=Je hb2 hlt hl
    rw [(cv hd).2.2] at a3
    have hp1:posOf l r=k+1:=jX hd
    rw [hd]
    (refine aT BD KR ?_;simp only [BD,↓R1,RR,Nat.reduceEqDiff,reduceCtorEq])
    repeat' ((first|(refine aj (fun hc=>?_) (fun hc=>?_))|((refine AC.mono (AC.wk (a1) (aa _)) ?_;(rintro _ _ ⟨rfl,rfl⟩)))|((refine AC.mono (AC.wk (a2) (aa _)) ?_;(rintro _ _ ⟨rfl,rfl⟩))))<;>(try simp only [↓R1,RR,Nat.reduceEqDiff,reduceCtorEq,Jf,cW,mU,hc1]))
    · have h:c=120:=by simpa using hc
      cases hp:jQ r with
      | none =>
        rw [hp] at a3
        refine (AC.wk a3 (aa _)).mono ?_
        rintro _ _ ⟨v,j,rfl,rfl⟩
        simp only [↓R1,RR,Nat.reduceEqDiff,Nat.reduceAdd,Nat.reduceLT,reduceCtorEq]
        (refine b7 ?_)
        simp only [r7,jR,if_pos h,hp]
        exact ⟨v,j,rfl,rfl⟩
      | some q =>
        rw [hp] at a3
        refine (AC.wk a3 (aa _)).mono ?_
        rintro _ _ ⟨rfl,rfl⟩
        simp only [↓R1,RR,Nat.reduceEqDiff,Nat.reduceAdd,Nat.reduceLT,reduceCtorEq]
        (refine b7 ?_)
        simp only [r7,jR,if_pos h,hp]
        exact ⟨rfl,trivial⟩
    · have h:c≠120:=by simpa using hc
      by_cases h2:c=34∨c=92
      · refine aA (r:= .tup [mT c, .bool true]) OF OT (af ?_) (St.le_refl _) ?_
        · (simp only [ar,RR,Nat.reduceEqDiff])
          rcases h2 with rfl|rfl<;>rfl
        · simp only [r7,jR,if_neg h,if_pos h2,hp1,true_and]
      · refine aA (r:= .tup [mT c, .bool false]) OF OT (af ?_) (St.le_refl _) ?_
        · (simp only [ar,RR,Nat.reduceEqDiff])
          have e1:decide (c=34)=false:=decide_eq_false (fun e=>h2 (.inl e))
          have e2:decide (c=92)=false:=decide_eq_false (fun e=>h2 (.inr e))
          rw [e1,e2];rfl
        · simp only [r7,jR,if_neg h,if_neg h2]
          exact ⟨_,k+1,rfl,rfl⟩
theorem oN (p:UInt8→Bool) (l:List UInt8) {k:Nat} (h:k<l.length):(l.take (k+1)).all p=((l.take k).all p&&p l[k]):=by
 rw [←List.take_append_getElem h,List.all_append];simp
theorem jq (l:List UInt8) {k:Nat} (h:k<l.length):((l.map fun b=>AV.int .u8 b.toNat).drop (k*1)).take 1= [.int .u8 l[k].toNat]:=by
 rw [Nat.mul_one,List.drop_eq_getElem_cons Py]
 simp
set_option maxHeartbeats 1000000 in
theorem Ld (l:List UInt8) (hl:l.length≤1000000):Pu Tryz.prog 187 [.str l] (.bool (bareS l)):=by
  have q1:True:=trivial
  have q2:True:=trivial
  have hw:True:=trivial
  have hd:True:=trivial
  (refine av HR Mj fun σ=>?_;simp only [HR,↓R1,RR,seval])
  refine bq l.length (fun k=> [(0, .str l),(6, .sl false l.length (l.map fun b=> .int .u8 b.toNat)),(7, .int .i64 (l.length:Nat)),(8, .int .i64 (k:Nat))]) (fun _=>σ) (fun k=>(l.take k).all cd=true) OP (St.le_refl _) OF (fun k hk hI=>?_)
  by_cases hlt:k<l.length
  · have q1:decide ((k:Int)<(l.length:Int))=true:=by rw [decide_eq_true_eq];omega
    have hd:=jq l hlt
    have hw:IntKind.i64.wrap ((k:Int)+1)=((k+1:Nat):Int):=OD
    have hp:=Lb l[k]
    simp only [↓R1,RR,seval,q1,hd]
    cases hb:cd l[k] with
    | true =>
      rw [hb] at hp
      repeat' (first|(with_reducible refine And.intro ?_ ?_;(focus (first|omega|(intros;(repeat' (with_reducible apply And.intro))<;>first|omega|(simp only [List.length_map];omega)))))|(with_reducible apply And.intro)|((first|refine Pu.to (hp) (aa _) ?_|refine bd (hp) (aa _) ?_);(try simp only [↓R1,RR,seval,hw])))
      all_goals first|(simp only [List.length_map];omega)|skip
      all_goals first|(rw [oN _ _ hlt,hI,hb];rfl)|(simp [aK,slot,ae];done)|exact St.le_refl _
    | false =>
      rw [hb] at hp
      repeat' (first|(with_reducible refine And.intro ?_ ?_;(focus (first|omega|(intros;(repeat' (with_reducible apply And.intro))<;>first|omega|(simp only [List.length_map];omega)))))|((first|refine Pu.to (hp) (aa _) ?_|refine bd (hp) (aa _) ?_);(try simp only [↓R1,RR,seval])))
      all_goals first|(simp only [List.length_map];omega)|skip
      (refine aq (af ?_))
      (simp only [ar,RR,seval])
      have:l.all cd=false:=by
        rw [←Bool.not_eq_true,List.all_eq_true]
        intro h
        have:=h l[k] (List.getElem_mem hlt)
        rw [hb] at this;cases this
      simp only [bareS,this,Bool.false_and]
  · have hke:k=l.length:=by omega
    subst hke
    have q1:decide ((l.length:Int)<(l.length:Int))=false:=OF
    rw [List.take_length] at hI
    by_cases hnil:l= []
    · have q2:(l == [])=true:=by rw [hnil];rfl
      have e:bareS l=false:=by rw [hnil];rfl
      rw [e]
      simp only [↓R1,RR,seval,q1,q2]
      skip
      (refine aq (af ?_))
      (simp only [ar,RR,seval])
    · obtain ⟨c,m,e⟩:∃ c m,l=c::m:=by
        cases l with
        | nil=>exact (hnil rfl).elim
        | cons c m=>exact ⟨c,m,rfl⟩
      have q2:(l == [])=false:=by rw [e];rfl
      have hd:l[0]? =some c:=by rw [e];rfl
      have e2:bareS l=((c.toNat:Int) != 35):=by
        unfold bareS
        rw [hI,Bool.true_and]
        subst e
        show (c != 35)=_
        rw [bne,bne,vD]
        congr 1
      have hl1:0<l.length:=by rw [e];simp
      rw [e2]
      simp only [↓R1,RR,seval,q1,q2,hd]
      repeat' (first|(with_reducible refine And.intro ?_ ?_;(focus (first|omega|(intros;(repeat' (with_reducible apply And.intro))<;>first|omega|(simp only [List.length_map];omega))))))
      all_goals first|omega|skip
      (refine aq (af ?_))
      (simp only [ar,RR,seval])
theorem sa (n:Nat) (h:n<16):(([48,49,50,51,52,53,54,55,56,57,97,98,99,100,101,102]:List UInt8).drop n).take 1= [nI n]:=by
 have:∀ n,n<16→(([48,49,50,51,52,53,54,55,56,57,97,98,99,100,101,102]:List UInt8).drop n).take 1= [nI n]:=OK
 exact this n h
def vE (σ:St) (β:Nat) (l:List UInt8) (o:Option (List UInt8 × List UInt8)) (r:AV) (s:St):Prop :=
 match o with
 | some (x,t)=>r= .tup [.str x, .bool true]∧s=σ.ad β [.str l, .int .i64 (posOf l t:Nat)]
 | none=>∃ j,r= .tup [.str [], .bool false]∧s=σ.ad β [.str l, .int .i64 (j:Nat)]
set_option maxHeartbeats 4000000 in
theorem sb {σ:St} {β k:Nat} {l:List UInt8} (hb:σ.box β=some [.str l, .int .i64 k]) (hk:k≤l.length) (hl:l.length≤1000000):AC Tryz.prog 247 [.ptr β 0] σ (vE σ β l (fE (l.drop k))):=by
  have hc1:True:=trivial
  have q1:True:=trivial
  have q2:True:=trivial
  haveI hbi:BoxIs σ β [.str l, .int .i64 k]:=⟨hb⟩
  (refine aT Ii MI ?_;simp only [Ii,↓R1,RR,seval])
  refine ku (fun γ hγ hγt=>?_)
  obtain ⟨_,_⟩:=ag hbi hγ
  simp only [↓R1,RR,seval]
  refine cn (α:=Nat × Nat × List UInt8) (fun _=> [(0, .ptr β 0),(4, .ptr γ 0)]) (fun z=>bS ((σ.bZ γ 222).ad β [.str l, .int .i64 (z.1:Nat)]) γ z.2.1 z.2.2)
    (fun z=>z.1≤l.length∧(z.2.2≠ []→σ.tip z.2.1=none)∧z.2.2.length≤z.1∧fE (l.drop k)=(fE (l.drop z.1)).map fun q=>(z.2.2++q.1,q.2)) (fun z=>l.length - z.1) (k,0,[]) OP
    (by rw [lf (show (σ.bZ γ 222).box β=_ from hb)];exact St.le_refl _) ⟨hk,(fun h=>absurd rfl h),Nat.zero_le _,(by cases fE (l.drop k)<;>simp)⟩ ?_
  rintro ⟨j,τ,out⟩ ⟨hj,hτ,hlen,hI⟩
  simp only at hj hτ hlen hI
  have hbS:∀ (j:Nat) τ out,(bS ((σ.bZ γ 222).ad β [.str l, .int .i64 j]) γ τ out).box β=some [.str l, .int .i64 j]:=fun j τ out=>by
    rw [r6];simp only [RR,seval]
  have hset:∀ (i j:Nat) τ out,(bS ((σ.bZ γ 222).ad β [.str l, .int .i64 i]) γ τ out).ad β [.str l, .int .i64 j]=bS ((σ.bZ γ 222).ad β [.str l, .int .i64 j]) γ τ out:=fun i j τ out=>by
    rw [I9];simp only [RR,seval]
  have hbt:∀ j:Nat,((σ.bZ γ 222).ad β [.str l, .int .i64 j]).bt γ=some 222:=fun j=>St.lQ _ _ _
  have hle:∀ (j:Nat) τ out,(out≠ []→σ.tip τ=none)→St.le (σ.ad β [.str l, .int .i64 j]) (bS ((σ.bZ γ 222).ad β [.str l, .int .i64 j]) γ τ out):=fun j τ out h=>by
    refine Gt (St.ib (St.le_refl _) hγt) ?_ h
    rw [St.aG];exact ⟨⟨by assumption,by assumption⟩,hγ⟩
  have a1:=dF (hbS j τ out)
  simp only [↓R1,RR,seval]
  rcases eJ l j hj with ⟨hd,he⟩|⟨c,r,hd,hlt⟩
  · have hc1:decide ((j:Int)<(l.length:Int))=false:=by simp;omega
    repeat' (((refine AC.mono (AC.wk (a1) (aa _)) ?_;(rintro _ _ ⟨rfl,rfl⟩)))<;>(try simp only [↓R1,RR,seval,hc1]))
    rw [hd,yf,Option.map_none] at hI
    refine aA OF OT (ae _) (hle j τ out hτ) ?_
    rw [hI]
    exact ⟨j,rfl,rfl⟩
  · have hc1:decide ((j:Int)<(l.length:Int))=true:=by simpa using hlt
    have a2:=pT (hbS j τ out) hd hl
    rw [hset] at a2
    have a3:=mR (β:=γ) (τ:=τ) (l:=out) (σ:=(σ.bZ γ 222).ad β [.str l, .int .i64 (j+1:Nat)]) hτ (hbt _)
    have a4:=yB (hbS (j+1) τ out) hlt hl
    rw [(cv hd).2.2] at a4
    have a5:=Ja c
    have hp1:posOf l r=j+1:=jX hd
    rw [hd,ud] at hI
    have hsf:∀ {m:List UInt8},m <:+ r→l.drop (posOf l m)=m∧posOf l m≤l.length:=fun hm=>ij (hm.trans (by rw [←(cv hd).2.2];exact jY _ _))
    have hgrow:∀ (i:Nat) (x:UInt8),AC Tryz.prog 228 (.ptr γ 0:: [.int .u8 x.toNat]) (bS ((σ.bZ γ 222).ad β [.str l, .int .i64 i]) γ τ out) (fun v s=>v= .nili∧∃ τ',σ.tip τ'=none∧s=bS ((σ.bZ γ 222).ad β [.str l, .int .i64 i]) γ τ' (out++ [x])):=fun i x =>
      (fI γ x ((σ.bZ γ 222).ad β [.str l, .int .i64 i]) τ out hτ (hbt i) OS).mono (by rintro v s ⟨rfl,τ',h1,_,h2⟩;exact ⟨rfl,τ',h1,h2⟩)
    by_cases h34:c=34
    · have q1:decide (c=34)=true:=by simpa using h34
      rw [if_pos h34] at hI
      repeat' ((first|((refine AC.mono (AC.wk (a1) (aa _)) ?_;(rintro _ _ ⟨rfl,rfl⟩)))|((refine AC.mono (AC.wk (a2) (aa _)) ?_;(rintro _ _ ⟨rfl,rfl⟩)))|((refine AC.mono (AC.wk (a3) (aa _)) ?_;(rintro _ _ ⟨rfl,rfl⟩))))<;>(try simp only [↓R1,RR,seval,cW,hc1,q1]))
      refine aA (r:= .tup [.str out, .bool true]) OF OT (af (by (simp only [ar,RR,seval]))) (σ':=σ.ad β [.str l, .int .i64 (j+1:Nat)]) ?_ ?_
      · refine St.aL (St.ib (St.le_refl _) hγt) ?_
        rw [St.aG];exact ⟨⟨by assumption,by assumption⟩,hγ⟩
      · rw [hI]
        simp only [vE,Option.map_some,List.append_nil,hp1,and_self]
    · have q1:decide (c=34)=false:=by simpa using h34
      rw [if_neg h34] at hI
      by_cases h92:c=92
      · have q2:decide (c=92)=true:=by simpa using h92
        rw [if_pos h92] at hI
        cases he:jR r with
        | none =>
          rw [he] at a4 hI
          repeat' ((first|((refine AC.mono (AC.wk (a1) (aa _)) ?_;(rintro _ _ ⟨rfl,rfl⟩)))|((refine AC.mono (AC.wk (a2) (aa _)) ?_;(rintro _ _ ⟨rfl,rfl⟩))))<;>(try simp only [↓R1,RR,seval,cW,mU,hc1,q1,q2]))
          refine (AC.wk a4 (aa _)).mono ?_
          rintro _ _ ⟨v,i,rfl,rfl⟩
          rw [hset]
          simp only [↓R1,RR,seval]
          refine aA (r:= .tup [.str [], .bool false]) OF OT (af (by (simp only [ar,RR,seval]))) (hle i τ out hτ) ?_
          rw [hI]
          exact ⟨i,rfl,rfl⟩
        | some q =>
          rw [he] at a4 hI
          obtain ⟨hd1,hd2⟩:=hsf (rC (x:=q.1) he)
          have hql:=ic (x:=q.1) he
          have hrl:r.length=l.length - (j+1):=by rw [←(cv hd).2.2];simp
          have hpq:posOf l q.2=l.length - q.2.length:=rfl
          repeat' ((first|((refine AC.mono (AC.wk (a1) (aa _)) ?_;(rintro _ _ ⟨rfl,rfl⟩)))|((refine AC.mono (AC.wk (a2) (aa _)) ?_;(rintro _ _ ⟨rfl,rfl⟩))))<;>(try simp only [↓R1,RR,seval,cW,mU,hc1,q1,q2]))
          refine (AC.wk a4 (aa _)).mono ?_
          rintro _ _ ⟨rfl,rfl⟩
          rw [hset]
          simp only [mT,↓R1,RR,seval]
          refine (AC.wk (hgrow _ q.1) (aa _)).mono ?_
          rintro _ _ ⟨rfl,τ',hτ',rfl⟩
          simp only [↓R1,RR,seval]
          refine ⟨(posOf l q.2,τ',out++ [q.1]),⟨hd2,fun _=>hτ',?_,?_⟩,by simp [aK,slot,ae],St.le_refl _,?_⟩
          · simp only [List.length_append,List.length_cons,List.length_nil];omega
          · rw [hI]
            simp only [hd1,Option.map_map]
            congr 1
            funext z
            simp
          · simp only;omega
      · have q2:decide (c=92)=false:=by simpa using h92
        rw [if_neg h92] at hI
        cases hpl:eP c with
        | true =>
          rw [hpl] at a5
          rw [hpl,if_pos rfl] at hI
          repeat' ((first|((refine AC.mono (AC.wk (a1) (aa _)) ?_;(rintro _ _ ⟨rfl,rfl⟩)))|((refine AC.mono (AC.wk (a2) (aa _)) ?_;(rintro _ _ ⟨rfl,rfl⟩)))|(refine Pt (a5) ?_))<;>(try simp only [↓R1,RR,seval,cW,mU,hc1,q1,q2]))
          refine (AC.wk (hgrow _ c) (aa _)).mono ?_
          rintro _ _ ⟨rfl,τ',hτ',rfl⟩
          simp only [↓R1,RR,seval]
          refine ⟨(j+1,τ',out++ [c]),⟨hlt,fun _=>hτ',?_,?_⟩,by simp [aK,slot,ae],St.le_refl _,?_⟩
          · simp only [List.length_append,List.length_cons,List.length_nil];omega
          · rw [hI]
            simp only [(cv hd).2.2,Option.map_map]
            congr 1
            funext z
            simp
          · simp only;omega
        | false =>
          rw [hpl] at a5
          rw [hpl,if_neg OF] at hI
          repeat' ((first|((refine AC.mono (AC.wk (a1) (aa _)) ?_;(rintro _ _ ⟨rfl,rfl⟩)))|((refine AC.mono (AC.wk (a2) (aa _)) ?_;(rintro _ _ ⟨rfl,rfl⟩)))|(refine Pt (a5) ?_))<;>(try simp only [↓R1,RR,seval,cW,mU,hc1,q1,q2]))
          refine aA (r:= .tup [.str [], .bool false]) OF OT (af (by (simp only [ar,RR,seval]))) (hle (j+1) τ out hτ) ?_
          rw [hI]
          exact ⟨j+1,rfl,rfl⟩
end Go.Proofs.YtgephffbfiemeaaGreatDoor
namespace Go.Abs
theorem cZ {P:Program} {σ:St} {K:AV→St→Prop} {f:Nat} {xs ys:List AV} {v:AV} {b:Bool} {p:Prop} {h:Hold (σ,K)} (hp:b=true→p∧(∀ σ2,St.le σ σ2→AC P f ys σ2 (fun x s=>x=v∧s=σ2))∧wkL xs ys) (hK:K (.opt b v) σ):mn P b f p xs σ K h :=
 ⟨v,fun hb=>⟨(hp hb).1,fun σ2 hl=>((hp hb).2.1 σ2 hl).wk (hp hb).2.2⟩,hK⟩
theorem fY {P:Program} {σ:St} {K:AV→St→Prop} {f:Nat} {xs:List AV} {p:Prop} {h:Hold (σ,K)} (hK:K (.opt false .junk) σ):mn P false f p xs σ K h :=
 ⟨.junk,(fun hb=>by cases hb),hK⟩
end Go.Abs
namespace Go.Proofs.YtgephffbfiemeaaGreatDoor
open Go.Abs
set_option linter.all false
set_option maxRecDepth 100000
def wdV (k:Nat) (p:Bool × List UInt8):AV:= .agg [.bool p.1, .str p.2, .int .i64 (k:Nat)]
theorem pV {l:List UInt8} {k j:Nat} (hkj:k≤j) (hj:j≤l.length) {p:UInt8→Bool} (h:(l.drop k).dropWhile p=l.drop j):(l.drop k).takeWhile p=(l.drop k).take (j - k):=by
 have h1:=List.takeWhile_append_dropWhile (p:=p) (l:=l.drop k)
 have h2:=List.take_append_drop (j - k) (l.drop k)
 rw [List.drop_drop,show k+(j - k)=j by omega] at h2
 rw [h] at h1
 exact List.append_cancel_right (h1.trans h2.symm)
def sd (σ:St) (β:Nat) (l:List UInt8) (k:Nat) (o:Option (Bool × List UInt8 × List UInt8)) (r:AV) (s:St):Prop :=
 match o with
 | some (q,t,m)=>r= .tup [wdV k (q,t), .bool true]∧s=σ.ad β [.str l, .int .i64 (posOf l m:Nat)]
 | none=>∃ p j,r= .tup [wdV k p, .bool false]∧s=σ.ad β [.str l, .int .i64 (j:Nat)]
theorem gE {σ:St} {u γ:Nat} {c d:List AV} (hn:σ.box γ=none) (h:Apart γ u):St.le (σ.ad u c) ((σ.ad γ d).ad u c):=by
 refine ⟨fun δ x hx=>?_,fun _ _ h=>h,fun _ _ h=>h,fun _ _ h=>h,fun _ _ h=>h⟩
 simp only [St.ad,upd] at hx ⊢
 split
 ·rename_i e;rw [if_pos e] at hx;exact hx
 ·rename_i e
  rw [if_neg e] at hx
  rw [if_neg]
  ·exact hx
  ·rintro rfl;rw [hn] at hx;cases hx
theorem _root_.O5 {p:Prop} (h:p:=by (simp only [ar,RR,seval]);rfl):p:=h
set_option maxHeartbeats 4000000 in
theorem Jg {σ:St} {u k:Nat} {l:List UInt8} {c:UInt8} {r:List UInt8} (hb:σ.box u=some [.str l, .int .i64 k]) (hr:l.drop k=c::r) (hl:l.length≤1000000):AC Tryz.prog 201 [.ptr u 0] σ (sd σ u l k (cV (c::r))):=by
  have hc1:True:=trivial
  have q1:True:=trivial
  have q2:True:=trivial
  have hw:True:=trivial
  haveI hbi:BoxIs σ u [.str l, .int .i64 k]:=⟨hb⟩
  have hlt:k<l.length:=(cv hr).2.1
  have hp1:posOf l r=k+1:=jX hr
  have hw:IntKind.i64.wrap ((k:Int)+1)=((k+1:Nat):Int):=OD
  by_cases h34:c=34
  · have q1:decide (c=34)=true:=by simpa using h34
    have e1:cV (c::r)=match fE r with
      | some (t,r')=>if jS r' then some (true,t,r') else none
      | none=>none:=by simp only [cV,if_pos h34];rfl
    have hrr:l.drop (k+1)=r:=(cv hr).2.2
    cases hq:fE r with
    | none =>
      rw [hq] at e1
      have a4:∀ s:St,s.box u=some [.str l, .int .i64 (k+1:Nat)]→AC Tryz.prog 247 [.ptr u 0] s (vE s u l none):=fun s hs=>by
        have:=sb hs hlt hl
        rwa [hrr,hq] at this
      (refine aT uf HZ ?_;simp only [uf,↓R1,RR,seval])
      repeat' (first|(with_reducible rw [ah])|((first|(with_reducible intro β hβ;(try simp only [RB] at hβ);(repeat (obtain ⟨⟨_,_⟩,hβ⟩:=hβ));(try (have hbis:=ag OB hβ;obtain ⟨_,_⟩:=hbis)))|((refine AC.mono (AC.wk (eI (k:=k) (l:=l) OL hr) (aa _)) ?_;(rintro _ _ ⟨rfl,rfl⟩))))<;>(try simp only [↓R1,RR,seval,cW,q1,hw])))
      refine (AC.wk (a4 _ OL) (aa _)).mono ?_
      rintro _ _ ⟨j,rfl,rfl⟩
      simp only [↓R1,RR,seval]
      repeat' (((refine fY ?_))<;>(try simp only [↓R1,RR,seval]))
      refine aA (r:= .tup [wdV k (true,[]), .bool false]) OF OE (af O5) (gE hβ OB) ?_
      rw [e1]
      exact ⟨_,j,rfl,rfl⟩
    | some q =>
      obtain ⟨t,m⟩:=q
      rw [hq] at e1
      simp only at e1
      have a4:∀ s:St,s.box u=some [.str l, .int .i64 (k+1:Nat)]→AC Tryz.prog 247 [.ptr u 0] s (vE s u l (some (t,m))):=fun s hs=>by
        have:=sb hs hlt hl
        rwa [hrr,hq] at this
      obtain ⟨hdm,hml⟩:=ij ((oC hq).trans (by rw [←hrr];exact jY l (k+1)))
      obtain ⟨i,hi⟩:∃ i,posOf l m=i:=⟨_,rfl⟩
      rw [hi] at hdm hml
      have key:∀ v,(v= .tup [wdV k (true,t), .bool true]∧jS m=true)∨(v= .tup [wdV k (true,t), .bool false]∧jS m=false)→sd σ u l k (cV (c::r)) v (σ.ad u [.str l, .int .i64 (i:Nat)]):=by
        rintro v (⟨rfl,hm⟩|⟨rfl,hm⟩)
        · rw [e1,if_pos hm];simp only [sd,hi,and_self]
        · rw [e1,if_neg (by simp [hm])];exact ⟨_,i,rfl,rfl⟩
      (refine aT uf HZ ?_;simp only [uf,↓R1,RR,seval])
      repeat' (first|(with_reducible rw [ah])|((first|(with_reducible intro β hβ;(try simp only [RB] at hβ);(repeat (obtain ⟨⟨_,_⟩,hβ⟩:=hβ));(try (have hbis:=ag OB hβ;obtain ⟨_,_⟩:=hbis)))|((refine AC.mono (AC.wk (eI (k:=k) (l:=l) OL hr) (aa _)) ?_;(rintro _ _ ⟨rfl,rfl⟩))))<;>(try simp only [↓R1,RR,seval,cW,q1,hw])))
      refine (AC.wk (a4 _ OL) (aa _)).mono ?_
      rintro _ _ ⟨rfl,rfl⟩
      rw [hi]
      simp only [↓R1,RR,seval]
      rcases eJ l i hml with ⟨hd,he⟩|⟨c2,r2,hd2,hlt2⟩
      · have hc1:decide ((i:Int)<(l.length:Int))=false:=by simp;omega
        repeat' ((first|((refine cZ (fun hgv=>⟨?_,((fun σ2 hle=>dF (k:=i) (l:=l) (hle.1 _ _ OL))),aa _⟩) ?_;(first|trivial|(focus (simp only [↓R1,RR,seval,cW,hc1,q1,q2,hw];done)))))|((refine fY ?_)))<;>(try simp only [↓R1,RR,seval,hc1]))
        refine aA (r:= .tup [wdV k (true,t), .bool true]) OF OE (af O5) (gE hβ OB) (key _ (.inl ⟨rfl,?_⟩))
        rw [←hdm,hd];rfl
      · have hc1:decide ((i:Int)<(l.length:Int))=true:=by simpa using hlt2
        have b3:=Jb c2
        cases hbl:aU c2 with
        | true =>
          rw [hbl] at b3
          repeat' ((first|((refine cZ (fun hgv=>⟨?_,((fun σ2 hle=>dF (k:=i) (l:=l) (hle.1 _ _ OL))),aa _⟩) ?_;(first|trivial|(focus (simp only [↓R1,RR,seval,cW,hc1,q1,q2,hw];done)))))|((refine cZ (fun hgv=>⟨?_,((fun σ2 hle=>eI (k:=i) (l:=l) (hle.1 _ _ OL) hd2)),aa _⟩) ?_;(first|trivial|(focus (simp only [↓R1,RR,seval,cW,hc1,q1,q2,hw];done)))))|((refine iz (fun hgv=>⟨?_,(b3),aa _⟩) ?_;(first|trivial|(focus (simp only [↓R1,RR,seval,cW,hc1,q1,q2,hw];done))))))<;>(try simp only [↓R1,RR,seval,hc1]))
          refine aA (r:= .tup [wdV k (true,t), .bool true]) OF OE (af O5) (gE hβ OB) (key _ (.inl ⟨rfl,?_⟩))
          rw [←hdm,hd2];exact hbl
        | false =>
          rw [hbl] at b3
          repeat' ((first|((refine cZ (fun hgv=>⟨?_,((fun σ2 hle=>dF (k:=i) (l:=l) (hle.1 _ _ OL))),aa _⟩) ?_;(first|trivial|(focus (simp only [↓R1,RR,seval,cW,hc1,q1,q2,hw];done)))))|((refine cZ (fun hgv=>⟨?_,((fun σ2 hle=>eI (k:=i) (l:=l) (hle.1 _ _ OL) hd2)),aa _⟩) ?_;(first|trivial|(focus (simp only [↓R1,RR,seval,cW,hc1,q1,q2,hw];done)))))|((refine iz (fun hgv=>⟨?_,(b3),aa _⟩) ?_;(first|trivial|(focus (simp only [↓R1,RR,seval,cW,hc1,q1,q2,hw];done))))))<;>(try simp only [↓R1,RR,seval,hc1]))
          refine aA (r:= .tup [wdV k (true,t), .bool false]) OF OE (af O5) (gE hβ OB) (key _ (.inr ⟨rfl,?_⟩))
          rw [←hdm,hd2];exact hbl
  · have q1:decide (c=34)=false:=by simpa using h34
    have e1:cV (c::r)=if ((c::r).takeWhile cd).isEmpty then none else if jS ((c::r).dropWhile cd) then some (false,(c::r).takeWhile cd,(c::r).dropWhile cd) else none:=by simp only [cV,if_neg h34]
    (refine aT uf HZ ?_;simp only [uf,↓R1,RR,seval])
    repeat' (first|(with_reducible rw [ah])|((first|(with_reducible intro β hβ;(try simp only [RB] at hβ);(repeat (obtain ⟨⟨_,_⟩,hβ⟩:=hβ));(try (have hbis:=ag OB hβ;obtain ⟨_,_⟩:=hbis)))|((refine AC.mono (AC.wk (eI (k:=k) (l:=l) OL hr) (aa _)) ?_;(rintro _ _ ⟨rfl,rfl⟩))))<;>(try simp only [↓R1,RR,seval,cW,q1])))
    refine cn (α:=Nat) (fun _=> [(0, .ptr u 0),(2, .ptr β 0)]) (fun j=>(σ.ad β [.bool false, .str [], .int .i64 (k:Nat)]).ad u [.str l, .int .i64 (j:Nat)]) (fun j=>k≤j∧j≤l.length∧(l.drop j).dropWhile cd=(l.drop k).dropWhile cd) (fun j=>l.length - j) k OP
      (by simp only [RR,seval];rw [lf OL];exact St.le_refl _) ⟨Nat.le_refl _,by omega,rfl⟩ ?_
    rintro i ⟨hki,hil,hI⟩
    simp only [↓R1,RR,seval]
    have hpi:posOf l (l.drop i)=i:=mS l i hil
    have stop:(l.drop i).dropWhile cd=l.drop i→cV (c::r)=if ((l.drop k).take (i - k)) == [] then none else if jS (l.drop i) then some (false,(l.drop k).take (i - k),l.drop i) else none:=fun hs=>by
      rw [hs] at hI
      have hT:=pV hki hil hI.symm
      rw [e1,←hr,hT,←hI]
      cases (l.drop k).take (i - k)<;>rfl
    rcases eJ l i hil with ⟨hd,he⟩|⟨c2,r2,hd2,hlt2⟩
    · have hc1:decide ((i:Int)<(l.length:Int))=false:=by simp;omega
      have hs:=stop (by rw [hd];rfl)
      cases hq:((l.drop k).take (i - k) == []) with
      | true =>
        have q2:=hq
        rw [q2,if_pos rfl] at hs
        repeat' (first|(with_reducible refine And.intro ?_ ?_;exact ak)|((first|((refine AC.mono (AC.wk (dF (k:=i) (l:=l) OL) (aa _)) ?_;(rintro _ _ ⟨rfl,rfl⟩)))|((refine fY ?_)))<;>(try simp only [↓R1,RR,seval,hc1,q2])))
        refine aA (r:= .tup [wdV k (false,(l.drop k).take (i - k)), .bool false]) OF OE (af O5) (gE hβ OB) ?_
        rw [hs]
        exact ⟨_,i,rfl,rfl⟩
      | false =>
        have q2:=hq
        rw [q2,if_neg OF,hd] at hs
        simp only [jS,if_true] at hs
        repeat' (first|(with_reducible refine And.intro ?_ ?_;exact ak)|((first|((refine AC.mono (AC.wk (dF (k:=i) (l:=l) OL) (aa _)) ?_;(rintro _ _ ⟨rfl,rfl⟩)))|((refine cZ (fun hgv=>⟨?_,((fun σ2 hle=>dF (k:=i) (l:=l) (hle.1 _ _ OL))),aa _⟩) ?_;(first|trivial|(focus (simp only [↓R1,RR,seval,cW,hc1,q1,q2,hw];done)))))|((refine fY ?_)))<;>(try simp only [↓R1,RR,seval,hc1,q2])))
        refine aA (r:= .tup [wdV k (false,(l.drop k).take (i - k)), .bool true]) OF OE (af O5) (gE hβ OB) ?_
        rw [hs]
        simp only [sd,true_and]
        rw [←hd,hpi]
    · have hc1:decide ((i:Int)<(l.length:Int))=true:=by simpa using hlt2
      have b3:=Lb c2
      have b4:=Jb c2
      have hw:IntKind.i64.wrap ((i:Int)+1)=((i+1:Nat):Int):=OD
      cases hbl:cd c2 with
      | true =>
        rw [hbl] at b3
        repeat' ((first|((refine AC.mono (AC.wk (dF (k:=i) (l:=l) OL) (aa _)) ?_;(rintro _ _ ⟨rfl,rfl⟩)))|((refine AC.mono (AC.wk (eI (k:=i) (l:=l) OL hd2) (aa _)) ?_;(rintro _ _ ⟨rfl,rfl⟩)))|(refine Pt (b3) ?_))<;>(try simp only [↓R1,RR,seval,hc1,hw]))
        refine ⟨i+1,⟨by omega,by omega,?_⟩,by simp [aK,slot,ae],St.le_refl _,by omega⟩
        rw [←hI,hd2,(cv hd2).2.2,List.dropWhile_cons,hbl];rfl
      | false =>
        rw [hbl] at b3
        have hs:=stop (by rw [hd2,List.dropWhile_cons,hbl];rfl)
        cases hq:((l.drop k).take (i - k) == []) with
        | true =>
          have q2:=hq
          rw [q2,if_pos rfl] at hs
          repeat' (first|(with_reducible refine And.intro ?_ ?_;exact ak)|((first|((refine AC.mono (AC.wk (dF (k:=i) (l:=l) OL) (aa _)) ?_;(rintro _ _ ⟨rfl,rfl⟩)))|((refine AC.mono (AC.wk (eI (k:=i) (l:=l) OL hd2) (aa _)) ?_;(rintro _ _ ⟨rfl,rfl⟩)))|(refine Pt (b3) ?_)|((refine fY ?_)))<;>(try simp only [↓R1,RR,seval,hc1,q2])))
          refine aA (r:= .tup [wdV k (false,(l.drop k).take (i - k)), .bool false]) OF OE (af O5) (gE hβ OB) ?_
          rw [hs]
          exact ⟨_,i,rfl,rfl⟩
        | false =>
          have q2:=hq
          rw [q2,if_neg OF] at hs
          cases hbk:aU c2 with
          | true =>
            rw [hbk] at b4
            rw [if_pos (by rw [hd2];exact hbk)] at hs
            repeat' (first|(with_reducible refine And.intro ?_ ?_;exact ak)|((first|((refine AC.mono (AC.wk (dF (k:=i) (l:=l) OL) (aa _)) ?_;(rintro _ _ ⟨rfl,rfl⟩)))|((refine AC.mono (AC.wk (eI (k:=i) (l:=l) OL hd2) (aa _)) ?_;(rintro _ _ ⟨rfl,rfl⟩)))|(refine Pt (b3) ?_)|((refine cZ (fun hgv=>⟨?_,((fun σ2 hle=>dF (k:=i) (l:=l) (hle.1 _ _ OL))),aa _⟩) ?_;(first|trivial|(focus (simp only [↓R1,RR,seval,cW,hc1,q1,q2,hw];done)))))|((refine cZ (fun hgv=>⟨?_,((fun σ2 hle=>eI (k:=i) (l:=l) (hle.1 _ _ OL) hd2)),aa _⟩) ?_;(first|trivial|(focus (simp only [↓R1,RR,seval,cW,hc1,q1,q2,hw];done)))))|((refine iz (fun hgv=>⟨?_,(b4),aa _⟩) ?_;(first|trivial|(focus (simp only [↓R1,RR,seval,cW,hc1,q1,q2,hw];done))))))<;>(try simp only [↓R1,RR,seval,hc1,q2])))
            refine aA (r:= .tup [wdV k (false,(l.drop k).take (i - k)), .bool true]) OF OE (af O5) (gE hβ OB) ?_
            rw [hs]
            simp only [sd,true_and]
            rw [hpi]
          | false =>
            rw [hbk] at b4
            rw [if_neg (by rw [hd2];simp [jS,hbk])] at hs
            repeat' (first|(with_reducible refine And.intro ?_ ?_;exact ak)|((first|((refine AC.mono (AC.wk (dF (k:=i) (l:=l) OL) (aa _)) ?_;(rintro _ _ ⟨rfl,rfl⟩)))|((refine AC.mono (AC.wk (eI (k:=i) (l:=l) OL hd2) (aa _)) ?_;(rintro _ _ ⟨rfl,rfl⟩)))|(refine Pt (b3) ?_)|((refine cZ (fun hgv=>⟨?_,((fun σ2 hle=>dF (k:=i) (l:=l) (hle.1 _ _ OL))),aa _⟩) ?_;(first|trivial|(focus (simp only [↓R1,RR,seval,cW,hc1,q1,q2,hw];done)))))|((refine cZ (fun hgv=>⟨?_,((fun σ2 hle=>eI (k:=i) (l:=l) (hle.1 _ _ OL) hd2)),aa _⟩) ?_;(first|trivial|(focus (simp only [↓R1,RR,seval,cW,hc1,q1,q2,hw];done)))))|((refine iz (fun hgv=>⟨?_,(b4),aa _⟩) ?_;(first|trivial|(focus (simp only [↓R1,RR,seval,cW,hc1,q1,q2,hw];done))))))<;>(try simp only [↓R1,RR,seval,hc1,q2])))
            refine aA (r:= .tup [wdV k (false,(l.drop k).take (i - k)), .bool false]) OF OE (af O5) (gE hβ OB) ?_
            rw [hs]
            exact ⟨_,i,rfl,rfl⟩
end Go.Proofs.YtgephffbfiemeaaGreatDoor
namespace Go.Proofs.YtgephffbfiemeaaGreatDoor
open Go.Abs
set_option linter.all false
set_option maxRecDepth 100000
theorem Cs (t:List UInt8) {k:Nat} (h:k<t.length):(t.take (k+1)).flatMap e7=(t.take k).flatMap e7++e7 t[k]:=by
 rw [←List.take_append_getElem h,List.flatMap_append];simp
theorem Cv:((List.range 256).all fun n=>decide ((n:Int).fdiv (2^min (4:Int).toNat IntKind.u8.bits)=((n / 16:Nat):Int))&&decide (bits .and .u8 n 15=((n % 16:Nat):Int)))=true:=OA
theorem NR (b:UInt8):(b.toNat:Int).fdiv (2^min (4:Int).toNat IntKind.u8.bits)=((b.toNat / 16:Nat):Int):=by
 have:=List.all_eq_true.1 Cv b.toNat (List.mem_range.2 (oM b))
 simp only [Bool.and_eq_true,decide_eq_true_eq] at this
 exact this.1
theorem Le (b:UInt8):bits .and .u8 (b.toNat:Int) 15=((b.toNat % 16:Nat):Int):=by
 have:=List.all_eq_true.1 Cv b.toNat (List.mem_range.2 (oM b))
 simp only [Bool.and_eq_true,decide_eq_true_eq] at this
 exact this.2
theorem se (b:UInt8):IntKind.u8.wrap (((b.toNat / 16:Nat):Int)+1)=((b.toNat / 16+1:Nat):Int)∧IntKind.u8.wrap (((b.toNat % 16:Nat):Int)+1)=((b.toNat % 16+1:Nat):Int):=by
 have hb:=oM b
 constructor<;>(simp [IntKind.wrap,IntKind.signed,IntKind.bits];omega)
theorem Cw {b:UInt8} (h1:eP b=false) (h2:¬ (b=34∨b=92)):e7 b= [92,120]++ [nI (b.toNat / 16)]++ [nI (b.toNat % 16)]:=by
 unfold e7
 rw [h1,if_neg OF,if_neg h2];rfl
theorem FC {b:UInt8} (h1:eP b=false) (h2:b=34∨b=92):e7 b= [92]++ [b]:=by
 unfold e7
 rw [h1,if_neg OF,if_pos h2];rfl
theorem uJ {b:UInt8} (h1:eP b=true):e7 b= [b]:=by
 unfold e7
 rw [h1,if_pos rfl]
theorem FD (σ:St) (γ τ:Nat) {a b:List UInt8} (ha:a≠ []) (hb:b≠ []):(bS σ γ τ b).glob=(bS σ γ τ a).glob∧(∀ δ,(bS σ γ τ a).box δ=none→(bS σ γ τ b).box δ=none)∧∀ δ,(bS σ γ τ a).tip δ=none→(bS σ γ τ b).tip δ=none:=by
  refine ⟨by rw [vC,vC],fun δ h=>by rw [pS] at h ⊢;exact h,fun δ h=>?_⟩
  cases a with
  | nil=>exact (ha rfl).elim
  | cons x a =>
    cases b with
    | nil=>exact (hb rfl).elim
    | cons y b =>
      simp only [bS,bT,St.ad,St.ai,upd] at h ⊢
      split at h
      · cases h
      · rename_i e;rw [if_neg e];exact h
set_option maxHeartbeats 2000000 in
theorem NS (q:Bool) (t:List UInt8) (a:Int) (ht:t.length≤1000000):Pu Tryz.prog 185 [.agg [.bool q, .str t, .int .i64 a]] (BQ (dq q t)):=by
  have q1:True:=trivial
  have q2:True:=trivial
  have q3:True:=trivial
  have q4:True:=trivial
  have q5:True:=trivial
  have q6:True:=trivial
  have q7:True:=trivial
  have q8:True:=trivial
  have hw:True:=trivial
  have hd:True:=trivial
  have hp:=Ld t ht
  cases q with
  | false =>
    cases hb:bareS t with
    | false =>
      rw [hb] at hp
      have e:dq false t=none:=by simp [dq,hb]
      rw [e]
      (refine av ue HQ fun σ=>?_;simp only [ue,↓R1,RR,Nat.reduceEqDiff,Nat.reduceAdd,Nat.reduceLT])
      repeat' ((first|(with_reducible intro β hβ;(try simp only [RB] at hβ);(repeat (obtain ⟨⟨_,_⟩,hβ⟩:=hβ));(try (have hbis:=ag OB hβ;obtain ⟨_,_⟩:=hbis)))|(refine Pt (hp) ?_))<;>(try simp only [↓R1,RR,Nat.reduceEqDiff]))
      (refine aq (af ?_))
      (simp only [ar,RR,Nat.reduceEqDiff])
      rfl
    | true =>
      rw [hb] at hp
      have e:dq false t=some t:=by simp [dq,hb]
      rw [e]
      (refine av ue HQ fun σ=>?_;simp only [ue,↓R1,RR,Nat.reduceEqDiff,Nat.reduceAdd,Nat.reduceLT])
      repeat' ((first|(with_reducible intro β hβ;(try simp only [RB] at hβ);(repeat (obtain ⟨⟨_,_⟩,hβ⟩:=hβ));(try (have hbis:=ag OB hβ;obtain ⟨_,_⟩:=hbis)))|(refine Pt (hp) ?_))<;>(try simp only [↓R1,RR,Nat.reduceEqDiff,Nat.reduceAdd,Nat.reduceLT]))
      (refine aq (af ?_))
      (simp only [ar,RR,Nat.reduceEqDiff])
      rfl
  | true =>
    have e:dq true t=some (34::(t.flatMap e7++ [34])):=by simp [dq]
    rw [e]
    (refine av ue HQ fun σ=>?_;simp only [ue,↓R1,RR,Nat.reduceEqDiff,Nat.reduceAdd,Nat.reduceLT])
    intro b1 h1
    refine ku (fun γ hγ hγt=>?_)
    rw [St.aG] at hγ
    obtain ⟨⟨_,_⟩,hγ⟩:=hγ
    have hγt:σ.bt γ=none:=hγt
    simp only [↓R1,RR,Nat.reduceEqDiff]
    obtain ⟨X,hX⟩:∃ X,X=(σ.bZ γ 222).ad b1 [.bool true, .str t, .int .i64 a]:=⟨_,rfl⟩
    have hXt:X.tip=σ.tip:=by rw [hX];rfl
    have hXb:X.bt γ=some 222:=by rw [hX];exact St.lQ _ _ _
    have hX1:∀ τ out,(bS X γ τ out).box b1=some [.bool true, .str t, .int .i64 a]:=fun τ out=>by rw [r6,hX];simp only [RR]
    have hXl:∀ c,St.le σ (X.ad γ c):=fun c=>by
      rw [hX]
      exact St.aL (St.aL (St.ib (St.le_refl _) hγt) h1) hγ
    have w0:=fI γ 34 X 0 [] OF hXb OF
    rw [uI,hX] at w0
    refine (AC.wk w0 (aa _)).mono ?_
    rintro _ _ ⟨rfl,τ,hτ,_,rfl⟩
    rw [←hX] at hτ ⊢
    simp only [hX1,List.nil_append,↓R1,RR,Nat.reduceEqDiff,Nat.reduceAdd,Nat.reduceLT]
    have hlen:∀ k,(34::(t.take k).flatMap e7).length≤4000001:=fun k=>by
      have h1:=vu (t.take k)
      have h2:(t.take k).length≤t.length:=OS
      simp only [List.length_cons];omega
    refine bq t.length (fun k=> [(4, .ptr γ 0),(19, .sl false t.length (t.map fun b=> .int .u8 b.toNat)),(20, .int .i64 (t.length:Nat)),(21, .int .i64 (k:Nat))]) (fun k=>bS X γ τ (34::(t.take k).flatMap e7)) (fun _=>True) OP (by simp;exact St.le_refl _) trivial (fun k hk _=>?_)
    have hlk:=hlen k
    by_cases hlt:k<t.length
    · have q1:decide ((k:Int)<(t.length:Int))=true:=by rw [decide_eq_true_eq];omega
      have hd:=jq t hlt
      have hw:IntKind.i64.wrap ((k:Int)+1)=((k+1:Nat):Int):=OD
      have hpl:=Ja t[k]
      have w1:∀ (x:UInt8) (out:List UInt8),out≠ []→out.length≤5000000→AC Tryz.prog 228 [.ptr γ 0, .int .u8 x.toNat] (bS X γ τ out) (fun v s=>v= .nili∧s=bS X γ τ (out++ [x])):=fun x out h0 hl=>(fI γ x).used h0 hτ hXb OS
      have hes:=Cs t hlt
      simp only [↓R1,RR,Nat.reduceEqDiff,Nat.reduceLT,q1,hd]
      cases hb:eP t[k] with
      | true =>
        rw [hb] at hpl
        rw [uJ hb] at hes
        repeat' (first|(with_reducible refine And.intro ?_ ?_;exact ak)|(with_reducible apply And.intro)|((first|(refine Pt (hpl) ?_)|((refine AC.mono (AC.wk (w1 _ _ OF Oz) (aa _)) ?_;(rintro _ _ ⟨rfl,rfl⟩))))<;>(try simp only [↓R1,RR,Nat.reduceEqDiff,hw])))
        all_goals first|(simp only [List.length_map];omega)|skip
        · simp [aK,slot,ae]
        · rw [hes];exact St.le_refl _
      | false =>
        rw [hb] at hpl
        by_cases h2:t[k]=34∨t[k]=92
        · have q2:(decide (t[k]=34)||decide (t[k]=92))=true:=by simpa using h2
          have w92:AC Tryz.prog 228 [.ptr γ 0, .int .u8 92] (bS X γ τ (34::(t.take k).flatMap e7)) (fun v s=>v= .nili∧s=bS X γ τ ((34::(t.take k).flatMap e7)++ [92])):=w1 92 _ OF Oz
          have wc:=w1 t[k] ((34::(t.take k).flatMap e7)++ [92]) OF (by rw [List.length_append];simp only [List.length_cons,List.length_nil] at *;omega)
          rw [FC hb h2] at hes
          repeat' (first|(with_reducible refine And.intro ?_ ?_;exact ak)|(with_reducible apply And.intro)|((first|(refine Pt (hpl) ?_)|((refine AC.mono (AC.wk (w92) (aa _)) ?_;(rintro _ _ ⟨rfl,rfl⟩)))|((refine AC.mono (AC.wk (wc) (aa _)) ?_;(rintro _ _ ⟨rfl,rfl⟩))))<;>(try simp only [↓R1,RR,Nat.reduceEqDiff,q2,hw,cW,mU])))
          all_goals first|(simp only [List.length_map];omega)|skip
          · simp [aK,slot,ae]
          · rw [hes];simp;exact St.le_refl _
        · have q2:(decide (t[k]=34)||decide (t[k]=92))=false:=by
            rw [←Bool.not_eq_true];simpa using h2
          have q3:=NR t[k]
          have q4:=Le t[k]
          have q5:=(se t[k]).1
          have q6:=(se t[k]).2
          have q7:=sa (t[k].toNat / 16) (by have:=oM t[k];omega)
          have q8:=sa (t[k].toNat % 16) Oz
          have ws:=(iW γ ([92,120]++ [nI (t[k].toNat / 16)]++ [nI (t[k].toNat % 16)]) OF).used (l:=34::(t.take k).flatMap e7) OF hτ hXb (by simp only [List.length_append,List.length_cons,List.length_nil] at *;omega)
          rw [Cw hb h2] at hes
          have hks:=FD X γ τ (a:=34::(t.take k).flatMap e7) (b:=34::(t.take k).flatMap e7++([92,120]++ [nI (t[k].toNat / 16)]++ [nI (t[k].toNat % 16)])) OF OF
          repeat' (first|(with_reducible refine And.intro ?_ ?_;exact ak)|(with_reducible apply And.intro)|((first|(refine Pt (hpl) ?_)|((refine qT ws (aa _) hks ?_)))<;>(try simp only [↓R1,RR,Nat.reduceEqDiff,Nat.reduceAdd,q2,q3,q4,q5,q6,q7,q8,hw,cW,mU,Nat.add_sub_cancel_left])))
          all_goals first|(simp only [List.length_map];omega)|(have:=oM t[k];omega)|skip
          · simp [aK,slot,ae]
          · rw [hes];simp;exact St.le_refl _
    · have hke:k=t.length:=by omega
      subst hke
      have q1:decide ((t.length:Int)<(t.length:Int))=false:=OF
      rw [List.take_length] at hlk ⊢
      have w34:AC Tryz.prog 228 [.ptr γ 0, .int .u8 34] (bS X γ τ (34::t.flatMap e7)) (fun v s=>v= .nili∧s=bS X γ τ ((34::t.flatMap e7)++ [34])):=(fI γ 34).used OF hτ hXb (by simp only [List.length_cons,List.length_nil] at *;omega)
      have ws:=mR (β:=γ) (τ:=τ) (l:=(34::t.flatMap e7)++ [34]) (σ:=X) (fun _=>hτ) hXb
      simp only [↓R1,RR,Nat.reduceEqDiff,q1]
      repeat' ((first|((refine AC.mono (AC.wk (w34) (aa _)) ?_;(rintro _ _ ⟨rfl,rfl⟩)))|((refine AC.mono (AC.wk (ws) (aa _)) ?_;(rintro _ _ ⟨rfl,rfl⟩))))<;>(try simp only [↓R1,RR,Nat.reduceEqDiff]))
      refine aq (af ?_) OT (hXl _)
      (simp only [ar,RR,Nat.reduceEqDiff])
      rfl
end Go.Proofs.YtgephffbfiemeaaGreatDoor
namespace Go.Abs
theorem AC.le {P:Program} {f:Nat} {xs:List AV} {σ σ':St} {R:AV→St→Prop} (h:AC P f xs σ R) (hl:St.le σ σ'):AC P f xs σ' R:=fun g w vs hI hv=>h g w vs (hI.le hl) hv
end Go.Abs
namespace Go.Proofs.YtgephffbfiemeaaGreatDoor
open Go.Abs
set_option linter.all false
set_option maxRecDepth 100000
theorem Jh:BU Tryz.prog 113 :=
 rR (Go.Proofs.enters_of Tryz.func113 OA rfl) (fun x sep w=>Tryz.strings_Join_none x 0 sep w) (fun bk o c xs sep w h1 h2 h3 h4 h5=>Tryz.strings_Join bk o c xs sep w h1 h2 h3 h4 h5)
def sV (τ:Nat):List (List UInt8)→AV
 | []=> .nils
 | p=> .tsl τ p.length (p.map AV.str)
def sT (σ:St) (τ:Nat):List (List UInt8)→St
 | []=>σ
 | p=>σ.ai τ (9,1,p.length)
theorem Cx (σ:St) (τ:Nat) (p:List (List UInt8)):(sT σ τ p).box=σ.box:=by cases p<;>rfl
theorem Cy (σ:St) (τ:Nat) (p:List (List UInt8)) (u:Nat) (c:List AV):(sT σ τ p).ad u c=sT (σ.ad u c) τ p:=by cases p<;>rfl
theorem Gu {s s':St} (h:St.le s s') {τ:Nat} {p:List (List UInt8)} (hn:p≠ []→s.tip τ=none):St.le s (sT s' τ p):=by
 cases p with
 | nil=>exact h
 | cons x p=>exact St.fg h (hn OF)
theorem Ji {s s':St} (h:St.le s s') (τ:Nat) (p:List (List UInt8)):St.le (sT s τ p) (sT s' τ p):=by
 cases p with
 | nil=>exact h
 | cons x p=>exact St.jN h
theorem sf {σ:St} {γ τ τ1:Nat} {out:List UInt8} (h:(bS σ γ τ out).tip τ1=none):σ.tip τ1=none:=by
  cases out with
  | nil=>exact h
  | cons x out =>
    simp only [bS,bT,St.ad,St.ai,upd] at h
    split at h
    · cases h
    · exact h
theorem Jj (τ:Nat) (p:List (List UInt8)):slv (sV τ p)=some (p.length,p.map AV.str):=by cases p<;>rfl
theorem Jk {P:Program} {Y:St} {K:AV→St→Prop} {τ:Nat} {pre:List (List UInt8)} {w:List UInt8} {h:Hold (sT Y τ pre,K)} (hl:pre.length≤1000000) (hY:pre≠ []→Y.tip τ=none)
    (hK:∀ τ',Y.tip τ'=none→K (sV τ' (pre++ [w])) (sT Y τ' (pre++ [w]))):pq true 9 1 16 (sV τ pre) (.sl true 1 [.str w]) (sT Y τ pre) K h:=by
  cases pre with
  | nil =>
    refine mw (n:=0) (cs:= []) rfl trivial rfl rfl rfl ?_ ?_ (fun τ' hτ'=>?_)
    · unfold maxLen;decide
    · decide
    · exact hK τ' hτ'
  | cons x p =>
    simp only [List.length_cons] at hl
    refine bx rfl ?_ ?_ rfl ?_ ?_ ?_
    · simp [sT,St.ai,upd]
    · simp
    · unfold maxLen;simp;omega
    · simp;omega
    · have:=hK τ (hY OF)
      have e1:(x::p).map AV.str++ [AV.str w]=((x::p)++ [w]).map AV.str:=OF
      have e2:sT (sT Y τ (x::p)) τ ((x::p)++ [w])=sT Y τ ((x::p)++ [w]):=St.eO _ _ _ _
      have e3:(x::p).length+1=((x::p)++ [w]).length:=OF
      rw [e1,e3]
      rw [←e2] at this
      exact this
theorem FE (l:List RI) {k:Nat} (h:k<l.length):((l.flatMap cRI).drop (k*2)).take 2=cRI l[k]:=by
 have:=flat_get (f:=cRI) (s:=2) (fun _=>rfl) l k h
 exact this
theorem FF (l:List WI) {k:Nat} (h:k<l.length):((l.flatMap cWI).drop (k*3)).take 3=cWI l[k]:=by
 have:=flat_get (f:=cWI) (s:=3) (fun _=>rfl) l k h
 exact this
theorem nM {out:List UInt8} {l:List RI} {k:Nat} (h:k<l.length) (h0:l[k].ws.length=0):fF out (l.drop k)= .error 7:=by
 rw [List.drop_eq_getElem_cons h];simp only [fF,h0,if_true]
theorem uK {out:List UInt8} {l:List RI} {k:Nat} (h:k<l.length) (h0:¬ l[k].ws.length=0) (hw:cD l[k].ws=none):fF out (l.drop k)= .error 3:=by
 rw [List.drop_eq_getElem_cons h];simp only [fF,if_neg h0,hw]
theorem uL {out:List UInt8} {l:List RI} {k:Nat} {ws:List (List UInt8)} (h:k<l.length) (h0:¬ l[k].ws.length=0) (hw:cD l[k].ws=some ws) :
  fF out (l.drop k)=if 1000<(Lib.join ws [32]).length∨20000<(out++(Lib.join ws [32]++ [10])).length then .error 4 else fF (out++(Lib.join ws [32]++ [10])) (l.drop (k+1)):=by
 rw [List.drop_eq_getElem_cons h];simp only [fF,if_neg h0,hw]
set_option maxHeartbeats 4000000 in
theorem Lf (l:List RI) (hl:uu l):Pu Tryz.prog 133 [.sl false l.length (l.flatMap cRI)] (rJ (fW l)):=by
  have q1:True:=trivial
  have q2:True:=trivial
  have q3:True:=trivial
  have q4:True:=trivial
  have q5:True:=trivial
  have hw:True:=trivial
  have hd:True:=trivial
  have hd2:True:=trivial
  obtain ⟨hl1,hl2⟩:=hl
  (refine av Hz L0 fun σ=>?_;simp only [Hz,↓R1,RR,seval])
  refine ku (fun γ hγ hγt=>?_)
  have hγt:σ.bt γ=none:=hγt
  simp only [↓R1,RR,seval]
  obtain ⟨X,hX⟩:∃ X,X=σ.bZ γ 222:=⟨_,rfl⟩
  have hXt:X.tip=σ.tip:=by rw [hX];rfl
  have hXb:X.bt γ=some 222:=by rw [hX];exact St.lQ _ _ _
  have hXl:∀ c,St.le σ (X.ad γ c):=fun c=>by
    rw [hX];exact St.aL (St.ib (St.le_refl _) hγt) hγ
  have hle:∀ τ out,(out≠ []→σ.tip τ=none)→St.le σ (bS X γ τ out):=fun τ out h=>by
    rw [hX];exact Gt (St.ib (St.le_refl _) hγt) hγ h
  refine cn (α:=Nat × Nat × List UInt8) (fun z=> [(4, .ptr γ 0),(13, .sl false l.length (l.flatMap cRI)),(14, .int .i64 (l.length:Nat)),(15, .int .i64 (z.1:Nat))]) (fun z=>bS X γ z.2.1 z.2.2)
    (fun z=>z.1≤l.length∧(z.2.2≠ []→σ.tip z.2.1=none)∧z.2.2.length≤20000∧fW l=fF z.2.2 (l.drop z.1)) (fun z=>l.length - z.1) (0,0,[]) OP (by rw [hX];exact St.le_refl _) ⟨Nat.zero_le _,(fun h=>absurd rfl h),Nat.zero_le _,rfl⟩ ?_
  rintro ⟨k,τ,out⟩ ⟨hk,hτ,hlen,hI⟩
  simp only at hk hτ hlen hI
  by_cases hlt:k<l.length
  · have q1:decide ((k:Int)<(l.length:Int))=true:=by rw [decide_eq_true_eq];omega
    have hd:=FE l hlt
    have hd2:=ct l
    have hw:IntKind.i64.wrap ((k:Int)+1)=((k+1:Nat):Int):=OD
    obtain ⟨hwn,hwt⟩:=hl2 l[k] (List.getElem_mem hlt)
    simp only [cRI] at hd
    have hτX:out≠ []→X.tip τ=none:=by rw [hXt];exact hτ
    by_cases h0:l[k].ws.length=0
    · have q2:((l[k].ws.length:Int) == 0)=true:=by rw [h0];rfl
      rw [nM hlt h0] at hI
      rw [hI]
      simp only [↓R1,RR,seval,q1,hd,hd2]
      repeat' (first|(with_reducible rw [ah])|(with_reducible refine And.intro ?_ ?_;exact ak)|((with_reducible intro β hβ;(try simp only [RB] at hβ);(repeat (obtain ⟨⟨_,_⟩,hβ⟩:=hβ));(try (have hbis:=ag OB hβ;obtain ⟨_,_⟩:=hbis)))<;>(try simp only [↓R1,RR,seval,q2])))
      all_goals first|(rw [hd2];omega)|skip
      refine aq (af ?_) OT (St.aL (hle τ out hτ) (by rw [pS] at hβ;rw [hX] at hβ;exact hβ.2))
      (simp only [ar,RR,seval])
      rfl
    · have q2:((l[k].ws.length:Int) == 0)=false:=by
        rw [←Bool.not_eq_true,beq_iff_eq];omega
      simp only [↓R1,RR,seval,q1,hd,hd2]
      repeat' (first|(with_reducible rw [ah])|(with_reducible refine And.intro ?_ ?_;exact ak)|((with_reducible intro β hβ;(try simp only [RB] at hβ);(repeat (obtain ⟨⟨_,_⟩,hβ⟩:=hβ));(try (have hbis:=ag OB hβ;obtain ⟨_,_⟩:=hbis)))<;>(try simp only [↓R1,RR,seval,q2])))
      all_goals first|(rw [hd2];omega)|skip
      obtain ⟨ws,hws⟩:∃ ws,l[k].ws=ws:=⟨_,rfl⟩
      rw [hws] at hwn hwt h0 ⊢
      have hd:True:=trivial
      have hd2:True:=trivial
      refine cn (α:=Nat × Nat × List (List UInt8)) (fun z=> [(4, .ptr γ 0),(7,sV z.2.1 z.2.2),(13, .sl false l.length (l.flatMap cRI)),(14, .int .i64 (l.length:Nat)),(15, .int .i64 (k:Nat)),(24, .sl false ws.length (ws.flatMap cWI)),(25, .int .i64 (ws.length:Nat)),(26, .int .i64 (z.1:Nat))])
        (fun z=>sT (bS X γ τ out) z.2.1 z.2.2) (fun z=>z.1≤ws.length∧(z.2.2≠ []→(bS X γ τ out).tip z.2.1=none)∧cD (ws.take z.1)=some z.2.2∧z.2.2.length=z.1) (fun z=>ws.length - z.1) (0,0,[])
        (by simp [aK,slot,ae,sV]) (St.aL (St.aL (St.le_refl _) hβ) hβ) ⟨Nat.zero_le _,(fun h=>absurd rfl h),rfl,rfl⟩ ?_
      rintro ⟨i,τ1,acc⟩ ⟨hi,hτ1,hacc,hal⟩
      simp only at hi hτ1 hacc hal
      by_cases hin:i<ws.length
      · have q3:decide ((i:Int)<(ws.length:Int))=true:=by rw [decide_eq_true_eq];omega
        have hd:=FF ws hin
        have hd2:=cj ws
        have hw:IntKind.i64.wrap ((i:Int)+1)=((i+1:Nat):Int):=OD
        have hp:=NS ws[i].q ws[i].t ws[i].a (by have:=hwt ws[i] (List.getElem_mem hin);omega)
        simp only [cWI] at hd
        simp only [↓R1,RR,seval,q3,hd,hd2]
        cases hwd:dq ws[i].q ws[i].t with
        | none =>
          rw [hwd] at hp
          have hbad:=mG ws i hin hwd
          rw [uK hlt (by rw [hws];exact h0) (by rw [hws];exact hbad)] at hI
          rw [hI]
          simp only [BQ] at hp
          repeat' (first|(with_reducible rw [ah])|(with_reducible refine And.intro ?_ ?_;exact ak)|((first|(with_reducible intro β hβ;(try simp only [RB] at hβ);(repeat (obtain ⟨⟨_,_⟩,hβ⟩:=hβ));(try (have hbis:=ag OB hβ;obtain ⟨_,_⟩:=hbis)))|(refine Pt (hp) ?_))<;>(try simp only [↓R1,RR,seval])))
          all_goals first|(rw [hd2];omega)|skip
          rw [Cx,pS,hX] at hβ
          refine aq (af ?_) OT (St.aL (Gu (hle τ out hτ) (fun h=>by have:=sf (hτ1 h);rwa [hXt] at this)) hβ.2)
          (simp only [ar,RR,seval])
          rfl
        | some x =>
          rw [hwd] at hp
          have hnx:=rK hin hacc hwd
          simp only [BQ] at hp
          repeat' (first|(with_reducible rw [ah])|(with_reducible refine And.intro ?_ ?_;exact ak)|((first|(with_reducible intro β hβ;(try simp only [RB] at hβ);(repeat (obtain ⟨⟨_,_⟩,hβ⟩:=hβ));(try (have hbis:=ag OB hβ;obtain ⟨_,_⟩:=hbis)))|(refine Pt (hp) ?_))<;>(try simp only [↓R1,RR,seval])))
          all_goals first|(rw [hd2];omega)|skip
          rw [Cx] at hβ
          rw [Cy,Cy]
          refine Jk (P:=Tryz.prog) Oz hτ1 (fun τ' hτ'=>?_)
          simp only [↓R1,RR,seval,hw]
          skip
          refine ⟨(i+1,τ',acc++ [x]),⟨hin,fun _=>hτ',hnx,by simp [hal]⟩,by simp [aK,slot,ae],Ji (St.aL (St.le_refl _) hβ) _ _,by simp only;omega⟩
      · have hie:i=ws.length:=by omega
        subst hie
        have q3:decide ((ws.length:Int)<(ws.length:Int))=false:=OF
        rw [List.take_length] at hacc
        obtain ⟨ha1,ha2⟩:=mH ws hacc
        have hjl:=BS 80002 acc (fun x hx=>by have:=ha2 20000 hwt x hx;omega)
        have hjl2:(Lib.join acc [32]).length≤80003000:=by
          have:80003*acc.length≤80003*1000:=Nat.mul_le_mul_left _ Oz
          omega
        rw [uL hlt (by rw [hws];exact h0) (by rw [hws];exact hacc)] at hI
        have hj:=Jh (sV τ1 acc) acc [32] (sT (bS X γ τ out) τ1 acc) (Jj τ1 acc) Oz Oz
        obtain ⟨line,hline⟩:∃ line,Lib.join acc [32]=line:=⟨_,rfl⟩
        rw [hline] at hj hI hjl2
        have hwr:=(iW γ (line++ [10]) OF X τ out hτX hXb OS).le (Gu (St.le_refl _) hτ1)
        simp only [↓R1,RR,seval,q3]
        repeat' (first|(with_reducible refine And.intro ?_ ?_;exact ak)|(((refine AC.mono (AC.wk (hj) (aa _)) ?_;(rintro _ _ ⟨rfl,rfl⟩)))<;>(try simp only [↓R1,RR,seval])))
        all_goals first|omega|(simp only [List.length_append,List.length_cons,List.length_nil];omega)|skip
        refine (AC.wk hwr (aa _)).mono ?_
        rintro _ _ ⟨rfl,τ',hτ',_,rfl⟩
        have hln:=La X γ τ' (out++(line++ [10]))
        have hτ'σ:σ.tip τ'=none:=by rw [←hXt];exact hτ'
        simp only [↓R1,RR,seval]
        by_cases hL:1000<line.length
        · have q4:decide ((1000:Int)<(line.length:Int))=true:=by rw [decide_eq_true_eq];omega
          rw [if_pos (.inl hL)] at hI
          rw [hI]
          simp only [↓R1,RR,seval,q4]
          skip
          all_goals (try (first|omega|(rename_i hno;cases hno;done)))
          refine aq (af ?_) OT (hle τ' _ (fun _=>hτ'σ))
          (simp only [ar,RR,seval])
          rfl
        · have q4:decide ((1000:Int)<(line.length:Int))=false:=by rw [decide_eq_false_iff_not];omega
          by_cases hO:20000<(out++(line++ [10])).length
          · have q5:decide ((20000:Int)<((out++(line++ [10])).length:Int))=true:=by rw [decide_eq_true_eq];omega
            rw [if_pos (.inr hO)] at hI
            rw [hI]
            simp only [↓R1,RR,seval,q4]
            repeat' (((refine AC.mono (AC.wk (hln) (aa _)) ?_;(rintro _ _ ⟨rfl,rfl⟩)))<;>(try simp only [↓R1,RR,seval,q4,q5]))
            refine aq (af ?_) OT (hle τ' _ (fun _=>hτ'σ))
            (simp only [ar,RR,seval])
            rfl
          · have q5:decide ((20000:Int)<((out++(line++ [10])).length:Int))=false:=by rw [decide_eq_false_iff_not];omega
            rw [if_neg Oz] at hI
            simp only [↓R1,RR,seval,q4]
            repeat' (((refine AC.mono (AC.wk (hln) (aa _)) ?_;(rintro _ _ ⟨rfl,rfl⟩)))<;>(try simp only [↓R1,RR,seval,q4,q5,hw]))
            exact ⟨(k+1,τ',out++(line++ [10])),⟨hlt,fun _=>hτ'σ,by simp only;omega,hI⟩,by simp [aK,slot,ae],St.le_refl _,by simp only;omega⟩
  · have hke:k=l.length:=by omega
    subst hke
    have q1:decide ((l.length:Int)<(l.length:Int))=false:=OF
    rw [List.drop_length] at hI
    have ws:=mR (β:=γ) (τ:=τ) (l:=out) (σ:=X) (by rw [hXt];exact hτ) hXb
    simp only [↓R1,RR,seval,q1]
    repeat' (((refine AC.mono (AC.wk (ws) (aa _)) ?_;(rintro _ _ ⟨rfl,rfl⟩)))<;>(try simp only [↓R1,RR,seval]))
    rw [hI]
    refine aq (af ?_) OT (hXl _)
    (simp only [ar,RR,seval])
    rfl
end Go.Proofs.YtgephffbfiemeaaGreatDoor
namespace Go.Proofs.YtgephffbfiemeaaGreatDoor
open Go.Abs
set_option linter.all false
set_option maxRecDepth 100000
theorem sg {P:Program} {x:CC} {fr:Fr} {σ:St} {Q:Exit→Fr→St→Prop} {h:Hold (x,σ,Q)} (n t o e s:Nat) {β:Nat} {c0:List AV} (hp:slot t fr= .ptr β 0) (hb:σ.box β=some c0) (hc:c0[o]? =some .nils) (F:Nat→Nat→Fr) (S:Nat→Nat→St) (I:Nat→Prop) (h0:I 0)
  (hF:∀ τ,aK (F τ 0) fr) (hS:∀ τ,σ.tip τ=none→St.le (S τ 0) ((σ.ai τ (e,s,0)).ad β (c0.set o (.tsl τ 0 []))))
  (hr:∀ τ,σ.tip τ=none→∀ k,k≤n→I k→aC P x (F τ k) (S τ k) (fl (fun fr' σ'=>k<n∧I (k+1)∧aK (F τ (k+1)) fr'∧St.le (S τ (k+1)) σ') Q)):oe P x fr σ Q h:=by
 refine ⟨[(true,t,o,e,s)],?_⟩
 simp only [cb,hp,hb,Nat.zero_add,hc,slv,fresh,true_and]
 intro τ hτ
 refine ⟨Nat,F τ,S τ,fun k=>k≤n∧I k,fun k=>n - k,0,⟨Nat.zero_le _,h0⟩,hF τ,hS τ hτ,fun k hk=>?_⟩
 refine cg _ _ _ (hr τ hτ k hk.1 hk.2) (fun e fr' σ' hq=>?_)
 unfold fl at hq
 cases e with
 | normal=>simp only at hq ⊢;exact ⟨k+1,⟨hq.1,hq.2.1⟩,hq.2.2.1,hq.2.2.2,by omega⟩
 | _=>exact hq
def mkW (t:List UInt8):WI:=⟨!bareS t,t,0⟩
def mkR (l:List (List UInt8)):RI:=⟨0,l.map mkW⟩
theorem sh (l:List (List UInt8)) {k:Nat} (h:k<l.length):((l.map AV.str).drop (k*1)).take 1= [.str l[k]]:=by
 rw [Nat.mul_one,List.drop_eq_getElem_cons Py]
 simp
theorem FG (l:List (List UInt8)) {k:Nat} (h:k<l.length):((l.take k).map mkW).flatMap cWI++ [.bool (!bareS l[k]), .str l[k], .int .i64 0]=((l.take (k+1)).map mkW).flatMap cWI:=by
 rw [←List.take_append_getElem h,List.map_append,List.flatMap_append]
 simp [mkW,cWI]
set_option maxHeartbeats 2000000 in
theorem Lg (l:List (List UInt8)) (hl:l.length≤1000) (ht:∀ t∈l,t.length≤1000000):Pu Tryz.prog 134 [.sl false l.length (l.map AV.str)] (.agg (cRI (mkR l))):=by
 have q1:True:=trivial
 have hw:True:=trivial
 have hd:True:=trivial
 (refine av HA L1 fun σ=>?_;simp only [HA,↓R1,RR,seval])
 rw [ah];intro b2 h2;simp only [↓R1,RR,seval]
 rw [ah];intro b3 h3;rw [St.aG] at h3;obtain ⟨⟨_,_⟩,h3⟩:=h3;simp only [↓R1,RR,seval]
 refine sg l.length 3 1 109 3 (β:=b3) rfl (by simp only [RR,seval];rfl) rfl
  (fun τ k=> [(2, .ptr b2 0),(3, .ptr b3 0),(6, .sl false l.length (l.map AV.str)),(7, .int .i64 (l.length:Nat)),(8, .int .i64 (k:Nat))])
  (fun τ k=>((σ.ad b2 [.int .i64 0, .nils]).ad b3 [.int .i64 0, .tsl τ k (((l.take k).map mkW).flatMap cWI)]).ai τ (109,3,k)) (fun _=>True) trivial (fun τ=>by simp [aK,slot,ae]) (fun τ _=>by simp only [List.set_cons_succ,List.set_cons_zero,List.take_zero,List.map_nil,List.flatMap_nil,RR,seval];exact St.le_refl _) (fun τ hτ k hk _=>?_)
 by_cases hlt:k<l.length
 ·have q1:decide ((k:Int)<(l.length:Int))=true:=by rw [decide_eq_true_eq];omega
  have hd:=sh l hlt
  have hw:IntKind.i64.wrap ((k:Int)+1)=((k+1:Nat):Int):=OD
  have hp:=Ld l[k] (ht _ (List.getElem_mem hlt))
  have hcl:(((l.take k).map mkW).flatMap cWI).length=k*3:=by rw [cj];simp;omega
  have hs:=FG l hlt
  simp only [↓R1,RR,seval,q1,hd]
  repeat' (first|(with_reducible refine And.intro ?_ ?_;focus (intros;(repeat' (with_reducible apply And.intro))<;>first|omega|(simp only [RZ];omega)))|(with_reducible apply And.intro)|((first|((first|(refine bz (.inr rfl) rfl ?_ ?_ ?_ ?_ ?_ ?_;(first|rfl|exact St.aW _ _ _|(simp only [↓R1,RR,seval,q1,hw,hd]));(first|omega|(simp only [RZ,cj,ct,List.length_nil,List.length_cons];omega)|(simp only [RZ,cj,ct,List.length_nil,List.length_cons]));(first|rfl|first|omega|(simp only [RZ,cj,ct,List.length_nil,List.length_cons];omega)|(simp only [RZ,cj,ct,List.length_nil,List.length_cons])))|(refine bx rfl ?_ ?_ ?_ ?_ ?_ ?_;(first|rfl|exact St.aW _ _ _|(simp only [↓R1,RR,seval,q1,hw,hd]));(first|omega|(simp only [RZ,cj,ct,List.length_nil,List.length_cons];omega)|(simp only [RZ,cj,ct,List.length_nil,List.length_cons]));(first|rfl|first|omega|(simp only [RZ,cj,ct,List.length_nil,List.length_cons];omega)|(simp only [RZ,cj,ct,List.length_nil,List.length_cons])))|(refine appV_own ?_ ?_ ?_ ?_;exact aD OW _)|(refine appD_own ?_ ?_ ?_ ?_ ?_;omega;exact aD OW _)|(refine appV_fresh rfl trivial rfl ?_ ?_ ?_ ?_ ?_;(first|rfl|first|omega|(simp only [RZ,cj,ct,List.length_nil,List.length_cons];omega)|(simp only [RZ,cj,ct,List.length_nil,List.length_cons]));(first|rfl|first|omega|(simp only [RZ,cj,ct,List.length_nil,List.length_cons];omega)|(simp only [RZ,cj,ct,List.length_nil,List.length_cons])))|(refine appD_fresh rfl trivial rfl ?_ ?_ ?_ ?_ ?_ ?_;omega;(first|rfl|first|omega|(simp only [RZ,cj,ct,List.length_nil,List.length_cons];omega)|(simp only [RZ,cj,ct,List.length_nil,List.length_cons]));(first|rfl|first|omega|(simp only [RZ,cj,ct,List.length_nil,List.length_cons];omega)|(simp only [RZ,cj,ct,List.length_nil,List.length_cons]))));(unfold maxLen;omega);omega)|(refine Ct (hp) ?_))<;>(try simp only [↓R1,RR,seval,hw])))
  all_goals first|(simp only [List.length_map];omega)|skip
  ·simp [aK,slot,ae]
  ·rw [hs];exact St.le_refl _
 ·have hke:k=l.length:=by omega
  subst hke
  have q1:decide ((l.length:Int)<(l.length:Int))=false:=OF
  rw [List.take_length]
  simp only [↓R1,RR,seval,q1]
  skip
  refine aq ?_ OE (St.fg (St.aL (St.aL (St.le_refl _) h2) h3) hτ)
  simp only [ar,RR,seval]
  simp only [cRI,mkR,List.length_map]
  exact mi (.cons (ae _) (.cons (dD _ _ _) .nil))
def cWd (w:Wd):List AV:= [.bool w.q, .str w.t, .int .i64 (w.a:Nat)]
theorem bO (l:List Wd):(l.flatMap cWd).length=l.length*3:=aD (f:=cWd) (fun _=>rfl) l
def lV (τ:Nat):List Wd→AV
 | []=> .nils
 | p=> .tsl τ p.length (p.flatMap cWd)
def lT (σ:St) (τ:Nat):List Wd→St
 | []=>σ
 | p=>σ.ai τ (109,3,p.length)
theorem mV (σ:St) (τ:Nat) (p:List Wd):(lT σ τ p).box=σ.box:=by cases p<;>rfl
theorem mW (σ:St) (τ:Nat) (p:List Wd) (u:Nat) (c:List AV):(lT σ τ p).ad u c=lT (σ.ad u c) τ p:=by cases p<;>rfl
theorem Jl {P:Program} {Y:St} {K:AV→St→Prop} {τ:Nat} {pre:List Wd} {w:Wd} {h:Hold (lT Y τ pre,K)} (hl:pre.length≤1000000) (hY:pre≠ []→Y.tip τ=none)
    (hK:∀ τ',Y.tip τ'=none→K (lV τ' (pre++ [w])) (lT Y τ' (pre++ [w]))):pq true 109 3 32 (lV τ pre) (.sl true 1 (cWd w)) (lT Y τ pre) K h:=by
  cases pre with
  | nil =>
    refine mw (n:=0) (cs:= []) rfl trivial rfl rfl rfl ?_ ?_ (fun τ' hτ'=>?_)
    · unfold maxLen;decide
    · decide
    · exact hK τ' hτ'
  | cons x p =>
    have h1:=bO (x::p)
    simp only [List.length_cons] at hl h1
    refine bx rfl ?_ ?_ rfl ?_ ?_ ?_
    · simp [lT,St.ai,upd]
    · simpa using h1
    · unfold maxLen;simp;omega
    · simp;omega
    · have:=hK τ (hY OF)
      have e1:(x::p).flatMap cWd++cWd w=((x::p)++ [w]).flatMap cWd:=OF
      have e2:lT (lT Y τ (x::p)) τ ((x::p)++ [w])=lT Y τ ((x::p)++ [w]):=St.eO _ _ _ _
      have e3:(x::p).length+1=((x::p)++ [w]).length:=OF
      rw [e1,e3]
      rw [←e2] at this
      exact this
theorem Lh {s s':St} (h:St.le s s') (τ:Nat) (p:List Wd):St.le (lT s τ p) (lT s' τ p):=by
 cases p with
 | nil=>exact h
 | cons x p=>exact St.jN h
def uM (σ:St) (o:Except Nat (List Wd)) (r:AV) (s:St):Prop :=
 match o with
 | .error b=>r= .tup [.nils, .int .i64 (b:Nat), .bool false]∧s=σ
 | .ok ws=>∃ τ,(ws≠ []→σ.tip τ=none)∧r= .tup [lV τ ws, .int .i64 0, .bool true]∧s=lT σ τ ws
set_option maxHeartbeats 4000000 in
theorem pW (σ:St) (l:List UInt8) (hl:l.length≤1000000):AC Tryz.prog 149 [.str l] σ (uM σ (cI l)):=by
  have hc1:True:=trivial
  have q1:True:=trivial
  have q3:True:=trivial
  (refine aT HK Mb ?_;simp only [HK,↓R1,RR,Nat.reduceEqDiff,Nat.reduceAdd,Nat.reduceLeDiff,reduceCtorEq])
  repeat' ((with_reducible intro β hβ;(try simp only [RB] at hβ);(repeat (obtain ⟨⟨_,_⟩,hβ⟩:=hβ));(try (have hbis:=ag OB hβ;obtain ⟨_,_⟩:=hbis)))<;>(try simp only [↓R1,RR,Nat.reduceEqDiff,Nat.reduceAdd,Nat.reduceLeDiff,Nat.reduceLT,reduceCtorEq,vD,hc1,q1,q3]))
  refine (AC.wk (Cq (k:=0) (l:=l) (by simp only [RR];rfl) (Nat.zero_le _) hl) (aa _)).mono ?_
  rintro _ _ ⟨rfl,rfl⟩
  rw [List.drop_zero]
  simp only [↓R1,RR]
  revert hβ
  revert β
  intro u hu
  have hz:posOf l (l.dropWhile aU)≤l.length:=by simp [posOf]
  have hz2:l.drop (posOf l (l.dropWhile aU))=l.dropWhile aU:=(ij (List.dropWhile_suffix _)).1
  refine cn (α:=Nat × Nat × List Wd) (fun z=> [(2,lV z.2.1 z.2.2),(5, .ptr u 0)]) (fun z=>lT (σ.ad u [.str l, .int .i64 (z.1:Nat)]) z.2.1 z.2.2)
    (fun z=>z.1≤l.length∧(z.2.2≠ []→σ.tip z.2.1=none)∧z.2.2.length≤z.1∧(l.drop z.1).dropWhile aU=l.drop z.1∧cI l=nH z.2.2 (dE (l.drop z.1) z.1)) (fun z=>l.length - z.1) (posOf l (l.dropWhile aU),0,[])
    (by simp [aK,slot,ae,lV]) (by simp only [RR];exact St.le_refl _) ⟨hz,(fun h=>absurd rfl h),Nat.zero_le _,(by rw [hz2,fp]),(by rw [BA,hz2,cI,kW,Nat.zero_add];rfl)⟩ ?_
  rintro ⟨i,τ,pre⟩ ⟨hi,hτ,hlen,hdw,hI⟩
  simp only at hi hτ hlen hdw hI
  have hbS:∀ (i:Nat) τ pre,(lT (σ.ad u [.str l, .int .i64 i]) τ pre).box u=some [.str l, .int .i64 i]:=fun i τ pre=>by rw [mV];simp only [RR]
  have hset:∀ (i j:Nat) τ pre,(lT (σ.ad u [.str l, .int .i64 i]) τ pre).ad u [.str l, .int .i64 j]=lT (σ.ad u [.str l, .int .i64 j]) τ pre:=fun i j τ pre=>by rw [mW];simp only [RR]
  have fin:∀ (i:Nat),cI l= .ok pre→uM σ (cI l) (.tup [lV τ pre, .int .i64 0, .bool true]) (lT σ τ pre):=fun i h=>by rw [h];exact ⟨τ,hτ,rfl,rfl⟩
  have hle:∀ (i:Nat),St.le (lT σ τ pre) (lT (σ.ad u [.str l, .int .i64 i]) τ pre):=fun i=>by
    rw [←mW];exact St.aL (St.le_refl _) (by rw [mV];exact hu)
  have hle0:∀ (i:Nat),St.le σ (lT (σ.ad u [.str l, .int .i64 i]) τ pre):=fun i=>by
    have h1:St.le σ (σ.ad u [.str l, .int .i64 i]):=St.aL (St.le_refl _) hu
    cases pre with
    | nil=>exact h1
    | cons x p=>exact St.fg h1 (hτ OF)
  simp only [↓R1,RR,Nat.reduceEqDiff]
  have a1:=dF (hbS i τ pre)
  have q3:=hbS i τ pre
  rcases eJ l i hi with ⟨hd,he⟩|⟨c,r,hd,hlt⟩
  · have hc1:decide ((i:Int)<(l.length:Int))=false:=by simp;omega
    have hok:cI l= .ok pre:=by rw [hI,hd,eE];simp [nH]
    repeat' (((refine AC.mono (AC.wk (a1) (aa _)) ?_;(rintro _ _ ⟨rfl,rfl⟩)))<;>(try simp only [↓R1,RR,Nat.reduceEqDiff,reduceCtorEq,hc1]))
    exact aA OF OT (af Pm) (hle i) (fin i hok)
  · have hc1:decide ((i:Int)<(l.length:Int))=true:=by simpa using hlt
    have a2:=eI (hbS i τ pre) hd
    rw [eE,hdw,hd] at hI
    simp only at hI
    by_cases h35:c=35
    · have q1:((c.toNat:Int) != 35)=false:=by rw [bne,vD];simpa using h35
      have hok:cI l= .ok pre:=by rw [hI,if_pos h35];simp [nH]
      repeat' ((first|((refine AC.mono (AC.wk (a1) (aa _)) ?_;(rintro _ _ ⟨rfl,rfl⟩)))|((refine AC.mono (AC.wk (a2) (aa _)) ?_;(rintro _ _ ⟨rfl,rfl⟩))))<;>(try simp only [↓R1,RR,Nat.reduceEqDiff,reduceCtorEq,hc1,q1]))
      exact aA OF OT (af Pm) (hle i) (fin i hok)
    · have q1:((c.toNat:Int) != 35)=true:=by rw [bne,vD];simpa using h35
      rw [if_neg h35] at hI
      have hlr:(l.drop i).length - (c::r).length=0:=by rw [hd];omega
      have a3:=Jg (hbS i τ pre) hd hl
      cases hw0:cV (c::r) with
      | none =>
        rw [hw0] at a3 hI
        repeat' ((first|((refine AC.mono (AC.wk (a1) (aa _)) ?_;(rintro _ _ ⟨rfl,rfl⟩)))|((refine AC.mono (AC.wk (a2) (aa _)) ?_;(rintro _ _ ⟨rfl,rfl⟩))))<;>(try simp only [↓R1,RR,Nat.reduceEqDiff,Nat.reduceAdd,Nat.reduceLT,reduceCtorEq,hc1,q1,q3]))
        refine (AC.wk a3 (aa _)).mono ?_
        rintro _ _ ⟨p,j,rfl,rfl⟩
        rw [hset]
        simp only [wdV,↓R1,RR,Nat.reduceEqDiff,Nat.reduceAdd,Nat.reduceLT]
        repeat' (first|(with_reducible rw [ah])|((with_reducible intro β hβ;(try simp only [RB] at hβ);(repeat (obtain ⟨⟨_,_⟩,hβ⟩:=hβ));(try (have hbis:=ag OB hβ;obtain ⟨_,_⟩:=hbis)))<;>(try simp only [↓R1,RR,Nat.reduceEqDiff,Nat.reduceAdd,Nat.reduceLeDiff])))
        rw [mV,St.aG] at hβ
        obtain ⟨⟨_,_⟩,hβ⟩:=hβ
        refine aA (r:= .tup [.nils, .int .i64 (i:Nat), .bool false]) OF OT (af Pm) (St.aR (hle0 j) OB) ?_
        rw [hI]
        simp only [nH,uM,Nat.sub_self,Nat.add_zero,true_and]
      | some q =>
        obtain ⟨q,t,m⟩:=q
        rw [hw0] at a3 hI
        obtain ⟨hdm,hml⟩:=ij ((oD hw0).trans (by rw [←hd];exact jY l i))
        have hmlen:=eD hw0
        have hpm:posOf l m=l.length - m.length:=rfl
        have hcl:(c::r).length=l.length - i:=by rw [←hd];simp
        repeat' ((first|((refine AC.mono (AC.wk (a1) (aa _)) ?_;(rintro _ _ ⟨rfl,rfl⟩)))|((refine AC.mono (AC.wk (a2) (aa _)) ?_;(rintro _ _ ⟨rfl,rfl⟩))))<;>(try simp only [↓R1,RR,Nat.reduceEqDiff,Nat.reduceAdd,Nat.reduceLT,reduceCtorEq,hc1,q1,q3]))
        refine (AC.wk a3 (aa _)).mono ?_
        rintro _ _ ⟨rfl,rfl⟩
        rw [hset]
        simp only [wdV,↓R1,RR,Nat.reduceEqDiff,Nat.reduceAdd,Nat.reduceLT]
        repeat' (first|(with_reducible rw [ah])|((with_reducible intro β hβ;(try simp only [RB] at hβ);(repeat (obtain ⟨⟨_,_⟩,hβ⟩:=hβ));(try (have hbis:=ag OB hβ;obtain ⟨_,_⟩:=hbis)))<;>(try simp only [↓R1,RR,Nat.reduceEqDiff,Nat.reduceAdd,Nat.reduceLeDiff])))
        rw [mV,St.aG] at hβ
        obtain ⟨⟨_,_⟩,hβ⟩:=hβ
        rw [mW,mW]
        refine Jl (P:=Tryz.prog) (w:=⟨q,t,i⟩) Oz hτ (fun τ' hτ'=>?_)
        simp only [↓R1,RR,Nat.reduceEqDiff]
        have hbu:∀ p,(lT (((σ.ad u [.str l, .int .i64 (posOf l m:Nat)]).ad β [.bool false, .str [], .int .i64 0]).ad β [.bool q, .str t, .int .i64 (i:Nat)]) τ' p).box u=some [.str l, .int .i64 (posOf l m:Nat)]:=fun p=>by
          rw [mV];simp only [RR]
        refine (AC.wk (Cq (hbu _) hml hl) (aa _)).mono ?_
        rintro _ _ ⟨rfl,rfl⟩
        rw [hdm,mW]
        simp only [↓R1,RR]
        have hsuf:m.dropWhile aU <:+ l:=(List.dropWhile_suffix _).trans ((oD hw0).trans (by rw [←hd];exact jY l i))
        obtain ⟨hd4,hl4⟩:=ij hsuf
        have hp4:posOf l (m.dropWhile aU)=l.length - (m.dropWhile aU).length:=rfl
        have hl5:=cC aU m
        refine ⟨(posOf l (m.dropWhile aU),τ',pre++ [⟨q,t,i⟩]),⟨hl4,fun _=>hτ',?_,?_,?_⟩,by simp [aK,slot,ae],Lh (St.aL (St.le_refl _) (by rw [St.aG];exact ⟨⟨by assumption,by assumption⟩,hβ⟩)) _ _,?_⟩
        · simp only [List.length_append,List.length_cons,List.length_nil];omega
        · rw [hd4,fp]
        · rw [hI,hd4]
          simp only
          rw [yi,Bz,kW m]
          rw [show i+((c::r).length - m.length)+(m.length - (m.dropWhile aU).length)=posOf l (m.dropWhile aU) by omega]
          simp only [Nat.sub_self,Nat.add_zero]
        · simp only;omega
theorem NT (s:List UInt8) (c:UInt8):Pu Tryz.prog 244 [.str s, .str [c]] (.int .i64 (Lib.indexByte s c)):=by
 intro σ
 refine AC.eX (Go.Proofs.enters_of Tryz.func244 OA rfl) ?_
 intro g w vs hI hv
 obtain ⟨v1,vs,rfl,r1,hv⟩:=hv.cons_inv
 obtain ⟨v2,vs,rfl,r2,hv⟩:=hv.cons_inv
 rw [hv.bK,r1.cF,r2.cF]
 refine (Tryz.strings_Index_one ⟨s.toArray⟩ c w).mono ?_
 rintro e w' ⟨rfl,rfl⟩
 exact ⟨_,rfl,Go.RowKit.Below.refl _ _,fun g' _=> .int _ _⟩
theorem FH (σ:St) (l:List UInt8):AC Tryz.prog 147 [.str l, .str [10]] σ (fun r s=>∃ β0 β1 β2,σ.box β0=none∧σ.box β1=none∧σ.box β2=none∧(Apart β1 β0∧Apart β0 β1)∧(Apart β2 β0∧Apart β0 β2)∧(Apart β2 β1∧Apart β1 β2) ∧
  r= .fn 242 [.ptr β1 0, .ptr β0 0, .ptr β2 0]∧s=((σ.ad β0 [.str l]).ad β1 [.str [10]]).ad β2 [.int .i64 1]):=by
 have h:∀ σ:St,AC Tryz.prog 196 [.str l, .str [10], .int .i64 1] σ (fun r s=>∃ β0 β1 β2,σ.box β0=none∧σ.box β1=none∧σ.box β2=none∧(Apart β1 β0∧Apart β0 β1)∧(Apart β2 β0∧Apart β0 β2)∧(Apart β2 β1∧Apart β1 β2) ∧
   r= .fn 242 [.ptr β1 0, .ptr β0 0, .ptr β2 0]∧s=((σ.ad β0 [.str l]).ad β1 [.str [10]]).ad β2 [.int .i64 1]):=fun σ=>by
  (refine aT HV Mn ?_;simp only [HV,↓R1,RR,seval])
  intro β0 h0 β1 h1 β2 h2
  simp only [St.aG] at h1 h2
  refine b7 ?_
  exact ⟨β0,β1,β2,h0,h1.2,h2.2.2,h1.1,h2.2.1,h2.1,rfl,rfl⟩
 (refine aT HI L9 ?_;simp only [HI,↓R1,RR,seval])
 refine (AC.wk (h σ) (aa _)).mono ?_
 rintro _ _ ⟨β0,β1,β2,h0,h1,h2,h3,h4,h5,rfl,rfl⟩
 simp only [↓R1,RR,seval]
 refine b7 ?_
 exact ⟨β0,β1,β2,h0,h1,h2,h3,h4,h5,rfl,rfl⟩
theorem jZ {l:List UInt8} (h:bW l= []):cut l=(l,none):=by simp only [cut,h]
theorem j0 {l r:List UInt8} {c:UInt8} (h:bW l=c::r):cut l=(bg l++ [10],some r)∧l.take ((bg l).length+1)=bg l++ [10]∧l.drop ((bg l).length+1)=r∧(bg l).length+1≤l.length:=by
 have h1:=gC l
 rw [h] at h1
 have hc:=uq h
 subst hc
 have h2:l=(bg l++ [10])++r:=by rw [List.append_assoc];exact h1.symm
 have hn:(bg l++ [10]).length=(bg l).length+1:=OF
 refine ⟨by simp only [cut,h],?_,?_,?_⟩
 ·exact (congrArg (List.take _) h2).trans (List.take_left' hn)
 ·exact (congrArg (List.drop _) h2).trans (List.drop_left' hn)
 ·have:=congrArg List.length h2
  rw [List.length_append,hn] at this;omega
set_option maxHeartbeats 2000000 in
theorem Cz {γ:Type} {prs:List Nat} {asg body:CC} {fr:Fr} {Q:Exit→Fr→St→Prop} {β0 β1 β2:Nat} (T:γ→List UInt8→St) (I:γ→List UInt8→Prop) (J:γ→Prop) (hps:prs.length=1) (g0:γ) (l0:List UInt8) (h0:I g0 l0)
    (hb0:∀ g r,(T g r).box β0=some [.str r]) (hb1:∀ g r,(T g r).box β1=some [.str [10]]) (hb2:∀ g r,(T g r).box β2=some [.int .i64 1])
    (hs:∀ g r r',(T g r).ad β0 [.str r']=T g r') (hl:∀ g r L,(T g r).lp L=(T g0 l0).lp L) (hlen:∀ g r,I g r→r.length≤1000000)
    (hround:∀ L (r:Loop) g rest,(T g0 l0).lp L=none→I g rest→aC Tryz.prog asg (iL prs [.str (cut rest).1] fr) ((T g rest).au L (r,fr)) (fun e fr1 σ2=>e= .normal∧σ2.lp L=some (.loop r,fr)∧aC Tryz.prog body fr1 (σ2.au L (busy r,fr)) (fun e _ σ3=>σ3.lp L=some (.loop (busy r),fr)∧match e with
        | .normal=>∃ g',St.le ((T g' rest).au L (r,fr)) (σ3.au L (r,fr))∧(match (cut rest).2 with|none=>J g'|some r'=>I g' r')
        | .ret=>Q .ret fr ((σ3.au L (left r .ret,fr)).dropLp L)
        | _=>False)))
    (hend:∀ g r,J g→Q .normal fr (T g r)):RF Tryz.prog 242 [.ptr β1 0, .ptr β0 0, .ptr β2 0] prs asg body fr (T g0 l0) Q:=by
  refine ⟨by kernel_rfl,fun L r hL hr1 hr2 hY=>?_⟩
  have hY':∀ g rest,I g rest→YC Tryz.prog L [.str (cut rest).1] ((T g rest).au L (r,fr)) (fun v s'=>(v= .bool true∧∃ g',(match (cut rest).2 with|none=>J g'|some r'=>I g' r')∧s'=(T g' rest).au L (r,fr))∨(v= .bool false∧s'.lp L=some (.loop (left r .ret),fr)∧Q .ret fr (s'.dropLp L))):=fun g rest hI=>by
    refine YC.weaken (hY [.str (cut rest).1] ((T g rest).au L (r,fr)) (fun v s=>(v= .bool true∧∃ g',St.le ((T g' rest).au L (r,fr)) s∧(match (cut rest).2 with|none=>J g'|some r'=>I g' r'))∨(v= .bool false∧s.lp L=some (.loop (left r .ret),fr)∧Q .ret fr (s.dropLp L))) (by simpa using hps.symm) (St.aY _ _ _) ?_) ?_
    · refine cg _ _ _ (hround L r g rest hL hI) (fun e fr1 σ2 h=>?_)
      obtain ⟨h1,h2,h3⟩:=h
      refine ⟨h1,h2,cg _ _ _ h3 (fun e2 fr2 σ3 h4=>?_)⟩
      obtain ⟨h5,h6⟩:=h4
      refine ⟨h5,?_⟩
      cases e2 with
      | normal=>obtain ⟨g',k1,k2⟩:=h6;exact .inl ⟨rfl,g',k1,k2⟩
      | ret=>exact .inr ⟨rfl,St.aY _ _ _,h6⟩
      | _=>exact h6.elim
    · rintro v s (⟨rfl,g',k1,k2⟩|⟨rfl,k1,k2⟩)
      · exact ⟨_,_,ae _,k1, .inl ⟨rfl,g',k2,rfl⟩⟩
      · exact ⟨_,_,ae _,St.le_refl _, .inr ⟨rfl,k1,k2⟩⟩
  have hb0':∀ g rest,((T g rest).au L (r,fr)).box β0=some [.str rest]:=fun g rest=>hb0 g rest
  have hb1':∀ g rest,((T g rest).au L (r,fr)).box β1=some [.str [10]]:=fun g rest=>hb1 g rest
  have hb2':∀ g rest,((T g rest).au L (r,fr)).box β2=some [.int .i64 1]:=fun g rest=>hb2 g rest
  have hs':∀ g rest r',((T g rest).au L (r,fr)).ad β0 [.str r']=(T g r').au L (r,fr):=fun g rest r'=>by rw [←St.ei,hs]
  have q1:(((1:Nat):Int) == 0)=false:=rfl
  have q2:True:=trivial
  have q3:True:=trivial
  have q4:True:=trivial
  have q5:True:=trivial
  have q6:True:=trivial
  refine aT Ig MG ?_
  simp only [Ig,List.length_cons,List.length_nil,Nat.zero_add,↓R1,RR,seval,hb1']
  refine cn (α:=γ × List UInt8) (fun _=> [(0, .yld L),(1, .ptr β1 0),(2, .ptr β0 0),(3, .ptr β2 0)]) (fun z=>(T z.1 z.2).au L (r,fr)) (fun z=>I z.1 z.2) (fun z=>z.2.length) (g0,l0) OP (St.le_refl _) h0 ?_
  rintro ⟨g,rest⟩ hI
  simp only at hI
  have hn:=hlen g rest hI
  have hy:=hY' g rest hI
  have hix:=NT rest 10
  simp only [↓R1,RR,seval,hb0',hb1']
  rw [ur] at hix
  cases ha:bW rest with
  | nil =>
    rw [ha] at hix
    rw [jZ ha] at hy
    simp only at hix
    have q2:decide ((-1:Int)<0)=true:=rfl
    repeat' ((refine Pt (hix) ?_)<;>(try simp only [↓R1,RR,seval,hb0']))
    refine YC.mono hy ?_
    rintro v s' (⟨rfl,g',hJ,rfl⟩|⟨rfl,h1,h2⟩)
    · simp only [↓R1,RR,seval]
      refine b7 (.inl ⟨St.aY _ _ _,?_⟩) Pj
      rw [St.drop_set (by rw [hl,hL])]
      exact hend g' rest hJ
    · simp only [↓R1,RR,seval]
      exact b7 (.inr (.inl ⟨h1,h2⟩)) Pj
  | cons c r' =>
    rw [ha] at hix
    simp only at hix
    obtain ⟨k1,k2,k3,k4⟩:=j0 ha
    rw [k1] at hy
    have q2:decide (((bg rest).length:Int)<0)=false:=OF
    have q3:IntKind.i64.wrap (((bg rest).length:Int)+1)=(((bg rest).length+1:Nat):Int):=OD
    have q6:IntKind.i64.wrap (((bg rest).length:Int)+((1:Nat):Int))=(((bg rest).length+1:Nat):Int):=q3
    have q4:=k2
    have q5:=List.take_of_length_le (l:=rest.drop ((bg rest).length+1)) (i:=rest.length - ((bg rest).length+1)) OF
    repeat' (first|(with_reducible refine And.intro ?_ ?_;exact ak)|((refine Pt (hix) ?_)<;>(try simp only [↓R1,RR,seval,hb0',hb2',q2,q3,q4])))
    all_goals first|omega|skip
    refine YC.mono hy ?_
    rintro v s' (⟨rfl,g',hJ,rfl⟩|⟨rfl,h1,h2⟩)
    · simp only [↓R1,RR,seval,hb0',hb1',q3,q5]
      repeat' (with_reducible refine And.intro ?_ ?_;exact ak)
      all_goals first|omega|skip
      rw [hs',k3]
      refine ⟨(g',r'),hJ,by simp [aK,slot,ae],St.le_refl _,?_⟩
      have:=congrArg List.length k3
      simp only [List.length_drop] at this
      simp only;omega
    · simp only [↓R1,RR,seval]
      exact b7 (.inr (.inl ⟨h1,h2⟩)) Pj
def j3 (l:List UInt8):List UInt8:=if 1≤l.length∧l.drop (l.length - 1)= [10] then l.take (l.length - 1) else l
theorem NU (l:List UInt8) (hl:l.length≤1000000):Pu Tryz.prog 245 [.str l, .str [10]] (.bool (decide (1≤l.length∧l.drop (l.length - 1)= [10]))):=by
 have q1:True:=trivial
 have hw:True:=trivial
 by_cases h:1≤l.length
 ·have q1:decide ((((1:Nat):Int))≤(l.length:Int))=true:=by simp;omega
  have hw:IntKind.i64.wrap ((l.length:Int) - ((1:Nat):Int))=((l.length - 1:Nat):Int):=OD
  (refine av BC KQ fun σ=>?_;simp only [BC,↓R1,RR,Nat.reduceEqDiff,reduceCtorEq,hw,q1])
  repeat' (with_reducible refine And.intro ?_ ?_;focus (intros;(repeat' (with_reducible apply And.intro))<;>first|omega|(simp only [RZ,bO];omega)))
  all_goals first|omega|skip
  (refine aq (af ?_))
  (simp only [ar,RR,Nat.reduceEqDiff,reduceCtorEq])
  have e:(l.drop (l.length - 1)).take (l.length - (l.length - 1))=l.drop (l.length - 1):=List.take_of_length_le OF
  rw [e]
  by_cases h2:l.drop (l.length - 1)= [10]<;>simp [h,h2]
 ·have q1:decide ((((1:Nat):Int))≤(l.length:Int))=false:=by simp;omega
  (refine av BC KQ fun σ=>?_;simp only [BC,↓R1,RR,Nat.reduceEqDiff,reduceCtorEq,q1])
  skip
  (refine aq (af ?_))
  (simp only [ar,RR,Nat.reduceEqDiff,reduceCtorEq])
  simp [h]
theorem NV (l:List UInt8) (hl:l.length≤1000000):Pu Tryz.prog 197 [.str l, .str [10]] (.str (j3 l)):=by
 have hw:True:=trivial
 have hp:=NU l hl
 by_cases h:1≤l.length∧l.drop (l.length - 1)= [10]
 ·have hw:IntKind.i64.wrap ((l.length:Int) - ((1:Nat):Int))=((l.length - 1:Nat):Int):=by rw [wrap64 Oz Oz];omega
  rw [decide_eq_true h] at hp
  (refine av BB KP fun σ=>?_;simp only [BB,↓R1,RR,Nat.reduceEqDiff,reduceCtorEq])
  repeat' (first|(with_reducible refine And.intro ?_ ?_;focus (intros;(repeat' (with_reducible apply And.intro))<;>first|omega|(simp only [RZ,bO];omega)))|((refine Pt (hp) ?_)<;>(try simp only [↓R1,RR,Nat.reduceEqDiff,reduceCtorEq,hw])))
  skip
  all_goals first|omega|skip
  (refine aq (af ?_))
  (simp only [ar,RR,Nat.reduceEqDiff,reduceCtorEq])
  simp [j3,h]
 ·rw [decide_eq_false h] at hp
  (refine av BB KP fun σ=>?_;simp only [BB,↓R1,RR,Nat.reduceEqDiff,reduceCtorEq])
  repeat' ((refine Pt (hp) ?_)<;>(try simp only [↓R1,RR,Nat.reduceEqDiff,reduceCtorEq]))
  (refine aq (af ?_))
  (simp only [ar,RR,Nat.reduceEqDiff,reduceCtorEq])
  simp [j3,h]
theorem NW (l:List UInt8) (hl:l.length≤1000000):Pu Tryz.prog 148 [.str l, .str [10]] (.str (j3 l)):=by
 (refine av HJ Ma fun σ=>?_;simp only [HJ,↓R1,RR,Nat.reduceEqDiff,reduceCtorEq])
 repeat' ((refine Pt (NV l hl) ?_)<;>(try simp only [↓R1,RR,Nat.reduceEqDiff,reduceCtorEq]))
 (refine aq (af ?_))
 (simp only [ar,RR,Nat.reduceEqDiff,reduceCtorEq])
theorem yC (x:List UInt8):j3 (x++ [10])=x:=by
 have h1:(x++ [10]:List UInt8).length - 1=x.length:=OF
 unfold j3
 rw [h1,List.drop_left,if_pos ⟨by simp,rfl⟩,List.take_left]
theorem yD {l:List UInt8} (h:bW l= []):j3 l=l:=by
  unfold j3
  rw [if_neg]
  rintro ⟨h1,h2⟩
  have hl:=gC l
  rw [h,List.append_nil] at hl
  have hm:(10:UInt8)∈bg l:=by
    rw [hl]
    exact List.mem_of_mem_drop (i:=l.length - 1) (by rw [h2];simp)
  have:∀ m:List UInt8,(10:UInt8)∈bg m→False:=by
    intro m
    induction m with
    | nil=>intro h;simp [bg] at h
    | cons c m ih =>
      intro h
      simp only [bg,List.takeWhile_cons] at h
      split at h
      · rename_i hc
        rcases List.mem_cons.1 h with e|h
        · subst e;simp at hc
        · exact ih h
      · simp at h
  exact this l hm
def cRw (r:Rw):List AV:= [.int .i64 (r.a:Nat), .sl false r.ws.length (r.ws.flatMap cWd)]
theorem cw (l:List Rw):(l.flatMap cRw).length=l.length*2:=aD (f:=cRw) (fun _=>rfl) l
def ft (e a:Nat):AV:= .agg [.int .i64 (e:Nat), .int .i64 (a:Nat)]
def iX:Except (Nat × Nat) (List Rw)→AV
 | .error (e,a)=> .tup [.sl false 0 [],ft e a]
 | .ok rs=> .tup [.sl false rs.length (rs.flatMap cRw),ft 0 0]
theorem lR (σ:St) {β γ:Nat} [h:Apart γ β] (a b:List AV):(σ.ad β a).ad γ b=(σ.ad γ b).ad β a:=by
 simp only [St.ad,St.mk.injEq,and_true]
 funext j
 simp only [upd]
 by_cases h1:j=γ
 ·subst h1;rw [if_pos rfl,if_neg h.ne,if_pos rfl]
 ·rw [if_neg h1,if_neg h1]
theorem yE (σ:St) {β γ δ ε ζ:Nat} [Apart β γ] [Apart β δ] [Apart β ε] [Apart β ζ] (a b d e f c:List AV):(((((σ.ad β a).ad γ b).ad δ d).ad ε e).ad ζ f).ad β c=((((σ.ad β c).ad γ b).ad δ d).ad ε e).ad ζ f:=by
 rw [lR _ (β:=ζ) (γ:=β),lR _ (β:=ε) (γ:=β),lR _ (β:=δ) (γ:=β),lR _ (β:=γ) (γ:=β),St.set_set]
structure RG where
 a:Nat
 rs:List Rw
def TR (σ:St) (b2 b3 b4 b5 β0 β1 β2 τ:Nat) (g:RG) (rest:List UInt8):St :=
 (((((((((σ.ad b2 [AV.nils]).ad b3 [AV.int IntKind.i64 0,AV.int IntKind.i64 0]).ad b4 [AV.nils]).ad b5 [AV.int IntKind.i64 (g.a:Nat)]).ad β0 [AV.str rest]).ad β1 [AV.str [10]]).ad β2 [AV.int IntKind.i64 1]).ad b4 [AV.tsl τ g.rs.length (g.rs.flatMap cRw)]).ai τ (80,2,g.rs.length))
theorem si {x:List UInt8} {a b:Nat} (h:¬ 1000<x.length) (hw:cI x= .error b):cr x a= .error (3,a+b):=by
 simp only [cr,if_neg h,hw]
theorem sj {x:List UInt8} {a:Nat} (h:¬ 1000<x.length) (hw:cI x= .ok []):cr x a= .ok []:=by
 simp only [cr,if_neg h,hw]
theorem pX {x:List UInt8} {a:Nat} {ws:List Wd} (h:¬ 1000<x.length) (hw:cI x= .ok ws) (hn:ws≠ []):cr x a= .ok [⟨a,ws.map (dP a)⟩]:=by
 cases ws with
 | nil=>exact (hn rfl).elim
 | cons w ws=>simp only [cr,if_neg h,hw]
theorem sk (σ:St) {x:List UInt8} {ws:List Wd} (hl:x.length≤1000000) (hw:cI x= .ok ws) (hn:ws≠ []) :
  AC Tryz.prog 149 [.str x] σ (fun r s=>∃ β k,σ.box β=none∧r= .tup (.psl β 0 ws.length:: [.int .i64 0, .bool true])∧s=σ.ad β (ws.flatMap cWd++List.replicate k .junk)):=by
 refine AC.owned (e:=109) (es:=3) (enters_of Tryz.func149 OA rfl) (by simp [gnd]) (by simp [gnd]) ?_ (by simpa using hn) ?_
 ·intro a ha
  simp only [List.mem_flatMap,cWd] at ha
  obtain ⟨w,_,hw⟩:=ha
  simp at hw
  rcases hw with rfl|rfl|rfl<;>rfl
 ·have h:=pW (s0 fun _=>none) x hl
  rw [hw] at h
  refine h.mono ?_
  rintro r s ⟨τ,_,rfl,rfl⟩
  cases ws with
  | nil=>exact (hn rfl).elim
  | cons w ws=>exact ⟨τ,rfl,rfl⟩
theorem mX {s s':St} {L:Nat} {x:LO × Fr} (h:St.le s s') (hn:s.lp L=none):St.le s ((s'.au L x).dropLp L):=by
 refine ⟨h.1,h.2.1,h.2.2.1,fun l r hr=>?_,h.2.2.2.2⟩
 have hne:l≠L:=by rintro rfl;rw [hn] at hr;cases hr
 simp only [St.dropLp,St.au,upd,if_neg hne]
 exact h.2.2.2.1 _ _ hr
theorem jr (l:List UInt8):lines l=bg l::(match (cut l).2 with|none=> []|some r'=>lines r'):=by
  rw [rH]
  cases ha:bW l with
  | nil =>
    have h1:=gC l
    rw [ha,List.append_nil] at h1
    rw [jZ ha,h1]
  | cons c r=>rw [(j0 ha).1]
theorem CA {σ:St} {γ:Nat} {c:List AV} (h:σ.box γ=none):(σ.ad γ c).bN γ=σ:=by
 simp only [St.bN,St.ad]
 have:(fun j=>if j=γ then none else upd σ.box γ c j)=σ.box:=by
  funext j
  simp only [upd]
  split
  ·rename_i e;subst e;exact h.symm
  ·rfl
 rw [this]
def shG (a:Nat) (ws:List Wd) (k:Nat) (j:List AV):List AV:=((ws.take k).map (dP a)++ws.drop k).flatMap cWd++j
theorem CB (a:Nat) (ws:List Wd) (j:List AV):shG a ws 0 j=ws.flatMap cWd++j:=by simp [shG]
theorem FI (a:Nat) (ws:List Wd) (j:List AV):(shG a ws ws.length j).take (ws.length*3)=(ws.map (dP a)).flatMap cWd:=by
 have h:=bO (ws.map (dP a))
 simp only [shG,List.take_length,List.drop_length,List.append_nil]
 rw [List.take_append_of_le_length (by rw [h];simp)]
 rw [List.take_of_length_le (by rw [h];simp)]
theorem FJ (a:Nat) (ws:List Wd) (k:Nat) (hk:k≤ws.length) (j:List AV):(shG a ws k j).length=ws.length*3+j.length:=by
 simp only [shG,List.length_append,bO,List.length_map,List.length_take,List.length_drop]
 omega
theorem Jm (a:Nat) (ws:List Wd) {k:Nat} (hk:k<ws.length) (j:List AV) :
  (shG a ws k j)[k*3+2]? =some (.int .i64 (ws[k].a:Nat))∧(shG a ws k j).take (k*3+2)++ [AV.int .i64 ((ws[k].a+a:Nat):Int)]++(shG a ws k j).drop (k*3+2+1)=shG a ws (k+1) j:=by
 obtain ⟨p,hp⟩:∃ p,((ws.take k).map (dP a)).flatMap cWd=p:=⟨_,rfl⟩
 have hpl:p.length=k*3:=by rw [←hp,bO];simp;omega
 obtain ⟨s,hs⟩:∃ s,(ws.drop (k+1)).flatMap cWd++j=s:=⟨_,rfl⟩
 have e1:shG a ws k j=(p++ [AV.bool ws[k].q,AV.str ws[k].t])++(AV.int .i64 (ws[k].a:Nat)::s):=by
  rw [shG,List.drop_eq_getElem_cons hk,List.flatMap_append,hp,List.flatMap_cons,←hs]
  simp [cWd]
 have e2:shG a ws (k+1) j=(p++ [AV.bool ws[k].q,AV.str ws[k].t])++(AV.int .i64 ((ws[k].a+a:Nat):Int)::s):=by
  rw [shG,←List.take_append_getElem hk,List.map_append,List.flatMap_append,List.flatMap_append,hp,←hs]
  simp [cWd,dP]
 have hl:(p++ [AV.bool ws[k].q,AV.str ws[k].t]).length=k*3+2:=by simp [hpl]
 rw [e1,e2]
 refine ⟨?_,?_⟩
 ·rw [List.getElem?_append_right Oz,hl,Nat.sub_self];rfl
 ·rw [List.take_left' hl,List.drop_append,List.drop_of_length_le Oz,hl]
  simp
theorem _root_.OQ {p:Prop} (h:p:=by rw [decide_eq_true_eq];omega):p:=h
set_option maxHeartbeats 4000000 in
theorem p87 (l:List UInt8) (hl:l.length≤1000000):Pu Tryz.prog 87 [.str l] (iX (e6 l)):=by
  have q1:True:=trivial
  have q2:True:=trivial
  have q3:True:=trivial
  have q4:True:=trivial
  have q5:True:=trivial
  have hw:True:=trivial
  have t2:True:=trivial
  have t3:True:=trivial
  have t4:True:=trivial
  have t5:True:=trivial
  have ttip:True:=trivial
  have s5:True:=trivial
  have tl:True:=trivial
  by_cases hlong:20000<l.length
  · have q1:decide ((20000:Int)<(l.length:Int))=true:=by rw [decide_eq_true_eq];omega
    have e:e6 l= .error (4,20000):=by simp only [e6,if_pos hlong]
    rw [e]
    (refine av c87 b87 fun σ=>?_;simp only [c87,↓R1,RR,seval])
    repeat' (first|(with_reducible rw [ah])|((with_reducible intro β hβ;(try simp only [RB] at hβ);(repeat (obtain ⟨⟨_,_⟩,hβ⟩:=hβ));(try (have hbis:=ag OB hβ;obtain ⟨_,_⟩:=hbis)))<;>(try simp only [↓R1,RR,seval,q1])))
    (refine aq ?_ OE)
    simp only [ar,RR,seval]
    simp only [iX,ft]
    (all_goals exact fo)
  · have q1:decide ((20000:Int)<(l.length:Int))=false:=by rw [decide_eq_false_iff_not];omega
    have e:e6 l=dn (lines l) 0:=by simp only [e6,if_neg hlong]
    rw [e]
    (refine av c87 b87 fun σ=>?_;simp only [c87,↓R1,RR,seval])
    rw [ah];intro b2 h2;simp only [↓R1,seval]
    rw [ah];intro b3 h3;rw [St.aG] at h3;obtain ⟨⟨_,_⟩,h3⟩:=h3;simp only [↓R1,RR,seval,q1]
    rw [ah];intro b4 h4;simp only [St.aG] at h4;obtain ⟨⟨_,_⟩,⟨_,_⟩,h4⟩:=h4;simp only [↓R1,RR,seval]
    rw [ah];intro b5 h5;simp only [St.aG] at h5;obtain ⟨⟨_,_⟩,⟨_,_⟩,⟨_,_⟩,h5⟩:=h5;simp only [↓R1,RR,seval]
    refine (AC.wk (FH _ l) (aa _)).mono ?_
    rintro _ _ ⟨β0,β1,β2,k0,k1,k2,⟨_,_⟩,⟨_,_⟩,⟨_,_⟩,rfl,rfl⟩
    simp only [St.aG] at k0 k1 k2
    obtain ⟨⟨_,_⟩,⟨_,_⟩,⟨_,_⟩,⟨_,_⟩,⟨_,_⟩,k0⟩:=k0
    obtain ⟨⟨_,_⟩,⟨_,_⟩,⟨_,_⟩,⟨_,_⟩,⟨_,_⟩,k1⟩:=k1
    obtain ⟨⟨_,_⟩,⟨_,_⟩,⟨_,_⟩,⟨_,_⟩,⟨_,_⟩,k2⟩:=k2
    simp only [↓R1,RR,seval]
    refine eZ [(true,4,0,80,2)] ?_
    simp only [cb,List.set_cons_zero,RR,seval]
    intro τ hτ
    refine ⟨_,_,rfl,?_⟩
    obtain ⟨T,hT⟩:∃ T,T=TR σ b2 b3 b4 b5 β0 β1 β2 τ:=⟨_,rfl⟩
    have t0:∀ g r,(T g r).box β0=some [.str r]:=fun g r=>by subst hT;simp only [TR,RR,seval]
    have t1:∀ g r,(T g r).box β1=some [.str [10]]:=fun g r=>by subst hT;simp only [TR,RR,seval]
    have t22:∀ g r,(T g r).box β2=some [.int .i64 1]:=fun g r=>by subst hT;simp only [TR,RR,seval]
    have t2:∀ g r,(T g r).box b2=some [.nils]:=fun g r=>by subst hT;simp only [TR,RR,seval]
    have t3:∀ g r,(T g r).box b3=some [.int .i64 0, .int .i64 0]:=fun g r=>by subst hT;simp only [TR,RR,seval]
    have t4:∀ g r,(T g r).box b4=some [.tsl τ g.rs.length (g.rs.flatMap cRw)]:=fun g r=>by subst hT;simp only [TR,RR,seval]
    have t5:∀ g r,(T g r).box b5=some [.int .i64 (g.a:Nat)]:=fun g r=>by subst hT;simp only [TR,RR,seval]
    have ttip:∀ g r,(T g r).tip τ=some (80,2,g.rs.length):=fun g r=>by subst hT;simp only [TR,RR,seval]
    have s0:∀ g r r',(T g r).ad β0 [.str r']=T g r':=fun g r r'=>by subst hT;simp only [TR,RR,seval]
    have s5:∀ (g:RG) r (a':Nat) L x,((T g r).au L x).ad b5 [.int .i64 a']=(T ⟨a',g.rs⟩ r).au L x:=fun g r a' L x=>by
      subst hT;rw [←St.ei];simp only [TR,yE,RR,seval]
    have s4:∀ (g:RG) r rs' L x,(((T g r).au L x).ad b4 [.tsl τ rs'.length (rs'.flatMap cRw)]).ai τ (80,2,rs'.length)=(T ⟨g.a,rs'⟩ r).au L x:=fun g r rs' L x=>by
      subst hT;rw [←St.ei,←St.jO];simp only [TR,RR,seval]
    have tl:∀ g r,(T g r).lp=σ.lp:=fun g r=>by subst hT;rfl
    have tle:∀ g r,St.le σ (T g r):=fun g r=>by
      subst hT
      refine St.fg (St.aL (St.aL (St.aL (St.aL (St.aL (St.aL (St.aL (St.aL (St.le_refl σ) h2) h3) h4) h5) k0) k1) k2) h4) hτ
    have hst:((((((((((σ.ad b2 [AV.nils]).ad b3 [AV.int IntKind.i64 0,AV.int IntKind.i64 0]).ad b4 [AV.nils]).ad b5 [AV.int IntKind.i64 0]).ad β0 [AV.str l]).ad β1 [AV.str [10]]).ad β2 [AV.int IntKind.i64 1]).ad b4 [AV.tsl τ 0 []]).ai τ (80,2,0)))=T ⟨0,[]⟩ l:=by
      subst hT;rfl
    rw [hst]
    clear hst
    refine Cz T (fun g rest=>rest.length≤l.length∧g.a=l.length - rest.length∧g.rs.length≤g.a∧dn (lines l) 0=e9 (.ok g.rs) (dn (lines rest) g.a)) (fun g=>dn (lines l) 0= .ok g.rs∧g.rs.length≤l.length+1) rfl _ _ ⟨Nat.le_refl _,by simp,Nat.zero_le _,by rw [yk]⟩ t0 t1 t22 s0 (fun g r L=>by rw [tl,tl]) (fun g r h=>Nat.le_trans h.1 hl) ?_ ?_
    · rintro L r g rest hL ⟨i1,i2,i3,i4⟩
      have hL0:σ.lp L=none:=by rw [tl] at hL;exact hL
      have hcut:(j3 (cut rest).1=bg rest)∧(cut rest).1.length≤rest.length∧(bg rest).length≤(cut rest).1.length:=by
        cases ha:bW rest with
        | nil =>
          have h1:=gC rest
          rw [ha,List.append_nil] at h1
          rw [jZ ha,h1]
          exact ⟨yD ha,Nat.le_refl _,Nat.le_refl _⟩
        | cons c r' =>
          obtain ⟨k1,k2,k3,k4⟩:=j0 ha
          rw [k1]
          exact ⟨yC _,by simpa using k4,by simp⟩
      obtain ⟨hc1,hc2,hc3⟩:=hcut
      have hw:IntKind.i64.wrap ((g.a:Int)+((cut rest).1.length:Int))=((g.a+(cut rest).1.length:Nat):Int):=OD
      have ht:=NW (cut rest).1 Oz
      rw [hc1] at ht
      have fin:∀ nw:List Rw,cr (bg rest) g.a= .ok nw→nw.length≤1→match (cut rest).2 with
          | none=>dn (lines l) 0= .ok (g.rs++nw)∧(g.rs++nw).length≤l.length+1
          | some r'=>r'.length≤l.length∧g.a+(cut rest).1.length=l.length - r'.length∧(g.rs++nw).length≤g.a+(cut rest).1.length∧dn (lines l) 0=e9 (.ok (g.rs++nw)) (dn (lines r') (g.a+(cut rest).1.length)):=by
        intro nw h1 h2
        rw [jr rest] at i4
        simp only [dn,h1] at i4
        rw [←rI] at i4
        have hb:e9 (.ok g.rs) (.ok nw)= .ok (g.rs++nw):=rfl
        rw [hb] at i4
        have hn:(g.rs++nw).length≤g.a+1:=OS
        cases ha:bW rest with
        | nil =>
          rw [jZ ha] at i4 ⊢
          simp only [dn,pK] at i4 ⊢
          exact ⟨i4,by omega⟩
        | cons c r' =>
          obtain ⟨k1,k2,k3,k4⟩:=j0 ha
          rw [k1] at i4 ⊢
          have hr':r'.length=rest.length - ((bg rest).length+1):=by rw [←k3];simp
          simp only [List.length_append,List.length_cons,List.length_nil] at i4 hn ⊢
          refine ⟨by omega,by omega,by omega,?_⟩
          rw [i4]
          congr 2
      simp only [iL,↓R1,RR,seval,hw,t5,s5]
      by_cases h1000:1000<(bg rest).length
      · have q2:decide ((1000:Int)<((bg rest).length:Int))=true:=by rw [decide_eq_true_eq];omega
        have hrr:dn (lines l) 0= .error (4,g.a):=by rw [i4,jr];simp only [dn,cr,if_pos h1000,e9]
        repeat' ((refine Pt (ht) ?_)<;>(try simp only [↓R1,RR,seval,q2,t2,t3,s5]))
        rw [hrr]
        refine aq ?_ OE (St.aL (St.aL (mX (tle _ _) hL0) h2) h3)
        simp only [ar,RR,seval]
        simp only [iX,ft]
        (all_goals exact fo)
      · have q2:decide ((1000:Int)<((bg rest).length:Int))=false:=by rw [decide_eq_false_iff_not];omega
        have hll:(bg rest).length≤1000000:=Oz
        cases hws:cI (bg rest) with
        | error b =>
          have hrr:dn (lines l) 0= .error (3,g.a+b):=by rw [i4,jr];simp only [dn,si h1000 hws,e9]
          have ha:∀ s,AC Tryz.prog 149 [.str (bg rest)] s (fun r s'=>r= .tup [.nils, .int .i64 (b:Nat), .bool false]∧s'=s):=fun s=>by
            have:=pW s (bg rest) hll
            rwa [hws] at this
          have hb:b≤1000000:=by have:=yl hws;omega
          have q3:IntKind.i64.wrap ((g.a:Int)+(b:Int))=((g.a+b:Nat):Int):=OD
          repeat' ((first|(refine Pt (ht) ?_)|((refine AC.mono (AC.wk (ha _) (aa _)) ?_;(rintro _ _ ⟨rfl,rfl⟩))))<;>(try simp only [↓R1,RR,seval,q2,q3,t2,t3,s5]))
          rw [hrr]
          refine aq ?_ OE (St.aL (St.aL (mX (tle _ _) hL0) h2) h3)
          simp only [ar,RR,seval]
          simp only [iX,ft]
          (all_goals exact fo)
        | ok ws =>
          by_cases hne:ws= []
          · subst hne
            have hrr:=sj (a:=g.a) h1000 hws
            have ha:∀ s,AC Tryz.prog 149 [.str (bg rest)] s (fun r s'=>r= .tup [.nils, .int .i64 0, .bool true]∧s'=s):=fun s=>by
              have:=pW s (bg rest) hll
              rw [hws] at this
              refine this.mono ?_
              rintro r s' ⟨τ',_,rfl,rfl⟩
              exact ⟨rfl,rfl⟩
            have q3:decide (((0:Int))<((0:Nat):Int))=false:=rfl
            repeat' ((first|(refine Pt (ht) ?_)|((refine AC.mono (AC.wk (ha _) (aa _)) ?_;(rintro _ _ ⟨rfl,rfl⟩))))<;>(try simp only [↓R1,RR,seval,q2,s5]))
            refine cn (α:=Unit) (fun _=> [(4, .ptr b4 0),(7, .int .i64 (g.a:Nat)),(8, .nils),(44, .int .i64 ((0:Nat):Int)),(45, .int .i64 0)]) (fun _=>_) (fun _=>True) (fun _=>0) () OP (St.le_refl _) trivial ?_
            rintro _ _
            simp only [↓R1,RR,seval,tv,po,oh]
            skip
            refine ⟨⟨g.a+(cut rest).1.length,g.rs⟩,St.le_refl _,?_⟩
            have hfin:=fin [] hrr OF
            simp only [List.append_nil] at hfin
            exact hfin
          · have hrr:=pX (a:=g.a) h1000 hws hne
            obtain ⟨hwl,hwa⟩:=ym hws
            repeat' ((refine Pt (ht) ?_)<;>(try simp only [↓R1,RR,seval,q2,s5]))
            refine (AC.wk (sk _ hll hws hne) (aa _)).mono ?_
            rintro _ _ ⟨γ,k,hγ,rfl,rfl⟩
            simp only [St.aG,St.cS] at hγ
            obtain ⟨⟨_,_⟩,hγ⟩:=hγ
            obtain ⟨_,_⟩:=ag (σ:=T g rest) (β:=b4) (γ:=γ) ⟨t4 g rest⟩ hγ
            simp only [↓R1,RR,seval,s5]
            refine bq ws.length (fun i=> [(4, .ptr b4 0),(7, .int .i64 (g.a:Nat)),(8, .psl γ 0 ws.length),(44, .int .i64 (ws.length:Nat)),(45, .int .i64 (i:Nat))]) (fun i=>((T ⟨g.a+(cut rest).1.length,g.rs⟩ rest).au L (busy r,_)).ad γ (shG g.a ws i (List.replicate k .junk))) (fun _=>True) OP (by rw [CB];exact St.le_refl _) trivial (fun i hi _=>?_)
            have hsl:=FJ g.a ws i hi (List.replicate k .junk)
            simp only [↓R1,RR,seval]
            by_cases hin:i<ws.length
            · have q3:decide ((i:Int)<(ws.length:Int))=true:=by rw [decide_eq_true_eq];omega
              obtain ⟨g1,g2⟩:=Jm g.a ws hin (List.replicate k .junk)
              have hwk:=hwa ws[i] (List.getElem_mem hin)
              have q4:=g1
              have hw2:IntKind.i64.wrap ((ws[i].a:Int)+(g.a:Int))=((ws[i].a+g.a:Nat):Int):=OD
              have q5:=hw2
              simp only [↓R1,RR,seval,q3,q4,q5]
              repeat' (first|(with_reducible refine And.intro ?_ ?_;focus (intros;(repeat' (with_reducible apply And.intro))<;>first|omega|(simp only [RZ,bO,cw];omega)))|(with_reducible apply And.intro))
              · (simp only [aK,slot,ae,RR,seval];all_goals exact vr)
              · rw [g2];exact St.le_refl _
            · have q3:decide ((i:Int)<(ws.length:Int))=false:=by rw [decide_eq_false_iff_not];omega
              have hie:i=ws.length:=Oz
              subst hie
              have q4:(ws.length*3).ble (shG g.a ws ws.length (List.replicate k AV.junk)).length=true:=Nat.ble_eq_true_of_le (by rw [hsl];omega)
              have hwp:0<ws.length:=List.length_pos_iff.2 hne
              simp only [↓R1,RR,seval,tv,po,og,q3,q4]
              have hγ2:(T ⟨g.a+(cut rest).1.length,g.rs⟩ rest).box γ=none:=by
                have h:(((T g rest).au L (r,[])).ad b5 [.int .i64 ((g.a+(cut rest).1.length:Nat):Int)]).box γ=none:=by
                  rw [St.aG];exact ⟨⟨by assumption,by assumption⟩,hγ⟩
                rw [s5] at h
                exact h
              rw [FI,CA (σ:=(T ⟨g.a+(cut rest).1.length,g.rs⟩ rest).au L _) hγ2]
              have q3:decide ((0:Int)<(ws.length:Int))=true:=OQ
              simp only [↓R1,RR,seval,q3,t4]
              repeat' (((first|(refine bz (.inr rfl) rfl ?_ ?_ ?_ ?_ ?_ ?_;(first|rfl|exact St.aW _ _ _|(simp only [↓R1,RR,seval,tv,po,oh,og,q1,q2,q3,q4,q5,hw,t2,t3,t4,t5,ttip,s5,tl]));(first|omega|(simp only [RZ,bO,cw,List.length_nil,List.length_cons];omega)|(simp only [RZ,bO,cw,List.length_nil,List.length_cons]));(first|rfl|first|omega|(simp only [RZ,bO,cw,List.length_nil,List.length_cons];omega)|(simp only [RZ,bO,cw,List.length_nil,List.length_cons])))|(refine bx rfl ?_ ?_ ?_ ?_ ?_ ?_;(first|rfl|exact St.aW _ _ _|(simp only [RR,seval,ttip]));(first|omega|(simp only [cw];omega)|(simp only [cw]));(first|rfl|first|omega|(simp only [RZ,bO,cw,List.length_nil,List.length_cons];omega)|(simp only [RZ,bO,cw,List.length_nil,List.length_cons])))|(refine appV_own ?_ ?_ ?_ ?_;exact aD OW _)|(refine appD_own ?_ ?_ ?_ ?_ ?_;omega;exact aD OW _)|(refine appV_fresh rfl trivial rfl ?_ ?_ ?_ ?_ ?_;(first|rfl|first|omega|(simp only [RZ,bO,cw,List.length_nil,List.length_cons];omega)|(simp only [RZ,bO,cw,List.length_nil,List.length_cons]));(first|rfl|first|omega|(simp only [RZ,bO,cw,List.length_nil,List.length_cons];omega)|(simp only [RZ,bO,cw,List.length_nil,List.length_cons])))|(refine appD_fresh rfl trivial rfl ?_ ?_ ?_ ?_ ?_ ?_;omega;(first|rfl|first|omega|(simp only [RZ,bO,cw,List.length_nil,List.length_cons];omega)|(simp only [RZ,bO,cw,List.length_nil,List.length_cons]));(first|rfl|first|omega|(simp only [RZ,bO,cw,List.length_nil,List.length_cons];omega)|(simp only [RZ,bO,cw,List.length_nil,List.length_cons]))));(unfold maxLen;omega);omega)<;>(try simp only [↓R1,RR,seval,t4]))
              have e1:([AV.tsl τ (g.rs.length+1) (g.rs.flatMap cRw++ [AV.int .i64 (g.a:Nat),AV.sl false ws.length ((ws.map (dP g.a)).flatMap cWd)])]:List AV)= [AV.tsl τ (g.rs++ [(⟨g.a,ws.map (dP g.a)⟩:Rw)]).length ((g.rs++ [(⟨g.a,ws.map (dP g.a)⟩:Rw)]).flatMap cRw)]:=by
                simp [cRw]
              have e2:g.rs.length+1=(g.rs++ [(⟨g.a,ws.map (dP g.a)⟩:Rw)]).length:=OF
              rw [e1,e2,s4]
              exact ⟨⟨g.a+(cut rest).1.length,g.rs++ [⟨g.a,ws.map (dP g.a)⟩]⟩,St.le_refl _,fin _ hrr OF⟩
    · rintro g r ⟨j1,j2⟩
      rw [j1]
      simp only [↓R1,RR,seval,t2,t3,t4]
      have hl2:St.le σ (((T g r).ad b2 [AV.tsl τ g.rs.length (g.rs.flatMap cRw)]).ad b3 [AV.int IntKind.i64 0,AV.int IntKind.i64 0]):=St.aL (St.aL (tle g r) h2) h3
      refine aq ?_ OE hl2
      simp only [ar,RR,seval]
      simp only [iX,ft]
      (all_goals exact fo)
def ik (b:UInt8):Bool:= !(decide ((b.toNat:Int)<48)||decide ((57:Int)<b.toNat))
def ca (l:List UInt8):Nat:=l.foldl (fun v b=>10*v+(b.toNat - 48)) 0
def dW (l:List UInt8):Bool:=decide (l.length≤20)&&(match l with | []=>false|c::r=> !(c == 48&& !r.isEmpty))&&l.all ik
def nN (l:List UInt8):AV:=bif dW l then .tup [.int .u64 ((ca l % 18446744073709551616:Nat):Int), .bool (decide (18446744073709551616≤ca l)), .bool true] else .tup [.int .u64 0, .bool false, .bool false]
theorem yF (l:List UInt8) {k:Nat} (h:k<l.length):ca (l.take (k+1))=10*ca (l.take k)+(l[k].toNat - 48):=by
 rw [←List.take_append_getElem h,ca,List.foldl_append];rfl
theorem sn (n:Nat):IntKind.u64.wrap (n:Int)=((n % 18446744073709551616:Nat):Int):=by
 rw [IntKind.wrap_u64];omega
theorem yG {b:UInt8}:ik b=true↔48≤b.toNat∧b.toNat≤57:=by
 simp only [ik,Bool.not_eq_true',Bool.or_eq_false_iff,decide_eq_false_iff_not];omega
def pY:List UInt8→Bool
 | []=>false
 | c::r=> !(c == 48&& !r.isEmpty)
theorem mY (l:List UInt8):dW l=(decide (l.length≤20)&&pY l&&l.all ik):=by
 cases l<;>rfl
theorem NX (n:Nat):IntKind.u64.wrap ((n:Int)*2^min (Int.toNat 3) IntKind.u64.bits)=((8*n % 18446744073709551616:Nat):Int):=by
 rw [show ((n:Int)*2^min (Int.toNat 3) IntKind.u64.bits)=((8*n:Nat):Int) by rw [show (2:Int)^min (Int.toNat 3) IntKind.u64.bits=8 from rfl];omega,sn]
theorem Li (n:Nat):IntKind.u64.wrap ((n:Int)*2^min (Int.toNat 1) IntKind.u64.bits)=((2*n % 18446744073709551616:Nat):Int):=by
 rw [show ((n:Int)*2^min (Int.toNat 1) IntKind.u64.bits)=((2*n:Nat):Int) by rw [show (2:Int)^min (Int.toNat 1) IntKind.u64.bits=2 from rfl];omega,sn]
theorem add_mod (n:Nat):IntKind.u64.wrap (((8*n % 18446744073709551616:Nat):Int)+((2*n % 18446744073709551616:Nat):Int))=((10*n % 18446744073709551616:Nat):Int):=by
 rw [show (((8*n % 18446744073709551616:Nat):Int)+((2*n % 18446744073709551616:Nat):Int))=((8*n % 18446744073709551616+2*n % 18446744073709551616:Nat):Int) by omega,sn]
 congr 1;omega
theorem CD (V d:Nat):IntKind.u64.wrap (((10*(V % 18446744073709551616) % 18446744073709551616:Nat):Int)+(d:Int))=(((10*V+d) % 18446744073709551616:Nat):Int):=by
 rw [show (((10*(V % 18446744073709551616) % 18446744073709551616:Nat):Int)+(d:Int))=((10*(V % 18446744073709551616) % 18446744073709551616+d:Nat):Int) by omega,sn]
 congr 1;omega
theorem uN (V d:Nat) (hd:d≤9):((decide (18446744073709551616≤V)||decide ((1844674407370955161:Int)<((V % 18446744073709551616:Nat):Int)))||decide ((((10*V+d) % 18446744073709551616:Nat):Int)<((10*(V % 18446744073709551616) % 18446744073709551616:Nat):Int)))=decide (18446744073709551616≤10*V+d):=by
 rw [Bool.eq_iff_iff]
 simp only [Bool.or_eq_true,decide_eq_true_eq]
 by_cases hV:18446744073709551616≤V
 ·simp only [hV,true_or,true_iff];omega
 ·rw [Nat.mod_eq_of_lt (show V<18446744073709551616 by omega)]
  by_cases hb:1844674407370955161<V
  ·have h1:(1844674407370955161:Int)<(V:Int):=by omega
   simp only [h1,or_true,true_or,true_iff];omega
  ·rw [Nat.mod_eq_of_lt (show 10*V<18446744073709551616 by omega)]
   omega
theorem FK {b:UInt8} (h:ik b=true):IntKind.u8.wrap ((b.toNat:Int) - 48)=((b.toNat - 48:Nat):Int)∧b.toNat - 48≤9∧IntKind.u64.wrap ((b.toNat - 48:Nat):Int)=((b.toNat - 48:Nat):Int):=by
 have:=yG.1 h
 refine ⟨by simp [IntKind.wrap,IntKind.signed,IntKind.bits];omega,by omega,by rw [sn];congr 1;omega⟩
theorem _root_.Pe {p:Prop} (h:p:=by rw [decide_eq_false_iff_not];omega):p:=h
set_option maxHeartbeats 4000000 in
theorem Lj (l:List UInt8) (hl:l.length≤1000000):Pu Tryz.prog 250 [.str l] (nN l):=by
  have q1:True:=trivial
  have q2:True:=trivial
  have q3:True:=trivial
  have q4:True:=trivial
  have q5:True:=trivial
  have q6:True:=trivial
  have q7:True:=trivial
  have hw:True:=trivial
  have hd:True:=trivial
  have e1:True:=trivial
  have e2:True:=trivial
  have e3:True:=trivial
  have e4:True:=trivial
  have e5:True:=trivial
  by_cases hnil:l= []
  · subst hnil
    have q1:(([]:List UInt8) == [])=true:=rfl
    have e:nN []= .tup [.int .u64 0, .bool false, .bool false]:=rfl
    rw [e]
    (refine av pJ E7 fun σ=>?_;simp only [pJ,↓R1,RR,Nat.reduceEqDiff,reduceCtorEq])
    skip
    (refine aq (af ?_))
    (simp only [ar,RR,Nat.reduceEqDiff])
  · obtain ⟨c,m,e⟩:∃ c m,l=c::m:=by
      cases l with
      | nil=>exact (hnil rfl).elim
      | cons c m=>exact ⟨c,m,rfl⟩
    have q1:(l == [])=false:=by rw [e];rfl
    have hd:l[0]? =some c:=by rw [e];rfl
    have hl1:0<l.length:=by rw [e];simp
    by_cases h20:20<l.length
    · have q2:decide ((20:Int)<(l.length:Int))=true:=by rw [decide_eq_true_eq];omega
      have e:nN l= .tup [.int .u64 0, .bool false, .bool false]:=by
        have:decide (l.length≤20)=false:=Pe
        rw [nN,mY,this];rfl
      rw [e]
      (refine av pJ E7 fun σ=>?_;simp only [pJ,↓R1,RR,Nat.reduceEqDiff,reduceCtorEq,q1,q2,hd])
      skip
      (refine aq (af ?_))
      (simp only [ar,RR,Nat.reduceEqDiff])
    · have q2:decide ((20:Int)<(l.length:Int))=false:=by rw [decide_eq_false_iff_not];omega
      have hd20:decide (l.length≤20)=true:=OQ
      have q3:((c.toNat:Int) == 48)=decide (c=48):=r9 c 48
      have hfo:pY l= !(decide (c=48)&&decide ((1:Int)<(l.length:Int))):=by
        rw [e]
        show (!(c == 48&& !m.isEmpty))=_
        have h1:(c == 48)=decide (c=48):=by rw [Bool.eq_iff_iff];simp
        have h2:(!m.isEmpty)=decide ((1:Int)<((c::m).length:Int)):=by
          cases m with
          | nil=>rfl
          | cons x m=>rw [Bool.eq_iff_iff];simp;omega
        rw [h1,h2]
      by_cases hz:(decide (c=48)&&decide ((1:Int)<(l.length:Int)))=true
      · have e:nN l= .tup [.int .u64 0, .bool false, .bool false]:=by
          rw [nN,mY,hfo,hz];simp
        rw [Bool.and_eq_true] at hz
        have q4:=hz.1
        have q5:=hz.2
        rw [e]
        (refine av pJ E7 fun σ=>?_;simp only [pJ,↓R1,RR,Nat.reduceEqDiff,reduceCtorEq,q1,q2,q3,q4,q5,hd])
        repeat' (with_reducible refine And.intro ?_ ?_;exact ak)
        all_goals first|omega|skip
        (refine aq (af ?_))
        (simp only [ar,RR,Nat.reduceEqDiff])
      · have q4:(decide (c=48)&&decide ((1:Int)<(l.length:Int)))=false:=by simpa using hz
        have hno:pY l=true:=by rw [hfo,q4];rfl
        have hnv:nN l=bif l.all ik then .tup [.int .u64 ((ca l % 18446744073709551616:Nat):Int), .bool (decide (18446744073709551616≤ca l)), .bool true] else .tup [.int .u64 0, .bool false, .bool false]:=by
          rw [nN,mY,hno,hd20,Bool.true_and,Bool.true_and]
        rw [hnv]
        (refine av pJ E7 fun σ=>?_;simp only [pJ,↓R1,RR,Nat.reduceEqDiff,reduceCtorEq,q1,q2,q3,q4,hd])
        repeat' (with_reducible refine And.intro ?_ ?_;exact ak)
        all_goals first|omega|(rw [q4];done)|skip
        clear hd
        refine bq l.length (fun k=> [(2, .int .u64 ((ca (l.take k) % 18446744073709551616:Nat):Int)),(3, .bool (decide (18446744073709551616≤ca (l.take k)))),(26, .sl false l.length (l.map fun b=> .int .u8 b.toNat)),(27, .int .i64 (l.length:Nat)),(28, .int .i64 (k:Nat))]) (fun _=>σ) (fun k=>(l.take k).all ik=true) (by simp [aK,slot,ae,ca]) (St.le_refl _) OF (fun k hk hI=>?_)
        by_cases hlt:k<l.length
        · have q6:decide ((k:Int)<(l.length:Int))=true:=by rw [decide_eq_true_eq];omega
          have hd:=jq l hlt
          have hw:IntKind.i64.wrap ((k:Int)+1)=((k+1:Nat):Int):=OD
          cases hb:ik l[k] with
          | true =>
            have q7:(decide ((l[k].toNat:Int)<48)||decide ((57:Int)<(l[k].toNat:Int)))=false:=by
              simp only [ik,Bool.not_eq_true'] at hb;exact hb
            obtain ⟨d1,d2,d3⟩:=FK hb
            have e1:=NX (ca (l.take k) % 18446744073709551616)
            have e2:=Li (ca (l.take k) % 18446744073709551616)
            have e3:=add_mod (ca (l.take k) % 18446744073709551616)
            have e4:=CD (ca (l.take k)) (l[k].toNat - 48)
            have e5:=d1
            have q5:=d3
            have hg:=uN (ca (l.take k)) (l[k].toNat - 48) d2
            have hv:=yF l hlt
            simp only [↓R1,RR,Nat.reduceEqDiff,q5,q6,q7,hw,hd,e1,e2,e3,e4,e5]
            repeat' (first|(with_reducible refine And.intro ?_ ?_;exact ak)|(with_reducible apply And.intro))
            all_goals first|(simp only [List.length_map];omega)|omega|skip
            · rw [oN _ _ hlt,hI,hb];rfl
            · rw [hv,←hg];simp [aK,slot,ae]
            · exact St.le_refl _
          | false =>
            have q7:(decide ((l[k].toNat:Int)<48)||decide ((57:Int)<(l[k].toNat:Int)))=true:=by
              simp only [ik,Bool.not_eq_false'] at hb;exact hb
            have hall:l.all ik=false:=by
              rw [←Bool.not_eq_true,List.all_eq_true]
              intro h
              have:=h l[k] (List.getElem_mem hlt)
              rw [hb] at this;cases this
            rw [hall]
            simp only [↓R1,RR,Nat.reduceEqDiff,q6,q7,hd]
            repeat' (with_reducible refine And.intro ?_ ?_;exact ak)
            all_goals first|(simp only [List.length_map];omega)|omega|skip
            (refine aq (af ?_))
            (simp only [ar,RR,Nat.reduceEqDiff])
            all_goals rfl
        · have hke:k=l.length:=by omega
          subst hke
          have q6:decide ((l.length:Int)<(l.length:Int))=false:=OF
          rw [List.take_length] at hI ⊢
          rw [hI]
          simp only [↓R1,RR,Nat.reduceEqDiff,q6]
          skip
          (refine aq (af ?_))
          (simp only [ar,RR,Nat.reduceEqDiff])
          all_goals rfl
def CE (q:Bool) (t:List UInt8) (lo hi:Int):AV :=
 bif q|| !dW t then .tup [.int .u64 0, .int .i64 3]
 else bif (decide (18446744073709551616≤ca t)||decide (((ca t % 18446744073709551616:Nat):Int)<lo))||decide (hi<((ca t % 18446744073709551616:Nat):Int)) then .tup [.int .u64 0, .int .i64 2]
 else .tup [.int .u64 ((ca t % 18446744073709551616:Nat):Int), .int .i64 0]
def rnN (l:List UInt8):Int:=bif dW l then ((ca l % 18446744073709551616:Nat):Int) else 0
def rnG (l:List UInt8):Bool:=dW l&&decide (18446744073709551616≤ca l)
theorem vF (l:List UInt8):nN l= .tup [.int .u64 (rnN l), .bool (rnG l), .bool (dW l)]:=by
 unfold nN rnN rnG;cases dW l<;>rfl
theorem FL (q:Bool) (t:List UInt8) (lo hi:Int):CE q t lo hi=bif !dW t||q then .tup [.int .u64 0, .int .i64 3] else bif (rnG t||decide (rnN t<lo))||decide (hi<rnN t) then .tup [.int .u64 0, .int .i64 2] else .tup [.int .u64 (rnN t), .int .i64 0]:=by
 unfold CE rnN rnG;cases dW t<;>cases q<;>rfl
set_option maxHeartbeats 2000000 in
theorem NY (q:Bool) (t:List UInt8) (a lo hi:Int) (hl:t.length≤1000000):Pu Tryz.prog 225 [.agg [.bool q, .str t, .int .i64 a], .int .u64 lo, .int .u64 hi] (CE q t lo hi):=by
 have hp:=Lj t hl
 rw [vF] at hp
 (refine av H6 My fun σ=>?_;simp only [H6,↓R1,RR,Nat.reduceEqDiff,Nat.reduceAdd,Nat.reduceLT,reduceCtorEq])
 repeat' ((first|(refine aj (fun hc=>?_) (fun hc=>?_))|(with_reducible intro β hβ;(try simp only [RB] at hβ);(repeat (obtain ⟨⟨_,_⟩,hβ⟩:=hβ));(try (have hbis:=ag OB hβ;obtain ⟨_,_⟩:=hbis)))|(refine Pt (hp) ?_))<;>(try simp only [↓R1,RR,Nat.reduceEqDiff,Nat.reduceAdd,Nat.reduceLT]))
 all_goals (refine aq (af ?_))
 all_goals (simp only [ar,RR,Nat.reduceEqDiff])
 all_goals simp only [FL, *,cond_true,cond_false]
def fZ (t:List UInt8):Bool:=match t with
 | c::_=>decide (c=45)
 | []=>false
def cL (t:List UInt8):List UInt8:=bif fZ t then t.drop 1 else t
theorem NZ (t:List UInt8) (hl:t.length≤1000000):Pu Tryz.prog 288 [.str t, .str [45]] (.bool (fZ t)):=by
  cases t with
  | nil =>
    (refine av BG KU fun σ=>?_;simp only [BG,↓R1,RR,Nat.reduceEqDiff,Nat.reduceAdd,reduceCtorEq])
    repeat' (with_reducible apply And.intro)
    all_goals first|(intro h;simp at h;done)|skip
    (refine aq (af ?_))
    (simp only [ar,RR,Nat.reduceEqDiff,reduceCtorEq])
    rfl
  | cons c r =>
    (refine av BG KU fun σ=>?_;simp only [BG,↓R1,RR,Nat.reduceEqDiff,Nat.reduceAdd,reduceCtorEq])
    repeat' (with_reducible refine And.intro ?_ ?_;exact ak)
    all_goals first|(intro h;simp at h;done)|skip
    (refine aq (af ?_))
    (simp only [ar,RR,Nat.reduceEqDiff,reduceCtorEq])
    refine congrArg AV.bool ?_
    rw [Bool.eq_iff_iff]
    simp [fZ]
    omega
theorem N0 (t:List UInt8) (hl:t.length≤1000000):Pu Tryz.prog 274 [.str t, .str [45]] (.tup [.str (cL t), .bool (fZ t)]):=by
  have hp:=NZ t hl
  cases hn:fZ t with
  | false =>
    rw [hn] at hp
    (refine av BE KS fun σ=>?_;simp only [BE,↓R1,RR,Nat.reduceEqDiff,Nat.reduceAdd,reduceCtorEq])
    repeat' ((refine Pt (hp) ?_)<;>(try simp only [↓R1,RR,Nat.reduceEqDiff,reduceCtorEq]))
    (refine aq (af ?_))
    (simp only [ar,RR,Nat.reduceEqDiff,reduceCtorEq])
    simp [cL,hn]
  | true =>
    rw [hn] at hp
    have hl1:1≤t.length:=by
      cases t with
      | nil=>simp [fZ] at hn
      | cons c r=>simp
    (refine av BE KS fun σ=>?_;simp only [BE,↓R1,RR,Nat.reduceEqDiff,Nat.reduceAdd,reduceCtorEq])
    repeat' (first|(with_reducible refine And.intro ?_ ?_;exact ak)|((refine Pt (hp) ?_)<;>(try simp only [↓R1,RR,Nat.reduceEqDiff,reduceCtorEq])))
    all_goals first|omega|skip
    (refine aq (af ?_))
    (simp only [ar,RR,Nat.reduceEqDiff,reduceCtorEq])
    have e:(t.drop 1).take (t.length - 1)=t.drop 1:=List.take_of_length_le OF
    simp only [e,cL,hn,cond_true]
theorem N1 (t:List UInt8) (hl:t.length≤1000000):Pu Tryz.prog 249 [.str t, .str [45]] (.tup [.str (cL t), .bool (fZ t)]):=by
 (refine av Il MK fun σ=>?_;simp only [Il,↓R1,RR,Nat.reduceEqDiff,Nat.reduceAdd,reduceCtorEq])
 repeat' ((refine Pt (N0 t hl) ?_)<;>(try simp only [↓R1,RR,Nat.reduceEqDiff,Nat.reduceAdd,Nat.reduceLT,reduceCtorEq]))
 (refine aq (af ?_))
 (simp only [ar,RR,Nat.reduceEqDiff,reduceCtorEq])
def so (q:Bool) (t:List UInt8):AV :=
 bif (q|| !dW (cL t))||(fZ t&&decide (ca (cL t)=0)) then .tup [.int .i64 0, .int .i64 3]
 else bif (decide (18446744073709551616≤ca (cL t))||decide (9223372036854775808<ca (cL t)))||(decide (ca (cL t)=9223372036854775808)&& !fZ t) then .tup [.int .i64 0, .int .i64 2]
 else .tup [.int .i64 (bif fZ t then -((ca (cL t):Nat):Int) else ((ca (cL t):Nat):Int)), .int .i64 0]
theorem CG (q:Bool) (t:List UInt8):so q t=bif (!dW (cL t)||q)||(fZ t&&(rnN (cL t) == 0)&& !rnG (cL t)) then .tup [.int .i64 0, .int .i64 3] else bif (rnG (cL t)||decide (9223372036854775808<rnN (cL t)))||((rnN (cL t) == 9223372036854775808)&& !fZ t) then .tup [.int .i64 0, .int .i64 2] else .tup [.int .i64 (bif fZ t then -(rnN (cL t)) else rnN (cL t)), .int .i64 0]:=by
 unfold so rnN rnG
 generalize ca (cL t)=V
 cases dW (cL t)
 ·simp
 by_cases hg:18446744073709551616≤V
 ·have h0:decide (V=0)=false:=by rw [decide_eq_false_iff_not];omega
  simp [hg,h0]
 ·have e:V % 18446744073709551616=V:=Nat.mod_eq_of_lt Oz
  have e1:((V:Int) == 0)=decide (V=0):=by rw [Bool.eq_iff_iff];simp
  have e2:decide ((9223372036854775808:Int)<(V:Int))=decide (9223372036854775808<V):=Ph
  have e3:((V:Int) == 9223372036854775808)=decide (V=9223372036854775808):=Ph
  simp only [cond_true,e,e1,e2,e3,Bool.not_true,Bool.false_or,Bool.true_and,show decide (18446744073709551616≤V)=false from decide_eq_false hg,Bool.not_false,Bool.and_true,Bool.or_comm q]
theorem Lk (l:List UInt8):0≤rnN l∧rnN l<18446744073709551616∧(dW l=false→rnN l=0∧rnG l=false):=by
 unfold rnN rnG;cases dW l<;>simp<;>omega
theorem CH {N:Int} (h:0≤N∧N≤9223372036854775808):IntKind.i64.wrap (0 - IntKind.i64.wrap N)= -N:=by
 simp [IntKind.wrap,IntKind.signed,IntKind.bits];omega
set_option maxHeartbeats 8000000 in
theorem N2 (q:Bool) (t:List UInt8) (a:Int) (hl:t.length≤1000000):Pu Tryz.prog 206 [.agg [.bool q, .str t, .int .i64 a]] (so q t):=by
 have hal:(cL t).length≤1000000:=by
  unfold cL
  cases fZ t<;>simp<;>omega
 have hcp:=N1 t hl
 have hp:=Lj (cL t) hal
 rw [vF] at hp
 rw [CG]
 obtain ⟨h1,h2,h3⟩:=Lk (cL t)
 generalize rnN (cL t)=N at *
 generalize rnG (cL t)=G at *
 generalize dW (cL t)=K at *
 generalize fZ t=n at *
 have q1:True:=trivial
 have q2:True:=trivial
 have q3:True:=trivial
 have leaf:K=false∨(K=true∧q=true)∨(K=true∧q=false∧G=true)∨(K=true∧q=false∧G=false∧n=true∧(N == 0)=true)∨(K=true∧q=false∧G=false∧n=true∧(N == 0)=false∧decide (9223372036854775808<N)=true)∨(K=true∧q=false∧G=false∧n=true∧(N == 0)=false∧decide (9223372036854775808<N)=false) ∨
   (K=true∧q=false∧G=false∧n=false∧decide (9223372036854775808<N)=true)∨(K=true∧q=false∧G=false∧n=false∧decide (9223372036854775808<N)=false∧(N == 9223372036854775808)=true)∨(K=true∧q=false∧G=false∧n=false∧decide (9223372036854775808<N)=false∧(N == 9223372036854775808)=false):=by
  cases K<;>cases q<;>cases G<;>cases n<;>simp<;>omega
 rcases leaf with rfl|⟨rfl,rfl⟩|⟨rfl,rfl,rfl⟩|⟨rfl,rfl,rfl,rfl,q1⟩|⟨rfl,rfl,rfl,rfl,q1,q2⟩|⟨rfl,rfl,rfl,rfl,q1,q2⟩|⟨rfl,rfl,rfl,rfl,q2⟩|⟨rfl,rfl,rfl,rfl,q2,q3⟩|⟨rfl,rfl,rfl,rfl,q2,q3⟩
 all_goals
  (refine av H2 Mt fun σ=>?_;simp only [H2,↓R1,RR,Nat.reduceEqDiff,Nat.reduceAdd,Nat.reduceLT,reduceCtorEq,q1,q2,q3])
  repeat' ((first|(with_reducible intro β hβ;(try simp only [RB] at hβ);(repeat (obtain ⟨⟨_,_⟩,hβ⟩:=hβ));(try (have hbis:=ag OB hβ;obtain ⟨_,_⟩:=hbis)))|(refine Pt (hcp) ?_)|(refine Pt (hp) ?_))<;>(try simp only [↓R1,RR,Nat.reduceEqDiff,Nat.reduceAdd,Nat.reduceLT,reduceCtorEq,q1,q2,q3]))
  all_goals (refine aq (af ?_))
  all_goals (simp only [ar,RR,Nat.reduceEqDiff])
  all_goals (try simp at q2 q3;first|rw [CH Oz]|rw [wrap64 Oz Oz])
def dG (t:List UInt8):List (List UInt8)→Nat→Option Nat
 | [],_=>none
 | n::l,i=>bif n == t then some i else dG t l (i+1)
theorem lg (t:List UInt8) (l:List (List UInt8)) {k:Nat} (h:k<l.length) (j:Nat):dG t (l.drop k) j=bif l[k] == t then some j else dG t (l.drop (k+1)) (j+1):=by
 rw [List.drop_eq_getElem_cons h];rfl
end Go.Proofs.YtgephffbfiemeaaGreatDoor
