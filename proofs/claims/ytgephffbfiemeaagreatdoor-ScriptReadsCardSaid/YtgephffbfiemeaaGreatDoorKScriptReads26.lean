/- Part 26 of the proof of ScriptReads: an abstract semantics that is proved sound for the model, contracts of functions in it, and plain facts (SB SB2 SB3 SB4 RW1 RW2 RX1 RW3 RW4 RX2 RX3 RX5 RW5 RW6 RW7 RW8 RW9 RN1). No condition. -/
import Derived.Test.YtgephffbfiemeaaGreatDoorKScriptReads25
import Derived.WalkKit
import Derived.Lib.Walk
import Derived.Lib.Builder
import Derived.Lib.UnsafeStr
import Derived.Shelf.RegionOpenPlain
import Derived.Shelf.Strings.BuilderX
import Derived.Laws.Externs
set_option linter.all false
namespace Go.Proofs.YtgephffbfiemeaaGreatDoor
open Go.Abs Go.Lib Go.RowKit
set_option linter.all false
set_option maxRecDepth 100000
theorem vE:(Tryz.prog.info? 222).map (·.size)=some 2:=by kernel_rfl
theorem EH:liesAt Tryz.prog Tryz.prog.depth 222 (2 / Tryz.prog.cellsOf 222) 0 222 1=true:=by kernel_rfl
theorem EI (b:Nat) (w:World) (h0:w.cell? ⟨b,0,none⟩=some (.pointer (some ⟨b,0,none⟩))) :
  Calls Tryz.prog 222 #[.pointer (some ⟨b,0,none⟩)] w fun e w'=>e= .returned (.tuple #[])∧w'=w:=by
 obtain ⟨j,hj,_⟩:=Option.map_eq_some_iff.1 vE
 go_enter Tryz.func222,Tryz.ntmps222
 go_wp2
 rw [Lib.run_neq_ptr_same w _ Tryz.underlying220 hj]
 go_wp2
 go_end0
 exact ⟨rfl,rfl⟩
theorem BU (b:Nat) (w:World) (h0:w.cell? ⟨b,0,none⟩=some (.pointer none)) (hsh:w.shape? b=some (222,2)) (hfz:w.frozen? ⟨b,0,none⟩=false) :
  Calls Tryz.prog 222 #[.pointer (some ⟨b,0,none⟩)] w fun e w'=>e= .returned (.tuple #[])∧w'=w.setCell ⟨b,0,none⟩ (.pointer (some ⟨b,0,none⟩)):=by
 obtain ⟨j,hj,hjs⟩:=Option.map_eq_some_iff.1 vE
 go_enter Tryz.func222,Tryz.ntmps222
 go_wp2
 rw [Lib.run_to_unsafe w ⟨b,0,none⟩ Tryz.underlying220 Tryz.underlying320 hj (by rw [hjs];decide) hsh (Nat.zero_lt_succ 1)]
 simp only [Result.andThen]
 rw [Oper.upon_value]
 go_wp2
 rw [run_callFunc_extern Tryz.func259 (by kernel_rfl) (by kernel_rfl) (by kernel_rfl) (e:=Extern.AbiNoEscape.same) (by kernel_rfl)]
 rw [Lib.run_noEscape]
 simp only [Result.andThen]
 rw [Oper.upon_value]
 go_wp2
 rw [Lib.run_from_unsafe w ⟨b,0,none⟩ Tryz.underlying320 Tryz.underlying220 hj hsh EH]
 simp only [Result.andThen]
 rw [Oper.upon_value]
 go_wp2
 go_end0
 exact ⟨rfl,rfl⟩
end Go.Proofs.YtgephffbfiemeaaGreatDoor
namespace Go.Abs
open Go.RowKit Go.Lib
set_option linter.all false
section
variable {P:Program} {g:Gh} {σ:St} {w:World}
theorem uG (hI:Inv g σ w) {b F n:Nat} {cur:Array Value} {T:TypeId} {q:Nat × Nat} (hb:w.heap[b]? =some (.cells cur T q)) (hcl:g.cl b=some F) (hbox:∀ β,g.box β≠some b)
  (htip:∀ τ x v,σ.tip τ=some x→g.tip τ x.2.2=some v→Held x.2.2 v→v.ownBlock≠some b) :
  Inv g σ (w.freeze ⟨b,0,none⟩ n)∧Ext g w g (w.freeze ⟨b,0,none⟩ n):=by
 have hother:∀ k,k≠b→(w.freeze ⟨b,0,none⟩ n).heap[k]? =w.heap[k]? :=fun k hk=>by
  unfold World.freeze
  split
  ·rfl
  ·simp only [Array.getElem?_modify];rw [if_neg (fun e=>hk e.symm)]
 have hcell:∀ i,(w.freeze ⟨b,0,none⟩ n).cell? ⟨b,i,none⟩=w.cell? ⟨b,i,none⟩:=fun i=>by
  unfold World.freeze
  split
  ·rfl
  ·simp only [World.cell?,Array.getElem?_modify,if_true,hb,Option.map_some]
 have hos:(w.freeze ⟨b,0,none⟩ n).os=w.os:=by unfold World.freeze;split<;>rfl
 have htp:(w.freeze ⟨b,0,none⟩ n).tape=w.tape:=by unfold World.freeze;split<;>rfl
 have hou:(w.freeze ⟨b,0,none⟩ n).output=w.output:=by unfold World.freeze;split<;>rfl
 have hsz:(w.freeze ⟨b,0,none⟩ n).heap.size=w.heap.size:=by unfold World.freeze;split<;>simp
 have he:Ext g w g (w.freeze ⟨b,0,none⟩ n):=by
  refine ⟨hos,htp,hou,by omega,fun _ _ h=>h,fun _ _=>rfl,Nat.le_refl _,Nat.le_refl _,fun _ _ _ h=>h,fun k hk hc=>?_,fun k G hk hc=>?_,fun _ _ h=>h,fun k us T' hx h=>by
   obtain ⟨β,hβ⟩:=hx
   exact ⟨us,by rw [hother k (fun e=>hbox β (e ▸ hβ))];exact h,rfl⟩⟩
  ·have hkb:k≠b:=by rintro rfl;rw [hcl] at hc;cases hc
   exact ⟨hc,hother k hkb⟩
  ·by_cases hkb:k=b
   ·subst hkb
    exact ⟨G,hc,Nat.le_refl _,fun i _=>hcell i⟩
   ·exact ⟨G,hc,Nat.le_refl _,fun i _=>World.cell?_of_block (hother k hkb)⟩
 refine ⟨⟨fun β cs hβ=>?_,fun β k hβ=>?_,hI.boxinj,hI.boxfresh,fun τ e s n ht=>?_,hI.tipinj,hI.tipfresh,fun k cs hk=>(hI.glob k cs hk).mono he,fun l r hl=>by
  obtain ⟨q1,q2,q3⟩:=hI.lp l r hl
  have hlb:l≠b:=fun e=>by subst e;rw [hb] at q1;exact r.1.iH q1
  exact ⟨by rw [hother l hlb];exact q1,q2,fun t=>(q3 t).mono he⟩,fun β T2 hβ=>by
  obtain ⟨k,vs,k1,k2⟩:=hI.bty β T2 hβ
  exact ⟨k,vs,k1,by rw [hother k (fun e=>hbox β (e ▸ k1))];exact k2⟩⟩,he⟩
 ·obtain ⟨k,vs,T2,k1,k2,k3⟩:=hI.box β cs hβ
  exact ⟨k,vs,T2,k1,by rw [hother k (fun e=>hbox β (e ▸ k1))];exact k2,k3.mono he⟩
 ·obtain ⟨k1,k2⟩:=hI.boxcl β k hβ
  exact ⟨by omega,k2⟩
 ·obtain ⟨v,k1,k2,k4⟩:=hI.tip τ e s n ht
  refine ⟨v,k1,fun hs=>?_,k4⟩
  obtain ⟨xs,k2,k3⟩:=k2 hs
  have hvb:=htip τ _ v ht k1 hs
  refine ⟨xs,k2.kept (row:=some b) ⟨hos,htp,hou,by omega,fun k _ hk=>hother k (fun e=>hk (by rw [e]))⟩ (.inr hvb),fun k hk=>?_⟩
  obtain ⟨k5,k6⟩:=k3 k hk
  exact ⟨k5,k6.1,k6.2.same (hother k (fun e=>hvb (e ▸ hk)))⟩
end
end Go.Abs
namespace Go.Proofs.YtgephffbfiemeaaGreatDoor
open Go.Abs Go.Lib Go.RowKit
set_option linter.all false
set_option maxRecDepth 100000
theorem uH:Tryz.prog.cellsOf 5=1:=by kernel_rfl
set_option maxHeartbeats 2000000 in
theorem yr (b g cap:Nat) (p:Value) (cur:Array Value) (l:List UInt8) (w:World) (hbk:w.heap[b]? =some (.cells #[p, .slice (some ⟨g,0,none⟩) l.length cap] 222 (0,0))) (hg:w.heap[g]? =some (.cells cur 5 (0,0)))
  (hnc:l.length≤cap) (hcm:cap≤maxLen) (hcs:cur.size=cap) (htake:cur.toList.take l.length=byteCells l) (h0:l≠ []) :
  Calls Tryz.prog 174 #[.pointer (some ⟨b,0,none⟩)] w fun e w'=>e= .returned (.string ⟨l.toArray⟩)∧w'=w.drew.freeze ⟨g,0,none⟩ l.length:=by
 have hl0:l.length≠0:=by simpa using h0
 have c1:w.drew.cell? ⟨b,1,none⟩=some (.slice (some ⟨g,0,none⟩) l.length cap):=by
  have h:w.drew.heap[b]? =some (.cells #[p, .slice (some ⟨g,0,none⟩) l.length cap] 222 (0,0)):=hbk
  rw [Lib.cell_of_heap h];rfl
 have hSD:(Builtin.unsafeSliceData_ #[135] 286 #[.slice (some ⟨g,0,none⟩) l.length cap]).run Tryz.prog w.drew= .ok (.pointer (some ⟨g,0,none⟩)) w.drew :=
  Lib.run_unsafeSliceData_row _ _ _ _ _ _ (by omega)
 have hUS:(Builtin.unsafeString_ #[286,3] 9 #[.pointer (some ⟨g,0,none⟩), .int .i64 l.length]).run Tryz.prog w.drew= .ok (.string ⟨l.toArray⟩) (w.drew.freeze ⟨g,0,none⟩ l.length):=by
  refine Lib.run_unsafeString_row w.drew _ _ _ 5 Tryz.underlying286 uH g cur.size (by have hg':w.drew.heap[g]? =some (.cells cur 5 (0,0)):=hg;simp [World.shape?,hg']) l h0 (by omega) (by unfold maxLen at hcm;omega) ?_
  intro j x hx
  have hg':w.drew.heap[g]? =some (.cells cur 5 (0,0)):=hg
  have hj:j<l.length:=(List.getElem?_eq_some_iff.1 hx).1
  have:(cur.toList.take l.length)[j]? =some (.int .u8 x.toNat):=by rw [htake];simp [Lib.byteCells,hx]
  rw [List.getElem?_take,if_pos hj] at this
  rw [cg]
  rw [Lib.cell_of_heap hg',Nat.zero_add,←Array.getElem?_toList]
  exact this
 have mixed:Tryz.prog.follows .mixedOrders=true:=by kernel_rfl
 go_enter Tryz.func174,Tryz.ntmps174
 go_wp2
 go_region_o
 all_goals (go_wp2;go_ret;exact ⟨rfl,rfl⟩)
end Go.Proofs.YtgephffbfiemeaaGreatDoor
namespace Go.Proofs.YtgephffbfiemeaaGreatDoor
open Go.Abs Go.Lib Go.RowKit
set_option linter.all false
set_option maxRecDepth 100000
def eS (l:List UInt8):List AV:=l.map fun b=> .int .u8 b.toNat
theorem sf:∀ args w,(callFunc 222 args).run Tryz.prog w= .ok (.enter 222 args) w:=enters_of Tryz.func222 (by kernel_rfl) rfl
theorem BV:∀ args w,(callFunc 174 args).run Tryz.prog w= .ok (.enter 174 args) w:=enters_of Tryz.func174 (by kernel_rfl) rfl
theorem pX {g:Gh} {w:World} {β:Nat} {vs:List Value} (hv:cF g w [.ptr β 0] vs):∃ b,vs= [.pointer (some ⟨b,0,none⟩)]∧g.box β=some b:=by
 obtain ⟨v,vs',rfl,h1,h2⟩:=hv.cons_inv
 rw [h2.cq]
 obtain ⟨b,rfl,hb⟩:=h1.fV
 exact ⟨b,rfl,hb⟩
theorem oR {σ:St} {β:Nat} {x:AV} (hb:σ.box β=some [.ptr β 0,x]):AC Tryz.prog 222 [.ptr β 0] σ (fun r s=>r= .tup []∧s=σ):=by
 intro g w vs hI hv
 obtain ⟨b,rfl,hg⟩:=pX hv
 obtain ⟨b',cs,T,h1,h2,h3⟩:=hI.box β _ hb
 rw [hg] at h1;cases h1
 obtain ⟨v0,r0,hl,hv0,_⟩:=h3.1.cons_inv
 obtain ⟨b2,rfl,hb2⟩:=hv0.fV
 rw [hg] at hb2;cases hb2
 have hc:w.cell? ⟨b,0,none⟩=some (.pointer (some ⟨b,0,none⟩)):=by
  rw [Lib.cell_of_heap h2,←Array.getElem?_toList,hl];rfl
 refine .inl ⟨sf _ _,(EI b w hc).mono ?_⟩
 rintro e w' ⟨rfl,rfl⟩
 exact ⟨_, .tup [],σ,g,rfl,⟨rfl,rfl⟩,hI, .refl g w', .dX .nil⟩
theorem nk {σ:St} {β:Nat} {x:AV} (hb:σ.box β=some [.nilp,x]) (ht:σ.bt β=some 222):AC Tryz.prog 222 [.ptr β 0] σ (fun r s=>r= .tup []∧s=σ.ae β [.ptr β 0,x]):=by
 intro g w vs hI hv
 obtain ⟨b,rfl,hg⟩:=pX hv
 obtain ⟨b',cs,T,h1,h2,h3⟩:=hI.box β _ hb
 rw [hg] at h1;cases h1
 obtain ⟨b',cs',h1,h2'⟩:=hI.bty β _ ht
 rw [hg] at h1;cases h1
 rw [h2] at h2';cases h2'
 obtain ⟨v0,r0,hl,hv0,hr0⟩:=h3.1.cons_inv
 obtain ⟨v1,r1,rfl,hv1,hr1⟩:=hr0.cons_inv
 rw [hr1.cq] at hl
 have hv0':v0= .pointer none:=by cases hv0;rfl
 subst hv0'
 have hc:w.cell? ⟨b,0,none⟩=some (.pointer none):=by
  rw [Lib.cell_of_heap h2,←Array.getElem?_toList,hl];rfl
 have hsz:cs.size=2:=by rw [←Array.length_toList,hl];rfl
 have hfz:=Lib.frozen_of_heap h2 0
 refine .inl ⟨sf _ _,(BU b w hc (by simp only [World.shape?,h2,hsz]) hfz).mono ?_⟩
 rintro e w' ⟨rfl,rfl⟩
 obtain ⟨w2,q1,q2,q3⟩:=iJ (P:=Tryz.prog) hI hb hg (off:=0) (us:= [.pointer (some ⟨b,0,none⟩)]) (cs':= [.ptr β 0]) ⟨.cons (.ptr β 0 b hg) .nil,by simp [Value.oneCell']⟩ (by simp)
 have hw:w2=w.setCell ⟨b,0,none⟩ (.pointer (some ⟨b,0,none⟩)):=by
  have hfz':w.frozen? ((⟨b,0,none⟩:Addr).add 0)=false:=hfz
  have:=run_storeCells_at Tryz.prog b 0 222 [.pointer (some ⟨b,0,none⟩)] 0 cs w h2 (by simp;omega) (by simp [Value.oneCell'])
  rw [this] at q1
  simp only [Result.ok.injEq,true_and] at q1
  rw [←q1]
  have hcs:cs= #[.pointer none,v1]:=by rw [←Array.toArray_toList (xs:=cs),hl]
  subst hcs
  have hh:(w.setRow b ((List.take (0+0) (#[Value.pointer none,v1]:Array Value).toList++ [Value.pointer (some ⟨b,0,none⟩)]++List.drop (0+0 + [Value.pointer (some ⟨b,0,none⟩)].length) (#[Value.pointer none,v1]:Array Value).toList).toArray)).heap=(w.setCell ⟨b,0,none⟩ (.pointer (some ⟨b,0,none⟩))).heap:=by
   refine Array.ext_getElem? (fun i=>?_)
   simp only [World.setRow,World.setCell,Array.getElem?_modify]
   split
   ·rename_i e;subst e;rw [h2];simp
   ·rfl
  show World.setRow w b _=_
  calc w.setRow b _={ w with heap:=(w.setRow b ((List.take (0+0) (#[Value.pointer none,v1]:Array Value).toList++ [Value.pointer (some ⟨b,0,none⟩)]++List.drop (0+0 + [Value.pointer (some ⟨b,0,none⟩)].length) (#[Value.pointer none,v1]:Array Value).toList).toArray)).heap }:=rfl
   _={ w with heap:=(w.setCell ⟨b,0,none⟩ (.pointer (some ⟨b,0,none⟩))).heap }:=by rw [hh]
   _=_:=rfl
 subst hw
 exact ⟨_, .tup [],_,g,rfl,⟨rfl,rfl⟩,by simpa using q2,q3, .dX .nil⟩
def bB (β τ:Nat) (l:List UInt8):List AV:=match l with
 | []=> [.nilp, .nils]
 | _::_=> [.ptr β 0, .tsl τ l.length (eS l)]
def bT (σ:St) (τ:Nat) (l:List UInt8):St:=match l with
 | []=>σ
 | _::_=>σ.al τ (5,1,l.length)
def bS (σ:St) (β τ:Nat) (l:List UInt8):St:=(bT σ τ l).ae β (bB β τ l)
theorem pY (σ:St) (β τ:Nat) (l:List UInt8):(bS σ β τ l).box β=some (bB β τ l):=by simp [bS,St.ae,upd]
theorem sg (σ:St) {β γ:Nat} (τ:Nat) (l:List UInt8) [h:Apart γ β]:(bS σ β τ l).box γ=σ.box γ:=by
 cases l<;>simp [bS,bT,St.ae,St.al,upd,h.ne]
theorem JW (σ:St) (β τ:Nat) (l:List UInt8):(bS σ β τ l).bt=σ.bt:=by cases l<;>rfl
theorem vF (σ:St) (β τ:Nat) (l:List UInt8):(bS σ β τ l).glob=σ.glob:=by cases l<;>rfl
theorem HZ (σ:St) {β γ:Nat} (τ:Nat) (l:List UInt8) (c:List AV) [h:Apart γ β]:(bS σ β τ l).ae γ c=bS (σ.ae γ c) β τ l:=by
 have hc:∀ (s:St) (d:List AV),(s.ae β d).ae γ c=(s.ae γ c).ae β d:=fun s d=>by
  simp only [St.ae,St.mk.injEq,and_true]
  funext j
  simp only [upd]
  by_cases h1:j=γ
  ·subst h1;rw [if_pos rfl,if_neg h.ne,if_pos rfl]
  ·rw [if_neg h1,if_neg h1]
 cases l<;>exact hc _ _
theorem uI (σ:St) (β τ:Nat):bS σ β τ []=σ.ae β [.nilp, .nils]:=rfl
theorem lJ {σ:St} {β:Nat} {c:List AV} (h:σ.box β=some c):σ.ae β c=σ:=by
 unfold St.ae
 have:upd σ.box β c=σ.box:=by
  funext j
  simp only [upd]
  split
  ·rename_i e;subst e;exact h.symm
  ·rfl
 rw [this]
theorem pZ {σ:St} {β γ τ:Nat} {l:List UInt8}:(bS σ β τ l).box γ=none↔(Apart γ β∧Apart β γ)∧σ.box γ=none:=by
 unfold bS
 rw [St.bf]
 cases l<;>rfl
theorem Fx {σ s:St} {β τ:Nat} {l:List UInt8} (h:St.le s σ) (hn:s.box β=none) (ht:l≠ []→s.tip τ=none):St.le s (bS σ β τ l):=by
 cases l with
 | nil=>exact St.aA h hn
 | cons x l=>exact St.aA (St.fA h (ht (by simp))) hn
def BW (f:Nat) (xs:List AV) (r:AV) (β:Nat) (m:List UInt8):Prop:=∀ (σ:St) (τ:Nat) (l:List UInt8),(l≠ []→σ.tip τ=none)→σ.bt β=some 222→l.length+m.length≤1000000000000 →
 AC Tryz.prog f (.ptr β 0::xs) (bS σ β τ l) (fun v s=>v=r∧∃ τ',σ.tip τ'=none∧(l≠ []→τ'=τ)∧s=bS σ β τ' (l++m))
theorem gj (β:Nat) (c:UInt8):BW 228 [.int .u8 c.toNat] .nili β [c]:=by
  intro σ τ l hτ hbt hl
  simp only [List.length_cons,List.length_nil] at hl
  refine bw Hb K2 ?_
  simp only [Hb,↓R1,RR,seval]
  cases l with
  | nil =>
    rw [uI]
    refine AC.mono (AC.wk (nk (β:=β) (x:= .nils) (by simp only [↓R1,RR,seval]) (by simpa [St.ae] using hbt)) (aa _)) ?_
    rintro _ _ ⟨rfl,rfl⟩
    simp only [↓R1,RR,seval]
    refine mP (n:=0) (cs:= []) rfl trivial rfl rfl rfl ?_ ?_ (fun ρ hρ=>?_)
    · unfold maxLen;decide
    · decide
    simp only [↓R1,RR,seval]
    refine ct ⟨rfl,ρ,hρ,(fun h=>absurd rfl h),?_⟩ (by first|(simp [aj,rvS];done)|(simp only [aj,rvS,↓R1,RR,seval];try simp))
    simp [bS,bT,bB,eS]
    rfl
  | cons x l =>
    have hT:(bS σ β τ (x::l)).box β=some [.ptr β 0, .tsl τ (l.length+1) (eS (x::l))]:=pY _ _ _ _
    refine AC.mono (AC.wk (oR (β:=β) hT) (aa _)) ?_
    rintro _ _ ⟨rfl,rfl⟩
    simp only [hT,↓R1,RR,seval]
    simp only [List.length_cons] at hl
    refine bD rfl ?_ ?_ rfl ?_ ?_ ?_
    · simp [bS,bT,St.ae,St.al,upd]
    · simp [eS]
    · unfold maxLen;omega
    · omega
    simp only [hT,↓R1,RR,seval]
    refine ct ⟨rfl,τ,hτ (by simp),fun _=>rfl,?_⟩ (by first|(simp [aj,rvS];done)|(simp only [aj,rvS,↓R1,RR,seval];try simp))
    simp [bS,bT,bB,eS,St.ae,St.al]
    constructor<;>(funext j;simp only [upd];split<;>rfl)
theorem jD (β:Nat) (m:List UInt8) (hm:m≠ []):BW 173 [.str m] (.tup [.int .i64 m.length, .nili]) β m:=by
  intro σ τ l hτ hbt hl
  refine bw GP KI ?_
  simp only [GP,gG,↓R1,RR,seval]
  cases l with
  | nil =>
    rw [uI]
    refine AC.mono (AC.wk (nk (β:=β) (x:= .nils) (by simp only [↓R1,RR,seval]) (by simpa [St.ae] using hbt)) (aa _)) ?_
    rintro _ _ ⟨rfl,rfl⟩
    simp only [gG,↓R1,RR,seval]
    simp only [List.length_nil] at hl
    refine x8 hm ?_ ?_ (fun ρ hρ=>?_)
    · unfold maxLen;omega
    · omega
    simp only [gG,↓R1,RR,seval]
    refine ct ⟨rfl,ρ,hρ,(fun h=>absurd rfl h),?_⟩ (by first|(simp [aj,rvS];done)|(simp only [aj,rvS,↓R1,RR,seval];try simp))
    cases m with
    | nil=>exact (hm rfl).elim
    | cons y m=>simp [bS,bT,bB,eS];rfl
  | cons x l =>
    have hT:(bS σ β τ (x::l)).box β=some [.ptr β 0, .tsl τ (l.length+1) (eS (x::l))]:=pY _ _ _ _
    refine AC.mono (AC.wk (oR (β:=β) hT) (aa _)) ?_
    rintro _ _ ⟨rfl,rfl⟩
    simp only [gG,hT,↓R1,RR,seval]
    simp only [List.length_cons] at hl
    refine x7 hm ?_ ?_ ?_ ?_ ?_
    · simp [bS,bT,St.ae,St.al,upd]
    · simp [eS]
    · unfold maxLen;omega
    · omega
    simp only [gG,hT,↓R1,RR,seval]
    refine ct ⟨rfl,τ,hτ (by simp),fun _=>rfl,?_⟩ (by first|(simp [aj,rvS];done)|(simp only [aj,rvS,↓R1,RR,seval];try simp))
    simp [bS,bT,bB,eS,St.ae,St.al]
    (repeat' apply And.intro)
    all_goals first|omega|(funext j;simp only [upd];split<;>simp [Nat.add_assoc,Nat.add_comm,Nat.add_left_comm])
theorem BW.used {f β τ:Nat} {xs:List AV} {r:AV} {m l:List UInt8} {σ:St} (h:BW f xs r β m) (h0:l≠ []) (hτ:σ.tip τ=none) (hb:σ.bt β=some 222) (hl:l.length+m.length≤1000000000000) :
  AC Tryz.prog f (.ptr β 0::xs) (bS σ β τ l) (fun v s=>v=r∧s=bS σ β τ (l++m)) :=
 (h σ τ l (fun _=>hτ) hb hl).mono (by rintro v s ⟨rfl,τ',_,h2,rfl⟩;rw [h2 h0];exact ⟨rfl,rfl⟩)
theorem JX (σ:St) (β τ:Nat) (l:List UInt8):AC Tryz.prog 186 [.ptr β 0] (bS σ β τ l) (fun v s=>v= .int .i64 l.length∧s=bS σ β τ l):=by
  refine bw El KM ?_
  have hT:(bS σ β τ l).box β=some (bB β τ l):=pY _ _ _ _
  cases l with
  | nil =>
    simp only [El,hT,bB,↓R1,RR,seval]
    exact ct ⟨rfl,rfl⟩
  | cons x l =>
    simp only [El,hT,bB,↓R1,RR,seval]
    exact ct ⟨rfl,rfl⟩
theorem np {σ:St} {β τ:Nat} {l:List UInt8} (hτ:l≠ []→σ.tip τ=none) (hbt:σ.bt β=some 222):AC Tryz.prog 174 [.ptr β 0] (bS σ β τ l) (fun v s=>v= .str l∧s=σ.ae β (bB β τ l)):=by
  intro g w vs hI hv
  obtain ⟨b,rfl,hg⟩:=pX hv
  have hT:(bS σ β τ l).box β=some (bB β τ l):=pY _ _ _ _
  obtain ⟨b',cs,T,h1,h2,h3⟩:=hI.box β _ hT
  rw [hg] at h1;cases h1
  obtain ⟨b',cs',h1,h2'⟩:=hI.bty β _ (by rw [JW];exact hbt)
  rw [hg] at h1;cases h1
  rw [h2] at h2';cases h2'
  refine .inl ⟨BV _ _,?_⟩
  cases l with
  | nil =>
    obtain ⟨v0,r0,hl,hv0,hr0⟩:=h3.1.cons_inv
    obtain ⟨v1,r1,rfl,hv1,hr1⟩:=hr0.cons_inv
    rw [hr1.cq] at hl
    have hv1':v1= .slice none 0 0:=by cases hv1;rfl
    subst hv1'
    have hcs:cs= #[v0, .slice none 0 0]:=by rw [←Array.toArray_toList (xs:=cs),hl]
    subst hcs
    refine (Any.Builder_String_nil Tryz.Es Tryz.kj w.heap.size b v0 w h2).mono ?_
    rintro e w' ⟨rfl,hb⟩
    exact ⟨_, .str [],_,_,rfl,⟨rfl,rfl⟩,hI.below hb,Ext.below g hb, .str []⟩
  | cons x m =>
    generalize hlx:x::m=l at *
    have h0:l≠ []:=by rw [←hlx];simp
    have hτ:=hτ h0
    have hbB:bB β τ l= [.ptr β 0, .tsl τ l.length (eS l)]:=by rw [←hlx];rfl
    have hbSt:bS σ β τ l=(σ.al τ (5,1,l.length)).ae β (bB β τ l):=by rw [←hlx];rfl
    rw [hbB] at h3
    obtain ⟨v0,r0,hl,hv0,hr0⟩:=h3.1.cons_inv
    obtain ⟨v1,r1,rfl,hv1,hr1⟩:=hr0.cons_inv
    rw [hr1.cq] at hl
    have hcs:cs= #[v0,v1]:=by rw [←Array.toArray_toList (xs:=cs),hl]
    subst hcs
    have htip:(bS σ β τ l).tip τ=some (5,1,l.length):=by rw [hbSt];simp [St.ae,St.al,upd]
    obtain ⟨v,k1,k2,k4⟩:=hI.tip τ _ _ _ htip
    have hv1t:=hv1.mf
    rw [k1] at hv1t
    cases hv1t
    have hheld:Held l.length v1:= .inr (by simpa using h0)
    obtain ⟨xs,hown,hblk⟩:=k2 hheld
    obtain ⟨hxl,hown⟩:=hown
    rcases hown with ⟨rfl,hz⟩|⟨gb,cap,cur,rfl,_,hgb,hnc,hcm,hsz,htk⟩
    · exact absurd (List.length_eq_zero_iff.1 hz) h0
    obtain ⟨hcl,hnb,hrow⟩:=hblk gb rfl
    have hlies:=hv1.cr (n:=l.length) (cs:=eS l) rfl
    rcases hlies with ⟨x,hx,hx2,_⟩|⟨b2,off,cap2,u,hx,hx2,hL⟩
    · exact absurd (List.length_eq_zero_iff.1 hx2) h0
    cases hx
    have hcell:cur.toList.take l.length=byteCells l:=by
      apply List.ext_getElem?
      intro i
      rw [List.getElem?_take]
      split
      · rename_i hi
        have hr:=hL.rel.1
        have hc1:(eS l)[i]? =some (.int .u8 (l[i]).toNat):=by simp [eS,hi]
        obtain ⟨v,hv,hrv⟩:=hr.get hc1
        have:=hL.cell i v hv
        rw [Lib.cell_of_heap hgb,Nat.zero_add,←Array.getElem?_toList] at this
        rw [this,hrv.bE]
        simp [byteCells,hi]
      · rename_i hi
        rw [List.getElem?_eq_none (by simp [byteCells];omega)]
    refine (yr b gb cap v0 cur l w h2 hgb hnc hcm (by omega) hcell h0).mono ?_
    rintro e w' ⟨rfl,rfl⟩
    have hI2:=fe hI τ
    have hI3:=je hI2
    have hst:(bS σ β τ l).dR τ=σ.ae β (bB β τ l):=by
      rw [hbSt]
      simp only [St.dR,St.ae,St.al,St.mk.injEq,true_and,and_true]
      funext j
      simp only [upd]
      split
      · rename_i e;subst e;exact hτ.symm
      · rfl
    rw [hst] at hI3
    have htt:∀ τ' x v,(σ.ae β (bB β τ l)).tip τ'=some x→g.tip τ' x.2.2=some v→Held x.2.2 v→v.ownBlock≠some gb:=by
      intro τ' x v hx hv hh
      have hne:τ'≠τ:=by
        rintro rfl
        rw [show (σ.ae β (bB β τ' l)).tip=σ.tip from rfl,hτ] at hx
        cases hx
      have hx':(bS σ β τ l).tip τ'=some x:=by
        rw [hbSt]
        show upd σ.tip τ _ τ'=some x
        rw [upd,if_neg hne];exact hx
      exact hI.tipinj τ τ' _ x _ v gb htip hx' (fun e=>hne e.symm) k1 hv hheld hh rfl
    have hgd:w.drew.heap[gb]? =some (.cells cur 5 (0,0)):=hgb
    obtain ⟨hI4,he4⟩:=uG (n:=l.length) hI3 hgd hcl hnb htt
    exact ⟨_, .str l,_,g,rfl,⟨rfl,rfl⟩,hI4,(eX (g:=g) (w:=w)).trans he4, .str l⟩
end Go.Proofs.YtgephffbfiemeaaGreatDoor
namespace Go.Proofs.YtgephffbfiemeaaGreatDoor
open Go.Abs
set_option linter.all false
set_option maxRecDepth 100000
theorem H0 (b:UInt8):Pu Tryz.prog 229 [.int .u8 b.toNat] (.bool (dy b)):=by
 (refine an Hc K3 fun σ=>?_;simp only [Hc,↓R1,RR,seval])
 skip
 all_goals (refine ak (ad ?_))
 all_goals (simp only [ao,↓R1,RR,seval])
 all_goals rfl
theorem JY (b:UInt8):Pu Tryz.prog 230 [.int .u8 b.toNat] (.bool (aT b)):=by
 (refine an Hd K4 fun σ=>?_;simp only [Hd,↓R1,RR,seval])
 repeat' ((first|(refine cZ (fun hc=>?_) (fun hc=>?_)<;>(try simp only [hc,↓R1,RR,seval]))|(refine Pt (H0 b) ?_))<;>(try simp only [↓R1,RR,seval]))
 all_goals (refine ak (ad ?_))
 all_goals (simp only [ao,↓R1,RR,seval])
 all_goals simp only [aT,hc,Bool.true_and,Bool.false_and]
theorem H2 (b:UInt8):Pu Tryz.prog 246 [.int .u8 b.toNat] (.bool (aL b)):=by
 (refine an Hf K6 fun σ=>?_;simp only [Hf,↓R1,RR,seval])
 skip
 all_goals (refine ak (ad ?_))
 all_goals (simp only [ao,↓R1,RR,seval])
 all_goals rfl
theorem lK (b:UInt8):b.toNat<256:=b.toNat_lt
def H3 (n:Nat):Int :=
 bif decide ((48:Int)≤n)&&decide ((n:Int)≤57) then IntKind.u8.wrap ((n:Int) - 48)
 else bif decide ((97:Int)≤bits .or .u8 n 32)&&decide (bits .or .u8 n 32≤102) then IntKind.u8.wrap (IntKind.u8.wrap (bits .or .u8 n 32 - 97)+10) else 16
theorem BX:((List.range 256).all fun n=>H3 n == ((if 48≤n∧n≤57 then n - 48 else if 97≤n∧n≤102 then n - 87 else if 65≤n∧n≤70 then n - 55 else 16:Nat):Int))=true:=by kernel_rfl
theorem EJ (b:UInt8):H3 b.toNat=fl b:=by
 have:=List.all_eq_true.1 BX b.toNat (List.mem_range.2 (lK b))
 exact beq_iff_eq.1 this
theorem JZ (b:UInt8):Pu Tryz.prog 294 [.int .u8 b.toNat] (.int .u8 (fl b)):=by
 rw [←EJ]
 (refine an Hq Lg fun σ=>?_;simp only [Hq,↓R1,RR,seval])
 repeat' ((refine ar (fun hc=>?_) (fun hc=>?_))<;>(try simp only [↓R1,RR,seval]))
 all_goals (refine ak (ad ?_))
 all_goals (simp only [ao,↓R1,RR,seval])
 all_goals simp only [H3, *,cond_true,cond_false]
theorem ed {σ:St} {β k:Nat} {l:List UInt8} (hb:σ.box β=some [.str l, .int .i64 k]):AC Tryz.prog 199 [.ptr β 0] σ (fun r s=>r= .bool (decide ((k:Int)<l.length))∧s=σ):=by
 haveI:BoxIs σ β [.str l, .int .i64 k]:=⟨hb⟩
 (refine bw G0 KS ?_;simp only [G0,↓R1,RR,seval])
 skip
 all_goals (refine ak (ad ?_))
 all_goals (simp only [ao,↓R1,RR,seval])
theorem cD {l r:List UInt8} {k:Nat} {c:UInt8} (h:l.drop k=c::r):l[k]? =some c∧k<l.length∧l.drop (k+1)=r:=by
 have h1:l[k]? =some c:=by
  have:=List.getElem?_drop (xs:=l) (i:=k) (j:=0)
  rw [h] at this;simpa using this.symm
 refine ⟨h1,(List.getElem?_eq_some_iff.1 h1).1,?_⟩
 rw [←List.drop_drop,h];rfl
theorem eT {σ:St} {β k:Nat} {l r:List UInt8} {c:UInt8} (hb:σ.box β=some [.str l, .int .i64 k]) (hr:l.drop k=c::r):AC Tryz.prog 200 [.ptr β 0] σ (fun r s=>r= .int .u8 c.toNat∧s=σ):=by
 haveI:BoxIs σ β [.str l, .int .i64 k]:=⟨hb⟩
 obtain ⟨h1,h2,_⟩:=cD hr
 (refine bw G1 KT ?_;simp only [G1,↓R1,RR,seval,h1])
 repeat' (with_reducible refine And.intro ?_ ?_;exact ag)
 (refine ak (ad ?_))
 (simp only [ao,↓R1,RR,seval,h1])
theorem p7 {σ:St} {β k:Nat} {l r:List UInt8} {c:UInt8} (hb:σ.box β=some [.str l, .int .i64 k]) (hr:l.drop k=c::r) (hl:l.length≤1000000):AC Tryz.prog 270 [.ptr β 0] σ (fun r s=>r= .int .u8 c.toNat∧s=σ.ae β [.str l, .int .i64 (k+1:Nat)]):=by
 haveI:BoxIs σ β [.str l, .int .i64 k]:=⟨hb⟩
 obtain ⟨h1,h2,_⟩:=cD hr
 have hw:IntKind.i64.wrap ((k:Int)+1)=((k+1:Nat):Int):=by rw [wrap64 (by omega) (by omega)];omega
 have hw2:IntKind.i64.wrap (((k+1:Nat):Int) - 1)=(k:Nat):=by rw [wrap64 (by omega) (by omega)];omega
 (refine bw Hl Lc ?_;simp only [Hl,↓R1,RR,seval,h1,hw,hw2])
 repeat' (with_reducible refine And.intro ?_ ?_;exact ag)
 (refine ct ?_)
 exact ⟨rfl,rfl⟩
def posOf (l r:List UInt8):Nat:=l.length - r.length
theorem eU (l:List UInt8) (k:Nat) (h:k≤l.length):(l.drop k= []∧k=l.length)∨∃ c r,l.drop k=c::r∧k<l.length:=by
  cases hd:l.drop k with
  | nil =>
    have:=congrArg List.length hd
    simp at this
    exact .inl ⟨rfl,by omega⟩
  | cons c r=>exact .inr ⟨c,r,rfl,(cD hd).2.1⟩
theorem nq (l:List UInt8) (k:Nat) (h:k≤l.length):posOf l (l.drop k)=k:=by simp [posOf];omega
theorem kp {l r:List UInt8} {k:Nat} {c:UInt8} (h:l.drop k=c::r):posOf l r=k+1:=by
 obtain ⟨_,h2,h3⟩:=cD h
 rw [←h3];exact nq l (k+1) h2
theorem iV {l r:List UInt8} (h:r <:+ l):l.drop (posOf l r)=r∧posOf l r≤l.length:=by
 obtain ⟨p,rfl⟩:=h
 have:posOf (p++r) r=p.length:=by simp [posOf]
 rw [this]
 exact ⟨by simp,by simp⟩
theorem kq (l:List UInt8) (k:Nat):l.drop k <:+ l:=List.drop_suffix k l
set_option maxHeartbeats 1000000 in
theorem BY {σ:St} {β k:Nat} {l:List UInt8} (hb:σ.box β=some [.str l, .int .i64 k]) (hk:k≤l.length) (hl:l.length≤1000000):AC Tryz.prog 198 [.ptr β 0] σ (fun r s=>r= .tup []∧s=σ.ae β [.str l, .int .i64 (posOf l ((l.drop k).dropWhile aL):Nat)]):=by
  have hc1:True:=trivial
  have hp:True:=trivial
  have hw:True:=trivial
  (refine bw GZ KR ?_;simp only [GZ,↓R1,RR,Nat.reduceEqDiff,Nat.reduceAdd,Nat.reduceLeDiff,Nat.reduceLT,reduceCtorEq,hw,hc1,hp])
  refine cS (α:=Nat) (fun _=> [(0, .ptr β 0)]) (fun j=>σ.ae β [.str l, .int .i64 (j:Nat)]) (fun j=>j≤l.length∧(l.drop j).dropWhile aL=(l.drop k).dropWhile aL) (fun j=>l.length - j) k (by simp [az,slot,af]) (by simp only [St.le,St.ae,upd];exact ⟨fun γ c h=>by split at h<;>simp_all,fun _ _ h=>h,fun _ _ h=>h,fun _ _ h=>h,fun _ _ h=>h⟩) ⟨hk,rfl⟩ ?_
  rintro j ⟨hj,hI⟩
  simp only [↓R1,RR,Nat.reduceEqDiff,Nat.reduceAdd,Nat.reduceLeDiff,Nat.reduceLT,reduceCtorEq,hw,hc1,hp]
  have a1:=ed (σ:=σ.ae β [.str l, .int .i64 (j:Nat)]) (β:=β) (k:=j) (l:=l) (by simp only [↓R1,RR,Nat.reduceEqDiff,Nat.reduceAdd,Nat.reduceLeDiff,Nat.reduceLT,reduceCtorEq,hw,hc1,hp])
  rcases eU l j hj with ⟨hd,rfl⟩|⟨c,r,hd,hlt⟩
  · have hc1:decide ((l.length:Int)<(l.length:Int))=false:=by simp
    simp only [hc1] at a1
    repeat' (((refine AC.mono (AC.wk (a1) (aa _)) ?_;(rintro _ _ ⟨rfl,rfl⟩)))<;>(try simp only [↓R1,RR,Nat.reduceEqDiff,Nat.reduceAdd,Nat.reduceLeDiff,Nat.reduceLT,reduceCtorEq,hw,hc1,hp]))
    (refine ct ?_)
    rw [←hI,hd]
    exact ⟨rfl,rfl⟩
  · have hc1:decide ((j:Int)<(l.length:Int))=true:=by simpa using hlt
    have hw:IntKind.i64.wrap ((j:Int)+1)=((j+1:Nat):Int):=by rw [wrap64 (by omega) (by omega)];omega
    simp only [hc1] at a1
    have a2:=eT (σ:=σ.ae β [.str l, .int .i64 (j:Nat)]) (β:=β) (k:=j) (l:=l) (by simp only [↓R1,RR,Nat.reduceEqDiff,Nat.reduceAdd,Nat.reduceLeDiff,Nat.reduceLT,reduceCtorEq,hw,hc1,hp]) hd
    have a3:=H2 c
    cases hp:aL c with
    | true =>
      rw [hp] at a3
      repeat' ((first|((refine AC.mono (AC.wk (a1) (aa _)) ?_;(rintro _ _ ⟨rfl,rfl⟩)))|((refine AC.mono (AC.wk (a2) (aa _)) ?_;(rintro _ _ ⟨rfl,rfl⟩)))|(refine Pt (a3) ?_))<;>(try simp only [↓R1,RR,Nat.reduceEqDiff,Nat.reduceAdd,Nat.reduceLeDiff,Nat.reduceLT,reduceCtorEq,hw,hc1,hp]))
      refine ⟨j+1,⟨by omega,?_⟩,by simp [az,slot,af],St.le_refl _,by omega⟩
      rw [←hI,hd,(cD hd).2.2,List.dropWhile_cons,hp];rfl
    | false =>
      rw [hp] at a3
      repeat' ((first|((refine AC.mono (AC.wk (a1) (aa _)) ?_;(rintro _ _ ⟨rfl,rfl⟩)))|((refine AC.mono (AC.wk (a2) (aa _)) ?_;(rintro _ _ ⟨rfl,rfl⟩)))|(refine Pt (a3) ?_))<;>(try simp only [↓R1,RR,Nat.reduceEqDiff,Nat.reduceAdd,Nat.reduceLeDiff,Nat.reduceLT,reduceCtorEq,hw,hc1,hp]))
      (refine ct ?_)
      rw [←hI,hd,List.dropWhile_cons,hp]
      refine ⟨rfl,?_⟩
      rw [if_neg (by simp),←hd,nq l j hj]
theorem eV {P:Program} {σ:St} {K:AV→St→Prop} {f β:Nat} {xs ys c d:List AV} {v:AV} {h:Hold (σ,K)} (hb:σ.box β=some d) (hp:AC P f ys σ (fun x s=>x=v∧s=σ.ae β c)) (hw:wkL xs ys) (hK:K v (σ.ae β c)):tz P f xs σ K h :=
 mK hp hw ⟨rfl,fun γ hγ=>by
  simp only [St.ae,upd]
  split
  ·rename_i e;subst e;rw [hb] at hγ;cases hγ
  ·exact hγ,fun _ h=>h⟩ hK
theorem p8 {σ:St} {β:Nat} {c:List AV} (hb:σ.box β=some c):St.le (σ.ae β c) σ :=
 ⟨fun γ d h=>by
  simp only [St.ae,upd] at h
  split at h
  ·rename_i e;subst e;rw [←h];exact hb
  ·exact h,fun _ _ h=>h,fun _ _ h=>h,fun _ _ h=>h,fun _ _ h=>h⟩
def sh (σ:St) (β:Nat) (l:List UInt8) {α:Type} (o:Option (α × List UInt8)) (val:α→AV) (r:AV) (s:St):Prop :=
 match o with
 | some (x,t)=>r= .tup [val x, .bool true]∧s=σ.ae β [.str l, .int .i64 (posOf l t:Nat)]
 | none=>∃ v j,r= .tup [v, .bool false]∧s=σ.ae β [.str l, .int .i64 (j:Nat)]
def nr (b:UInt8):AV:= .int .u8 b.toNat
theorem H4 {n:Nat} (h:n<256):(UInt8.ofNat n).toNat=n:=by
 rw [UInt8.toNat_ofNat'];exact Nat.mod_eq_of_lt h
theorem EK:((List.range 16).all fun a=>(List.range 17).all fun b=>(a == 16||b == 16||decide (IntKind.u8.wrap (bits .or .u8 (IntKind.u8.wrap ((a:Int)*2^min 4 IntKind.u8.bits)) (bits .and .u8 b 15))=((16*a+b:Nat):Int))&&decide (bits .or .u8 (IntKind.u8.wrap ((a:Int)*2^min 4 IntKind.u8.bits)) (bits .and .u8 b 15)=((16*a+b:Nat):Int))))=true:=by kernel_rfl
theorem nib (a b:Nat) (ha:a<16) (hb:b<16):bits .or .u8 (IntKind.u8.wrap ((a:Int)*2^min 4 IntKind.u8.bits)) (bits .and .u8 b 15)=((16*a+b:Nat):Int):=by
 have h1:=List.all_eq_true.1 EK a (List.mem_range.2 ha)
 have h2:=List.all_eq_true.1 h1 b (List.mem_range.2 (by omega))
 have e1:(a == 16)=false:=by simp;omega
 have e2:(b == 16)=false:=by simp;omega
 simp only [e1,e2,Bool.false_or,Bool.and_eq_true,decide_eq_true_eq] at h2
 exact h2.2
theorem BZ {k n:Nat} (h:k≤n) (hn:n≤1000000):IntKind.i64.wrap ((n:Int) - k)=((n - k:Nat):Int):=by
 rw [wrap64 (by omega) (by omega)];omega
set_option maxHeartbeats 1000000 in
theorem H5 {σ:St} {β k:Nat} {l:List UInt8} (hb:σ.box β=some [.str l, .int .i64 k]) (hk:k≤l.length) (hl:l.length≤1000000):AC Tryz.prog 287 [.ptr β 0] σ (sh σ β l (fq (l.drop k)) nr):=by
  haveI:BoxIs σ β [.str l, .int .i64 k]:=⟨hb⟩
  have hw:=BZ hk hl
  have hlen:(l.drop k).length=l.length - k:=by simp
  cases hd:l.drop k with
  | nil =>
    rw [hd] at hlen
    have hc1:decide (((l.length - k:Nat):Int)<2)=true:=by simp at hlen;simp;omega
    (refine bw ud Hp ?_;simp only [ud,↓R1,RR,Nat.reduceEqDiff,Nat.reduceAdd,Nat.reduceLeDiff,Nat.reduceLT,reduceCtorEq,hw,hc1])
    skip
    refine aZ (by simp) (by simp [aj,rvS]) (af _) (p8 hb) ⟨_,k,rfl,rfl⟩
  | cons c r =>
    cases hr:r with
    | nil =>
      rw [hd,hr] at hlen
      have hc1:decide (((l.length - k:Nat):Int)<2)=true:=by simp at hlen;simp;omega
      (refine bw ud Hp ?_;simp only [ud,↓R1,RR,Nat.reduceEqDiff,Nat.reduceAdd,Nat.reduceLeDiff,Nat.reduceLT,reduceCtorEq,hw,hc1])
      skip
      refine aZ (by simp) (by simp [aj,rvS]) (af _) (p8 hb) ⟨_,k,rfl,rfl⟩
    | cons c2 r2 =>
      rw [hd,hr] at hlen
      have hc1:decide (((l.length - k:Nat):Int)<2)=false:=by simp at hlen;simp;omega
      have a1:=p7 hb hd hl
      have hd2:l.drop (k+1)=c2::r2:=by rw [(cD hd).2.2,hr]
      have hb2:(σ.ae β [.str l, .int .i64 (k+1:Nat)]).box β=some [.str l, .int .i64 (k+1:Nat)]:=by simp only [↓R1,RR,Nat.reduceEqDiff,Nat.reduceAdd,Nat.reduceLeDiff,Nat.reduceLT,reduceCtorEq,hw,hc1]
      have a2:=p7 hb2 hd2 hl
      have d1:=JZ c
      have d2:=JZ c2
      (refine bw ud Hp ?_;simp only [ud,↓R1,RR,Nat.reduceEqDiff,Nat.reduceAdd,Nat.reduceLeDiff,Nat.reduceLT,reduceCtorEq,hw,hc1])
      repeat' (first|(with_reducible refine And.intro ?_ ?_;exact ag)|((first|(refine eV hb a1 (aa _) ?_)|(refine eV hb2 a2 (aa _) ?_)|(refine Ct (d1) ?_)|(refine Ct (d2) ?_))<;>(try simp only [↓R1,RR,Nat.reduceEqDiff,Nat.reduceAdd,Nat.reduceLeDiff,Nat.reduceLT,reduceCtorEq,hw,hc1])))
      have hp1:posOf l r2=k+1+1:=kp hd2
      by_cases h:fl c<16∧fl c2<16
      · have hn:=nib _ _ h.1 h.2
        refine aZ (r:= .tup [nr (UInt8.ofNat (16*fl c+fl c2)), .bool true]) (by simp) (by simp [aj,rvS]) (ad ?_) (St.le_refl _) ?_
        · (simp only [ao,↓R1,RR,Nat.reduceEqDiff,Nat.reduceAdd,Nat.reduceLeDiff,Nat.reduceLT,reduceCtorEq,hw,hc1])
          rw [show Int.toNat 4=4 from rfl,hn,nr,H4 (by omega)]
          have e1:decide ((fl c:Int)<16)=true:=by simp;omega
          have e2:decide ((fl c2:Int)<16)=true:=by simp;omega
          rw [e1,e2];rfl
        · simp only [sh,fq,if_pos h,hp1,true_and]
      · refine aZ (r:= .tup [.int .u8 (bits .or .u8 (IntKind.u8.wrap ((fl c:Int)*2^min (Int.toNat 4) IntKind.u8.bits)) (bits .and .u8 (fl c2) 15)), .bool false]) (by simp) (by simp [aj,rvS]) (ad ?_) (St.le_refl _) ?_
        · (simp only [ao,↓R1,RR,Nat.reduceEqDiff,Nat.reduceAdd,Nat.reduceLeDiff,Nat.reduceLT,reduceCtorEq,hw,hc1])
          have:(decide ((fl c:Int)<16)&&decide ((fl c2:Int)<16))=false:=by
            rw [←Bool.not_eq_true,Bool.and_eq_true,decide_eq_true_eq,decide_eq_true_eq];omega
          rw [this]
        · simp only [sh,fq,if_neg h]
          exact ⟨_,k+1+1,rfl,rfl⟩
theorem nu (b c:UInt8):((b.toNat:Int) == (c.toNat:Int))=decide (b=c):=by
 rw [Bool.eq_iff_iff];simp only [beq_iff_eq,decide_eq_true_eq,Int.natCast_inj,UInt8.toNat_inj]
theorem cv (b:UInt8):((b.toNat:Int) == 120)=decide (b=120):=nu b 120
theorem aD (b:UInt8):((b.toNat:Int) == 34)=decide (b=34):=nu b 34
theorem bW (b:UInt8):((b.toNat:Int) == 92)=decide (b=92):=nu b 92
theorem dE (b:UInt8):((b.toNat:Int) == 35)=decide (b=35):=nu b 35
set_option maxHeartbeats 1000000 in
theorem yu {σ:St} {β k:Nat} {l:List UInt8} (hb:σ.box β=some [.str l, .int .i64 k]) (hk:k≤l.length) (hl:l.length≤1000000):AC Tryz.prog 271 [.ptr β 0] σ (sh σ β l (jQ (l.drop k)) nr):=by
  haveI:BoxIs σ β [.str l, .int .i64 k]:=⟨hb⟩
  have a1:=ed hb
  rcases eU l k hk with ⟨hd,he⟩|⟨c,r,hd,hlt⟩
  · have hc1:decide ((k:Int)<(l.length:Int))=false:=by simp;omega
    rw [hd]
    (refine bw Bj JD ?_;simp only [Bj,↓R1,RR,Nat.reduceEqDiff,Nat.reduceAdd,Nat.reduceLeDiff,Nat.reduceLT,reduceCtorEq,cv,aD,bW,hc1])
    repeat' (((refine AC.mono (AC.wk (a1) (aa _)) ?_;(rintro _ _ ⟨rfl,rfl⟩)))<;>(try simp only [↓R1,RR,Nat.reduceEqDiff,Nat.reduceAdd,Nat.reduceLeDiff,Nat.reduceLT,reduceCtorEq,cv,aD,bW,hc1]))
    refine aZ (by simp) (by simp [aj,rvS]) (af _) (p8 hb) ⟨_,k,rfl,rfl⟩
  · have hc1:decide ((k:Int)<(l.length:Int))=true:=by simpa using hlt
    have a2:=p7 hb hd hl
    have hb2:(σ.ae β [.str l, .int .i64 (k+1:Nat)]).box β=some [.str l, .int .i64 (k+1:Nat)]:=by simp only [↓R1,RR,Nat.reduceEqDiff,Nat.reduceAdd,Nat.reduceLeDiff,Nat.reduceLT,reduceCtorEq,cv,aD,bW,hc1]
    have a3:=H5 hb2 hlt hl
    rw [(cD hd).2.2] at a3
    have hp1:posOf l r=k+1:=kp hd
    rw [hd]
    (refine bw Bj JD ?_;simp only [Bj,↓R1,RR,Nat.reduceEqDiff,Nat.reduceAdd,Nat.reduceLeDiff,Nat.reduceLT,reduceCtorEq,cv,aD,bW,hc1])
    repeat' ((first|(refine ar (fun hc=>?_) (fun hc=>?_))|((refine AC.mono (AC.wk (a1) (aa _)) ?_;(rintro _ _ ⟨rfl,rfl⟩)))|((refine AC.mono (AC.wk (a2) (aa _)) ?_;(rintro _ _ ⟨rfl,rfl⟩))))<;>(try simp only [↓R1,RR,Nat.reduceEqDiff,Nat.reduceAdd,Nat.reduceLeDiff,Nat.reduceLT,reduceCtorEq,cv,aD,bW,hc1]))
    · have h:c=120:=by simpa using hc
      cases hp:fq r with
      | none =>
        rw [hp] at a3
        refine (AC.wk a3 (aa _)).mono ?_
        rintro _ _ ⟨v,j,rfl,rfl⟩
        simp only [↓R1,RR,Nat.reduceEqDiff,Nat.reduceAdd,Nat.reduceLeDiff,Nat.reduceLT,reduceCtorEq,cv,aD,bW,hc1]
        (refine ct ?_)
        simp only [sh,jQ,if_pos h,hp]
        exact ⟨v,j,rfl,rfl⟩
      | some q =>
        rw [hp] at a3
        refine (AC.wk a3 (aa _)).mono ?_
        rintro _ _ ⟨rfl,rfl⟩
        simp only [↓R1,RR,Nat.reduceEqDiff,Nat.reduceAdd,Nat.reduceLeDiff,Nat.reduceLT,reduceCtorEq,cv,aD,bW,hc1]
        (refine ct ?_)
        simp only [sh,jQ,if_pos h,hp]
        exact ⟨rfl,trivial⟩
    · have h:c≠120:=by simpa using hc
      by_cases h2:c=34∨c=92
      · refine aZ (r:= .tup [nr c, .bool true]) (by simp) (by simp [aj,rvS]) (ad ?_) (St.le_refl _) ?_
        · (simp only [ao,↓R1,RR,Nat.reduceEqDiff,Nat.reduceAdd,Nat.reduceLeDiff,Nat.reduceLT,reduceCtorEq,cv,aD,bW,hc1])
          rcases h2 with rfl|rfl<;>rfl
        · simp only [sh,jQ,if_neg h,if_pos h2,hp1,true_and]
      · refine aZ (r:= .tup [nr c, .bool false]) (by simp) (by simp [aj,rvS]) (ad ?_) (St.le_refl _) ?_
        · (simp only [ao,↓R1,RR,Nat.reduceEqDiff,Nat.reduceAdd,Nat.reduceLeDiff,Nat.reduceLT,reduceCtorEq,cv,aD,bW,hc1])
          have e1:decide (c=34)=false:=decide_eq_false (fun e=>h2 (.inl e))
          have e2:decide (c=92)=false:=decide_eq_false (fun e=>h2 (.inr e))
          rw [e1,e2];rfl
        · simp only [sh,jQ,if_neg h,if_neg h2]
          exact ⟨_,k+1,rfl,rfl⟩
def fO (b:UInt8):Bool:=decide ((32:Int)≤b.toNat)&&decide ((b.toNat:Int)≤126)
theorem H6 (b:UInt8):Pu Tryz.prog 179 [.int .u8 b.toNat] (.bool (fO b)):=by
 (refine an GR KK fun σ=>?_;simp only [GR,↓R1,RR,seval])
 skip
 all_goals (refine ak (ad ?_))
 all_goals (simp only [ao,↓R1,RR,seval])
 all_goals rfl
theorem J0 (b:UInt8):Pu Tryz.prog 177 [.int .u8 b.toNat] (.bool (aT b)):=by
 have e:aT b=(fO b&&((b.toNat:Int) != 32)&&((b.toNat:Int) != 34)&&((b.toNat:Int) != 92)):=by
  simp only [aT,dy,fO]
  generalize decide ((32:Int)≤b.toNat)=x1
  generalize decide ((b.toNat:Int)≤126)=x2
  generalize ((b.toNat:Int) != 32)=x3
  generalize ((b.toNat:Int) != 34)=x4
  generalize ((b.toNat:Int) != 92)=x5
  cases x1<;>cases x2<;>cases x3<;>cases x4<;>cases x5<;>rfl
 rw [e]
 (refine an GQ KJ fun σ=>?_;simp only [GQ,↓R1,RR,seval])
 repeat' (first|((first|refine Pu.to (H6 b) (aa _) ?_|refine bO (H6 b) (aa _) ?_);(try simp only [↓R1,RR,seval])))
 all_goals (refine ak (ad ?_))
 all_goals (simp only [ao,↓R1,RR,seval])
 all_goals (try rfl)
theorem byte_at (l:List UInt8) {k:Nat} (h:k<l.length):l[k]? =some l[k]:=List.getElem?_eq_getElem h
theorem lf (p:UInt8→Bool) (l:List UInt8) {k:Nat} (h:k<l.length):(l.take (k+1)).all p=((l.take k).all p&&p l[k]):=by
 rw [←List.take_append_getElem h,List.all_append];simp
theorem jT (l:List UInt8) {k:Nat} (h:k<l.length):((l.map fun b=>AV.int .u8 b.toNat).drop (k*1)).take 1= [.int .u8 l[k].toNat]:=by
 rw [Nat.mul_one,List.drop_eq_getElem_cons (by simpa using h)]
 simp
set_option maxHeartbeats 1000000 in
theorem J1 (l:List UInt8) (hl:l.length≤1000000):Pu Tryz.prog 187 [.str l] (.bool (bareS l)):=by
  have q1:True:=trivial
  have q2:True:=trivial
  have hw:True:=trivial
  have hd:True:=trivial
  (refine an GV KN fun σ=>?_;simp only [GV,↓R1,RR,seval,q1,q2,hw,hd])
  refine bK l.length (fun k=> [(0, .str l),(6, .sl false l.length (l.map fun b=> .int .u8 b.toNat)),(7, .int .i64 (l.length:Nat)),(8, .int .i64 (k:Nat))]) (fun _=>σ) (fun k=>(l.take k).all aT=true) (by simp [az,slot,af]) (St.le_refl _) (by simp) (fun k hk hI=>?_)
  by_cases hlt:k<l.length
  · have q1:decide ((k:Int)<(l.length:Int))=true:=by rw [decide_eq_true_eq];omega
    have hd:=jT l hlt
    have hw:IntKind.i64.wrap ((k:Int)+1)=((k+1:Nat):Int):=by rw [wrap64 (by omega) (by omega)];omega
    have hp:=JY l[k]
    simp only [q1,↓R1,RR,seval,q1,q2,hw,hd]
    cases hb:aT l[k] with
    | true =>
      rw [hb] at hp
      repeat' (first|(with_reducible refine And.intro ?_ ?_;(focus (first|omega|(intros;(repeat' (with_reducible apply And.intro))<;>first|omega|(simp only [List.length_map];omega)))))|(with_reducible apply And.intro)|((first|refine Pu.to (hp) (aa _) ?_|refine bO (hp) (aa _) ?_);(try simp only [↓R1,RR,seval,q1,q2,hw,hd])))
      all_goals first|(simp only [List.length_map];omega)|skip
      all_goals first|(rw [lf _ _ hlt,hI,hb];rfl)|(simp [az,slot,af];done)|exact St.le_refl _
    | false =>
      rw [hb] at hp
      repeat' (first|(with_reducible refine And.intro ?_ ?_;(focus (first|omega|(intros;(repeat' (with_reducible apply And.intro))<;>first|omega|(simp only [List.length_map];omega)))))|((first|refine Pu.to (hp) (aa _) ?_|refine bO (hp) (aa _) ?_);(try simp only [↓R1,RR,seval,q1,q2,hw,hd])))
      all_goals first|(simp only [List.length_map];omega)|skip
      (refine ak (ad ?_))
      (simp only [ao,↓R1,RR,seval,q1,q2,hw,hd])
      have:l.all aT=false:=by
        rw [←Bool.not_eq_true,List.all_eq_true]
        intro h
        have:=h l[k] (List.getElem_mem hlt)
        rw [hb] at this;cases this
      simp only [bareS,this,Bool.false_and]
  · have hke:k=l.length:=by omega
    subst hke
    have q1:decide ((l.length:Int)<(l.length:Int))=false:=by simp
    rw [List.take_length] at hI
    by_cases hnil:l= []
    · have q2:(l == [])=true:=by rw [hnil];rfl
      have e:bareS l=false:=by rw [hnil];rfl
      rw [e]
      simp only [q1,↓R1,RR,seval,q1,q2,hw,hd]
      skip
      (refine ak (ad ?_))
      (simp only [ao,↓R1,RR,seval,q1,q2,hw,hd])
    · obtain ⟨c,m,e⟩:∃ c m,l=c::m:=by
        cases l with
        | nil=>exact (hnil rfl).elim
        | cons c m=>exact ⟨c,m,rfl⟩
      have q2:(l == [])=false:=by rw [e];rfl
      have hd:l[0]? =some c:=by rw [e];rfl
      have e2:bareS l=((c.toNat:Int) != 35):=by
        unfold bareS
        rw [hI,Bool.true_and]
        subst e
        show (c != 35)=_
        rw [bne,bne,dE]
        congr 1
      have hl1:0<l.length:=by rw [e];simp
      rw [e2]
      simp only [q1,↓R1,RR,seval,q1,q2,hw,hd]
      repeat' (first|(with_reducible refine And.intro ?_ ?_;(focus (first|omega|(intros;(repeat' (with_reducible apply And.intro))<;>first|omega|(simp only [List.length_map];omega))))))
      all_goals first|omega|skip
      (refine ak (ad ?_))
      (simp only [ao,↓R1,RR,seval,q1,q2,hw,hd])
theorem si (n:Nat) (h:n<16):(([48,49,50,51,52,53,54,55,56,57,97,98,99,100,101,102]:List UInt8).drop n).take 1= [nX n]:=by
 have:∀ n,n<16→(([48,49,50,51,52,53,54,55,56,57,97,98,99,100,101,102]:List UInt8).drop n).take 1= [nX n]:=by decide
 exact this n h
def vG (σ:St) (β:Nat) (l:List UInt8) (o:Option (List UInt8 × List UInt8)) (r:AV) (s:St):Prop :=
 match o with
 | some (x,t)=>r= .tup [.str x, .bool true]∧s=σ.ae β [.str l, .int .i64 (posOf l t:Nat)]
 | none=>∃ j,r= .tup [.str [], .bool false]∧s=σ.ae β [.str l, .int .i64 (j:Nat)]
set_option maxHeartbeats 4000000 in
theorem sj {σ:St} {β k:Nat} {l:List UInt8} (hb:σ.box β=some [.str l, .int .i64 k]) (hk:k≤l.length) (hl:l.length≤1000000):AC Tryz.prog 247 [.ptr β 0] σ (vG σ β l (dW (l.drop k))):=by
  have hc1:True:=trivial
  have q1:True:=trivial
  have q2:True:=trivial
  haveI hbi:BoxIs σ β [.str l, .int .i64 k]:=⟨hb⟩
  (refine bw Hg K7 ?_;simp only [Hg,↓R1,RR,seval,cv,aD,bW,hc1,q1,q2])
  refine kV (fun γ hγ hγt=>?_)
  obtain ⟨_,_⟩:=ah hbi hγ
  simp only [↓R1,RR,seval,cv,aD,bW,hc1,q1,q2]
  refine cS (α:=Nat × Nat × List UInt8) (fun _=> [(0, .ptr β 0),(4, .ptr γ 0)]) (fun z=>bS ((σ.cO γ 222).ae β [.str l, .int .i64 (z.1:Nat)]) γ z.2.1 z.2.2)
    (fun z=>z.1≤l.length∧(z.2.2≠ []→σ.tip z.2.1=none)∧z.2.2.length≤z.1∧dW (l.drop k)=(dW (l.drop z.1)).map fun q=>(z.2.2++q.1,q.2)) (fun z=>l.length - z.1) (k,0,[]) (by simp [az,slot,af])
    (by rw [lJ (show (σ.cO γ 222).box β=_ from hb)];exact St.le_refl _) ⟨hk,(fun h=>absurd rfl h),Nat.zero_le _,(by cases dW (l.drop k)<;>simp)⟩ ?_
  rintro ⟨j,τ,out⟩ ⟨hj,hτ,hlen,hI⟩
  simp only at hj hτ hlen hI
  have hbS:∀ (j:Nat) τ out,(bS ((σ.cO γ 222).ae β [.str l, .int .i64 j]) γ τ out).box β=some [.str l, .int .i64 j]:=fun j τ out=>by
    rw [sg];simp only [↓R1,RR,seval,cv,aD,bW,hc1,q1,q2]
  have hset:∀ (i j:Nat) τ out,(bS ((σ.cO γ 222).ae β [.str l, .int .i64 i]) γ τ out).ae β [.str l, .int .i64 j]=bS ((σ.cO γ 222).ae β [.str l, .int .i64 j]) γ τ out:=fun i j τ out=>by
    rw [HZ];simp only [↓R1,RR,seval,cv,aD,bW,hc1,q1,q2]
  have hbt:∀ j:Nat,((σ.cO γ 222).ae β [.str l, .int .i64 j]).bt γ=some 222:=fun j=>St.mi _ _ _
  have hle:∀ (j:Nat) τ out,(out≠ []→σ.tip τ=none)→St.le (σ.ae β [.str l, .int .i64 j]) (bS ((σ.cO γ 222).ae β [.str l, .int .i64 j]) γ τ out):=fun j τ out h=>by
    refine Fx (St.iQ (St.le_refl _) hγt) ?_ h
    rw [St.bf];exact ⟨⟨by assumption,by assumption⟩,hγ⟩
  have a1:=ed (hbS j τ out)
  simp only [↓R1,RR,seval,cv,aD,bW,hc1,q1,q2]
  rcases eU l j hj with ⟨hd,he⟩|⟨c,r,hd,hlt⟩
  · have hc1:decide ((j:Int)<(l.length:Int))=false:=by simp;omega
    repeat' (((refine AC.mono (AC.wk (a1) (aa _)) ?_;(rintro _ _ ⟨rfl,rfl⟩)))<;>(try simp only [↓R1,RR,seval,cv,aD,bW,hc1,q1,q2]))
    rw [hd,yd,Option.map_none] at hI
    refine aZ (by simp) (by simp [aj,rvS]) (af _) (hle j τ out hτ) ?_
    rw [hI]
    exact ⟨j,rfl,rfl⟩
  · have hc1:decide ((j:Int)<(l.length:Int))=true:=by simpa using hlt
    have a2:=p7 (hbS j τ out) hd hl
    rw [hset] at a2
    have a3:=np (β:=γ) (τ:=τ) (l:=out) (σ:=(σ.cO γ 222).ae β [.str l, .int .i64 (j+1:Nat)]) hτ (hbt _)
    have a4:=yu (hbS (j+1) τ out) hlt hl
    rw [(cD hd).2.2] at a4
    have a5:=H0 c
    have hp1:posOf l r=j+1:=kp hd
    rw [hd,mS] at hI
    have hsf:∀ {m:List UInt8},m <:+ r→l.drop (posOf l m)=m∧posOf l m≤l.length:=fun hm=>iV (hm.trans (by rw [←(cD hd).2.2];exact kq _ _))
    have hgrow:∀ (i:Nat) (x:UInt8),AC Tryz.prog 228 (.ptr γ 0:: [.int .u8 x.toNat]) (bS ((σ.cO γ 222).ae β [.str l, .int .i64 i]) γ τ out) (fun v s=>v= .nili∧∃ τ',σ.tip τ'=none∧s=bS ((σ.cO γ 222).ae β [.str l, .int .i64 i]) γ τ' (out++ [x])):=fun i x =>
      (gj γ x ((σ.cO γ 222).ae β [.str l, .int .i64 i]) τ out hτ (hbt i) (by simp;omega)).mono (by rintro v s ⟨rfl,τ',h1,_,h2⟩;exact ⟨rfl,τ',h1,h2⟩)
    by_cases h34:c=34
    · have q1:decide (c=34)=true:=by simpa using h34
      rw [if_pos h34] at hI
      repeat' ((first|((refine AC.mono (AC.wk (a1) (aa _)) ?_;(rintro _ _ ⟨rfl,rfl⟩)))|((refine AC.mono (AC.wk (a2) (aa _)) ?_;(rintro _ _ ⟨rfl,rfl⟩)))|((refine AC.mono (AC.wk (a3) (aa _)) ?_;(rintro _ _ ⟨rfl,rfl⟩))))<;>(try simp only [↓R1,RR,seval,cv,aD,bW,hc1,q1,q2]))
      refine aZ (r:= .tup [.str out, .bool true]) (by simp) (by simp [aj,rvS]) (ad (by (simp only [ao,↓R1,RR,seval,cv,aD,bW,hc1,q1,q2]))) (σ':=σ.ae β [.str l, .int .i64 (j+1:Nat)]) ?_ ?_
      · refine St.aA (St.iQ (St.le_refl _) hγt) ?_
        rw [St.bf];exact ⟨⟨by assumption,by assumption⟩,hγ⟩
      · rw [hI]
        simp only [vG,Option.map_some,List.append_nil,hp1,and_self]
    · have q1:decide (c=34)=false:=by simpa using h34
      rw [if_neg h34] at hI
      by_cases h92:c=92
      · have q2:decide (c=92)=true:=by simpa using h92
        rw [if_pos h92] at hI
        cases he:jQ r with
        | none =>
          rw [he] at a4 hI
          repeat' ((first|((refine AC.mono (AC.wk (a1) (aa _)) ?_;(rintro _ _ ⟨rfl,rfl⟩)))|((refine AC.mono (AC.wk (a2) (aa _)) ?_;(rintro _ _ ⟨rfl,rfl⟩))))<;>(try simp only [↓R1,RR,seval,cv,aD,bW,hc1,q1,q2]))
          refine (AC.wk a4 (aa _)).mono ?_
          rintro _ _ ⟨v,i,rfl,rfl⟩
          rw [hset]
          simp only [↓R1,RR,seval,cv,aD,bW,hc1,q1,q2]
          refine aZ (r:= .tup [.str [], .bool false]) (by simp) (by simp [aj,rvS]) (ad (by (simp only [ao,↓R1,RR,seval,cv,aD,bW,hc1,q1,q2]))) (hle i τ out hτ) ?_
          rw [hI]
          exact ⟨i,rfl,rfl⟩
        | some q =>
          rw [he] at a4 hI
          obtain ⟨hd1,hd2⟩:=hsf (rG (x:=q.1) he)
          have hql:=iT (x:=q.1) he
          have hrl:r.length=l.length - (j+1):=by rw [←(cD hd).2.2];simp
          have hpq:posOf l q.2=l.length - q.2.length:=rfl
          repeat' ((first|((refine AC.mono (AC.wk (a1) (aa _)) ?_;(rintro _ _ ⟨rfl,rfl⟩)))|((refine AC.mono (AC.wk (a2) (aa _)) ?_;(rintro _ _ ⟨rfl,rfl⟩))))<;>(try simp only [↓R1,RR,seval,cv,aD,bW,hc1,q1,q2]))
          refine (AC.wk a4 (aa _)).mono ?_
          rintro _ _ ⟨rfl,rfl⟩
          rw [hset]
          simp only [nr,↓R1,RR,seval,cv,aD,bW,hc1,q1,q2]
          refine (AC.wk (hgrow _ q.1) (aa _)).mono ?_
          rintro _ _ ⟨rfl,τ',hτ',rfl⟩
          simp only [↓R1,RR,seval,cv,aD,bW,hc1,q1,q2]
          refine ⟨(posOf l q.2,τ',out++ [q.1]),⟨hd2,fun _=>hτ',?_,?_⟩,by simp [az,slot,af],St.le_refl _,?_⟩
          · simp only [List.length_append,List.length_cons,List.length_nil];omega
          · rw [hI]
            simp only [hd1,Option.map_map]
            congr 1
            funext z
            simp
          · simp only;omega
      · have q2:decide (c=92)=false:=by simpa using h92
        rw [if_neg h92] at hI
        cases hpl:dy c with
        | true =>
          rw [hpl] at a5
          rw [hpl,if_pos rfl] at hI
          repeat' ((first|((refine AC.mono (AC.wk (a1) (aa _)) ?_;(rintro _ _ ⟨rfl,rfl⟩)))|((refine AC.mono (AC.wk (a2) (aa _)) ?_;(rintro _ _ ⟨rfl,rfl⟩)))|(refine Pt (a5) ?_))<;>(try simp only [↓R1,RR,seval,cv,aD,bW,hc1,q1,q2]))
          refine (AC.wk (hgrow _ c) (aa _)).mono ?_
          rintro _ _ ⟨rfl,τ',hτ',rfl⟩
          simp only [↓R1,RR,seval,cv,aD,bW,hc1,q1,q2]
          refine ⟨(j+1,τ',out++ [c]),⟨hlt,fun _=>hτ',?_,?_⟩,by simp [az,slot,af],St.le_refl _,?_⟩
          · simp only [List.length_append,List.length_cons,List.length_nil];omega
          · rw [hI]
            simp only [(cD hd).2.2,Option.map_map]
            congr 1
            funext z
            simp
          · simp only;omega
        | false =>
          rw [hpl] at a5
          rw [hpl,if_neg (by simp)] at hI
          repeat' ((first|((refine AC.mono (AC.wk (a1) (aa _)) ?_;(rintro _ _ ⟨rfl,rfl⟩)))|((refine AC.mono (AC.wk (a2) (aa _)) ?_;(rintro _ _ ⟨rfl,rfl⟩)))|(refine Pt (a5) ?_))<;>(try simp only [↓R1,RR,seval,cv,aD,bW,hc1,q1,q2]))
          refine aZ (r:= .tup [.str [], .bool false]) (by simp) (by simp [aj,rvS]) (ad (by (simp only [ao,↓R1,RR,seval,cv,aD,bW,hc1,q1,q2]))) (hle (j+1) τ out hτ) ?_
          rw [hI]
          exact ⟨j+1,rfl,rfl⟩
end Go.Proofs.YtgephffbfiemeaaGreatDoor
namespace Go.Abs
theorem dG {P:Program} {σ:St} {K:AV→St→Prop} {f:Nat} {xs ys:List AV} {v:AV} {b:Bool} {p:Prop} {h:Hold (σ,K)} (hp:b=true→p∧(∀ σ2,St.le σ σ2→AC P f ys σ2 (fun x s=>x=v∧s=σ2))∧wkL xs ys) (hK:K (.opt b v) σ):mJ P b f p xs σ K h :=
 ⟨v,fun hb=>⟨(hp hb).1,fun σ2 hl=>((hp hb).2.1 σ2 hl).wk (hp hb).2.2⟩,hK⟩
theorem gK {P:Program} {σ:St} {K:AV→St→Prop} {f:Nat} {xs:List AV} {p:Prop} {h:Hold (σ,K)} (hK:K (.opt false .junk) σ):mJ P false f p xs σ K h :=
 ⟨.junk,(fun hb=>by cases hb),hK⟩
end Go.Abs
namespace Go.Proofs.YtgephffbfiemeaaGreatDoor
open Go.Abs
set_option linter.all false
set_option maxRecDepth 100000
def wdV (k:Nat) (p:Bool × List UInt8):AV:= .agg [.bool p.1, .str p.2, .int .i64 (k:Nat)]
theorem p9 {l:List UInt8} {k j:Nat} (hkj:k≤j) (hj:j≤l.length) {p:UInt8→Bool} (h:(l.drop k).dropWhile p=l.drop j):(l.drop k).takeWhile p=(l.drop k).take (j - k):=by
 have h1:=List.takeWhile_append_dropWhile (p:=p) (l:=l.drop k)
 have h2:=List.take_append_drop (j - k) (l.drop k)
 rw [List.drop_drop,show k+(j - k)=j by omega] at h2
 rw [h] at h1
 exact List.append_cancel_right (h1.trans h2.symm)
def sk (σ:St) (β:Nat) (l:List UInt8) (k:Nat) (o:Option (Bool × List UInt8 × List UInt8)) (r:AV) (s:St):Prop :=
 match o with
 | some (q,t,m)=>r= .tup [wdV k (q,t), .bool true]∧s=σ.ae β [.str l, .int .i64 (posOf l m:Nat)]
 | none=>∃ p j,r= .tup [wdV k p, .bool false]∧s=σ.ae β [.str l, .int .i64 (j:Nat)]
theorem ik {σ:St} {u γ:Nat} {c d:List AV} (hn:σ.box γ=none) (h:Apart γ u):St.le (σ.ae u c) ((σ.ae γ d).ae u c):=by
 refine ⟨fun δ x hx=>?_,fun _ _ h=>h,fun _ _ h=>h,fun _ _ h=>h,fun _ _ h=>h⟩
 simp only [St.ae,upd] at hx ⊢
 split
 ·rename_i e;rw [if_pos e] at hx;exact hx
 ·rename_i e
  rw [if_neg e] at hx
  rw [if_neg]
  ·exact hx
  ·rintro rfl;rw [hn] at hx;cases hx
set_option maxHeartbeats 4000000 in
theorem H7 {σ:St} {u k:Nat} {l:List UInt8} {c:UInt8} {r:List UInt8} (hb:σ.box u=some [.str l, .int .i64 k]) (hr:l.drop k=c::r) (hl:l.length≤1000000):AC Tryz.prog 201 [.ptr u 0] σ (sk σ u l k (cI (c::r))):=by
  have hc1:True:=trivial
  have q1:True:=trivial
  have q2:True:=trivial
  have hw:True:=trivial
  haveI hbi:BoxIs σ u [.str l, .int .i64 k]:=⟨hb⟩
  have hlt:k<l.length:=(cD hr).2.1
  have hp1:posOf l r=k+1:=kp hr
  have hw:IntKind.i64.wrap ((k:Int)+1)=((k+1:Nat):Int):=by rw [wrap64 (by omega) (by omega)];omega
  by_cases h34:c=34
  · have q1:decide (c=34)=true:=by simpa using h34
    have e1:cI (c::r)=match dW r with
      | some (t,r')=>if fJ r' then some (true,t,r') else none
      | none=>none:=by simp only [cI,if_pos h34];rfl
    have hrr:l.drop (k+1)=r:=(cD hr).2.2
    cases hq:dW r with
    | none =>
      rw [hq] at e1
      have a4:∀ s:St,s.box u=some [.str l, .int .i64 (k+1:Nat)]→AC Tryz.prog 247 [.ptr u 0] s (vG s u l none):=fun s hs=>by
        have:=sj hs hlt hl
        rwa [hrr,hq] at this
      (refine bw uc G2 ?_;simp only [uc,↓R1,RR,seval,aD,hc1,q1,q2,hw])
      repeat' (first|(with_reducible rw [ai])|((first|(with_reducible intro β hβ;(try simp only [RB] at hβ);(repeat (obtain ⟨⟨_,_⟩,hβ⟩:=hβ));(try (have hbis:=ah (by assumption) hβ;obtain ⟨_,_⟩:=hbis)))|((refine AC.mono (AC.wk (eT (k:=k) (l:=l) (by simp only [↓R1,RR,seval,aD,hc1,q1,q2,hw]) hr) (aa _)) ?_;(rintro _ _ ⟨rfl,rfl⟩))))<;>(try simp only [↓R1,RR,seval,aD,hc1,q1,q2,hw])))
      refine (AC.wk (a4 _ (by simp only [↓R1,RR,seval,aD,hc1,q1,q2,hw])) (aa _)).mono ?_
      rintro _ _ ⟨j,rfl,rfl⟩
      simp only [↓R1,RR,seval,aD,hc1,q1,q2,hw]
      repeat' (((refine gK ?_))<;>(try simp only [↓R1,RR,seval,aD,hc1,q1,q2,hw]))
      refine aZ (r:= .tup [wdV k (true,[]), .bool false]) (by simp) (by first|(simp [aj,rvS];done)|(simp only [aj,rvS,↓R1,RR,seval,aD,hc1,q1,q2,hw];try simp)) (ad (by (simp only [ao,↓R1,RR,seval,aD,hc1,q1,q2,hw]);rfl)) (ik hβ (by assumption)) ?_
      rw [e1]
      exact ⟨_,j,rfl,rfl⟩
    | some q =>
      obtain ⟨t,m⟩:=q
      rw [hq] at e1
      simp only at e1
      have a4:∀ s:St,s.box u=some [.str l, .int .i64 (k+1:Nat)]→AC Tryz.prog 247 [.ptr u 0] s (vG s u l (some (t,m))):=fun s hs=>by
        have:=sj hs hlt hl
        rwa [hrr,hq] at this
      obtain ⟨hdm,hml⟩:=iV ((jk hq).trans (by rw [←hrr];exact kq l (k+1)))
      obtain ⟨i,hi⟩:∃ i,posOf l m=i:=⟨_,rfl⟩
      rw [hi] at hdm hml
      have key:∀ v,(v= .tup [wdV k (true,t), .bool true]∧fJ m=true)∨(v= .tup [wdV k (true,t), .bool false]∧fJ m=false)→sk σ u l k (cI (c::r)) v (σ.ae u [.str l, .int .i64 (i:Nat)]):=by
        rintro v (⟨rfl,hm⟩|⟨rfl,hm⟩)
        · rw [e1,if_pos hm];simp only [sk,hi,and_self]
        · rw [e1,if_neg (by simp [hm])];exact ⟨_,i,rfl,rfl⟩
      (refine bw uc G2 ?_;simp only [uc,↓R1,RR,seval,aD,hc1,q1,q2,hw])
      repeat' (first|(with_reducible rw [ai])|((first|(with_reducible intro β hβ;(try simp only [RB] at hβ);(repeat (obtain ⟨⟨_,_⟩,hβ⟩:=hβ));(try (have hbis:=ah (by assumption) hβ;obtain ⟨_,_⟩:=hbis)))|((refine AC.mono (AC.wk (eT (k:=k) (l:=l) (by simp only [↓R1,RR,seval,aD,hc1,q1,q2,hw]) hr) (aa _)) ?_;(rintro _ _ ⟨rfl,rfl⟩))))<;>(try simp only [↓R1,RR,seval,aD,hc1,q1,q2,hw])))
      refine (AC.wk (a4 _ (by simp only [↓R1,RR,seval,aD,hc1,q1,q2,hw])) (aa _)).mono ?_
      rintro _ _ ⟨rfl,rfl⟩
      rw [hi]
      simp only [↓R1,RR,seval,aD,hc1,q1,q2,hw]
      rcases eU l i hml with ⟨hd,he⟩|⟨c2,r2,hd2,hlt2⟩
      · have hc1:decide ((i:Int)<(l.length:Int))=false:=by simp;omega
        repeat' ((first|((refine dG (fun hgv=>⟨?_,((fun σ2 hle=>ed (k:=i) (l:=l) (hle.1 _ _ (by simp only [↓R1,RR,seval,aD,hc1,q1,q2,hw])))),aa _⟩) ?_;(first|trivial|(focus (simp only [↓R1,RR,seval,aD,hc1,q1,q2,hw];done)))))|((refine gK ?_)))<;>(try simp only [↓R1,RR,seval,aD,hc1,q1,q2,hw]))
        refine aZ (r:= .tup [wdV k (true,t), .bool true]) (by simp) (by first|(simp [aj,rvS];done)|(simp only [aj,rvS,↓R1,RR,seval,aD,hc1,q1,q2,hw];try simp)) (ad (by (simp only [ao,↓R1,RR,seval,aD,hc1,q1,q2,hw]);rfl)) (ik hβ (by assumption)) (key _ (.inl ⟨rfl,?_⟩))
        rw [←hdm,hd];rfl
      · have hc1:decide ((i:Int)<(l.length:Int))=true:=by simpa using hlt2
        have b3:=H2 c2
        cases hbl:aL c2 with
        | true =>
          rw [hbl] at b3
          repeat' ((first|((refine dG (fun hgv=>⟨?_,((fun σ2 hle=>ed (k:=i) (l:=l) (hle.1 _ _ (by simp only [↓R1,RR,seval,aD,hc1,q1,q2,hw])))),aa _⟩) ?_;(first|trivial|(focus (simp only [↓R1,RR,seval,aD,hc1,q1,q2,hw];done)))))|((refine dG (fun hgv=>⟨?_,((fun σ2 hle=>eT (k:=i) (l:=l) (hle.1 _ _ (by simp only [↓R1,RR,seval,aD,hc1,q1,q2,hw])) hd2)),aa _⟩) ?_;(first|trivial|(focus (simp only [↓R1,RR,seval,aD,hc1,q1,q2,hw];done)))))|((refine fC (fun hgv=>⟨?_,(b3),aa _⟩) ?_;(first|trivial|(focus (simp only [↓R1,RR,seval,aD,hc1,q1,q2,hw];done))))))<;>(try simp only [↓R1,RR,seval,aD,hc1,q1,q2,hw]))
          refine aZ (r:= .tup [wdV k (true,t), .bool true]) (by simp) (by first|(simp [aj,rvS];done)|(simp only [aj,rvS,↓R1,RR,seval,aD,hc1,q1,q2,hw];try simp)) (ad (by (simp only [ao,↓R1,RR,seval,aD,hc1,q1,q2,hw]);rfl)) (ik hβ (by assumption)) (key _ (.inl ⟨rfl,?_⟩))
          rw [←hdm,hd2];exact hbl
        | false =>
          rw [hbl] at b3
          repeat' ((first|((refine dG (fun hgv=>⟨?_,((fun σ2 hle=>ed (k:=i) (l:=l) (hle.1 _ _ (by simp only [↓R1,RR,seval,aD,hc1,q1,q2,hw])))),aa _⟩) ?_;(first|trivial|(focus (simp only [↓R1,RR,seval,aD,hc1,q1,q2,hw];done)))))|((refine dG (fun hgv=>⟨?_,((fun σ2 hle=>eT (k:=i) (l:=l) (hle.1 _ _ (by simp only [↓R1,RR,seval,aD,hc1,q1,q2,hw])) hd2)),aa _⟩) ?_;(first|trivial|(focus (simp only [↓R1,RR,seval,aD,hc1,q1,q2,hw];done)))))|((refine fC (fun hgv=>⟨?_,(b3),aa _⟩) ?_;(first|trivial|(focus (simp only [↓R1,RR,seval,aD,hc1,q1,q2,hw];done))))))<;>(try simp only [↓R1,RR,seval,aD,hc1,q1,q2,hw]))
          refine aZ (r:= .tup [wdV k (true,t), .bool false]) (by simp) (by first|(simp [aj,rvS];done)|(simp only [aj,rvS,↓R1,RR,seval,aD,hc1,q1,q2,hw];try simp)) (ad (by (simp only [ao,↓R1,RR,seval,aD,hc1,q1,q2,hw]);rfl)) (ik hβ (by assumption)) (key _ (.inr ⟨rfl,?_⟩))
          rw [←hdm,hd2];exact hbl
  · have q1:decide (c=34)=false:=by simpa using h34
    have e1:cI (c::r)=if ((c::r).takeWhile aT).isEmpty then none else if fJ ((c::r).dropWhile aT) then some (false,(c::r).takeWhile aT,(c::r).dropWhile aT) else none:=by simp only [cI,if_neg h34]
    (refine bw uc G2 ?_;simp only [uc,↓R1,RR,seval,aD,hc1,q1,q2,hw])
    repeat' (first|(with_reducible rw [ai])|((first|(with_reducible intro β hβ;(try simp only [RB] at hβ);(repeat (obtain ⟨⟨_,_⟩,hβ⟩:=hβ));(try (have hbis:=ah (by assumption) hβ;obtain ⟨_,_⟩:=hbis)))|((refine AC.mono (AC.wk (eT (k:=k) (l:=l) (by simp only [↓R1,RR,seval,aD,hc1,q1,q2,hw]) hr) (aa _)) ?_;(rintro _ _ ⟨rfl,rfl⟩))))<;>(try simp only [↓R1,RR,seval,aD,hc1,q1,q2,hw])))
    refine cS (α:=Nat) (fun _=> [(0, .ptr u 0),(2, .ptr β 0)]) (fun j=>(σ.ae β [.bool false, .str [], .int .i64 (k:Nat)]).ae u [.str l, .int .i64 (j:Nat)]) (fun j=>k≤j∧j≤l.length∧(l.drop j).dropWhile aT=(l.drop k).dropWhile aT) (fun j=>l.length - j) k (by simp [az,slot,af])
      (by simp only [↓R1,RR,seval,aD,hc1,q1,q2,hw];rw [lJ (by simp only [↓R1,RR,seval,aD,hc1,q1,q2,hw])];exact St.le_refl _) ⟨Nat.le_refl _,by omega,rfl⟩ ?_
    rintro i ⟨hki,hil,hI⟩
    simp only [↓R1,RR,seval,aD,hc1,q1,q2,hw]
    have hpi:posOf l (l.drop i)=i:=nq l i hil
    have stop:(l.drop i).dropWhile aT=l.drop i→cI (c::r)=if ((l.drop k).take (i - k)) == [] then none else if fJ (l.drop i) then some (false,(l.drop k).take (i - k),l.drop i) else none:=fun hs=>by
      rw [hs] at hI
      have hT:=p9 hki hil hI.symm
      rw [e1,←hr,hT,←hI]
      cases (l.drop k).take (i - k)<;>rfl
    rcases eU l i hil with ⟨hd,he⟩|⟨c2,r2,hd2,hlt2⟩
    · have hc1:decide ((i:Int)<(l.length:Int))=false:=by simp;omega
      have hs:=stop (by rw [hd];rfl)
      cases hq:((l.drop k).take (i - k) == []) with
      | true =>
        have q2:=hq
        rw [q2,if_pos rfl] at hs
        repeat' (first|(with_reducible refine And.intro ?_ ?_;exact ag)|((first|((refine AC.mono (AC.wk (ed (k:=i) (l:=l) (by simp only [↓R1,RR,seval,aD,hc1,q1,q2,hw])) (aa _)) ?_;(rintro _ _ ⟨rfl,rfl⟩)))|((refine gK ?_)))<;>(try simp only [↓R1,RR,seval,aD,hc1,q1,q2,hw])))
        refine aZ (r:= .tup [wdV k (false,(l.drop k).take (i - k)), .bool false]) (by simp) (by first|(simp [aj,rvS];done)|(simp only [aj,rvS,↓R1,RR,seval,aD,hc1,q1,q2,hw];try simp)) (ad (by (simp only [ao,↓R1,RR,seval,aD,hc1,q1,q2,hw]);rfl)) (ik hβ (by assumption)) ?_
        rw [hs]
        exact ⟨_,i,rfl,rfl⟩
      | false =>
        have q2:=hq
        rw [q2,if_neg (by simp),hd] at hs
        simp only [fJ,if_true] at hs
        repeat' (first|(with_reducible refine And.intro ?_ ?_;exact ag)|((first|((refine AC.mono (AC.wk (ed (k:=i) (l:=l) (by simp only [↓R1,RR,seval,aD,hc1,q1,q2,hw])) (aa _)) ?_;(rintro _ _ ⟨rfl,rfl⟩)))|((refine dG (fun hgv=>⟨?_,((fun σ2 hle=>ed (k:=i) (l:=l) (hle.1 _ _ (by simp only [↓R1,RR,seval,aD,hc1,q1,q2,hw])))),aa _⟩) ?_;(first|trivial|(focus (simp only [↓R1,RR,seval,aD,hc1,q1,q2,hw];done)))))|((refine gK ?_)))<;>(try simp only [↓R1,RR,seval,aD,hc1,q1,q2,hw])))
        refine aZ (r:= .tup [wdV k (false,(l.drop k).take (i - k)), .bool true]) (by simp) (by first|(simp [aj,rvS];done)|(simp only [aj,rvS,↓R1,RR,seval,aD,hc1,q1,q2,hw];try simp)) (ad (by (simp only [ao,↓R1,RR,seval,aD,hc1,q1,q2,hw]);rfl)) (ik hβ (by assumption)) ?_
        rw [hs]
        simp only [sk,true_and]
        rw [←hd,hpi]
    · have hc1:decide ((i:Int)<(l.length:Int))=true:=by simpa using hlt2
      have b3:=JY c2
      have b4:=H2 c2
      have hw:IntKind.i64.wrap ((i:Int)+1)=((i+1:Nat):Int):=by rw [wrap64 (by omega) (by omega)];omega
      cases hbl:aT c2 with
      | true =>
        rw [hbl] at b3
        repeat' ((first|((refine AC.mono (AC.wk (ed (k:=i) (l:=l) (by simp only [↓R1,RR,seval,aD,hc1,q1,q2,hw])) (aa _)) ?_;(rintro _ _ ⟨rfl,rfl⟩)))|((refine AC.mono (AC.wk (eT (k:=i) (l:=l) (by simp only [↓R1,RR,seval,aD,hc1,q1,q2,hw]) hd2) (aa _)) ?_;(rintro _ _ ⟨rfl,rfl⟩)))|(refine Pt (b3) ?_))<;>(try simp only [↓R1,RR,seval,aD,hc1,q1,q2,hw]))
        refine ⟨i+1,⟨by omega,by omega,?_⟩,by simp [az,slot,af],St.le_refl _,by omega⟩
        rw [←hI,hd2,(cD hd2).2.2,List.dropWhile_cons,hbl];rfl
      | false =>
        rw [hbl] at b3
        have hs:=stop (by rw [hd2,List.dropWhile_cons,hbl];rfl)
        cases hq:((l.drop k).take (i - k) == []) with
        | true =>
          have q2:=hq
          rw [q2,if_pos rfl] at hs
          repeat' (first|(with_reducible refine And.intro ?_ ?_;exact ag)|((first|((refine AC.mono (AC.wk (ed (k:=i) (l:=l) (by simp only [↓R1,RR,seval,aD,hc1,q1,q2,hw])) (aa _)) ?_;(rintro _ _ ⟨rfl,rfl⟩)))|((refine AC.mono (AC.wk (eT (k:=i) (l:=l) (by simp only [↓R1,RR,seval,aD,hc1,q1,q2,hw]) hd2) (aa _)) ?_;(rintro _ _ ⟨rfl,rfl⟩)))|(refine Pt (b3) ?_)|((refine gK ?_)))<;>(try simp only [↓R1,RR,seval,aD,hc1,q1,q2,hw])))
          refine aZ (r:= .tup [wdV k (false,(l.drop k).take (i - k)), .bool false]) (by simp) (by first|(simp [aj,rvS];done)|(simp only [aj,rvS,↓R1,RR,seval,aD,hc1,q1,q2,hw];try simp)) (ad (by (simp only [ao,↓R1,RR,seval,aD,hc1,q1,q2,hw]);rfl)) (ik hβ (by assumption)) ?_
          rw [hs]
          exact ⟨_,i,rfl,rfl⟩
        | false =>
          have q2:=hq
          rw [q2,if_neg (by simp)] at hs
          cases hbk:aL c2 with
          | true =>
            rw [hbk] at b4
            rw [if_pos (by rw [hd2];exact hbk)] at hs
            repeat' (first|(with_reducible refine And.intro ?_ ?_;exact ag)|((first|((refine AC.mono (AC.wk (ed (k:=i) (l:=l) (by simp only [↓R1,RR,seval,aD,hc1,q1,q2,hw])) (aa _)) ?_;(rintro _ _ ⟨rfl,rfl⟩)))|((refine AC.mono (AC.wk (eT (k:=i) (l:=l) (by simp only [↓R1,RR,seval,aD,hc1,q1,q2,hw]) hd2) (aa _)) ?_;(rintro _ _ ⟨rfl,rfl⟩)))|(refine Pt (b3) ?_)|((refine dG (fun hgv=>⟨?_,((fun σ2 hle=>ed (k:=i) (l:=l) (hle.1 _ _ (by simp only [↓R1,RR,seval,aD,hc1,q1,q2,hw])))),aa _⟩) ?_;(first|trivial|(focus (simp only [↓R1,RR,seval,aD,hc1,q1,q2,hw];done)))))|((refine dG (fun hgv=>⟨?_,((fun σ2 hle=>eT (k:=i) (l:=l) (hle.1 _ _ (by simp only [↓R1,RR,seval,aD,hc1,q1,q2,hw])) hd2)),aa _⟩) ?_;(first|trivial|(focus (simp only [↓R1,RR,seval,aD,hc1,q1,q2,hw];done)))))|((refine fC (fun hgv=>⟨?_,(b4),aa _⟩) ?_;(first|trivial|(focus (simp only [↓R1,RR,seval,aD,hc1,q1,q2,hw];done))))))<;>(try simp only [↓R1,RR,seval,aD,hc1,q1,q2,hw])))
            refine aZ (r:= .tup [wdV k (false,(l.drop k).take (i - k)), .bool true]) (by simp) (by first|(simp [aj,rvS];done)|(simp only [aj,rvS,↓R1,RR,seval,aD,hc1,q1,q2,hw];try simp)) (ad (by (simp only [ao,↓R1,RR,seval,aD,hc1,q1,q2,hw]);rfl)) (ik hβ (by assumption)) ?_
            rw [hs]
            simp only [sk,true_and]
            rw [hpi]
          | false =>
            rw [hbk] at b4
            rw [if_neg (by rw [hd2];simp [fJ,hbk])] at hs
            repeat' (first|(with_reducible refine And.intro ?_ ?_;exact ag)|((first|((refine AC.mono (AC.wk (ed (k:=i) (l:=l) (by simp only [↓R1,RR,seval,aD,hc1,q1,q2,hw])) (aa _)) ?_;(rintro _ _ ⟨rfl,rfl⟩)))|((refine AC.mono (AC.wk (eT (k:=i) (l:=l) (by simp only [↓R1,RR,seval,aD,hc1,q1,q2,hw]) hd2) (aa _)) ?_;(rintro _ _ ⟨rfl,rfl⟩)))|(refine Pt (b3) ?_)|((refine dG (fun hgv=>⟨?_,((fun σ2 hle=>ed (k:=i) (l:=l) (hle.1 _ _ (by simp only [↓R1,RR,seval,aD,hc1,q1,q2,hw])))),aa _⟩) ?_;(first|trivial|(focus (simp only [↓R1,RR,seval,aD,hc1,q1,q2,hw];done)))))|((refine dG (fun hgv=>⟨?_,((fun σ2 hle=>eT (k:=i) (l:=l) (hle.1 _ _ (by simp only [↓R1,RR,seval,aD,hc1,q1,q2,hw])) hd2)),aa _⟩) ?_;(first|trivial|(focus (simp only [↓R1,RR,seval,aD,hc1,q1,q2,hw];done)))))|((refine fC (fun hgv=>⟨?_,(b4),aa _⟩) ?_;(first|trivial|(focus (simp only [↓R1,RR,seval,aD,hc1,q1,q2,hw];done))))))<;>(try simp only [↓R1,RR,seval,aD,hc1,q1,q2,hw])))
            refine aZ (r:= .tup [wdV k (false,(l.drop k).take (i - k)), .bool false]) (by simp) (by first|(simp [aj,rvS];done)|(simp only [aj,rvS,↓R1,RR,seval,aD,hc1,q1,q2,hw];try simp)) (ad (by (simp only [ao,↓R1,RR,seval,aD,hc1,q1,q2,hw]);rfl)) (ik hβ (by assumption)) ?_
            rw [hs]
            exact ⟨_,i,rfl,rfl⟩
end Go.Proofs.YtgephffbfiemeaaGreatDoor
namespace Go.Proofs.YtgephffbfiemeaaGreatDoor
open Go.Abs
set_option linter.all false
set_option maxRecDepth 100000
theorem B0 (t:List UInt8) {k:Nat} (h:k<t.length):(t.take (k+1)).flatMap fm=(t.take k).flatMap fm++fm t[k]:=by
 rw [←List.take_append_getElem h,List.flatMap_append];simp
theorem B1:((List.range 256).all fun n=>decide ((n:Int).fdiv (2^min (4:Int).toNat IntKind.u8.bits)=((n / 16:Nat):Int))&&decide (bits .and .u8 n 15=((n % 16:Nat):Int)))=true:=by kernel_rfl
theorem Md (b:UInt8):(b.toNat:Int).fdiv (2^min (4:Int).toNat IntKind.u8.bits)=((b.toNat / 16:Nat):Int):=by
 have:=List.all_eq_true.1 B1 b.toNat (List.mem_range.2 (lK b))
 simp only [Bool.and_eq_true,decide_eq_true_eq] at this
 exact this.1
theorem J2 (b:UInt8):bits .and .u8 (b.toNat:Int) 15=((b.toNat % 16:Nat):Int):=by
 have:=List.all_eq_true.1 B1 b.toNat (List.mem_range.2 (lK b))
 simp only [Bool.and_eq_true,decide_eq_true_eq] at this
 exact this.2
theorem sn (b:UInt8):IntKind.u8.wrap (((b.toNat / 16:Nat):Int)+1)=((b.toNat / 16+1:Nat):Int)∧IntKind.u8.wrap (((b.toNat % 16:Nat):Int)+1)=((b.toNat % 16+1:Nat):Int):=by
 have hb:=lK b
 constructor<;>(simp [IntKind.wrap,IntKind.signed,IntKind.bits];omega)
theorem B2 {b:UInt8} (h1:dy b=false) (h2:¬ (b=34∨b=92)):fm b= [92,120]++ [nX (b.toNat / 16)]++ [nX (b.toNat % 16)]:=by
 unfold fm
 rw [h1,if_neg (by simp),if_neg h2];rfl
theorem EL {b:UInt8} (h1:dy b=false) (h2:b=34∨b=92):fm b= [92]++ [b]:=by
 unfold fm
 rw [h1,if_neg (by simp),if_pos h2];rfl
theorem uJ {b:UInt8} (h1:dy b=true):fm b= [b]:=by
 unfold fm
 rw [h1,if_pos rfl]
theorem EM (σ:St) (γ τ:Nat) {a b:List UInt8} (ha:a≠ []) (hb:b≠ []):(bS σ γ τ b).glob=(bS σ γ τ a).glob∧(∀ δ,(bS σ γ τ a).box δ=none→(bS σ γ τ b).box δ=none)∧∀ δ,(bS σ γ τ a).tip δ=none→(bS σ γ τ b).tip δ=none:=by
  refine ⟨by rw [vF,vF],fun δ h=>by rw [pZ] at h ⊢;exact h,fun δ h=>?_⟩
  cases a with
  | nil=>exact (ha rfl).elim
  | cons x a =>
    cases b with
    | nil=>exact (hb rfl).elim
    | cons y b =>
      simp only [bS,bT,St.ae,St.al,upd] at h ⊢
      split at h
      · cases h
      · rename_i e;rw [if_neg e];exact h
set_option maxHeartbeats 2000000 in
theorem Me (q:Bool) (t:List UInt8) (a:Int) (ht:t.length≤1000000):Pu Tryz.prog 185 [.agg [.bool q, .str t, .int .i64 a]] (BA (dN q t)):=by
  have q1:True:=trivial
  have q2:True:=trivial
  have q3:True:=trivial
  have q4:True:=trivial
  have q5:True:=trivial
  have q6:True:=trivial
  have q7:True:=trivial
  have q8:True:=trivial
  have hw:True:=trivial
  have hd:True:=trivial
  have hp:=J1 t ht
  cases q with
  | false =>
    cases hb:bareS t with
    | false =>
      rw [hb] at hp
      have e:dN false t=none:=by simp [dN,hb]
      rw [e]
      (refine an ub GU fun σ=>?_;simp only [ub,↓R1,RR,Nat.reduceEqDiff,Nat.reduceAdd,Nat.reduceLT,q1,q2,q3,q4,q5,q6,q7,q8,hw,hd,aD,bW,Nat.add_sub_cancel_left])
      repeat' ((first|(with_reducible intro β hβ;(try simp only [RB] at hβ);(repeat (obtain ⟨⟨_,_⟩,hβ⟩:=hβ));(try (have hbis:=ah (by assumption) hβ;obtain ⟨_,_⟩:=hbis)))|(refine Pt (hp) ?_))<;>(try simp only [↓R1,RR,Nat.reduceEqDiff,Nat.reduceAdd,Nat.reduceLT,q1,q2,q3,q4,q5,q6,q7,q8,hw,hd,aD,bW,Nat.add_sub_cancel_left]))
      (refine ak (ad ?_))
      (simp only [ao,↓R1,RR,Nat.reduceEqDiff,Nat.reduceAdd,Nat.reduceLT,q1,q2,q3,q4,q5,q6,q7,q8,hw,hd,aD,bW,Nat.add_sub_cancel_left])
      rfl
    | true =>
      rw [hb] at hp
      have e:dN false t=some t:=by simp [dN,hb]
      rw [e]
      (refine an ub GU fun σ=>?_;simp only [ub,↓R1,RR,Nat.reduceEqDiff,Nat.reduceAdd,Nat.reduceLT,q1,q2,q3,q4,q5,q6,q7,q8,hw,hd,aD,bW,Nat.add_sub_cancel_left])
      repeat' ((first|(with_reducible intro β hβ;(try simp only [RB] at hβ);(repeat (obtain ⟨⟨_,_⟩,hβ⟩:=hβ));(try (have hbis:=ah (by assumption) hβ;obtain ⟨_,_⟩:=hbis)))|(refine Pt (hp) ?_))<;>(try simp only [↓R1,RR,Nat.reduceEqDiff,Nat.reduceAdd,Nat.reduceLT,q1,q2,q3,q4,q5,q6,q7,q8,hw,hd,aD,bW,Nat.add_sub_cancel_left]))
      (refine ak (ad ?_))
      (simp only [ao,↓R1,RR,Nat.reduceEqDiff,Nat.reduceAdd,Nat.reduceLT,q1,q2,q3,q4,q5,q6,q7,q8,hw,hd,aD,bW,Nat.add_sub_cancel_left])
      rfl
  | true =>
    have e:dN true t=some (34::(t.flatMap fm++ [34])):=by simp [dN]
    rw [e]
    (refine an ub GU fun σ=>?_;simp only [ub,↓R1,RR,Nat.reduceEqDiff,Nat.reduceAdd,Nat.reduceLT,q1,q2,q3,q4,q5,q6,q7,q8,hw,hd,aD,bW,Nat.add_sub_cancel_left])
    intro b1 h1
    refine kV (fun γ hγ hγt=>?_)
    rw [St.bf] at hγ
    obtain ⟨⟨_,_⟩,hγ⟩:=hγ
    have hγt:σ.bt γ=none:=hγt
    simp only [↓R1,RR,Nat.reduceEqDiff,Nat.reduceAdd,Nat.reduceLT,q1,q2,q3,q4,q5,q6,q7,q8,hw,hd,aD,bW,Nat.add_sub_cancel_left]
    obtain ⟨X,hX⟩:∃ X,X=(σ.cO γ 222).ae b1 [.bool true, .str t, .int .i64 a]:=⟨_,rfl⟩
    have hXt:X.tip=σ.tip:=by rw [hX];rfl
    have hXb:X.bt γ=some 222:=by rw [hX];exact St.mi _ _ _
    have hX1:∀ τ out,(bS X γ τ out).box b1=some [.bool true, .str t, .int .i64 a]:=fun τ out=>by rw [sg,hX];simp only [↓R1,RR,Nat.reduceEqDiff,Nat.reduceAdd,Nat.reduceLT,q1,q2,q3,q4,q5,q6,q7,q8,hw,hd,aD,bW,Nat.add_sub_cancel_left]
    have hXl:∀ c,St.le σ (X.ae γ c):=fun c=>by
      rw [hX]
      exact St.aA (St.aA (St.iQ (St.le_refl _) hγt) h1) hγ
    have w0:=gj γ 34 X 0 [] (by simp) hXb (by simp)
    rw [uI,hX] at w0
    refine (AC.wk w0 (aa _)).mono ?_
    rintro _ _ ⟨rfl,τ,hτ,_,rfl⟩
    rw [←hX] at hτ ⊢
    simp only [hX1,List.nil_append,↓R1,RR,Nat.reduceEqDiff,Nat.reduceAdd,Nat.reduceLT,q1,q2,q3,q4,q5,q6,q7,q8,hw,hd,aD,bW,Nat.add_sub_cancel_left]
    have hlen:∀ k,(34::(t.take k).flatMap fm).length≤4000001:=fun k=>by
      have h1:=vA (t.take k)
      have h2:(t.take k).length≤t.length:=by simp;omega
      simp only [List.length_cons];omega
    refine bK t.length (fun k=> [(4, .ptr γ 0),(19, .sl false t.length (t.map fun b=> .int .u8 b.toNat)),(20, .int .i64 (t.length:Nat)),(21, .int .i64 (k:Nat))]) (fun k=>bS X γ τ (34::(t.take k).flatMap fm)) (fun _=>True) (by simp [az,slot,af]) (by simp;exact St.le_refl _) trivial (fun k hk _=>?_)
    have hlk:=hlen k
    by_cases hlt:k<t.length
    · have q1:decide ((k:Int)<(t.length:Int))=true:=by rw [decide_eq_true_eq];omega
      have hd:=jT t hlt
      have hw:IntKind.i64.wrap ((k:Int)+1)=((k+1:Nat):Int):=by rw [wrap64 (by omega) (by omega)];omega
      have hpl:=H0 t[k]
      have w1:∀ (x:UInt8) (out:List UInt8),out≠ []→out.length≤5000000→AC Tryz.prog 228 [.ptr γ 0, .int .u8 x.toNat] (bS X γ τ out) (fun v s=>v= .nili∧s=bS X γ τ (out++ [x])):=fun x out h0 hl=>(gj γ x).used h0 hτ hXb (by simp;omega)
      have hes:=B0 t hlt
      simp only [q1,↓R1,RR,Nat.reduceEqDiff,Nat.reduceAdd,Nat.reduceLT,q1,q2,q3,q4,q5,q6,q7,q8,hw,hd,aD,bW,Nat.add_sub_cancel_left]
      cases hb:dy t[k] with
      | true =>
        rw [hb] at hpl
        rw [uJ hb] at hes
        repeat' (first|(with_reducible refine And.intro ?_ ?_;exact ag)|(with_reducible apply And.intro)|((first|(refine Pt (hpl) ?_)|((refine AC.mono (AC.wk (w1 _ _ (by simp) (by omega)) (aa _)) ?_;(rintro _ _ ⟨rfl,rfl⟩))))<;>(try simp only [↓R1,RR,Nat.reduceEqDiff,Nat.reduceAdd,Nat.reduceLT,q1,q2,q3,q4,q5,q6,q7,q8,hw,hd,aD,bW,Nat.add_sub_cancel_left])))
        all_goals first|(simp only [List.length_map];omega)|skip
        · simp [az,slot,af]
        · rw [hes];exact St.le_refl _
      | false =>
        rw [hb] at hpl
        by_cases h2:t[k]=34∨t[k]=92
        · have q2:(decide (t[k]=34)||decide (t[k]=92))=true:=by simpa using h2
          have w92:AC Tryz.prog 228 [.ptr γ 0, .int .u8 92] (bS X γ τ (34::(t.take k).flatMap fm)) (fun v s=>v= .nili∧s=bS X γ τ ((34::(t.take k).flatMap fm)++ [92])):=w1 92 _ (by simp) (by omega)
          have wc:=w1 t[k] ((34::(t.take k).flatMap fm)++ [92]) (by simp) (by rw [List.length_append];simp only [List.length_cons,List.length_nil] at *;omega)
          rw [EL hb h2] at hes
          repeat' (first|(with_reducible refine And.intro ?_ ?_;exact ag)|(with_reducible apply And.intro)|((first|(refine Pt (hpl) ?_)|((refine AC.mono (AC.wk (w92) (aa _)) ?_;(rintro _ _ ⟨rfl,rfl⟩)))|((refine AC.mono (AC.wk (wc) (aa _)) ?_;(rintro _ _ ⟨rfl,rfl⟩))))<;>(try simp only [↓R1,RR,Nat.reduceEqDiff,Nat.reduceAdd,Nat.reduceLT,q1,q2,q3,q4,q5,q6,q7,q8,hw,hd,aD,bW,Nat.add_sub_cancel_left])))
          all_goals first|(simp only [List.length_map];omega)|skip
          · simp [az,slot,af]
          · rw [hes];simp;exact St.le_refl _
        · have q2:(decide (t[k]=34)||decide (t[k]=92))=false:=by
            rw [←Bool.not_eq_true];simpa using h2
          have q3:=Md t[k]
          have q4:=J2 t[k]
          have q5:=(sn t[k]).1
          have q6:=(sn t[k]).2
          have q7:=si (t[k].toNat / 16) (by have:=lK t[k];omega)
          have q8:=si (t[k].toNat % 16) (by omega)
          have ws:=(jD γ ([92,120]++ [nX (t[k].toNat / 16)]++ [nX (t[k].toNat % 16)]) (by simp)).used (l:=34::(t.take k).flatMap fm) (by simp) hτ hXb (by simp only [List.length_append,List.length_cons,List.length_nil] at *;omega)
          rw [B2 hb h2] at hes
          have hks:=EM X γ τ (a:=34::(t.take k).flatMap fm) (b:=34::(t.take k).flatMap fm++([92,120]++ [nX (t[k].toNat / 16)]++ [nX (t[k].toNat % 16)])) (by simp) (by simp)
          repeat' (first|(with_reducible refine And.intro ?_ ?_;exact ag)|(with_reducible apply And.intro)|((first|(refine Pt (hpl) ?_)|((refine mK ws (aa _) hks ?_)))<;>(try simp only [↓R1,RR,Nat.reduceEqDiff,Nat.reduceAdd,Nat.reduceLT,q1,q2,q3,q4,q5,q6,q7,q8,hw,hd,aD,bW,Nat.add_sub_cancel_left])))
          all_goals first|(simp only [List.length_map];omega)|(have:=lK t[k];omega)|skip
          · simp [az,slot,af]
          · rw [hes];simp;exact St.le_refl _
    · have hke:k=t.length:=by omega
      subst hke
      have q1:decide ((t.length:Int)<(t.length:Int))=false:=by simp
      rw [List.take_length] at hlk ⊢
      have w34:AC Tryz.prog 228 [.ptr γ 0, .int .u8 34] (bS X γ τ (34::t.flatMap fm)) (fun v s=>v= .nili∧s=bS X γ τ ((34::t.flatMap fm)++ [34])):=(gj γ 34).used (by simp) hτ hXb (by simp only [List.length_cons,List.length_nil] at *;omega)
      have ws:=np (β:=γ) (τ:=τ) (l:=(34::t.flatMap fm)++ [34]) (σ:=X) (fun _=>hτ) hXb
      simp only [q1,↓R1,RR,Nat.reduceEqDiff,Nat.reduceAdd,Nat.reduceLT,q1,q2,q3,q4,q5,q6,q7,q8,hw,hd,aD,bW,Nat.add_sub_cancel_left]
      repeat' ((first|((refine AC.mono (AC.wk (w34) (aa _)) ?_;(rintro _ _ ⟨rfl,rfl⟩)))|((refine AC.mono (AC.wk (ws) (aa _)) ?_;(rintro _ _ ⟨rfl,rfl⟩))))<;>(try simp only [↓R1,RR,Nat.reduceEqDiff,Nat.reduceAdd,Nat.reduceLT,q1,q2,q3,q4,q5,q6,q7,q8,hw,hd,aD,bW,Nat.add_sub_cancel_left]))
      refine ak (ad ?_) (by simp [aj,rvS]) (hXl _)
      (simp only [ao,↓R1,RR,Nat.reduceEqDiff,Nat.reduceAdd,Nat.reduceLT,q1,q2,q3,q4,q5,q6,q7,q8,hw,hd,aD,bW,Nat.add_sub_cancel_left])
      rfl
end Go.Proofs.YtgephffbfiemeaaGreatDoor
namespace Go.Abs
theorem AC.le {P:Program} {f:Nat} {xs:List AV} {σ σ':St} {R:AV→St→Prop} (h:AC P f xs σ R) (hl:St.le σ σ'):AC P f xs σ' R:=fun g w vs hI hv=>h g w vs (hI.le hl) hv
end Go.Abs
namespace Go.Proofs.YtgephffbfiemeaaGreatDoor
open Go.Abs
set_option linter.all false
set_option maxRecDepth 100000
theorem H8:BF Tryz.prog 113 :=
 rT (Go.Proofs.enters_of Tryz.func113 (by kernel_rfl) rfl) (fun x sep w=>Tryz.strings_Join_none x 0 sep w) (fun bk o c xs sep w h1 h2 h3 h4 h5=>Tryz.strings_Join bk o c xs sep w h1 h2 h3 h4 h5)
def sV (τ:Nat):List (List UInt8)→AV
 | []=> .nils
 | p=> .tsl τ p.length (p.map AV.str)
def sT (σ:St) (τ:Nat):List (List UInt8)→St
 | []=>σ
 | p=>σ.al τ (9,1,p.length)
theorem B3 (σ:St) (τ:Nat) (p:List (List UInt8)):(sT σ τ p).box=σ.box:=by cases p<;>rfl
theorem B4 (σ:St) (τ:Nat) (p:List (List UInt8)) (u:Nat) (c:List AV):(sT σ τ p).ae u c=sT (σ.ae u c) τ p:=by cases p<;>rfl
theorem Fy {s s':St} (h:St.le s s') {τ:Nat} {p:List (List UInt8)} (hn:p≠ []→s.tip τ=none):St.le s (sT s' τ p):=by
 cases p with
 | nil=>exact h
 | cons x p=>exact St.fA h (hn (by simp))
theorem H9 {s s':St} (h:St.le s s') (τ:Nat) (p:List (List UInt8)):St.le (sT s τ p) (sT s' τ p):=by
 cases p with
 | nil=>exact h
 | cons x p=>exact St.rj h
theorem so {σ:St} {γ τ τ1:Nat} {out:List UInt8} (h:(bS σ γ τ out).tip τ1=none):σ.tip τ1=none:=by
  cases out with
  | nil=>exact h
  | cons x out =>
    simp only [bS,bT,St.ae,St.al,upd] at h
    split at h
    · cases h
    · exact h
theorem Ia (τ:Nat) (p:List (List UInt8)):slv (sV τ p)=some (p.length,p.map AV.str):=by cases p<;>rfl
theorem Ib {P:Program} {Y:St} {K:AV→St→Prop} {τ:Nat} {pre:List (List UInt8)} {w:List UInt8} {h:Hold (sT Y τ pre,K)} (hl:pre.length≤1000000) (hY:pre≠ []→Y.tip τ=none)
    (hK:∀ τ',Y.tip τ'=none→K (sV τ' (pre++ [w])) (sT Y τ' (pre++ [w]))):px true 9 1 16 (sV τ pre) (.sl true 1 [.str w]) (sT Y τ pre) K h:=by
  cases pre with
  | nil =>
    refine mP (n:=0) (cs:= []) rfl trivial rfl rfl rfl ?_ ?_ (fun τ' hτ'=>?_)
    · unfold maxLen;decide
    · decide
    · exact hK τ' hτ'
  | cons x p =>
    simp only [List.length_cons] at hl
    refine bD rfl ?_ ?_ rfl ?_ ?_ ?_
    · simp [sT,St.al,upd]
    · simp
    · unfold maxLen;simp;omega
    · simp;omega
    · have:=hK τ (hY (by simp))
      have e1:(x::p).map AV.str++ [AV.str w]=((x::p)++ [w]).map AV.str:=by simp
      have e2:sT (sT Y τ (x::p)) τ ((x::p)++ [w])=sT Y τ ((x::p)++ [w]):=St.eY _ _ _ _
      have e3:(x::p).length+1=((x::p)++ [w]).length:=by simp
      rw [e1,e3]
      rw [←e2] at this
      exact this
theorem EN (l:List RI) {k:Nat} (h:k<l.length):((l.flatMap cRI).drop (k*2)).take 2=cRI l[k]:=by
 have:=flat_get (f:=cRI) (s:=2) (fun _=>rfl) l k h
 exact this
theorem EO (l:List WI) {k:Nat} (h:k<l.length):((l.flatMap cWI).drop (k*3)).take 3=cWI l[k]:=by
 have:=flat_get (f:=cWI) (s:=3) (fun _=>rfl) l k h
 exact this
theorem nZ {out:List UInt8} {l:List RI} {k:Nat} (h:k<l.length) (h0:l[k].ws.length=0):gI out (l.drop k)= .error 7:=by
 rw [List.drop_eq_getElem_cons h];simp only [gI,h0,if_true]
theorem uK {out:List UInt8} {l:List RI} {k:Nat} (h:k<l.length) (h0:¬ l[k].ws.length=0) (hw:da l[k].ws=none):gI out (l.drop k)= .error 3:=by
 rw [List.drop_eq_getElem_cons h];simp only [gI,if_neg h0,hw]
theorem uL {out:List UInt8} {l:List RI} {k:Nat} {ws:List (List UInt8)} (h:k<l.length) (h0:¬ l[k].ws.length=0) (hw:da l[k].ws=some ws) :
  gI out (l.drop k)=if 1000<(Lib.join ws [32]).length∨20000<(out++(Lib.join ws [32]++ [10])).length then .error 4 else gI (out++(Lib.join ws [32]++ [10])) (l.drop (k+1)):=by
 rw [List.drop_eq_getElem_cons h];simp only [gI,if_neg h0,hw]
set_option maxHeartbeats 4000000 in
theorem Mf (l:List RI) (hl:BC l):Pu Tryz.prog 133 [.sl false l.length (l.flatMap cRI)] (Fp (rL l)):=by
  have q1:True:=trivial
  have q2:True:=trivial
  have q3:True:=trivial
  have q4:True:=trivial
  have q5:True:=trivial
  have hw:True:=trivial
  have hd:True:=trivial
  have hd2:True:=trivial
  obtain ⟨hl1,hl2⟩:=hl
  (refine an GA Ku fun σ=>?_;simp only [GA,↓R1,RR,seval,q1,q2,q3,q4,q5,hw,hd,hd2])
  refine kV (fun γ hγ hγt=>?_)
  have hγt:σ.bt γ=none:=hγt
  simp only [↓R1,RR,seval,q1,q2,q3,q4,q5,hw,hd,hd2]
  obtain ⟨X,hX⟩:∃ X,X=σ.cO γ 222:=⟨_,rfl⟩
  have hXt:X.tip=σ.tip:=by rw [hX];rfl
  have hXb:X.bt γ=some 222:=by rw [hX];exact St.mi _ _ _
  have hXl:∀ c,St.le σ (X.ae γ c):=fun c=>by
    rw [hX];exact St.aA (St.iQ (St.le_refl _) hγt) hγ
  have hle:∀ τ out,(out≠ []→σ.tip τ=none)→St.le σ (bS X γ τ out):=fun τ out h=>by
    rw [hX];exact Fx (St.iQ (St.le_refl _) hγt) hγ h
  refine cS (α:=Nat × Nat × List UInt8) (fun z=> [(4, .ptr γ 0),(13, .sl false l.length (l.flatMap cRI)),(14, .int .i64 (l.length:Nat)),(15, .int .i64 (z.1:Nat))]) (fun z=>bS X γ z.2.1 z.2.2)
    (fun z=>z.1≤l.length∧(z.2.2≠ []→σ.tip z.2.1=none)∧z.2.2.length≤20000∧rL l=gI z.2.2 (l.drop z.1)) (fun z=>l.length - z.1) (0,0,[]) (by simp [az,slot,af]) (by rw [hX];exact St.le_refl _) ⟨Nat.zero_le _,(fun h=>absurd rfl h),Nat.zero_le _,rfl⟩ ?_
  rintro ⟨k,τ,out⟩ ⟨hk,hτ,hlen,hI⟩
  simp only at hk hτ hlen hI
  by_cases hlt:k<l.length
  · have q1:decide ((k:Int)<(l.length:Int))=true:=by rw [decide_eq_true_eq];omega
    have hd:=EN l hlt
    have hd2:=cV l
    have hw:IntKind.i64.wrap ((k:Int)+1)=((k+1:Nat):Int):=by rw [wrap64 (by omega) (by omega)];omega
    obtain ⟨hwn,hwt⟩:=hl2 l[k] (List.getElem_mem hlt)
    simp only [cRI] at hd
    have hτX:out≠ []→X.tip τ=none:=by rw [hXt];exact hτ
    by_cases h0:l[k].ws.length=0
    · have q2:((l[k].ws.length:Int) == 0)=true:=by rw [h0];rfl
      rw [nZ hlt h0] at hI
      rw [hI]
      simp only [q1,↓R1,RR,seval,q1,q2,q3,q4,q5,hw,hd,hd2]
      repeat' (first|(with_reducible rw [ai])|(with_reducible refine And.intro ?_ ?_;exact ag)|((with_reducible intro β hβ;(try simp only [RB] at hβ);(repeat (obtain ⟨⟨_,_⟩,hβ⟩:=hβ));(try (have hbis:=ah (by assumption) hβ;obtain ⟨_,_⟩:=hbis)))<;>(try simp only [↓R1,RR,seval,q1,q2,q3,q4,q5,hw,hd,hd2])))
      all_goals first|(rw [hd2];omega)|skip
      refine ak (ad ?_) (by simp [aj,rvS]) (St.aA (hle τ out hτ) (by rw [pZ] at hβ;rw [hX] at hβ;exact hβ.2))
      (simp only [ao,↓R1,RR,seval,q1,q2,q3,q4,q5,hw,hd,hd2])
      rfl
    · have q2:((l[k].ws.length:Int) == 0)=false:=by
        rw [←Bool.not_eq_true,beq_iff_eq];omega
      simp only [q1,↓R1,RR,seval,q1,q2,q3,q4,q5,hw,hd,hd2]
      repeat' (first|(with_reducible rw [ai])|(with_reducible refine And.intro ?_ ?_;exact ag)|((with_reducible intro β hβ;(try simp only [RB] at hβ);(repeat (obtain ⟨⟨_,_⟩,hβ⟩:=hβ));(try (have hbis:=ah (by assumption) hβ;obtain ⟨_,_⟩:=hbis)))<;>(try simp only [↓R1,RR,seval,q1,q2,q3,q4,q5,hw,hd,hd2])))
      all_goals first|(rw [hd2];omega)|skip
      obtain ⟨ws,hws⟩:∃ ws,l[k].ws=ws:=⟨_,rfl⟩
      rw [hws] at hwn hwt h0 ⊢
      have hd:True:=trivial
      have hd2:True:=trivial
      refine cS (α:=Nat × Nat × List (List UInt8)) (fun z=> [(4, .ptr γ 0),(7,sV z.2.1 z.2.2),(13, .sl false l.length (l.flatMap cRI)),(14, .int .i64 (l.length:Nat)),(15, .int .i64 (k:Nat)),(24, .sl false ws.length (ws.flatMap cWI)),(25, .int .i64 (ws.length:Nat)),(26, .int .i64 (z.1:Nat))])
        (fun z=>sT (bS X γ τ out) z.2.1 z.2.2) (fun z=>z.1≤ws.length∧(z.2.2≠ []→(bS X γ τ out).tip z.2.1=none)∧da (ws.take z.1)=some z.2.2∧z.2.2.length=z.1) (fun z=>ws.length - z.1) (0,0,[])
        (by simp [az,slot,af,sV]) (St.aA (St.aA (St.le_refl _) hβ) hβ) ⟨Nat.zero_le _,(fun h=>absurd rfl h),rfl,rfl⟩ ?_
      rintro ⟨i,τ1,acc⟩ ⟨hi,hτ1,hacc,hal⟩
      simp only at hi hτ1 hacc hal
      by_cases hin:i<ws.length
      · have q3:decide ((i:Int)<(ws.length:Int))=true:=by rw [decide_eq_true_eq];omega
        have hd:=EO ws hin
        have hd2:=cM ws
        have hw:IntKind.i64.wrap ((i:Int)+1)=((i+1:Nat):Int):=by rw [wrap64 (by omega) (by omega)];omega
        have hp:=Me ws[i].q ws[i].t ws[i].a (by have:=hwt ws[i] (List.getElem_mem hin);omega)
        simp only [cWI] at hd
        simp only [q3,↓R1,RR,seval,q1,q2,q3,q4,q5,hw,hd,hd2]
        cases hwd:dN ws[i].q ws[i].t with
        | none =>
          rw [hwd] at hp
          have hbad:=mY ws i hin hwd
          rw [uK hlt (by rw [hws];exact h0) (by rw [hws];exact hbad)] at hI
          rw [hI]
          simp only [BA] at hp
          repeat' (first|(with_reducible rw [ai])|(with_reducible refine And.intro ?_ ?_;exact ag)|((first|(with_reducible intro β hβ;(try simp only [RB] at hβ);(repeat (obtain ⟨⟨_,_⟩,hβ⟩:=hβ));(try (have hbis:=ah (by assumption) hβ;obtain ⟨_,_⟩:=hbis)))|(refine Pt (hp) ?_))<;>(try simp only [↓R1,RR,seval,q1,q2,q3,q4,q5,hw,hd,hd2])))
          all_goals first|(rw [hd2];omega)|skip
          rw [B3,pZ,hX] at hβ
          refine ak (ad ?_) (by simp [aj,rvS]) (St.aA (Fy (hle τ out hτ) (fun h=>by have:=so (hτ1 h);rwa [hXt] at this)) hβ.2)
          (simp only [ao,↓R1,RR,seval,q1,q2,q3,q4,q5,hw,hd,hd2])
          rfl
        | some x =>
          rw [hwd] at hp
          have hnx:=rM hin hacc hwd
          simp only [BA] at hp
          repeat' (first|(with_reducible rw [ai])|(with_reducible refine And.intro ?_ ?_;exact ag)|((first|(with_reducible intro β hβ;(try simp only [RB] at hβ);(repeat (obtain ⟨⟨_,_⟩,hβ⟩:=hβ));(try (have hbis:=ah (by assumption) hβ;obtain ⟨_,_⟩:=hbis)))|(refine Pt (hp) ?_))<;>(try simp only [↓R1,RR,seval,q1,q2,q3,q4,q5,hw,hd,hd2])))
          all_goals first|(rw [hd2];omega)|skip
          rw [B3] at hβ
          rw [B4,B4]
          refine Ib (P:=Tryz.prog) (by omega) hτ1 (fun τ' hτ'=>?_)
          simp only [↓R1,RR,seval,q1,q2,q3,q4,q5,hw,hd,hd2]
          skip
          refine ⟨(i+1,τ',acc++ [x]),⟨hin,fun _=>hτ',hnx,by simp [hal]⟩,by simp [az,slot,af],H9 (St.aA (St.le_refl _) hβ) _ _,by simp only;omega⟩
      · have hie:i=ws.length:=by omega
        subst hie
        have q3:decide ((ws.length:Int)<(ws.length:Int))=false:=by simp
        rw [List.take_length] at hacc
        obtain ⟨ha1,ha2⟩:=mZ ws hacc
        have hjl:=BD 80002 acc (fun x hx=>by have:=ha2 20000 hwt x hx;omega)
        have hjl2:(Lib.join acc [32]).length≤80003000:=by
          have:80003*acc.length≤80003*1000:=Nat.mul_le_mul_left _ (by omega)
          omega
        rw [uL hlt (by rw [hws];exact h0) (by rw [hws];exact hacc)] at hI
        have hj:=H8 (sV τ1 acc) acc [32] (sT (bS X γ τ out) τ1 acc) (Ia τ1 acc) (by omega) (by omega)
        obtain ⟨line,hline⟩:∃ line,Lib.join acc [32]=line:=⟨_,rfl⟩
        rw [hline] at hj hI hjl2
        have hwr:=(jD γ (line++ [10]) (by simp) X τ out hτX hXb (by simp;omega)).le (Fy (St.le_refl _) hτ1)
        simp only [q3,↓R1,RR,seval,q1,q2,q3,q4,q5,hw,hd,hd2]
        repeat' (first|(with_reducible refine And.intro ?_ ?_;exact ag)|(((refine AC.mono (AC.wk (hj) (aa _)) ?_;(rintro _ _ ⟨rfl,rfl⟩)))<;>(try simp only [↓R1,RR,seval,q1,q2,q3,q4,q5,hw,hd,hd2])))
        all_goals first|omega|(simp only [List.length_append,List.length_cons,List.length_nil];omega)|skip
        refine (AC.wk hwr (aa _)).mono ?_
        rintro _ _ ⟨rfl,τ',hτ',_,rfl⟩
        have hln:=JX X γ τ' (out++(line++ [10]))
        have hτ'σ:σ.tip τ'=none:=by rw [←hXt];exact hτ'
        simp only [↓R1,RR,seval,q1,q2,q3,q4,q5,hw,hd,hd2]
        by_cases hL:1000<line.length
        · have q4:decide ((1000:Int)<(line.length:Int))=true:=by rw [decide_eq_true_eq];omega
          rw [if_pos (.inl hL)] at hI
          rw [hI]
          simp only [q4,↓R1,RR,seval,q1,q2,q3,q4,q5,hw,hd,hd2]
          skip
          all_goals (try (first|omega|(rename_i hno;cases hno;done)))
          refine ak (ad ?_) (by simp [aj,rvS]) (hle τ' _ (fun _=>hτ'σ))
          (simp only [ao,↓R1,RR,seval,q1,q2,q3,q4,q5,hw,hd,hd2])
          rfl
        · have q4:decide ((1000:Int)<(line.length:Int))=false:=by rw [decide_eq_false_iff_not];omega
          by_cases hO:20000<(out++(line++ [10])).length
          · have q5:decide ((20000:Int)<((out++(line++ [10])).length:Int))=true:=by rw [decide_eq_true_eq];omega
            rw [if_pos (.inr hO)] at hI
            rw [hI]
            simp only [q4,↓R1,RR,seval,q1,q2,q3,q4,q5,hw,hd,hd2]
            repeat' (((refine AC.mono (AC.wk (hln) (aa _)) ?_;(rintro _ _ ⟨rfl,rfl⟩)))<;>(try simp only [↓R1,RR,seval,q1,q2,q3,q4,q5,hw,hd,hd2]))
            refine ak (ad ?_) (by simp [aj,rvS]) (hle τ' _ (fun _=>hτ'σ))
            (simp only [ao,↓R1,RR,seval,q1,q2,q3,q4,q5,hw,hd,hd2])
            rfl
          · have q5:decide ((20000:Int)<((out++(line++ [10])).length:Int))=false:=by rw [decide_eq_false_iff_not];omega
            rw [if_neg (by omega)] at hI
            simp only [q4,↓R1,RR,seval,q1,q2,q3,q4,q5,hw,hd,hd2]
            repeat' (((refine AC.mono (AC.wk (hln) (aa _)) ?_;(rintro _ _ ⟨rfl,rfl⟩)))<;>(try simp only [↓R1,RR,seval,q1,q2,q3,q4,q5,hw,hd,hd2]))
            exact ⟨(k+1,τ',out++(line++ [10])),⟨hlt,fun _=>hτ'σ,by simp only;omega,hI⟩,by simp [az,slot,af],St.le_refl _,by simp only;omega⟩
  · have hke:k=l.length:=by omega
    subst hke
    have q1:decide ((l.length:Int)<(l.length:Int))=false:=by simp
    rw [List.drop_length] at hI
    have ws:=np (β:=γ) (τ:=τ) (l:=out) (σ:=X) (by rw [hXt];exact hτ) hXb
    simp only [q1,↓R1,RR,seval,q1,q2,q3,q4,q5,hw,hd,hd2]
    repeat' (((refine AC.mono (AC.wk (ws) (aa _)) ?_;(rintro _ _ ⟨rfl,rfl⟩)))<;>(try simp only [↓R1,RR,seval,q1,q2,q3,q4,q5,hw,hd,hd2]))
    rw [hI]
    refine ak (ad ?_) (by simp [aj,rvS]) (hXl _)
    (simp only [ao,↓R1,RR,seval,q1,q2,q3,q4,q5,hw,hd,hd2])
    rfl
end Go.Proofs.YtgephffbfiemeaaGreatDoor
namespace Go.Proofs.YtgephffbfiemeaaGreatDoor
open Go.Abs
set_option linter.all false
set_option maxRecDepth 100000
theorem sq {P:Program} {x:CC} {fr:Fr} {σ:St} {Q:Exit→Fr→St→Prop} {h:Hold (x,σ,Q)} (n t o e s:Nat) {β:Nat} {c0:List AV} (hp:slot t fr= .ptr β 0) (hb:σ.box β=some c0) (hc:c0[o]? =some .nils) (F:Nat→Nat→Fr) (S:Nat→Nat→St) (I:Nat→Prop) (h0:I 0)
  (hF:∀ τ,az (F τ 0) fr) (hS:∀ τ,σ.tip τ=none→St.le (S τ 0) ((σ.al τ (e,s,0)).ae β (c0.set o (.tsl τ 0 []))))
  (hr:∀ τ,σ.tip τ=none→∀ k,k≤n→I k→aC P x (F τ k) (S τ k) (fI (fun fr' σ'=>k<n∧I (k+1)∧az (F τ (k+1)) fr'∧St.le (S τ (k+1)) σ') Q)):ox P x fr σ Q h:=by
 refine ⟨[(true,t,o,e,s)],?_⟩
 simp only [cW,hp,hb,Nat.zero_add,hc,slv,fresh,true_and]
 intro τ hτ
 refine ⟨Nat,F τ,S τ,fun k=>k≤n∧I k,fun k=>n - k,0,⟨Nat.zero_le _,h0⟩,hF τ,hS τ hτ,fun k hk=>?_⟩
 refine cU _ _ _ (hr τ hτ k hk.1 hk.2) (fun e fr' σ' hq=>?_)
 unfold fI at hq
 cases e with
 | normal=>simp only at hq ⊢;exact ⟨k+1,⟨hq.1,hq.2.1⟩,hq.2.2.1,hq.2.2.2,by omega⟩
 | _=>exact hq
def mkW (t:List UInt8):WI:=⟨!bareS t,t,0⟩
def mkR (l:List (List UInt8)):RI:=⟨0,l.map mkW⟩
theorem nv (l:List (List UInt8)) {k:Nat} (h:k<l.length):((l.map AV.str).drop (k*1)).take 1= [.str l[k]]:=by
 rw [Nat.mul_one,List.drop_eq_getElem_cons (by simpa using h)]
 simp
theorem EP (l:List (List UInt8)) {k:Nat} (h:k<l.length):((l.take k).map mkW).flatMap cWI++ [.bool (!bareS l[k]), .str l[k], .int .i64 0]=((l.take (k+1)).map mkW).flatMap cWI:=by
 rw [←List.take_append_getElem h,List.map_append,List.flatMap_append]
 simp [mkW,cWI]
set_option maxHeartbeats 2000000 in
theorem Mg (l:List (List UInt8)) (hl:l.length≤1000) (ht:∀ t∈l,t.length≤1000000):Pu Tryz.prog 134 [.sl false l.length (l.map AV.str)] (.agg (cRI (mkR l))):=by
 have q1:True:=trivial
 have hw:True:=trivial
 have hd:True:=trivial
 (refine an GB Kv fun σ=>?_;simp only [GB,↓R1,RR,seval,q1,hw,hd])
 rw [ai];intro b2 h2;simp only [↓R1,RR,seval,q1,hw,hd]
 rw [ai];intro b3 h3;rw [St.bf] at h3;obtain ⟨⟨_,_⟩,h3⟩:=h3;simp only [↓R1,RR,seval,q1,hw,hd]
 refine sq l.length 3 1 109 3 (β:=b3) rfl (by simp only [↓R1,RR,seval,q1,hw,hd];rfl) rfl
  (fun τ k=> [(2, .ptr b2 0),(3, .ptr b3 0),(6, .sl false l.length (l.map AV.str)),(7, .int .i64 (l.length:Nat)),(8, .int .i64 (k:Nat))])
  (fun τ k=>((σ.ae b2 [.int .i64 0, .nils]).ae b3 [.int .i64 0, .tsl τ k (((l.take k).map mkW).flatMap cWI)]).al τ (109,3,k)) (fun _=>True) trivial (fun τ=>by simp [az,slot,af]) (fun τ _=>by simp only [List.set_cons_succ,List.set_cons_zero,List.take_zero,List.map_nil,List.flatMap_nil,↓R1,RR,seval,q1,hw,hd];exact St.le_refl _) (fun τ hτ k hk _=>?_)
 by_cases hlt:k<l.length
 ·have q1:decide ((k:Int)<(l.length:Int))=true:=by rw [decide_eq_true_eq];omega
  have hd:=nv l hlt
  have hw:IntKind.i64.wrap ((k:Int)+1)=((k+1:Nat):Int):=by rw [wrap64 (by omega) (by omega)];omega
  have hp:=J1 l[k] (ht _ (List.getElem_mem hlt))
  have hcl:(((l.take k).map mkW).flatMap cWI).length=k*3:=by rw [cM];simp;omega
  have hs:=EP l hlt
  simp only [q1,↓R1,RR,seval,q1,hw,hd]
  repeat' (first|(with_reducible refine And.intro ?_ ?_;focus (intros;(repeat' (with_reducible apply And.intro))<;>first|omega|(simp only [RZ,cM,cV];omega)))|(with_reducible apply And.intro)|((first|((first|(refine bQ (.inr rfl) rfl ?_ ?_ ?_ ?_ ?_ ?_;(first|rfl|exact St.bg _ _ _|(simp only [↓R1,RR,seval,q1,hw,hd]));(first|omega|(simp only [RZ,cM,cV,List.length_nil,List.length_cons];omega)|(simp only [RZ,cM,cV,List.length_nil,List.length_cons]));(first|rfl|first|omega|(simp only [RZ,cM,cV,List.length_nil,List.length_cons];omega)|(simp only [RZ,cM,cV,List.length_nil,List.length_cons])))|(refine bD rfl ?_ ?_ ?_ ?_ ?_ ?_;(first|rfl|exact St.bg _ _ _|(simp only [↓R1,RR,seval,q1,hw,hd]));(first|omega|(simp only [RZ,cM,cV,List.length_nil,List.length_cons];omega)|(simp only [RZ,cM,cV,List.length_nil,List.length_cons]));(first|rfl|first|omega|(simp only [RZ,cM,cV,List.length_nil,List.length_cons];omega)|(simp only [RZ,cM,cV,List.length_nil,List.length_cons])))|(refine appV_own ?_ ?_ ?_ ?_;exact aS (by intro _;rfl) _)|(refine appD_own ?_ ?_ ?_ ?_ ?_;omega;exact aS (by intro _;rfl) _)|(refine appV_fresh rfl trivial rfl ?_ ?_ ?_ ?_ ?_;(first|rfl|first|omega|(simp only [RZ,cM,cV,List.length_nil,List.length_cons];omega)|(simp only [RZ,cM,cV,List.length_nil,List.length_cons]));(first|rfl|first|omega|(simp only [RZ,cM,cV,List.length_nil,List.length_cons];omega)|(simp only [RZ,cM,cV,List.length_nil,List.length_cons])))|(refine appD_fresh rfl trivial rfl ?_ ?_ ?_ ?_ ?_ ?_;omega;(first|rfl|first|omega|(simp only [RZ,cM,cV,List.length_nil,List.length_cons];omega)|(simp only [RZ,cM,cV,List.length_nil,List.length_cons]));(first|rfl|first|omega|(simp only [RZ,cM,cV,List.length_nil,List.length_cons];omega)|(simp only [RZ,cM,cV,List.length_nil,List.length_cons]))));(unfold maxLen;omega);omega)|(refine Ct (hp) ?_))<;>(try simp only [↓R1,RR,seval,q1,hw,hd])))
  all_goals first|(simp only [List.length_map];omega)|skip
  ·simp [az,slot,af]
  ·rw [hs];exact St.le_refl _
 ·have hke:k=l.length:=by omega
  subst hke
  have q1:decide ((l.length:Int)<(l.length:Int))=false:=by simp
  rw [List.take_length]
  simp only [q1,↓R1,RR,seval,q1,hw,hd]
  skip
  refine ak ?_ (by first|(simp [aj,rvS];done)|(simp only [aj,rvS,↓R1,RR,seval,q1,hw,hd];try simp)) (St.fA (St.aA (St.aA (St.le_refl _) h2) h3) hτ)
  simp only [ao,↓R1,RR,seval,q1,hw,hd]
  simp only [cRI,mkR,List.length_map]
  exact cR (.cons (af _) (.cons (ay _ _ _) .nil))
def cWd (w:Wd):List AV:= [.bool w.q, .str w.t, .int .i64 (w.a:Nat)]
theorem au (l:List Wd):(l.flatMap cWd).length=l.length*3:=aS (f:=cWd) (fun _=>rfl) l
def lV (τ:Nat):List Wd→AV
 | []=> .nils
 | p=> .tsl τ p.length (p.flatMap cWd)
def lT (σ:St) (τ:Nat):List Wd→St
 | []=>σ
 | p=>σ.al τ (109,3,p.length)
theorem nx (σ:St) (τ:Nat) (p:List Wd):(lT σ τ p).box=σ.box:=by cases p<;>rfl
theorem ny (σ:St) (τ:Nat) (p:List Wd) (u:Nat) (c:List AV):(lT σ τ p).ae u c=lT (σ.ae u c) τ p:=by cases p<;>rfl
theorem Ic {P:Program} {Y:St} {K:AV→St→Prop} {τ:Nat} {pre:List Wd} {w:Wd} {h:Hold (lT Y τ pre,K)} (hl:pre.length≤1000000) (hY:pre≠ []→Y.tip τ=none)
    (hK:∀ τ',Y.tip τ'=none→K (lV τ' (pre++ [w])) (lT Y τ' (pre++ [w]))):px true 109 3 32 (lV τ pre) (.sl true 1 (cWd w)) (lT Y τ pre) K h:=by
  cases pre with
  | nil =>
    refine mP (n:=0) (cs:= []) rfl trivial rfl rfl rfl ?_ ?_ (fun τ' hτ'=>?_)
    · unfold maxLen;decide
    · decide
    · exact hK τ' hτ'
  | cons x p =>
    have h1:=au (x::p)
    simp only [List.length_cons] at hl h1
    refine bD rfl ?_ ?_ rfl ?_ ?_ ?_
    · simp [lT,St.al,upd]
    · simpa using h1
    · unfold maxLen;simp;omega
    · simp;omega
    · have:=hK τ (hY (by simp))
      have e1:(x::p).flatMap cWd++cWd w=((x::p)++ [w]).flatMap cWd:=by simp
      have e2:lT (lT Y τ (x::p)) τ ((x::p)++ [w])=lT Y τ ((x::p)++ [w]):=St.eY _ _ _ _
      have e3:(x::p).length+1=((x::p)++ [w]).length:=by simp
      rw [e1,e3]
      rw [←e2] at this
      exact this
theorem J3 {s s':St} (h:St.le s s') (τ:Nat) (p:List Wd):St.le (lT s τ p) (lT s' τ p):=by
 cases p with
 | nil=>exact h
 | cons x p=>exact St.rj h
def uM (σ:St) (o:Except Nat (List Wd)) (r:AV) (s:St):Prop :=
 match o with
 | .error b=>r= .tup [.nils, .int .i64 (b:Nat), .bool false]∧s=σ
 | .ok ws=>∃ τ,(ws≠ []→σ.tip τ=none)∧r= .tup [lV τ ws, .int .i64 0, .bool true]∧s=lT σ τ ws
set_option maxHeartbeats 4000000 in
theorem qa (σ:St) (l:List UInt8) (hl:l.length≤1000000):AC Tryz.prog 149 [.str l] σ (uM σ (cL l)):=by
  have hc1:True:=trivial
  have q1:True:=trivial
  have q3:True:=trivial
  (refine bw GI KB ?_;simp only [GI,↓R1,RR,Nat.reduceEqDiff,Nat.reduceAdd,Nat.reduceLeDiff,Nat.reduceLT,reduceCtorEq,dE,hc1,q1,q3])
  repeat' ((with_reducible intro β hβ;(try simp only [RB] at hβ);(repeat (obtain ⟨⟨_,_⟩,hβ⟩:=hβ));(try (have hbis:=ah (by assumption) hβ;obtain ⟨_,_⟩:=hbis)))<;>(try simp only [↓R1,RR,Nat.reduceEqDiff,Nat.reduceAdd,Nat.reduceLeDiff,Nat.reduceLT,reduceCtorEq,dE,hc1,q1,q3]))
  refine (AC.wk (BY (k:=0) (l:=l) (by simp only [↓R1,RR,Nat.reduceEqDiff,Nat.reduceAdd,Nat.reduceLeDiff,Nat.reduceLT,reduceCtorEq,dE,hc1,q1,q3];rfl) (Nat.zero_le _) hl) (aa _)).mono ?_
  rintro _ _ ⟨rfl,rfl⟩
  rw [List.drop_zero]
  simp only [↓R1,RR,Nat.reduceEqDiff,Nat.reduceAdd,Nat.reduceLeDiff,Nat.reduceLT,reduceCtorEq,dE,hc1,q1,q3]
  revert hβ
  revert β
  intro u hu
  have hz:posOf l (l.dropWhile aL)≤l.length:=by simp [posOf]
  have hz2:l.drop (posOf l (l.dropWhile aL))=l.dropWhile aL:=(iV (List.dropWhile_suffix _)).1
  refine cS (α:=Nat × Nat × List Wd) (fun z=> [(2,lV z.2.1 z.2.2),(5, .ptr u 0)]) (fun z=>lT (σ.ae u [.str l, .int .i64 (z.1:Nat)]) z.2.1 z.2.2)
    (fun z=>z.1≤l.length∧(z.2.2≠ []→σ.tip z.2.1=none)∧z.2.2.length≤z.1∧(l.drop z.1).dropWhile aL=l.drop z.1∧cL l=iR z.2.2 (b8 (l.drop z.1) z.1)) (fun z=>l.length - z.1) (posOf l (l.dropWhile aL),0,[])
    (by simp [az,slot,af,lV]) (by simp only [↓R1,RR,Nat.reduceEqDiff,Nat.reduceAdd,Nat.reduceLeDiff,Nat.reduceLT,reduceCtorEq,dE,hc1,q1,q3];exact St.le_refl _) ⟨hz,(fun h=>absurd rfl h),Nat.zero_le _,(by rw [hz2,fK]),(by rw [rH,hz2,cL,fZ,Nat.zero_add];rfl)⟩ ?_
  rintro ⟨i,τ,pre⟩ ⟨hi,hτ,hlen,hdw,hI⟩
  simp only at hi hτ hlen hdw hI
  have hbS:∀ (i:Nat) τ pre,(lT (σ.ae u [.str l, .int .i64 i]) τ pre).box u=some [.str l, .int .i64 i]:=fun i τ pre=>by rw [nx];simp only [↓R1,RR,Nat.reduceEqDiff,Nat.reduceAdd,Nat.reduceLeDiff,Nat.reduceLT,reduceCtorEq,dE,hc1,q1,q3]
  have hset:∀ (i j:Nat) τ pre,(lT (σ.ae u [.str l, .int .i64 i]) τ pre).ae u [.str l, .int .i64 j]=lT (σ.ae u [.str l, .int .i64 j]) τ pre:=fun i j τ pre=>by rw [ny];simp only [↓R1,RR,Nat.reduceEqDiff,Nat.reduceAdd,Nat.reduceLeDiff,Nat.reduceLT,reduceCtorEq,dE,hc1,q1,q3]
  have fin:∀ (i:Nat),cL l= .ok pre→uM σ (cL l) (.tup [lV τ pre, .int .i64 0, .bool true]) (lT σ τ pre):=fun i h=>by rw [h];exact ⟨τ,hτ,rfl,rfl⟩
  have hle:∀ (i:Nat),St.le (lT σ τ pre) (lT (σ.ae u [.str l, .int .i64 i]) τ pre):=fun i=>by
    rw [←ny];exact St.aA (St.le_refl _) (by rw [nx];exact hu)
  have hle0:∀ (i:Nat),St.le σ (lT (σ.ae u [.str l, .int .i64 i]) τ pre):=fun i=>by
    have h1:St.le σ (σ.ae u [.str l, .int .i64 i]):=St.aA (St.le_refl _) hu
    cases pre with
    | nil=>exact h1
    | cons x p=>exact St.fA h1 (hτ (by simp))
  simp only [↓R1,RR,Nat.reduceEqDiff,Nat.reduceAdd,Nat.reduceLeDiff,Nat.reduceLT,reduceCtorEq,dE,hc1,q1,q3]
  have a1:=ed (hbS i τ pre)
  have q3:=hbS i τ pre
  rcases eU l i hi with ⟨hd,he⟩|⟨c,r,hd,hlt⟩
  · have hc1:decide ((i:Int)<(l.length:Int))=false:=by simp;omega
    have hok:cL l= .ok pre:=by rw [hI,hd,c7];simp [iR]
    repeat' (((refine AC.mono (AC.wk (a1) (aa _)) ?_;(rintro _ _ ⟨rfl,rfl⟩)))<;>(try simp only [↓R1,RR,Nat.reduceEqDiff,Nat.reduceAdd,Nat.reduceLeDiff,Nat.reduceLT,reduceCtorEq,dE,hc1,q1,q3]))
    exact aZ (by simp) (by simp [aj,rvS]) (ad (by (simp only [ao,↓R1,RR,Nat.reduceEqDiff,Nat.reduceAdd,Nat.reduceLeDiff,Nat.reduceLT,reduceCtorEq,dE,hc1,q1,q3]))) (hle i) (fin i hok)
  · have hc1:decide ((i:Int)<(l.length:Int))=true:=by simpa using hlt
    have a2:=eT (hbS i τ pre) hd
    rw [c7,hdw,hd] at hI
    simp only at hI
    by_cases h35:c=35
    · have q1:((c.toNat:Int) != 35)=false:=by rw [bne,dE];simpa using h35
      have hok:cL l= .ok pre:=by rw [hI,if_pos h35];simp [iR]
      repeat' ((first|((refine AC.mono (AC.wk (a1) (aa _)) ?_;(rintro _ _ ⟨rfl,rfl⟩)))|((refine AC.mono (AC.wk (a2) (aa _)) ?_;(rintro _ _ ⟨rfl,rfl⟩))))<;>(try simp only [↓R1,RR,Nat.reduceEqDiff,Nat.reduceAdd,Nat.reduceLeDiff,Nat.reduceLT,reduceCtorEq,dE,hc1,q1,q3]))
      exact aZ (by simp) (by simp [aj,rvS]) (ad (by (simp only [ao,↓R1,RR,Nat.reduceEqDiff,Nat.reduceAdd,Nat.reduceLeDiff,Nat.reduceLT,reduceCtorEq,dE,hc1,q1,q3]))) (hle i) (fin i hok)
    · have q1:((c.toNat:Int) != 35)=true:=by rw [bne,dE];simpa using h35
      rw [if_neg h35] at hI
      have hlr:(l.drop i).length - (c::r).length=0:=by rw [hd];omega
      have a3:=H7 (hbS i τ pre) hd hl
      cases hw0:cI (c::r) with
      | none =>
        rw [hw0] at a3 hI
        repeat' ((first|((refine AC.mono (AC.wk (a1) (aa _)) ?_;(rintro _ _ ⟨rfl,rfl⟩)))|((refine AC.mono (AC.wk (a2) (aa _)) ?_;(rintro _ _ ⟨rfl,rfl⟩))))<;>(try simp only [↓R1,RR,Nat.reduceEqDiff,Nat.reduceAdd,Nat.reduceLeDiff,Nat.reduceLT,reduceCtorEq,dE,hc1,q1,q3]))
        refine (AC.wk a3 (aa _)).mono ?_
        rintro _ _ ⟨p,j,rfl,rfl⟩
        rw [hset]
        simp only [wdV,↓R1,RR,Nat.reduceEqDiff,Nat.reduceAdd,Nat.reduceLeDiff,Nat.reduceLT,reduceCtorEq,dE,hc1,q1,q3]
        repeat' (first|(with_reducible rw [ai])|((with_reducible intro β hβ;(try simp only [RB] at hβ);(repeat (obtain ⟨⟨_,_⟩,hβ⟩:=hβ));(try (have hbis:=ah (by assumption) hβ;obtain ⟨_,_⟩:=hbis)))<;>(try simp only [↓R1,RR,Nat.reduceEqDiff,Nat.reduceAdd,Nat.reduceLeDiff,Nat.reduceLT,reduceCtorEq,dE,hc1,q1,q3])))
        rw [nx,St.bf] at hβ
        obtain ⟨⟨_,_⟩,hβ⟩:=hβ
        refine aZ (r:= .tup [.nils, .int .i64 (i:Nat), .bool false]) (by simp) (by simp [aj,rvS]) (ad (by (simp only [ao,↓R1,RR,Nat.reduceEqDiff,Nat.reduceAdd,Nat.reduceLeDiff,Nat.reduceLT,reduceCtorEq,dE,hc1,q1,q3]))) (St.aw (hle0 j) (by assumption)) ?_
        rw [hI]
        simp only [iR,uM,Nat.sub_self,Nat.add_zero,true_and]
      | some q =>
        obtain ⟨q,t,m⟩:=q
        rw [hw0] at a3 hI
        obtain ⟨hdm,hml⟩:=iV ((kZ hw0).trans (by rw [←hd];exact kq l i))
        have hmlen:=dS hw0
        have hpm:posOf l m=l.length - m.length:=rfl
        have hcl:(c::r).length=l.length - i:=by rw [←hd];simp
        repeat' ((first|((refine AC.mono (AC.wk (a1) (aa _)) ?_;(rintro _ _ ⟨rfl,rfl⟩)))|((refine AC.mono (AC.wk (a2) (aa _)) ?_;(rintro _ _ ⟨rfl,rfl⟩))))<;>(try simp only [↓R1,RR,Nat.reduceEqDiff,Nat.reduceAdd,Nat.reduceLeDiff,Nat.reduceLT,reduceCtorEq,dE,hc1,q1,q3]))
        refine (AC.wk a3 (aa _)).mono ?_
        rintro _ _ ⟨rfl,rfl⟩
        rw [hset]
        simp only [wdV,↓R1,RR,Nat.reduceEqDiff,Nat.reduceAdd,Nat.reduceLeDiff,Nat.reduceLT,reduceCtorEq,dE,hc1,q1,q3]
        repeat' (first|(with_reducible rw [ai])|((with_reducible intro β hβ;(try simp only [RB] at hβ);(repeat (obtain ⟨⟨_,_⟩,hβ⟩:=hβ));(try (have hbis:=ah (by assumption) hβ;obtain ⟨_,_⟩:=hbis)))<;>(try simp only [↓R1,RR,Nat.reduceEqDiff,Nat.reduceAdd,Nat.reduceLeDiff,Nat.reduceLT,reduceCtorEq,dE,hc1,q1,q3])))
        rw [nx,St.bf] at hβ
        obtain ⟨⟨_,_⟩,hβ⟩:=hβ
        rw [ny,ny]
        refine Ic (P:=Tryz.prog) (w:=⟨q,t,i⟩) (by omega) hτ (fun τ' hτ'=>?_)
        simp only [↓R1,RR,Nat.reduceEqDiff,Nat.reduceAdd,Nat.reduceLeDiff,Nat.reduceLT,reduceCtorEq,dE,hc1,q1,q3]
        have hbu:∀ p,(lT (((σ.ae u [.str l, .int .i64 (posOf l m:Nat)]).ae β [.bool false, .str [], .int .i64 0]).ae β [.bool q, .str t, .int .i64 (i:Nat)]) τ' p).box u=some [.str l, .int .i64 (posOf l m:Nat)]:=fun p=>by
          rw [nx];simp only [↓R1,RR,Nat.reduceEqDiff,Nat.reduceAdd,Nat.reduceLeDiff,Nat.reduceLT,reduceCtorEq,dE,hc1,q1,q3]
        refine (AC.wk (BY (hbu _) hml hl) (aa _)).mono ?_
        rintro _ _ ⟨rfl,rfl⟩
        rw [hdm,ny]
        simp only [↓R1,RR,Nat.reduceEqDiff,Nat.reduceAdd,Nat.reduceLeDiff,Nat.reduceLT,reduceCtorEq,dE,hc1,q1,q3]
        have hsuf:m.dropWhile aL <:+ l:=(List.dropWhile_suffix _).trans ((kZ hw0).trans (by rw [←hd];exact kq l i))
        obtain ⟨hd4,hl4⟩:=iV hsuf
        have hp4:posOf l (m.dropWhile aL)=l.length - (m.dropWhile aL).length:=rfl
        have hl5:=cz aL m
        refine ⟨(posOf l (m.dropWhile aL),τ',pre++ [⟨q,t,i⟩]),⟨hl4,fun _=>hτ',?_,?_,?_⟩,by simp [az,slot,af],J3 (St.aA (St.le_refl _) (by rw [St.bf];exact ⟨⟨by assumption,by assumption⟩,hβ⟩)) _ _,?_⟩
        · simp only [List.length_append,List.length_cons,List.length_nil];omega
        · rw [hd4,fK]
        · rw [hI,hd4]
          simp only
          rw [yf,Bg,fZ m]
          rw [show i+((c::r).length - m.length)+(m.length - (m.dropWhile aL).length)=posOf l (m.dropWhile aL) by omega]
          simp only [Nat.sub_self,Nat.add_zero]
        · simp only;omega
theorem Mh (s:List UInt8) (c:UInt8):Pu Tryz.prog 244 [.str s, .str [c]] (.int .i64 (Lib.indexByte s c)):=by
 intro σ
 refine AC.fi (Go.Proofs.enters_of Tryz.func244 (by kernel_rfl) rfl) ?_
 intro g w vs hI hv
 obtain ⟨v1,vs,rfl,r1,hv⟩:=hv.cons_inv
 obtain ⟨v2,vs,rfl,r2,hv⟩:=hv.cons_inv
 rw [hv.cq,r1.df,r2.df]
 refine (Tryz.strings_Index_one ⟨s.toArray⟩ c w).mono ?_
 rintro e w' ⟨rfl,rfl⟩
 exact ⟨_,rfl,Go.RowKit.Below.refl _ _,fun g' _=> .int _ _⟩
theorem ER (σ:St) (l:List UInt8):AC Tryz.prog 147 [.str l, .str [10]] σ (fun r s=>∃ β0 β1 β2,σ.box β0=none∧σ.box β1=none∧σ.box β2=none∧(Apart β1 β0∧Apart β0 β1)∧(Apart β2 β0∧Apart β0 β2)∧(Apart β2 β1∧Apart β1 β2) ∧
  r= .fn 242 [.ptr β1 0, .ptr β0 0, .ptr β2 0]∧s=((σ.ae β0 [.str l]).ae β1 [.str [10]]).ae β2 [.int .i64 1]):=by
 have h:∀ σ:St,AC Tryz.prog 196 [.str l, .str [10], .int .i64 1] σ (fun r s=>∃ β0 β1 β2,σ.box β0=none∧σ.box β1=none∧σ.box β2=none∧(Apart β1 β0∧Apart β0 β1)∧(Apart β2 β0∧Apart β0 β2)∧(Apart β2 β1∧Apart β1 β2) ∧
   r= .fn 242 [.ptr β1 0, .ptr β0 0, .ptr β2 0]∧s=((σ.ae β0 [.str l]).ae β1 [.str [10]]).ae β2 [.int .i64 1]):=fun σ=>by
  (refine bw GY KQ ?_;simp only [GY,↓R1,RR,seval])
  intro β0 h0 β1 h1 β2 h2
  simp only [St.bf] at h1 h2
  refine ct ?_
  exact ⟨β0,β1,β2,h0,h1.2,h2.2.2,h1.1,h2.2.1,h2.1,rfl,rfl⟩
 (refine bw GG Kz ?_;simp only [GG,↓R1,RR,seval])
 refine (AC.wk (h σ) (aa _)).mono ?_
 rintro _ _ ⟨β0,β1,β2,h0,h1,h2,h3,h4,h5,rfl,rfl⟩
 simp only [↓R1,RR,seval]
 refine ct ?_
 exact ⟨β0,β1,β2,h0,h1,h2,h3,h4,h5,rfl,rfl⟩
theorem kr {l:List UInt8} (h:cj l= []):cut l=(l,none):=by simp only [cut,h]
theorem ku {l r:List UInt8} {c:UInt8} (h:cj l=c::r):cut l=(ba l++ [10],some r)∧l.take ((ba l).length+1)=ba l++ [10]∧l.drop ((ba l).length+1)=r∧(ba l).length+1≤l.length:=by
 have h1:=eR l
 rw [h] at h1
 have hc:=ur h
 subst hc
 have h2:l=(ba l++ [10])++r:=by rw [List.append_assoc];exact h1.symm
 have hn:(ba l++ [10]).length=(ba l).length+1:=by simp
 refine ⟨by simp only [cut,h],?_,?_,?_⟩
 ·exact (congrArg (List.take _) h2).trans (List.take_left' hn)
 ·exact (congrArg (List.drop _) h2).trans (List.drop_left' hn)
 ·have:=congrArg List.length h2
  rw [List.length_append,hn] at this;omega
set_option maxHeartbeats 2000000 in
theorem B5 {γ:Type} {prs:List Nat} {asg body:CC} {fr:Fr} {Q:Exit→Fr→St→Prop} {β0 β1 β2:Nat} (T:γ→List UInt8→St) (I:γ→List UInt8→Prop) (J:γ→Prop) (hps:prs.length=1) (g0:γ) (l0:List UInt8) (h0:I g0 l0)
    (hb0:∀ g r,(T g r).box β0=some [.str r]) (hb1:∀ g r,(T g r).box β1=some [.str [10]]) (hb2:∀ g r,(T g r).box β2=some [.int .i64 1])
    (hs:∀ g r r',(T g r).ae β0 [.str r']=T g r') (hl:∀ g r L,(T g r).lp L=(T g0 l0).lp L) (hlen:∀ g r,I g r→r.length≤1000000)
    (hround:∀ L (r:Loop) g rest,(T g0 l0).lp L=none→I g rest→aC Tryz.prog asg (jt prs [.str (cut rest).1] fr) ((T g rest).aB L (r,fr)) (fun e fr1 σ2=>e= .normal∧σ2.lp L=some (.loop r,fr)∧aC Tryz.prog body fr1 (σ2.aB L (busy r,fr)) (fun e _ σ3=>σ3.lp L=some (.loop (busy r),fr)∧match e with
        | .normal=>∃ g',St.le ((T g' rest).aB L (r,fr)) (σ3.aB L (r,fr))∧(match (cut rest).2 with|none=>J g'|some r'=>I g' r')
        | .ret=>Q .ret fr ((σ3.aB L (left r .ret,fr)).dropLp L)
        | _=>False)))
    (hend:∀ g r,J g→Q .normal fr (T g r)):RF Tryz.prog 242 [.ptr β1 0, .ptr β0 0, .ptr β2 0] prs asg body fr (T g0 l0) Q:=by
  refine ⟨by kernel_rfl,fun L r hL hr1 hr2 hY=>?_⟩
  have hY':∀ g rest,I g rest→YC Tryz.prog L [.str (cut rest).1] ((T g rest).aB L (r,fr)) (fun v s'=>(v= .bool true∧∃ g',(match (cut rest).2 with|none=>J g'|some r'=>I g' r')∧s'=(T g' rest).aB L (r,fr))∨(v= .bool false∧s'.lp L=some (.loop (left r .ret),fr)∧Q .ret fr (s'.dropLp L))):=fun g rest hI=>by
    refine YC.weaken (hY [.str (cut rest).1] ((T g rest).aB L (r,fr)) (fun v s=>(v= .bool true∧∃ g',St.le ((T g' rest).aB L (r,fr)) s∧(match (cut rest).2 with|none=>J g'|some r'=>I g' r'))∨(v= .bool false∧s.lp L=some (.loop (left r .ret),fr)∧Q .ret fr (s.dropLp L))) (by simpa using hps.symm) (St.bA _ _ _) ?_) ?_
    · refine cU _ _ _ (hround L r g rest hL hI) (fun e fr1 σ2 h=>?_)
      obtain ⟨h1,h2,h3⟩:=h
      refine ⟨h1,h2,cU _ _ _ h3 (fun e2 fr2 σ3 h4=>?_)⟩
      obtain ⟨h5,h6⟩:=h4
      refine ⟨h5,?_⟩
      cases e2 with
      | normal=>obtain ⟨g',k1,k2⟩:=h6;exact .inl ⟨rfl,g',k1,k2⟩
      | ret=>exact .inr ⟨rfl,St.bA _ _ _,h6⟩
      | _=>exact h6.elim
    · rintro v s (⟨rfl,g',k1,k2⟩|⟨rfl,k1,k2⟩)
      · exact ⟨_,_,af _,k1, .inl ⟨rfl,g',k2,rfl⟩⟩
      · exact ⟨_,_,af _,St.le_refl _, .inr ⟨rfl,k1,k2⟩⟩
  have hb0':∀ g rest,((T g rest).aB L (r,fr)).box β0=some [.str rest]:=fun g rest=>hb0 g rest
  have hb1':∀ g rest,((T g rest).aB L (r,fr)).box β1=some [.str [10]]:=fun g rest=>hb1 g rest
  have hb2':∀ g rest,((T g rest).aB L (r,fr)).box β2=some [.int .i64 1]:=fun g rest=>hb2 g rest
  have hs':∀ g rest r',((T g rest).aB L (r,fr)).ae β0 [.str r']=(T g r').aB L (r,fr):=fun g rest r'=>by rw [←St.eG,hs]
  have q1:(((1:Nat):Int) == 0)=false:=rfl
  have q2:True:=trivial
  have q3:True:=trivial
  have q4:True:=trivial
  have q5:True:=trivial
  have q6:True:=trivial
  refine bw He K5 ?_
  simp only [He,hb0,hb1,hb2,List.length_cons,List.length_nil,Nat.zero_add,↓R1,RR,seval,hb0',hb1',hb2',q1,q2,q3,q4,q5,q6]
  refine cS (α:=γ × List UInt8) (fun _=> [(0, .yld L),(1, .ptr β1 0),(2, .ptr β0 0),(3, .ptr β2 0)]) (fun z=>(T z.1 z.2).aB L (r,fr)) (fun z=>I z.1 z.2) (fun z=>z.2.length) (g0,l0) (by simp [az,slot,af]) (St.le_refl _) h0 ?_
  rintro ⟨g,rest⟩ hI
  simp only at hI
  have hn:=hlen g rest hI
  have hy:=hY' g rest hI
  have hix:=Mh rest 10
  simp only [hb0',hb1',hb2',↓R1,RR,seval,hb0',hb1',hb2',q1,q2,q3,q4,q5,q6]
  rw [uu] at hix
  cases ha:cj rest with
  | nil =>
    rw [ha] at hix
    rw [kr ha] at hy
    simp only at hix
    have q2:decide ((-1:Int)<0)=true:=rfl
    repeat' ((refine Pt (hix) ?_)<;>(try simp only [↓R1,RR,seval,hb0',hb1',hb2',q1,q2,q3,q4,q5,q6]))
    refine YC.mono hy ?_
    rintro v s' (⟨rfl,g',hJ,rfl⟩|⟨rfl,h1,h2⟩)
    · simp only [↓R1,RR,seval,hb0',hb1',hb2',q1,q2,q3,q4,q5,q6]
      refine ct (.inl ⟨St.bA _ _ _,?_⟩) (by simp [aj])
      rw [St.drop_set (by rw [hl,hL])]
      exact hend g' rest hJ
    · simp only [↓R1,RR,seval,hb0',hb1',hb2',q1,q2,q3,q4,q5,q6]
      exact ct (.inr (.inl ⟨h1,h2⟩)) (by simp [aj])
  | cons c r' =>
    rw [ha] at hix
    simp only at hix
    obtain ⟨k1,k2,k3,k4⟩:=ku ha
    rw [k1] at hy
    have q2:decide (((ba rest).length:Int)<0)=false:=by simp
    have q3:IntKind.i64.wrap (((ba rest).length:Int)+1)=(((ba rest).length+1:Nat):Int):=by rw [wrap64 (by omega) (by omega)];omega
    have q6:IntKind.i64.wrap (((ba rest).length:Int)+((1:Nat):Int))=(((ba rest).length+1:Nat):Int):=q3
    have q4:=k2
    have q5:=List.take_of_length_le (l:=rest.drop ((ba rest).length+1)) (i:=rest.length - ((ba rest).length+1)) (by simp)
    repeat' (first|(with_reducible refine And.intro ?_ ?_;exact ag)|((refine Pt (hix) ?_)<;>(try simp only [↓R1,RR,seval,hb0',hb1',hb2',q1,q2,q3,q4,q5,q6])))
    all_goals first|omega|skip
    refine YC.mono hy ?_
    rintro v s' (⟨rfl,g',hJ,rfl⟩|⟨rfl,h1,h2⟩)
    · simp only [hb0',hb1',hb2',↓R1,RR,seval,hb0',hb1',hb2',q1,q2,q3,q4,q5,q6]
      repeat' (with_reducible refine And.intro ?_ ?_;exact ag)
      all_goals first|omega|skip
      rw [hs',k3]
      refine ⟨(g',r'),hJ,by simp [az,slot,af],St.le_refl _,?_⟩
      have:=congrArg List.length k3
      simp only [List.length_drop] at this
      simp only;omega
    · simp only [↓R1,RR,seval,hb0',hb1',hb2',q1,q2,q3,q4,q5,q6]
      exact ct (.inr (.inl ⟨h1,h2⟩)) (by simp [aj])
def kv (l:List UInt8):List UInt8:=if 1≤l.length∧l.drop (l.length - 1)= [10] then l.take (l.length - 1) else l
theorem Mj (l:List UInt8) (hl:l.length≤1000000):Pu Tryz.prog 245 [.str l, .str [10]] (.bool (decide (1≤l.length∧l.drop (l.length - 1)= [10]))):=by
 have q1:True:=trivial
 have hw:True:=trivial
 by_cases h:1≤l.length
 ·have q1:decide ((((1:Nat):Int))≤(l.length:Int))=true:=by simp;omega
  have hw:IntKind.i64.wrap ((l.length:Int) - ((1:Nat):Int))=((l.length - 1:Nat):Int):=by rw [wrap64 (by omega) (by omega)];omega
  (refine an Bi JC fun σ=>?_;simp only [Bi,↓R1,RR,Nat.reduceEqDiff,reduceCtorEq,hw,q1])
  repeat' (with_reducible refine And.intro ?_ ?_;focus (intros;(repeat' (with_reducible apply And.intro))<;>first|omega|(simp only [RZ,au];omega)))
  all_goals first|omega|skip
  (refine ak (ad ?_))
  (simp only [ao,↓R1,RR,Nat.reduceEqDiff,reduceCtorEq,hw,q1])
  have e:(l.drop (l.length - 1)).take (l.length - (l.length - 1))=l.drop (l.length - 1):=List.take_of_length_le (by simp)
  rw [e]
  by_cases h2:l.drop (l.length - 1)= [10]<;>simp [h,h2]
 ·have q1:decide ((((1:Nat):Int))≤(l.length:Int))=false:=by simp;omega
  (refine an Bi JC fun σ=>?_;simp only [Bi,↓R1,RR,Nat.reduceEqDiff,reduceCtorEq,hw,q1])
  skip
  (refine ak (ad ?_))
  (simp only [ao,↓R1,RR,Nat.reduceEqDiff,reduceCtorEq,hw,q1])
  simp [h]
theorem Mk (l:List UInt8) (hl:l.length≤1000000):Pu Tryz.prog 197 [.str l, .str [10]] (.str (kv l)):=by
 have hw:True:=trivial
 have hp:=Mj l hl
 by_cases h:1≤l.length∧l.drop (l.length - 1)= [10]
 ·have hw:IntKind.i64.wrap ((l.length:Int) - ((1:Nat):Int))=((l.length - 1:Nat):Int):=by rw [wrap64 (by omega) (by omega)];omega
  rw [decide_eq_true h] at hp
  (refine an Bh JB fun σ=>?_;simp only [Bh,↓R1,RR,Nat.reduceEqDiff,reduceCtorEq,hw])
  repeat' (first|(with_reducible refine And.intro ?_ ?_;focus (intros;(repeat' (with_reducible apply And.intro))<;>first|omega|(simp only [RZ,au];omega)))|((refine Pt (hp) ?_)<;>(try simp only [↓R1,RR,Nat.reduceEqDiff,reduceCtorEq,hw])))
  skip
  all_goals first|omega|skip
  (refine ak (ad ?_))
  (simp only [ao,↓R1,RR,Nat.reduceEqDiff,reduceCtorEq,hw])
  simp [kv,h]
 ·rw [decide_eq_false h] at hp
  (refine an Bh JB fun σ=>?_;simp only [Bh,↓R1,RR,Nat.reduceEqDiff,reduceCtorEq,hw])
  repeat' ((refine Pt (hp) ?_)<;>(try simp only [↓R1,RR,Nat.reduceEqDiff,reduceCtorEq,hw]))
  (refine ak (ad ?_))
  (simp only [ao,↓R1,RR,Nat.reduceEqDiff,reduceCtorEq,hw])
  simp [kv,h]
theorem Ml (l:List UInt8) (hl:l.length≤1000000):Pu Tryz.prog 148 [.str l, .str [10]] (.str (kv l)):=by
 (refine an GH KA fun σ=>?_;simp only [GH,↓R1,RR,Nat.reduceEqDiff,reduceCtorEq])
 repeat' ((refine Pt (Mk l hl) ?_)<;>(try simp only [↓R1,RR,Nat.reduceEqDiff,reduceCtorEq]))
 (refine ak (ad ?_))
 (simp only [ao,↓R1,RR,Nat.reduceEqDiff,reduceCtorEq])
theorem yv (x:List UInt8):kv (x++ [10])=x:=by
 have h1:(x++ [10]:List UInt8).length - 1=x.length:=by simp
 unfold kv
 rw [h1,List.drop_left,if_pos ⟨by simp,rfl⟩,List.take_left]
theorem yw {l:List UInt8} (h:cj l= []):kv l=l:=by
  unfold kv
  rw [if_neg]
  rintro ⟨h1,h2⟩
  have hl:=eR l
  rw [h,List.append_nil] at hl
  have hm:(10:UInt8)∈ba l:=by
    rw [hl]
    exact List.mem_of_mem_drop (i:=l.length - 1) (by rw [h2];simp)
  have:∀ m:List UInt8,(10:UInt8)∈ba m→False:=by
    intro m
    induction m with
    | nil=>intro h;simp [ba] at h
    | cons c m ih =>
      intro h
      simp only [ba,List.takeWhile_cons] at h
      split at h
      · rename_i hc
        rcases List.mem_cons.1 h with e|h
        · subst e;simp at hc
        · exact ih h
      · simp at h
  exact this l hm
def cRw (r:Rw):List AV:= [.int .i64 (r.a:Nat), .sl false r.ws.length (r.ws.flatMap cWd)]
theorem bN (l:List Rw):(l.flatMap cRw).length=l.length*2:=aS (f:=cRw) (fun _=>rfl) l
def dA (e a:Nat):AV:= .agg [.int .i64 (e:Nat), .int .i64 (a:Nat)]
def eI:Except (Nat × Nat) (List Rw)→AV
 | .error (e,a)=> .tup [.sl false 0 [],dA e a]
 | .ok rs=> .tup [.sl false rs.length (rs.flatMap cRw),dA 0 0]
theorem mj (σ:St) {β γ:Nat} [h:Apart γ β] (a b:List AV):(σ.ae β a).ae γ b=(σ.ae γ b).ae β a:=by
 simp only [St.ae,St.mk.injEq,and_true]
 funext j
 simp only [upd]
 by_cases h1:j=γ
 ·subst h1;rw [if_pos rfl,if_neg h.ne,if_pos rfl]
 ·rw [if_neg h1,if_neg h1]
theorem yx (σ:St) {β γ δ ε ζ:Nat} [Apart β γ] [Apart β δ] [Apart β ε] [Apart β ζ] (a b d e f c:List AV):(((((σ.ae β a).ae γ b).ae δ d).ae ε e).ae ζ f).ae β c=((((σ.ae β c).ae γ b).ae δ d).ae ε e).ae ζ f:=by
 rw [mj _ (β:=ζ) (γ:=β),mj _ (β:=ε) (γ:=β),mj _ (β:=δ) (γ:=β),mj _ (β:=γ) (γ:=β),St.set_set]
structure RG where
 a:Nat
 rs:List Rw
def TR (σ:St) (b2 b3 b4 b5 β0 β1 β2 τ:Nat) (g:RG) (rest:List UInt8):St :=
 (((((((((σ.ae b2 [AV.nils]).ae b3 [AV.int IntKind.i64 0,AV.int IntKind.i64 0]).ae b4 [AV.nils]).ae b5 [AV.int IntKind.i64 (g.a:Nat)]).ae β0 [AV.str rest]).ae β1 [AV.str [10]]).ae β2 [AV.int IntKind.i64 1]).ae b4 [AV.tsl τ g.rs.length (g.rs.flatMap cRw)]).al τ (80,2,g.rs.length))
theorem sr {x:List UInt8} {a b:Nat} (h:¬ 1000<x.length) (hw:cL x= .error b):ca x a= .error (3,a+b):=by
 simp only [ca,if_neg h,hw]
theorem ss {x:List UInt8} {a:Nat} (h:¬ 1000<x.length) (hw:cL x= .ok []):ca x a= .ok []:=by
 simp only [ca,if_neg h,hw]
theorem qb {x:List UInt8} {a:Nat} {ws:List Wd} (h:¬ 1000<x.length) (hw:cL x= .ok ws) (hn:ws≠ []):ca x a= .ok [⟨a,ws.map (dz a)⟩]:=by
 cases ws with
 | nil=>exact (hn rfl).elim
 | cons w ws=>simp only [ca,if_neg h,hw]
theorem su (σ:St) {x:List UInt8} {ws:List Wd} (hl:x.length≤1000000) (hw:cL x= .ok ws) (hn:ws≠ []) :
  AC Tryz.prog 149 [.str x] σ (fun r s=>∃ β k,σ.box β=none∧r= .tup (.psl β 0 ws.length:: [.int .i64 0, .bool true])∧s=σ.ae β (ws.flatMap cWd++List.replicate k .junk)):=by
 refine AC.owned (e:=109) (es:=3) (enters_of Tryz.func149 (by kernel_rfl) rfl) (by simp [gnd]) (by simp [gnd]) ?_ (by simpa using hn) ?_
 ·intro a ha
  simp only [List.mem_flatMap,cWd] at ha
  obtain ⟨w,_,hw⟩:=ha
  simp at hw
  rcases hw with rfl|rfl|rfl<;>rfl
 ·have h:=qa (s0 fun _=>none) x hl
  rw [hw] at h
  refine h.mono ?_
  rintro r s ⟨τ,_,rfl,rfl⟩
  cases ws with
  | nil=>exact (hn rfl).elim
  | cons w ws=>exact ⟨τ,rfl,rfl⟩
theorem nz {s s':St} {L:Nat} {x:LO × Fr} (h:St.le s s') (hn:s.lp L=none):St.le s ((s'.aB L x).dropLp L):=by
 refine ⟨h.1,h.2.1,h.2.2.1,fun l r hr=>?_,h.2.2.2.2⟩
 have hne:l≠L:=by rintro rfl;rw [hn] at hr;cases hr
 simp only [St.dropLp,St.aB,upd,if_neg hne]
 exact h.2.2.2.1 _ _ hr
theorem jU (l:List UInt8):lines l=ba l::(match (cut l).2 with|none=> []|some r'=>lines r'):=by
  rw [mW]
  cases ha:cj l with
  | nil =>
    have h1:=eR l
    rw [ha,List.append_nil] at h1
    rw [kr ha,h1]
  | cons c r=>rw [(ku ha).1]
theorem B6 {σ:St} {γ:Nat} {c:List AV} (h:σ.box γ=none):(σ.ae γ c).cw γ=σ:=by
 simp only [St.cw,St.ae]
 have:(fun j=>if j=γ then none else upd σ.box γ c j)=σ.box:=by
  funext j
  simp only [upd]
  split
  ·rename_i e;subst e;exact h.symm
  ·rfl
 rw [this]
def shG (a:Nat) (ws:List Wd) (k:Nat) (j:List AV):List AV:=((ws.take k).map (dz a)++ws.drop k).flatMap cWd++j
theorem B7 (a:Nat) (ws:List Wd) (j:List AV):shG a ws 0 j=ws.flatMap cWd++j:=by simp [shG]
theorem ES (a:Nat) (ws:List Wd) (j:List AV):(shG a ws ws.length j).take (ws.length*3)=(ws.map (dz a)).flatMap cWd:=by
 have h:=au (ws.map (dz a))
 simp only [shG,List.take_length,List.drop_length,List.append_nil]
 rw [List.take_append_of_le_length (by rw [h];simp)]
 rw [List.take_of_length_le (by rw [h];simp)]
theorem ET (a:Nat) (ws:List Wd) (k:Nat) (hk:k≤ws.length) (j:List AV):(shG a ws k j).length=ws.length*3+j.length:=by
 simp only [shG,List.length_append,au,List.length_map,List.length_take,List.length_drop]
 omega
theorem Ie (a:Nat) (ws:List Wd) {k:Nat} (hk:k<ws.length) (j:List AV) :
  (shG a ws k j)[k*3+2]? =some (.int .i64 (ws[k].a:Nat))∧(shG a ws k j).take (k*3+2)++ [AV.int .i64 ((ws[k].a+a:Nat):Int)]++(shG a ws k j).drop (k*3+2+1)=shG a ws (k+1) j:=by
 obtain ⟨p,hp⟩:∃ p,((ws.take k).map (dz a)).flatMap cWd=p:=⟨_,rfl⟩
 have hpl:p.length=k*3:=by rw [←hp,au];simp;omega
 obtain ⟨s,hs⟩:∃ s,(ws.drop (k+1)).flatMap cWd++j=s:=⟨_,rfl⟩
 have e1:shG a ws k j=(p++ [AV.bool ws[k].q,AV.str ws[k].t])++(AV.int .i64 (ws[k].a:Nat)::s):=by
  rw [shG,List.drop_eq_getElem_cons hk,List.flatMap_append,hp,List.flatMap_cons,←hs]
  simp [cWd]
 have e2:shG a ws (k+1) j=(p++ [AV.bool ws[k].q,AV.str ws[k].t])++(AV.int .i64 ((ws[k].a+a:Nat):Int)::s):=by
  rw [shG,←List.take_append_getElem hk,List.map_append,List.flatMap_append,List.flatMap_append,hp,←hs]
  simp [cWd,dz]
 have hl:(p++ [AV.bool ws[k].q,AV.str ws[k].t]).length=k*3+2:=by simp [hpl]
 rw [e1,e2]
 refine ⟨?_,?_⟩
 ·rw [List.getElem?_append_right (by omega),hl,Nat.sub_self];rfl
 ·rw [List.take_left' hl,List.drop_append,List.drop_of_length_le (by omega),hl]
  simp
set_option maxHeartbeats 4000000 in
theorem p87 (l:List UInt8) (hl:l.length≤1000000):Pu Tryz.prog 87 [.str l] (eI (dt l)):=by
  have q1:True:=trivial
  have q2:True:=trivial
  have q3:True:=trivial
  have q4:True:=trivial
  have q5:True:=trivial
  have hw:True:=trivial
  have t2:True:=trivial
  have t3:True:=trivial
  have t4:True:=trivial
  have t5:True:=trivial
  have ttip:True:=trivial
  have s5:True:=trivial
  have tl:True:=trivial
  by_cases hlong:20000<l.length
  · have q1:decide ((20000:Int)<(l.length:Int))=true:=by rw [decide_eq_true_eq];omega
    have e:dt l= .error (4,20000):=by simp only [dt,if_pos hlong]
    rw [e]
    (refine an c87 b87 fun σ=>?_;simp only [c87,↓R1,RR,seval,bF,cH,aJ,aI,q1,q2,q3,q4,q5,hw,t2,t3,t4,t5,ttip,s5,tl])
    repeat' (first|(with_reducible rw [ai])|((with_reducible intro β hβ;(try simp only [RB] at hβ);(repeat (obtain ⟨⟨_,_⟩,hβ⟩:=hβ));(try (have hbis:=ah (by assumption) hβ;obtain ⟨_,_⟩:=hbis)))<;>(try simp only [↓R1,RR,seval,bF,cH,aJ,aI,q1,q2,q3,q4,q5,hw,t2,t3,t4,t5,ttip,s5,tl])))
    (refine ak ?_ (by first|(simp [aj,rvS];done)|(simp only [aj,rvS,↓R1,RR,seval,bF,cH,aJ,aI,q1,q2,q3,q4,q5,hw,t2,t3,t4,t5,ttip,s5,tl];try simp)))
    simp only [ao,↓R1,RR,seval,bF,cH,aJ,aI,q1,q2,q3,q4,q5,hw,t2,t3,t4,t5,ttip,s5,tl]
    simp only [eI,dA]
    (repeat' (first|exact af _|exact bz|exact ay _ _ _|exact aq _ _|exact wkL.nil|exact aa _|refine c9 ?_|refine cR ?_|refine wkL.cons ?_ ?_))
  · have q1:decide ((20000:Int)<(l.length:Int))=false:=by rw [decide_eq_false_iff_not];omega
    have e:dt l=cJ (lines l) 0:=by simp only [dt,if_neg hlong]
    rw [e]
    (refine an c87 b87 fun σ=>?_;simp only [c87,↓R1,RR,seval,bF,cH,aJ,aI,q1,q2,q3,q4,q5,hw,t2,t3,t4,t5,ttip,s5,tl])
    rw [ai];intro b2 h2;simp only [↓R1,RR,seval,bF,cH,aJ,aI,q1,q2,q3,q4,q5,hw,t2,t3,t4,t5,ttip,s5,tl]
    rw [ai];intro b3 h3;rw [St.bf] at h3;obtain ⟨⟨_,_⟩,h3⟩:=h3;simp only [↓R1,RR,seval,bF,cH,aJ,aI,q1,q2,q3,q4,q5,hw,t2,t3,t4,t5,ttip,s5,tl]
    rw [ai];intro b4 h4;simp only [St.bf] at h4;obtain ⟨⟨_,_⟩,⟨_,_⟩,h4⟩:=h4;simp only [↓R1,RR,seval,bF,cH,aJ,aI,q1,q2,q3,q4,q5,hw,t2,t3,t4,t5,ttip,s5,tl]
    rw [ai];intro b5 h5;simp only [St.bf] at h5;obtain ⟨⟨_,_⟩,⟨_,_⟩,⟨_,_⟩,h5⟩:=h5;simp only [↓R1,RR,seval,bF,cH,aJ,aI,q1,q2,q3,q4,q5,hw,t2,t3,t4,t5,ttip,s5,tl]
    refine (AC.wk (ER _ l) (aa _)).mono ?_
    rintro _ _ ⟨β0,β1,β2,k0,k1,k2,⟨_,_⟩,⟨_,_⟩,⟨_,_⟩,rfl,rfl⟩
    simp only [St.bf] at k0 k1 k2
    obtain ⟨⟨_,_⟩,⟨_,_⟩,⟨_,_⟩,⟨_,_⟩,⟨_,_⟩,k0⟩:=k0
    obtain ⟨⟨_,_⟩,⟨_,_⟩,⟨_,_⟩,⟨_,_⟩,⟨_,_⟩,k1⟩:=k1
    obtain ⟨⟨_,_⟩,⟨_,_⟩,⟨_,_⟩,⟨_,_⟩,⟨_,_⟩,k2⟩:=k2
    simp only [↓R1,RR,seval,bF,cH,aJ,aI,q1,q2,q3,q4,q5,hw,t2,t3,t4,t5,ttip,s5,tl]
    refine fk [(true,4,0,80,2)] ?_
    simp only [cW,List.set_cons_zero,↓R1,RR,seval,bF,cH,aJ,aI,q1,q2,q3,q4,q5,hw,t2,t3,t4,t5,ttip,s5,tl]
    intro τ hτ
    refine ⟨_,_,rfl,?_⟩
    obtain ⟨T,hT⟩:∃ T,T=TR σ b2 b3 b4 b5 β0 β1 β2 τ:=⟨_,rfl⟩
    have t0:∀ g r,(T g r).box β0=some [.str r]:=fun g r=>by subst hT;simp only [TR,↓R1,RR,seval,bF,cH,aJ,aI,q1,q2,q3,q4,q5,hw,t2,t3,t4,t5,ttip,s5,tl]
    have t1:∀ g r,(T g r).box β1=some [.str [10]]:=fun g r=>by subst hT;simp only [TR,↓R1,RR,seval,bF,cH,aJ,aI,q1,q2,q3,q4,q5,hw,t2,t3,t4,t5,ttip,s5,tl]
    have t22:∀ g r,(T g r).box β2=some [.int .i64 1]:=fun g r=>by subst hT;simp only [TR,↓R1,RR,seval,bF,cH,aJ,aI,q1,q2,q3,q4,q5,hw,t2,t3,t4,t5,ttip,s5,tl]
    have t2:∀ g r,(T g r).box b2=some [.nils]:=fun g r=>by subst hT;simp only [TR,↓R1,RR,seval,bF,cH,aJ,aI,q1,q2,q3,q4,q5,hw,t2,t3,t4,t5,ttip,s5,tl]
    have t3:∀ g r,(T g r).box b3=some [.int .i64 0, .int .i64 0]:=fun g r=>by subst hT;simp only [TR,↓R1,RR,seval,bF,cH,aJ,aI,q1,q2,q3,q4,q5,hw,t2,t3,t4,t5,ttip,s5,tl]
    have t4:∀ g r,(T g r).box b4=some [.tsl τ g.rs.length (g.rs.flatMap cRw)]:=fun g r=>by subst hT;simp only [TR,↓R1,RR,seval,bF,cH,aJ,aI,q1,q2,q3,q4,q5,hw,t2,t3,t4,t5,ttip,s5,tl]
    have t5:∀ g r,(T g r).box b5=some [.int .i64 (g.a:Nat)]:=fun g r=>by subst hT;simp only [TR,↓R1,RR,seval,bF,cH,aJ,aI,q1,q2,q3,q4,q5,hw,t2,t3,t4,t5,ttip,s5,tl]
    have ttip:∀ g r,(T g r).tip τ=some (80,2,g.rs.length):=fun g r=>by subst hT;simp only [TR,↓R1,RR,seval,bF,cH,aJ,aI,q1,q2,q3,q4,q5,hw,t2,t3,t4,t5,ttip,s5,tl]
    have s0:∀ g r r',(T g r).ae β0 [.str r']=T g r':=fun g r r'=>by subst hT;simp only [TR,↓R1,RR,seval,bF,cH,aJ,aI,q1,q2,q3,q4,q5,hw,t2,t3,t4,t5,ttip,s5,tl]
    have s5:∀ (g:RG) r (a':Nat) L x,((T g r).aB L x).ae b5 [.int .i64 a']=(T ⟨a',g.rs⟩ r).aB L x:=fun g r a' L x=>by
      subst hT;rw [←St.eG];simp only [TR,yx,↓R1,RR,seval,bF,cH,aJ,aI,q1,q2,q3,q4,q5,hw,t2,t3,t4,t5,ttip,s5,tl]
    have s4:∀ (g:RG) r rs' L x,(((T g r).aB L x).ae b4 [.tsl τ rs'.length (rs'.flatMap cRw)]).al τ (80,2,rs'.length)=(T ⟨g.a,rs'⟩ r).aB L x:=fun g r rs' L x=>by
      subst hT;rw [←St.eG,←St.kd];simp only [TR,↓R1,RR,seval,bF,cH,aJ,aI,q1,q2,q3,q4,q5,hw,t2,t3,t4,t5,ttip,s5,tl]
    have tl:∀ g r,(T g r).lp=σ.lp:=fun g r=>by subst hT;rfl
    have tle:∀ g r,St.le σ (T g r):=fun g r=>by
      subst hT
      refine St.fA (St.aA (St.aA (St.aA (St.aA (St.aA (St.aA (St.aA (St.aA (St.le_refl σ) h2) h3) h4) h5) k0) k1) k2) h4) hτ
    have hst:((((((((((σ.ae b2 [AV.nils]).ae b3 [AV.int IntKind.i64 0,AV.int IntKind.i64 0]).ae b4 [AV.nils]).ae b5 [AV.int IntKind.i64 0]).ae β0 [AV.str l]).ae β1 [AV.str [10]]).ae β2 [AV.int IntKind.i64 1]).ae b4 [AV.tsl τ 0 []]).al τ (80,2,0)))=T ⟨0,[]⟩ l:=by
      subst hT;rfl
    rw [hst]
    clear hst
    refine B5 T (fun g rest=>rest.length≤l.length∧g.a=l.length - rest.length∧g.rs.length≤g.a∧cJ (lines l) 0=dM (.ok g.rs) (cJ (lines rest) g.a)) (fun g=>cJ (lines l) 0= .ok g.rs∧g.rs.length≤l.length+1) rfl _ _ ⟨Nat.le_refl _,by simp,Nat.zero_le _,by rw [k7]⟩ t0 t1 t22 s0 (fun g r L=>by rw [tl,tl]) (fun g r h=>Nat.le_trans h.1 hl) ?_ ?_
    · rintro L r g rest hL ⟨i1,i2,i3,i4⟩
      have hL0:σ.lp L=none:=by rw [tl] at hL;exact hL
      have hcut:(kv (cut rest).1=ba rest)∧(cut rest).1.length≤rest.length∧(ba rest).length≤(cut rest).1.length:=by
        cases ha:cj rest with
        | nil =>
          have h1:=eR rest
          rw [ha,List.append_nil] at h1
          rw [kr ha,h1]
          exact ⟨yw ha,Nat.le_refl _,Nat.le_refl _⟩
        | cons c r' =>
          obtain ⟨k1,k2,k3,k4⟩:=ku ha
          rw [k1]
          exact ⟨yv _,by simpa using k4,by simp⟩
      obtain ⟨hc1,hc2,hc3⟩:=hcut
      have hw:IntKind.i64.wrap ((g.a:Int)+((cut rest).1.length:Int))=((g.a+(cut rest).1.length:Nat):Int):=by rw [wrap64 (by omega) (by omega)];omega
      have ht:=Ml (cut rest).1 (by omega)
      rw [hc1] at ht
      have fin:∀ nw:List Rw,ca (ba rest) g.a= .ok nw→nw.length≤1→match (cut rest).2 with
          | none=>cJ (lines l) 0= .ok (g.rs++nw)∧(g.rs++nw).length≤l.length+1
          | some r'=>r'.length≤l.length∧g.a+(cut rest).1.length=l.length - r'.length∧(g.rs++nw).length≤g.a+(cut rest).1.length∧cJ (lines l) 0=dM (.ok (g.rs++nw)) (cJ (lines r') (g.a+(cut rest).1.length)):=by
        intro nw h1 h2
        rw [jU rest] at i4
        simp only [cJ,h1] at i4
        rw [←lB] at i4
        have hb:dM (.ok g.rs) (.ok nw)= .ok (g.rs++nw):=rfl
        rw [hb] at i4
        have hn:(g.rs++nw).length≤g.a+1:=by simp;omega
        cases ha:cj rest with
        | nil =>
          rw [kr ha] at i4 ⊢
          simp only [cJ,kg] at i4 ⊢
          exact ⟨i4,by omega⟩
        | cons c r' =>
          obtain ⟨k1,k2,k3,k4⟩:=ku ha
          rw [k1] at i4 ⊢
          have hr':r'.length=rest.length - ((ba rest).length+1):=by rw [←k3];simp
          simp only [List.length_append,List.length_cons,List.length_nil] at i4 hn ⊢
          refine ⟨by omega,by omega,by omega,?_⟩
          rw [i4]
          congr 2
      simp only [jt,↓R1,RR,seval,bF,cH,aJ,aI,q1,q2,q3,q4,q5,hw,t2,t3,t4,t5,ttip,s5,tl]
      by_cases h1000:1000<(ba rest).length
      · have q2:decide ((1000:Int)<((ba rest).length:Int))=true:=by rw [decide_eq_true_eq];omega
        have hrr:cJ (lines l) 0= .error (4,g.a):=by rw [i4,jU];simp only [cJ,ca,if_pos h1000,dM]
        repeat' ((refine Pt (ht) ?_)<;>(try simp only [↓R1,RR,seval,bF,cH,aJ,aI,q1,q2,q3,q4,q5,hw,t2,t3,t4,t5,ttip,s5,tl]))
        rw [hrr]
        refine ak ?_ (by first|(simp [aj,rvS];done)|(simp only [aj,rvS,↓R1,RR,seval,bF,cH,aJ,aI,q1,q2,q3,q4,q5,hw,t2,t3,t4,t5,ttip,s5,tl];try simp)) (St.aA (St.aA (nz (tle _ _) hL0) h2) h3)
        simp only [ao,↓R1,RR,seval,bF,cH,aJ,aI,q1,q2,q3,q4,q5,hw,t2,t3,t4,t5,ttip,s5,tl]
        simp only [eI,dA]
        (repeat' (first|exact af _|exact bz|exact ay _ _ _|exact aq _ _|exact wkL.nil|exact aa _|refine c9 ?_|refine cR ?_|refine wkL.cons ?_ ?_))
      · have q2:decide ((1000:Int)<((ba rest).length:Int))=false:=by rw [decide_eq_false_iff_not];omega
        have hll:(ba rest).length≤1000000:=by omega
        cases hws:cL (ba rest) with
        | error b =>
          have hrr:cJ (lines l) 0= .error (3,g.a+b):=by rw [i4,jU];simp only [cJ,sr h1000 hws,dM]
          have ha:∀ s,AC Tryz.prog 149 [.str (ba rest)] s (fun r s'=>r= .tup [.nils, .int .i64 (b:Nat), .bool false]∧s'=s):=fun s=>by
            have:=qa s (ba rest) hll
            rwa [hws] at this
          have hb:b≤1000000:=by have:=yh hws;omega
          have q3:IntKind.i64.wrap ((g.a:Int)+(b:Int))=((g.a+b:Nat):Int):=by rw [wrap64 (by omega) (by omega)];omega
          repeat' ((first|(refine Pt (ht) ?_)|((refine AC.mono (AC.wk (ha _) (aa _)) ?_;(rintro _ _ ⟨rfl,rfl⟩))))<;>(try simp only [↓R1,RR,seval,bF,cH,aJ,aI,q1,q2,q3,q4,q5,hw,t2,t3,t4,t5,ttip,s5,tl]))
          rw [hrr]
          refine ak ?_ (by first|(simp [aj,rvS];done)|(simp only [aj,rvS,↓R1,RR,seval,bF,cH,aJ,aI,q1,q2,q3,q4,q5,hw,t2,t3,t4,t5,ttip,s5,tl];try simp)) (St.aA (St.aA (nz (tle _ _) hL0) h2) h3)
          simp only [ao,↓R1,RR,seval,bF,cH,aJ,aI,q1,q2,q3,q4,q5,hw,t2,t3,t4,t5,ttip,s5,tl]
          simp only [eI,dA]
          (repeat' (first|exact af _|exact bz|exact ay _ _ _|exact aq _ _|exact wkL.nil|exact aa _|refine c9 ?_|refine cR ?_|refine wkL.cons ?_ ?_))
        | ok ws =>
          by_cases hne:ws= []
          · subst hne
            have hrr:=ss (a:=g.a) h1000 hws
            have ha:∀ s,AC Tryz.prog 149 [.str (ba rest)] s (fun r s'=>r= .tup [.nils, .int .i64 0, .bool true]∧s'=s):=fun s=>by
              have:=qa s (ba rest) hll
              rw [hws] at this
              refine this.mono ?_
              rintro r s' ⟨τ',_,rfl,rfl⟩
              exact ⟨rfl,rfl⟩
            have q3:decide (((0:Int))<((0:Nat):Int))=false:=rfl
            repeat' ((first|(refine Pt (ht) ?_)|((refine AC.mono (AC.wk (ha _) (aa _)) ?_;(rintro _ _ ⟨rfl,rfl⟩))))<;>(try simp only [↓R1,RR,seval,bF,cH,aJ,aI,q1,q2,q3,q4,q5,hw,t2,t3,t4,t5,ttip,s5,tl]))
            refine cS (α:=Unit) (fun _=> [(4, .ptr b4 0),(7, .int .i64 (g.a:Nat)),(8, .nils),(44, .int .i64 ((0:Nat):Int)),(45, .int .i64 0)]) (fun _=>_) (fun _=>True) (fun _=>0) () (by simp [az,slot,af]) (St.le_refl _) trivial ?_
            rintro _ _
            simp only [↓R1,RR,seval,bF,cH,aJ,aI,q1,q2,q3,q4,q5,hw,t2,t3,t4,t5,ttip,s5,tl]
            skip
            refine ⟨⟨g.a+(cut rest).1.length,g.rs⟩,St.le_refl _,?_⟩
            have hfin:=fin [] hrr (by simp)
            simp only [List.append_nil] at hfin
            exact hfin
          · have hrr:=qb (a:=g.a) h1000 hws hne
            obtain ⟨hwl,hwa⟩:=yi hws
            repeat' ((refine Pt (ht) ?_)<;>(try simp only [↓R1,RR,seval,bF,cH,aJ,aI,q1,q2,q3,q4,q5,hw,t2,t3,t4,t5,ttip,s5,tl]))
            refine (AC.wk (su _ hll hws hne) (aa _)).mono ?_
            rintro _ _ ⟨γ,k,hγ,rfl,rfl⟩
            simp only [St.bf,St.gx] at hγ
            obtain ⟨⟨_,_⟩,hγ⟩:=hγ
            obtain ⟨_,_⟩:=ah (σ:=T g rest) (β:=b4) (γ:=γ) ⟨t4 g rest⟩ hγ
            simp only [↓R1,RR,seval,bF,cH,aJ,aI,q1,q2,q3,q4,q5,hw,t2,t3,t4,t5,ttip,s5,tl]
            refine bK ws.length (fun i=> [(4, .ptr b4 0),(7, .int .i64 (g.a:Nat)),(8, .psl γ 0 ws.length),(44, .int .i64 (ws.length:Nat)),(45, .int .i64 (i:Nat))]) (fun i=>((T ⟨g.a+(cut rest).1.length,g.rs⟩ rest).aB L (busy r,_)).ae γ (shG g.a ws i (List.replicate k .junk))) (fun _=>True) (by simp [az,slot,af]) (by rw [B7];exact St.le_refl _) trivial (fun i hi _=>?_)
            have hsl:=ET g.a ws i hi (List.replicate k .junk)
            simp only [↓R1,RR,seval,bF,cH,aJ,aI,q1,q2,q3,q4,q5,hw,t2,t3,t4,t5,ttip,s5,tl]
            by_cases hin:i<ws.length
            · have q3:decide ((i:Int)<(ws.length:Int))=true:=by rw [decide_eq_true_eq];omega
              obtain ⟨g1,g2⟩:=Ie g.a ws hin (List.replicate k .junk)
              have hwk:=hwa ws[i] (List.getElem_mem hin)
              have q4:=g1
              have hw2:IntKind.i64.wrap ((ws[i].a:Int)+(g.a:Int))=((ws[i].a+g.a:Nat):Int):=by rw [wrap64 (by omega) (by omega)];omega
              have q5:=hw2
              simp only [q3,↓R1,RR,seval,bF,cH,aJ,aI,q1,q2,q3,q4,q5,hw,t2,t3,t4,t5,ttip,s5,tl]
              repeat' (first|(with_reducible refine And.intro ?_ ?_;focus (intros;(repeat' (with_reducible apply And.intro))<;>first|omega|(simp only [RZ,au,bN];omega)))|(with_reducible apply And.intro))
              · (simp only [az,slot,af,↓R1,RR,seval,bF,cH,aJ,aI,q1,q2,q3,q4,q5,hw,t2,t3,t4,t5,ttip,s5,tl];(repeat' (with_reducible apply And.intro))<;>first|exact bU (by have:=av;omega)|exact ay _ _ _|exact aq _ _|exact ad (congrArg (AV.tsl _ _) (flat_step (by assumption))))
              · rw [g2];exact St.le_refl _
            · have q3:decide ((i:Int)<(ws.length:Int))=false:=by rw [decide_eq_false_iff_not];omega
              have hie:i=ws.length:=by omega
              subst hie
              have q4:(ws.length*3).ble (shG g.a ws ws.length (List.replicate k AV.junk)).length=true:=Nat.ble_eq_true_of_le (by rw [hsl];omega)
              have hwp:0<ws.length:=List.length_pos_iff.2 hne
              simp only [q3,↓R1,RR,seval,bF,cH,aJ,aI,q1,q2,q3,q4,q5,hw,t2,t3,t4,t5,ttip,s5,tl]
              have hγ2:(T ⟨g.a+(cut rest).1.length,g.rs⟩ rest).box γ=none:=by
                have h:(((T g rest).aB L (r,[])).ae b5 [.int .i64 ((g.a+(cut rest).1.length:Nat):Int)]).box γ=none:=by
                  rw [St.bf];exact ⟨⟨by assumption,by assumption⟩,hγ⟩
                rw [s5] at h
                exact h
              rw [ES,B6 (σ:=(T ⟨g.a+(cut rest).1.length,g.rs⟩ rest).aB L _) hγ2]
              have q3:decide ((0:Int)<(ws.length:Int))=true:=by rw [decide_eq_true_eq];omega
              simp only [q3,↓R1,RR,seval,bF,cH,aJ,aI,q1,q2,q3,q4,q5,hw,t2,t3,t4,t5,ttip,s5,tl]
              repeat' (((first|(refine bQ (.inr rfl) rfl ?_ ?_ ?_ ?_ ?_ ?_;(first|rfl|exact St.bg _ _ _|(simp only [↓R1,RR,seval,bF,cH,aJ,aI,q1,q2,q3,q4,q5,hw,t2,t3,t4,t5,ttip,s5,tl]));(first|omega|(simp only [RZ,au,bN,List.length_nil,List.length_cons];omega)|(simp only [RZ,au,bN,List.length_nil,List.length_cons]));(first|rfl|first|omega|(simp only [RZ,au,bN,List.length_nil,List.length_cons];omega)|(simp only [RZ,au,bN,List.length_nil,List.length_cons])))|(refine bD rfl ?_ ?_ ?_ ?_ ?_ ?_;(first|rfl|exact St.bg _ _ _|(simp only [↓R1,RR,seval,bF,cH,aJ,aI,q1,q2,q3,q4,q5,hw,t2,t3,t4,t5,ttip,s5,tl]));(first|omega|(simp only [RZ,au,bN,List.length_nil,List.length_cons];omega)|(simp only [RZ,au,bN,List.length_nil,List.length_cons]));(first|rfl|first|omega|(simp only [RZ,au,bN,List.length_nil,List.length_cons];omega)|(simp only [RZ,au,bN,List.length_nil,List.length_cons])))|(refine appV_own ?_ ?_ ?_ ?_;exact aS (by intro _;rfl) _)|(refine appD_own ?_ ?_ ?_ ?_ ?_;omega;exact aS (by intro _;rfl) _)|(refine appV_fresh rfl trivial rfl ?_ ?_ ?_ ?_ ?_;(first|rfl|first|omega|(simp only [RZ,au,bN,List.length_nil,List.length_cons];omega)|(simp only [RZ,au,bN,List.length_nil,List.length_cons]));(first|rfl|first|omega|(simp only [RZ,au,bN,List.length_nil,List.length_cons];omega)|(simp only [RZ,au,bN,List.length_nil,List.length_cons])))|(refine appD_fresh rfl trivial rfl ?_ ?_ ?_ ?_ ?_ ?_;omega;(first|rfl|first|omega|(simp only [RZ,au,bN,List.length_nil,List.length_cons];omega)|(simp only [RZ,au,bN,List.length_nil,List.length_cons]));(first|rfl|first|omega|(simp only [RZ,au,bN,List.length_nil,List.length_cons];omega)|(simp only [RZ,au,bN,List.length_nil,List.length_cons]))));(unfold maxLen;omega);omega)<;>(try simp only [↓R1,RR,seval,bF,cH,aJ,aI,q1,q2,q3,q4,q5,hw,t2,t3,t4,t5,ttip,s5,tl]))
              have e1:([AV.tsl τ (g.rs.length+1) (g.rs.flatMap cRw++ [AV.int .i64 (g.a:Nat),AV.sl false ws.length ((ws.map (dz g.a)).flatMap cWd)])]:List AV)= [AV.tsl τ (g.rs++ [(⟨g.a,ws.map (dz g.a)⟩:Rw)]).length ((g.rs++ [(⟨g.a,ws.map (dz g.a)⟩:Rw)]).flatMap cRw)]:=by
                simp [cRw]
              have e2:g.rs.length+1=(g.rs++ [(⟨g.a,ws.map (dz g.a)⟩:Rw)]).length:=by simp
              rw [e1,e2,s4]
              exact ⟨⟨g.a+(cut rest).1.length,g.rs++ [⟨g.a,ws.map (dz g.a)⟩]⟩,St.le_refl _,fin _ hrr (by simp)⟩
    · rintro g r ⟨j1,j2⟩
      rw [j1]
      simp only [↓R1,RR,seval,bF,cH,aJ,aI,q1,q2,q3,q4,q5,hw,t2,t3,t4,t5,ttip,s5,tl]
      have hl2:St.le σ (((T g r).ae b2 [AV.tsl τ g.rs.length (g.rs.flatMap cRw)]).ae b3 [AV.int IntKind.i64 0,AV.int IntKind.i64 0]):=St.aA (St.aA (tle g r) h2) h3
      refine ak ?_ (by first|(simp [aj,rvS];done)|(simp only [aj,rvS,↓R1,RR,seval,bF,cH,aJ,aI,q1,q2,q3,q4,q5,hw,t2,t3,t4,t5,ttip,s5,tl];try simp)) hl2
      simp only [ao,↓R1,RR,seval,bF,cH,aJ,aI,q1,q2,q3,q4,q5,hw,t2,t3,t4,t5,ttip,s5,tl]
      simp only [eI,dA]
      (repeat' (first|exact af _|exact bz|exact ay _ _ _|exact aq _ _|exact wkL.nil|exact aa _|refine c9 ?_|refine cR ?_|refine wkL.cons ?_ ?_))
def eM (b:UInt8):Bool:= !(decide ((b.toNat:Int)<48)||decide ((57:Int)<b.toNat))
def cY (l:List UInt8):Nat:=l.foldl (fun v b=>10*v+(b.toNat - 48)) 0
def kx (l:List UInt8):Bool:=decide (l.length≤20)&&(match l with | []=>false|c::r=> !(c == 48&& !r.isEmpty))&&l.all eM
def fT (l:List UInt8):AV:=bif kx l then .tup [.int .u64 ((cY l % 18446744073709551616:Nat):Int), .bool (decide (18446744073709551616≤cY l)), .bool true] else .tup [.int .u64 0, .bool false, .bool false]
theorem oS (l:List UInt8) {k:Nat} (h:k<l.length):cY (l.take (k+1))=10*cY (l.take k)+(l[k].toNat - 48):=by
 rw [←List.take_append_getElem h,cY,List.foldl_append];rfl
theorem lL (n:Nat):IntKind.u64.wrap (n:Int)=((n % 18446744073709551616:Nat):Int):=by
 rw [IntKind.wrap_u64];omega
theorem oT {b:UInt8}:eM b=true↔48≤b.toNat∧b.toNat≤57:=by
 simp only [eM,Bool.not_eq_true',Bool.or_eq_false_iff,decide_eq_false_iff_not];omega
def jm:List UInt8→Bool
 | []=>false
 | c::r=> !(c == 48&& !r.isEmpty)
theorem fP (l:List UInt8):kx l=(decide (l.length≤20)&&jm l&&l.all eM):=by
 cases l<;>rfl
theorem Mm (n:Nat):IntKind.u64.wrap ((n:Int)*2^min (Int.toNat 3) IntKind.u64.bits)=((8*n % 18446744073709551616:Nat):Int):=by
 rw [show ((n:Int)*2^min (Int.toNat 3) IntKind.u64.bits)=((8*n:Nat):Int) by rw [show (2:Int)^min (Int.toNat 3) IntKind.u64.bits=8 from rfl];omega,lL]
theorem J4 (n:Nat):IntKind.u64.wrap ((n:Int)*2^min (Int.toNat 1) IntKind.u64.bits)=((2*n % 18446744073709551616:Nat):Int):=by
 rw [show ((n:Int)*2^min (Int.toNat 1) IntKind.u64.bits)=((2*n:Nat):Int) by rw [show (2:Int)^min (Int.toNat 1) IntKind.u64.bits=2 from rfl];omega,lL]
theorem add_mod (n:Nat):IntKind.u64.wrap (((8*n % 18446744073709551616:Nat):Int)+((2*n % 18446744073709551616:Nat):Int))=((10*n % 18446744073709551616:Nat):Int):=by
 rw [show (((8*n % 18446744073709551616:Nat):Int)+((2*n % 18446744073709551616:Nat):Int))=((8*n % 18446744073709551616+2*n % 18446744073709551616:Nat):Int) by omega,lL]
 congr 1;omega
theorem sw (V d:Nat):IntKind.u64.wrap (((10*(V % 18446744073709551616) % 18446744073709551616:Nat):Int)+(d:Int))=(((10*V+d) % 18446744073709551616:Nat):Int):=by
 rw [show (((10*(V % 18446744073709551616) % 18446744073709551616:Nat):Int)+(d:Int))=((10*(V % 18446744073709551616) % 18446744073709551616+d:Nat):Int) by omega,lL]
 congr 1;omega
theorem uN (V d:Nat) (hd:d≤9):((decide (18446744073709551616≤V)||decide ((1844674407370955161:Int)<((V % 18446744073709551616:Nat):Int)))||decide ((((10*V+d) % 18446744073709551616:Nat):Int)<((10*(V % 18446744073709551616) % 18446744073709551616:Nat):Int)))=decide (18446744073709551616≤10*V+d):=by
 rw [Bool.eq_iff_iff]
 simp only [Bool.or_eq_true,decide_eq_true_eq]
 by_cases hV:18446744073709551616≤V
 ·simp only [hV,true_or,true_iff];omega
 ·rw [Nat.mod_eq_of_lt (show V<18446744073709551616 by omega)]
  by_cases hb:1844674407370955161<V
  ·have h1:(1844674407370955161:Int)<(V:Int):=by omega
   simp only [h1,or_true,true_or,true_iff];omega
  ·rw [Nat.mod_eq_of_lt (show 10*V<18446744073709551616 by omega)]
   omega
theorem vH {b:UInt8} (h:eM b=true):IntKind.u8.wrap ((b.toNat:Int) - 48)=((b.toNat - 48:Nat):Int)∧b.toNat - 48≤9∧IntKind.u64.wrap ((b.toNat - 48:Nat):Int)=((b.toNat - 48:Nat):Int):=by
 have:=oT.1 h
 refine ⟨by simp [IntKind.wrap,IntKind.signed,IntKind.bits];omega,by omega,by rw [lL];congr 1;omega⟩
set_option maxHeartbeats 4000000 in
theorem Mn (l:List UInt8) (hl:l.length≤1000000):Pu Tryz.prog 250 [.str l] (fT l):=by
  have q1:True:=trivial
  have q2:True:=trivial
  have q3:True:=trivial
  have q4:True:=trivial
  have q5:True:=trivial
  have q6:True:=trivial
  have q7:True:=trivial
  have hw:True:=trivial
  have hd:True:=trivial
  have e1:True:=trivial
  have e2:True:=trivial
  have e3:True:=trivial
  have e4:True:=trivial
  have e5:True:=trivial
  by_cases hnil:l= []
  · subst hnil
    have q1:(([]:List UInt8) == [])=true:=rfl
    have e:fT []= .tup [.int .u64 0, .bool false, .bool false]:=rfl
    rw [e]
    (refine an pP Em fun σ=>?_;simp only [pP,↓R1,RR,Nat.reduceEqDiff,reduceCtorEq,q1,q2,q3,q4,q5,q6,q7,hw,hd,e1,e2,e3,e4,e5])
    skip
    (refine ak (ad ?_))
    (simp only [ao,↓R1,RR,Nat.reduceEqDiff,reduceCtorEq,q1,q2,q3,q4,q5,q6,q7,hw,hd,e1,e2,e3,e4,e5])
  · obtain ⟨c,m,e⟩:∃ c m,l=c::m:=by
      cases l with
      | nil=>exact (hnil rfl).elim
      | cons c m=>exact ⟨c,m,rfl⟩
    have q1:(l == [])=false:=by rw [e];rfl
    have hd:l[0]? =some c:=by rw [e];rfl
    have hl1:0<l.length:=by rw [e];simp
    by_cases h20:20<l.length
    · have q2:decide ((20:Int)<(l.length:Int))=true:=by rw [decide_eq_true_eq];omega
      have e:fT l= .tup [.int .u64 0, .bool false, .bool false]:=by
        have:decide (l.length≤20)=false:=by rw [decide_eq_false_iff_not];omega
        rw [fT,fP,this];rfl
      rw [e]
      (refine an pP Em fun σ=>?_;simp only [pP,↓R1,RR,Nat.reduceEqDiff,reduceCtorEq,q1,q2,q3,q4,q5,q6,q7,hw,hd,e1,e2,e3,e4,e5])
      skip
      (refine ak (ad ?_))
      (simp only [ao,↓R1,RR,Nat.reduceEqDiff,reduceCtorEq,q1,q2,q3,q4,q5,q6,q7,hw,hd,e1,e2,e3,e4,e5])
    · have q2:decide ((20:Int)<(l.length:Int))=false:=by rw [decide_eq_false_iff_not];omega
      have hd20:decide (l.length≤20)=true:=by rw [decide_eq_true_eq];omega
      have q3:((c.toNat:Int) == 48)=decide (c=48):=nu c 48
      have hfo:jm l= !(decide (c=48)&&decide ((1:Int)<(l.length:Int))):=by
        rw [e]
        show (!(c == 48&& !m.isEmpty))=_
        have h1:(c == 48)=decide (c=48):=by rw [Bool.eq_iff_iff];simp
        have h2:(!m.isEmpty)=decide ((1:Int)<((c::m).length:Int)):=by
          cases m with
          | nil=>rfl
          | cons x m=>rw [Bool.eq_iff_iff];simp;omega
        rw [h1,h2]
      by_cases hz:(decide (c=48)&&decide ((1:Int)<(l.length:Int)))=true
      · have e:fT l= .tup [.int .u64 0, .bool false, .bool false]:=by
          rw [fT,fP,hfo,hz];simp
        rw [Bool.and_eq_true] at hz
        have q4:=hz.1
        have q5:=hz.2
        rw [e]
        (refine an pP Em fun σ=>?_;simp only [pP,↓R1,RR,Nat.reduceEqDiff,reduceCtorEq,q1,q2,q3,q4,q5,q6,q7,hw,hd,e1,e2,e3,e4,e5])
        repeat' (with_reducible refine And.intro ?_ ?_;exact ag)
        all_goals first|omega|skip
        (refine ak (ad ?_))
        (simp only [ao,↓R1,RR,Nat.reduceEqDiff,reduceCtorEq,q1,q2,q3,q4,q5,q6,q7,hw,hd,e1,e2,e3,e4,e5])
      · have q4:(decide (c=48)&&decide ((1:Int)<(l.length:Int)))=false:=by simpa using hz
        have hno:jm l=true:=by rw [hfo,q4];rfl
        have hnv:fT l=bif l.all eM then .tup [.int .u64 ((cY l % 18446744073709551616:Nat):Int), .bool (decide (18446744073709551616≤cY l)), .bool true] else .tup [.int .u64 0, .bool false, .bool false]:=by
          rw [fT,fP,hno,hd20,Bool.true_and,Bool.true_and]
        rw [hnv]
        (refine an pP Em fun σ=>?_;simp only [pP,↓R1,RR,Nat.reduceEqDiff,reduceCtorEq,q1,q2,q3,q4,q5,q6,q7,hw,hd,e1,e2,e3,e4,e5])
        repeat' (with_reducible refine And.intro ?_ ?_;exact ag)
        all_goals first|omega|(rw [q4];done)|skip
        clear hd
        refine bK l.length (fun k=> [(2, .int .u64 ((cY (l.take k) % 18446744073709551616:Nat):Int)),(3, .bool (decide (18446744073709551616≤cY (l.take k)))),(26, .sl false l.length (l.map fun b=> .int .u8 b.toNat)),(27, .int .i64 (l.length:Nat)),(28, .int .i64 (k:Nat))]) (fun _=>σ) (fun k=>(l.take k).all eM=true) (by simp [az,slot,af,cY]) (St.le_refl _) (by simp) (fun k hk hI=>?_)
        by_cases hlt:k<l.length
        · have q6:decide ((k:Int)<(l.length:Int))=true:=by rw [decide_eq_true_eq];omega
          have hd:=jT l hlt
          have hw:IntKind.i64.wrap ((k:Int)+1)=((k+1:Nat):Int):=by rw [wrap64 (by omega) (by omega)];omega
          cases hb:eM l[k] with
          | true =>
            have q7:(decide ((l[k].toNat:Int)<48)||decide ((57:Int)<(l[k].toNat:Int)))=false:=by
              simp only [eM,Bool.not_eq_true'] at hb;exact hb
            obtain ⟨d1,d2,d3⟩:=vH hb
            have e1:=Mm (cY (l.take k) % 18446744073709551616)
            have e2:=J4 (cY (l.take k) % 18446744073709551616)
            have e3:=add_mod (cY (l.take k) % 18446744073709551616)
            have e4:=sw (cY (l.take k)) (l[k].toNat - 48)
            have e5:=d1
            have q5:=d3
            have hg:=uN (cY (l.take k)) (l[k].toNat - 48) d2
            have hv:=oS l hlt
            simp only [q6,↓R1,RR,Nat.reduceEqDiff,reduceCtorEq,q1,q2,q3,q4,q5,q6,q7,hw,hd,e1,e2,e3,e4,e5]
            repeat' (first|(with_reducible refine And.intro ?_ ?_;exact ag)|(with_reducible apply And.intro))
            all_goals first|(simp only [List.length_map];omega)|omega|skip
            · rw [lf _ _ hlt,hI,hb];rfl
            · rw [hv,←hg];simp [az,slot,af]
            · exact St.le_refl _
          | false =>
            have q7:(decide ((l[k].toNat:Int)<48)||decide ((57:Int)<(l[k].toNat:Int)))=true:=by
              simp only [eM,Bool.not_eq_false'] at hb;exact hb
            have hall:l.all eM=false:=by
              rw [←Bool.not_eq_true,List.all_eq_true]
              intro h
              have:=h l[k] (List.getElem_mem hlt)
              rw [hb] at this;cases this
            rw [hall]
            simp only [q6,↓R1,RR,Nat.reduceEqDiff,reduceCtorEq,q1,q2,q3,q4,q5,q6,q7,hw,hd,e1,e2,e3,e4,e5]
            repeat' (with_reducible refine And.intro ?_ ?_;exact ag)
            all_goals first|(simp only [List.length_map];omega)|omega|skip
            (refine ak (ad ?_))
            (simp only [ao,↓R1,RR,Nat.reduceEqDiff,reduceCtorEq,q1,q2,q3,q4,q5,q6,q7,hw,hd,e1,e2,e3,e4,e5])
            all_goals rfl
        · have hke:k=l.length:=by omega
          subst hke
          have q6:decide ((l.length:Int)<(l.length:Int))=false:=by simp
          rw [List.take_length] at hI ⊢
          rw [hI]
          simp only [q6,↓R1,RR,Nat.reduceEqDiff,reduceCtorEq,q1,q2,q3,q4,q5,q6,q7,hw,hd,e1,e2,e3,e4,e5]
          skip
          (refine ak (ad ?_))
          (simp only [ao,↓R1,RR,Nat.reduceEqDiff,reduceCtorEq,q1,q2,q3,q4,q5,q6,q7,hw,hd,e1,e2,e3,e4,e5])
          all_goals rfl
theorem EU {d:Nat} (h:d≤9):IntKind.u64.wrap (18446744073709551615 - (d:Int))=((18446744073709551615 - d:Nat):Int):=by
 rw [show (18446744073709551615 - (d:Int))=((18446744073709551615 - d:Nat):Int) by omega,lL];congr 1;omega
theorem J5 (n:Nat) (h:n<18446744073709551616:=by omega):IntKind.u64.wrap (Int.tdiv (n:Int) 10)=((n / 10:Nat):Int):=by
 rw [show Int.tdiv (n:Int) 10=((n / 10:Nat):Int) from rfl,lL];congr 1;omega
theorem J6 (V:Nat):IntKind.u64.wrap (10*((V % 18446744073709551616:Nat):Int))=((10*(V % 18446744073709551616) % 18446744073709551616:Nat):Int):=by
 rw [show (10*((V % 18446744073709551616:Nat):Int))=((10*(V % 18446744073709551616):Nat):Int) by omega,lL]
theorem yy (V d:Nat) (hd:d≤9):(decide (18446744073709551616≤V)||decide ((((18446744073709551615 - d) / 10:Nat):Int)<((V % 18446744073709551616:Nat):Int)))=decide (18446744073709551616≤10*V+d):=by
 rw [Bool.eq_iff_iff]
 simp only [Bool.or_eq_true,decide_eq_true_eq]
 by_cases hV:18446744073709551616≤V
 ·simp only [hV,true_or,true_iff];omega
 ·rw [Nat.mod_eq_of_lt (show V<18446744073709551616 by omega)]
  omega
set_option maxHeartbeats 4000000 in
theorem Mo (l:List UInt8) (hl:l.length≤1000000):Pu Tryz.prog 183 [.str l] (fT l):=by
  have q1:True:=trivial
  have q2:True:=trivial
  have q3:True:=trivial
  have q4:True:=trivial
  have q5:True:=trivial
  have q6:True:=trivial
  have q7:True:=trivial
  have hw:True:=trivial
  have hd:True:=trivial
  have e1:True:=trivial
  have e2:True:=trivial
  have e3:True:=trivial
  have e4:True:=trivial
  have e5:True:=trivial
  by_cases hnil:l= []
  · subst hnil
    have q1:(([]:List UInt8) == [])=true:=rfl
    have e:fT []= .tup [.int .u64 0, .bool false, .bool false]:=rfl
    rw [e]
    (refine an pN Ek fun σ=>?_;simp only [pN,↓R1,RR,Nat.reduceEqDiff,reduceCtorEq,q1,q2,q3,q4,q5,q6,q7,hw,hd,e1,e2,e3,e4,e5])
    skip
    (refine ak (ad ?_))
    (simp only [ao,↓R1,RR,Nat.reduceEqDiff,reduceCtorEq,q1,q2,q3,q4,q5,q6,q7,hw,hd,e1,e2,e3,e4,e5])
  · obtain ⟨c,m,e⟩:∃ c m,l=c::m:=by
      cases l with
      | nil=>exact (hnil rfl).elim
      | cons c m=>exact ⟨c,m,rfl⟩
    have q1:(l == [])=false:=by rw [e];rfl
    have hd:l[0]? =some c:=by rw [e];rfl
    have hl1:0<l.length:=by rw [e];simp
    by_cases h20:20<l.length
    · have q2:decide ((20:Int)<(l.length:Int))=true:=by rw [decide_eq_true_eq];omega
      have e:fT l= .tup [.int .u64 0, .bool false, .bool false]:=by
        have:decide (l.length≤20)=false:=by rw [decide_eq_false_iff_not];omega
        rw [fT,fP,this];rfl
      rw [e]
      (refine an pN Ek fun σ=>?_;simp only [pN,↓R1,RR,Nat.reduceEqDiff,reduceCtorEq,q1,q2,q3,q4,q5,q6,q7,hw,hd,e1,e2,e3,e4,e5])
      skip
      (refine ak (ad ?_))
      (simp only [ao,↓R1,RR,Nat.reduceEqDiff,reduceCtorEq,q1,q2,q3,q4,q5,q6,q7,hw,hd,e1,e2,e3,e4,e5])
    · have q2:decide ((20:Int)<(l.length:Int))=false:=by rw [decide_eq_false_iff_not];omega
      have hd20:decide (l.length≤20)=true:=by rw [decide_eq_true_eq];omega
      have q3:((c.toNat:Int) == 48)=decide (c=48):=nu c 48
      have hfo:jm l= !(decide (c=48)&&decide ((1:Int)<(l.length:Int))):=by
        rw [e]
        show (!(c == 48&& !m.isEmpty))=_
        have h1:(c == 48)=decide (c=48):=by rw [Bool.eq_iff_iff];simp
        have h2:(!m.isEmpty)=decide ((1:Int)<((c::m).length:Int)):=by
          cases m with
          | nil=>rfl
          | cons x m=>rw [Bool.eq_iff_iff];simp;omega
        rw [h1,h2]
      by_cases hz:(decide (c=48)&&decide ((1:Int)<(l.length:Int)))=true
      · have e:fT l= .tup [.int .u64 0, .bool false, .bool false]:=by
          rw [fT,fP,hfo,hz];simp
        rw [Bool.and_eq_true] at hz
        have q4:=hz.1
        have q5:=hz.2
        rw [e]
        (refine an pN Ek fun σ=>?_;simp only [pN,↓R1,RR,Nat.reduceEqDiff,reduceCtorEq,q1,q2,q3,q4,q5,q6,q7,hw,hd,e1,e2,e3,e4,e5])
        repeat' (with_reducible refine And.intro ?_ ?_;exact ag)
        all_goals first|omega|skip
        (refine ak (ad ?_))
        (simp only [ao,↓R1,RR,Nat.reduceEqDiff,reduceCtorEq,q1,q2,q3,q4,q5,q6,q7,hw,hd,e1,e2,e3,e4,e5])
      · have q4:(decide (c=48)&&decide ((1:Int)<(l.length:Int)))=false:=by simpa using hz
        have q5:(decide ((1:Int)<(l.length:Int))&&decide (c=48))=false:=by rw [Bool.and_comm];exact q4
        have hno:jm l=true:=by rw [hfo,q4];rfl
        have hnv:fT l=bif l.all eM then .tup [.int .u64 ((cY l % 18446744073709551616:Nat):Int), .bool (decide (18446744073709551616≤cY l)), .bool true] else .tup [.int .u64 0, .bool false, .bool false]:=by
          rw [fT,fP,hno,hd20,Bool.true_and,Bool.true_and]
        rw [hnv]
        (refine an pN Ek fun σ=>?_;simp only [pN,↓R1,RR,Nat.reduceEqDiff,reduceCtorEq,q1,q2,q3,q4,q5,q6,q7,hw,hd,e1,e2,e3,e4,e5])
        repeat' (with_reducible refine And.intro ?_ ?_;exact ag)
        all_goals first|omega|(rw [q4];done)|skip
        clear hd
        refine bK l.length (fun k=> [(0, .str l),(5, .int .u64 ((cY (l.take k) % 18446744073709551616:Nat):Int)),(6, .bool (decide (18446744073709551616≤cY (l.take k)))),(7, .int .i64 (k:Nat))]) (fun _=>σ) (fun k=>(l.take k).all eM=true) (by simp [az,slot,af,cY]) (St.le_refl _) (by simp) (fun k hk hI=>?_)
        by_cases hlt:k<l.length
        · have q6:decide ((k:Int)<(l.length:Int))=true:=by rw [decide_eq_true_eq];omega
          have hd:=byte_at l hlt
          have hw:IntKind.i64.wrap ((k:Int)+1)=((k+1:Nat):Int):=by rw [wrap64 (by omega) (by omega)];omega
          cases hb:eM l[k] with
          | true =>
            have q7:(decide ((l[k].toNat:Int)<48)||decide ((57:Int)<(l[k].toNat:Int)))=false:=by
              simp only [eM,Bool.not_eq_true'] at hb;exact hb
            obtain ⟨d1,d2,d3⟩:=vH hb
            have e1:=EU d2
            have e2:=J5 (18446744073709551615 - (l[k].toNat - 48))
            have e3:=J6 (cY (l.take k))
            have e4:=sw (cY (l.take k)) (l[k].toNat - 48)
            have e5:=d1
            have q5:=d3
            have hg:=yy (cY (l.take k)) (l[k].toNat - 48) d2
            have hv:=oS l hlt
            have hstep:(l.take (k+1)).all eM=true:=by rw [lf _ _ hlt,hI,hb];rfl
            simp only [q6,↓R1,RR,Nat.reduceEqDiff,reduceCtorEq,q1,q2,q3,q4,q5,q6,q7,hw,hd,e1,e2,e3,e4,e5]
            repeat' (first|(with_reducible refine And.intro ?_ ?_;exact ag)|(with_reducible apply And.intro)|((refine ar (fun hc=>?_) (fun hc=>?_))<;>(try simp only [↓R1,RR,Nat.reduceEqDiff,reduceCtorEq,q1,q2,q3,q4,q5,q6,q7,hw,hd,e1,e2,e3,e4,e5])))
            all_goals first|omega|exact hstep|exact St.le_refl _|skip
            all_goals (rw [hv,←hg];simp only [hc,Bool.or_true,Bool.or_false];simp [az,slot,af])
          | false =>
            have q7:(decide ((l[k].toNat:Int)<48)||decide ((57:Int)<(l[k].toNat:Int)))=true:=by
              simp only [eM,Bool.not_eq_false'] at hb;exact hb
            have hall:l.all eM=false:=by
              rw [←Bool.not_eq_true,List.all_eq_true]
              intro h
              have:=h l[k] (List.getElem_mem hlt)
              rw [hb] at this;cases this
            rw [hall]
            simp only [q6,↓R1,RR,Nat.reduceEqDiff,reduceCtorEq,q1,q2,q3,q4,q5,q6,q7,hw,hd,e1,e2,e3,e4,e5]
            repeat' (with_reducible refine And.intro ?_ ?_;exact ag)
            all_goals first|omega|skip
            (refine ak (ad ?_))
            (simp only [ao,↓R1,RR,Nat.reduceEqDiff,reduceCtorEq,q1,q2,q3,q4,q5,q6,q7,hw,hd,e1,e2,e3,e4,e5])
            all_goals rfl
        · have hke:k=l.length:=by omega
          subst hke
          have q6:decide ((l.length:Int)<(l.length:Int))=false:=by simp
          rw [List.take_length] at hI ⊢
          rw [hI]
          simp only [q6,↓R1,RR,Nat.reduceEqDiff,reduceCtorEq,q1,q2,q3,q4,q5,q6,q7,hw,hd,e1,e2,e3,e4,e5]
          skip
          (refine ak (ad ?_))
          (simp only [ao,↓R1,RR,Nat.reduceEqDiff,reduceCtorEq,q1,q2,q3,q4,q5,q6,q7,hw,hd,e1,e2,e3,e4,e5])
          all_goals rfl
end Go.Proofs.YtgephffbfiemeaaGreatDoor
