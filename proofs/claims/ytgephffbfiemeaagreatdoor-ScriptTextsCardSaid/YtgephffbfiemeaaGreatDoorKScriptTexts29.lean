/- Part 29 of the proof of ScriptTexts: an abstract semantics that is proved sound for the model, contracts of functions in it, and plain facts (SB SB2 SB3 SB4 RW1 RW2 RX1 RW3 RW4 RX2 RX3 RX4 RX5 RW5 RW6 RW7 RW8). No condition. -/
import Derived.Test.YtgephffbfiemeaaGreatDoorKScriptTexts28
import Derived.WalkKit
import Derived.Lib.Walk
import Derived.Lib.Builder
import Derived.Lib.UnsafeStr
import Derived.Shelf.RegionOpenPlain
import Derived.Shelf.Strings.BuilderX
import Derived.Laws.Externs
set_option linter.all false
namespace Go.Proofs.YtgephffbfiemeaaGreatDoor
open Go.Abs Go.Lib Go.RowKit
set_option linter.all false
set_option maxRecDepth 100000
theorem uZ:(Tryz.prog.info? 222).map (·.size)=some 2:=by kernel_rfl
theorem Er:liesAt Tryz.prog Tryz.prog.depth 222 (2 / Tryz.prog.cellsOf 222) 0 222 1=true:=by kernel_rfl
theorem Es (b:Nat) (w:World) (h0:w.cell? ⟨b,0,none⟩=some (.pointer (some ⟨b,0,none⟩))) :
  Calls Tryz.prog 222 #[.pointer (some ⟨b,0,none⟩)] w fun e w'=>e= .returned (.tuple #[])∧w'=w:=by
 obtain ⟨j,hj,_⟩:=Option.map_eq_some_iff.1 uZ
 go_enter Tryz.func222,Tryz.ntmps222
 go_wp2
 rw [Lib.run_neq_ptr_same w _ Tryz.underlying220 hj]
 go_wp2
 go_end0
 exact ⟨rfl,rfl⟩
theorem BD (b:Nat) (w:World) (h0:w.cell? ⟨b,0,none⟩=some (.pointer none)) (hsh:w.shape? b=some (222,2)) (hfz:w.frozen? ⟨b,0,none⟩=false) :
  Calls Tryz.prog 222 #[.pointer (some ⟨b,0,none⟩)] w fun e w'=>e= .returned (.tuple #[])∧w'=w.setCell ⟨b,0,none⟩ (.pointer (some ⟨b,0,none⟩)):=by
 obtain ⟨j,hj,hjs⟩:=Option.map_eq_some_iff.1 uZ
 go_enter Tryz.func222,Tryz.ntmps222
 go_wp2
 rw [Lib.run_to_unsafe w ⟨b,0,none⟩ Tryz.underlying220 Tryz.underlying320 hj (by rw [hjs];decide) hsh (Nat.zero_lt_succ 1)]
 simp only [Result.andThen]
 rw [Oper.upon_value]
 go_wp2
 rw [run_callFunc_extern Tryz.func259 (by kernel_rfl) (by kernel_rfl) (by kernel_rfl) (e:=Extern.AbiNoEscape.same) (by kernel_rfl)]
 rw [Lib.run_noEscape]
 simp only [Result.andThen]
 rw [Oper.upon_value]
 go_wp2
 rw [Lib.run_from_unsafe w ⟨b,0,none⟩ Tryz.underlying320 Tryz.underlying220 hj hsh Er]
 simp only [Result.andThen]
 rw [Oper.upon_value]
 go_wp2
 go_end0
 exact ⟨rfl,rfl⟩
end Go.Proofs.YtgephffbfiemeaaGreatDoor
namespace Go.Abs
open Go.RowKit Go.Lib
set_option linter.all false
section
variable {P:Program} {g:Gh} {σ:St} {w:World}
theorem tU (hI:Inv g σ w) {b F n:Nat} {cur:Array Value} {T:TypeId} {q:Nat × Nat} (hb:w.heap[b]? =some (.cells cur T q)) (hcl:g.cl b=some F) (hbox:∀ β,g.box β≠some b)
  (htip:∀ τ x v,σ.tip τ=some x→g.tip τ x.2.2=some v→Held x.2.2 v→v.ownBlock≠some b) :
  Inv g σ (w.freeze ⟨b,0,none⟩ n)∧Ext g w g (w.freeze ⟨b,0,none⟩ n):=by
 have hother:∀ k,k≠b→(w.freeze ⟨b,0,none⟩ n).heap[k]? =w.heap[k]? :=fun k hk=>by
  unfold World.freeze
  split
  ·rfl
  ·simp only [Array.getElem?_modify];rw [if_neg (fun e=>hk e.symm)]
 have hcell:∀ i,(w.freeze ⟨b,0,none⟩ n).cell? ⟨b,i,none⟩=w.cell? ⟨b,i,none⟩:=fun i=>by
  unfold World.freeze
  split
  ·rfl
  ·simp only [World.cell?,Array.getElem?_modify,if_true,hb,Option.map_some]
 have hos:(w.freeze ⟨b,0,none⟩ n).os=w.os:=by unfold World.freeze;split<;>rfl
 have htp:(w.freeze ⟨b,0,none⟩ n).tape=w.tape:=by unfold World.freeze;split<;>rfl
 have hou:(w.freeze ⟨b,0,none⟩ n).output=w.output:=by unfold World.freeze;split<;>rfl
 have hsz:(w.freeze ⟨b,0,none⟩ n).heap.size=w.heap.size:=by unfold World.freeze;split<;>simp
 have he:Ext g w g (w.freeze ⟨b,0,none⟩ n):=by
  refine ⟨hos,htp,hou,by omega,fun _ _ h=>h,fun _ _=>rfl,Nat.le_refl _,Nat.le_refl _,fun _ _ _ h=>h,fun k hk hc=>?_,fun k G hk hc=>?_,fun _ _ h=>h,fun k us T' hx h=>by
   obtain ⟨β,hβ⟩:=hx
   exact ⟨us,by rw [hother k (fun e=>hbox β (e ▸ hβ))];exact h,rfl⟩⟩
  ·have hkb:k≠b:=by rintro rfl;rw [hcl] at hc;cases hc
   exact ⟨hc,hother k hkb⟩
  ·by_cases hkb:k=b
   ·subst hkb
    exact ⟨G,hc,Nat.le_refl _,fun i _=>hcell i⟩
   ·exact ⟨G,hc,Nat.le_refl _,fun i _=>World.cell?_of_block (hother k hkb)⟩
 refine ⟨⟨fun β cs hβ=>?_,fun β k hβ=>?_,hI.boxinj,hI.boxfresh,fun τ e s n ht=>?_,hI.tipinj,hI.tipfresh,fun k cs hk=>(hI.glob k cs hk).mono he,fun l r hl=>by
  obtain ⟨q1,q2,q3⟩:=hI.lp l r hl
  have hlb:l≠b:=fun e=>by subst e;rw [hb] at q1;exact r.1.gN q1
  exact ⟨by rw [hother l hlb];exact q1,q2,fun t=>(q3 t).mono he⟩,fun β T2 hβ=>by
  obtain ⟨k,vs,k1,k2⟩:=hI.bty β T2 hβ
  exact ⟨k,vs,k1,by rw [hother k (fun e=>hbox β (e ▸ k1))];exact k2⟩⟩,he⟩
 ·obtain ⟨k,vs,T2,k1,k2,k3⟩:=hI.box β cs hβ
  exact ⟨k,vs,T2,k1,by rw [hother k (fun e=>hbox β (e ▸ k1))];exact k2,k3.mono he⟩
 ·obtain ⟨k1,k2⟩:=hI.boxcl β k hβ
  exact ⟨by omega,k2⟩
 ·obtain ⟨v,k1,k2,k4⟩:=hI.tip τ e s n ht
  refine ⟨v,k1,fun hs=>?_,k4⟩
  obtain ⟨xs,k2,k3⟩:=k2 hs
  have hvb:=htip τ _ v ht k1 hs
  refine ⟨xs,k2.kept (row:=some b) ⟨hos,htp,hou,by omega,fun k _ hk=>hother k (fun e=>hk (by rw [e]))⟩ (.inr hvb),fun k hk=>?_⟩
  obtain ⟨k5,k6⟩:=k3 k hk
  exact ⟨k5,k6.1,k6.2.same (hother k (fun e=>hvb (e ▸ hk)))⟩
end
end Go.Abs
namespace Go.Proofs.YtgephffbfiemeaaGreatDoor
open Go.Abs Go.Lib Go.RowKit
set_option linter.all false
set_option maxRecDepth 100000
theorem tV:Tryz.prog.cellsOf 5=1:=by kernel_rfl
set_option maxHeartbeats 2000000 in
theorem xS (b g cap:Nat) (p:Value) (cur:Array Value) (l:List UInt8) (w:World) (hbk:w.heap[b]? =some (.cells #[p, .slice (some ⟨g,0,none⟩) l.length cap] 222 (0,0))) (hg:w.heap[g]? =some (.cells cur 5 (0,0)))
  (hnc:l.length≤cap) (hcm:cap≤maxLen) (hcs:cur.size=cap) (htake:cur.toList.take l.length=byteCells l) (h0:l≠ []) :
  Calls Tryz.prog 174 #[.pointer (some ⟨b,0,none⟩)] w fun e w'=>e= .returned (.string ⟨l.toArray⟩)∧w'=w.drew.freeze ⟨g,0,none⟩ l.length:=by
 have hl0:l.length≠0:=by simpa using h0
 have c1:w.drew.cell? ⟨b,1,none⟩=some (.slice (some ⟨g,0,none⟩) l.length cap):=by
  have h:w.drew.heap[b]? =some (.cells #[p, .slice (some ⟨g,0,none⟩) l.length cap] 222 (0,0)):=hbk
  rw [Lib.cell_of_heap h];rfl
 have hSD:(Builtin.unsafeSliceData_ #[135] 286 #[.slice (some ⟨g,0,none⟩) l.length cap]).run Tryz.prog w.drew= .ok (.pointer (some ⟨g,0,none⟩)) w.drew :=
  Lib.run_unsafeSliceData_row _ _ _ _ _ _ (by omega)
 have hUS:(Builtin.unsafeString_ #[286,3] 9 #[.pointer (some ⟨g,0,none⟩), .int .i64 l.length]).run Tryz.prog w.drew= .ok (.string ⟨l.toArray⟩) (w.drew.freeze ⟨g,0,none⟩ l.length):=by
  refine Lib.run_unsafeString_row w.drew _ _ _ 5 Tryz.underlying286 tV g cur.size (by have hg':w.drew.heap[g]? =some (.cells cur 5 (0,0)):=hg;simp [World.shape?,hg']) l h0 (by omega) (by unfold maxLen at hcm;omega) ?_
  intro j x hx
  have hg':w.drew.heap[g]? =some (.cells cur 5 (0,0)):=hg
  have hj:j<l.length:=(List.getElem?_eq_some_iff.1 hx).1
  have:(cur.toList.take l.length)[j]? =some (.int .u8 x.toNat):=by rw [htake];simp [Lib.byteCells,hx]
  rw [List.getElem?_take,if_pos hj] at this
  rw [bA]
  rw [Lib.cell_of_heap hg',Nat.zero_add,←Array.getElem?_toList]
  exact this
 have mixed:Tryz.prog.follows .mixedOrders=true:=by kernel_rfl
 go_enter Tryz.func174,Tryz.ntmps174
 go_wp2
 go_region_o
 all_goals (go_wp2;go_ret;exact ⟨rfl,rfl⟩)
end Go.Proofs.YtgephffbfiemeaaGreatDoor
namespace Go.Proofs.YtgephffbfiemeaaGreatDoor
open Go.Abs Go.Lib Go.RowKit
set_option linter.all false
set_option maxRecDepth 100000
def eC (l:List UInt8):List AV:=l.map fun b=> .int .u8 b.toNat
theorem rG:∀ args w,(callFunc 222 args).run Tryz.prog w= .ok (.enter 222 args) w:=enters_of Tryz.func222 (by kernel_rfl) rfl
theorem BE:∀ args w,(callFunc 174 args).run Tryz.prog w= .ok (.enter 174 args) w:=enters_of Tryz.func174 (by kernel_rfl) rfl
theorem pt {g:Gh} {w:World} {β:Nat} {vs:List Value} (hv:b8 g w [.ptr β 0] vs):∃ b,vs= [.pointer (some ⟨b,0,none⟩)]∧g.box β=some b:=by
 obtain ⟨v,vs',rfl,h1,h2⟩:=hv.cons_inv
 rw [h2.bO]
 obtain ⟨b,rfl,hb⟩:=h1.ft
 exact ⟨b,rfl,hb⟩
theorem ot {σ:St} {β:Nat} {x:AV} (hb:σ.box β=some [.ptr β 0,x]):AC Tryz.prog 222 [.ptr β 0] σ (fun r s=>r= .tup []∧s=σ):=by
 intro g w vs hI hv
 obtain ⟨b,rfl,hg⟩:=pt hv
 obtain ⟨b',cs,T,h1,h2,h3⟩:=hI.box β _ hb
 rw [hg] at h1;cases h1
 obtain ⟨v0,r0,hl,hv0,_⟩:=h3.1.cons_inv
 obtain ⟨b2,rfl,hb2⟩:=hv0.ft
 rw [hg] at hb2;cases hb2
 have hc:w.cell? ⟨b,0,none⟩=some (.pointer (some ⟨b,0,none⟩)):=by
  rw [Lib.cell_of_heap h2,←Array.getElem?_toList,hl];rfl
 refine .inl ⟨rG _ _,(Es b w hc).mono ?_⟩
 rintro e w' ⟨rfl,rfl⟩
 exact ⟨_, .tup [],σ,g,rfl,⟨rfl,rfl⟩,hI, .refl g w', .dz .nil⟩
theorem mz {σ:St} {β:Nat} {x:AV} (hb:σ.box β=some [.nilp,x]) (ht:σ.bt β=some 222):AC Tryz.prog 222 [.ptr β 0] σ (fun r s=>r= .tup []∧s=σ.ad β [.ptr β 0,x]):=by
 intro g w vs hI hv
 obtain ⟨b,rfl,hg⟩:=pt hv
 obtain ⟨b',cs,T,h1,h2,h3⟩:=hI.box β _ hb
 rw [hg] at h1;cases h1
 obtain ⟨b',cs',h1,h2'⟩:=hI.bty β _ ht
 rw [hg] at h1;cases h1
 rw [h2] at h2';cases h2'
 obtain ⟨v0,r0,hl,hv0,hr0⟩:=h3.1.cons_inv
 obtain ⟨v1,r1,rfl,hv1,hr1⟩:=hr0.cons_inv
 rw [hr1.bO] at hl
 have hv0':v0= .pointer none:=by cases hv0;rfl
 subst hv0'
 have hc:w.cell? ⟨b,0,none⟩=some (.pointer none):=by
  rw [Lib.cell_of_heap h2,←Array.getElem?_toList,hl];rfl
 have hsz:cs.size=2:=by rw [←Array.length_toList,hl];rfl
 have hfz:=Lib.frozen_of_heap h2 0
 refine .inl ⟨rG _ _,(BD b w hc (by simp only [World.shape?,h2,hsz]) hfz).mono ?_⟩
 rintro e w' ⟨rfl,rfl⟩
 obtain ⟨w2,q1,q2,q3⟩:=gP (P:=Tryz.prog) hI hb hg (off:=0) (us:= [.pointer (some ⟨b,0,none⟩)]) (cs':= [.ptr β 0]) ⟨.cons (.ptr β 0 b hg) .nil,by simp [Value.oneCell']⟩ (by simp)
 have hw:w2=w.setCell ⟨b,0,none⟩ (.pointer (some ⟨b,0,none⟩)):=by
  have hfz':w.frozen? ((⟨b,0,none⟩:Addr).add 0)=false:=hfz
  have:=run_storeCells_at Tryz.prog b 0 222 [.pointer (some ⟨b,0,none⟩)] 0 cs w h2 (by simp;omega) (by simp [Value.oneCell'])
  rw [this] at q1
  simp only [Result.ok.injEq,true_and] at q1
  rw [←q1]
  have hcs:cs= #[.pointer none,v1]:=by rw [←Array.toArray_toList (xs:=cs),hl]
  subst hcs
  have hh:(w.setRow b ((List.take (0+0) (#[Value.pointer none,v1]:Array Value).toList++ [Value.pointer (some ⟨b,0,none⟩)]++List.drop (0+0 + [Value.pointer (some ⟨b,0,none⟩)].length) (#[Value.pointer none,v1]:Array Value).toList).toArray)).heap=(w.setCell ⟨b,0,none⟩ (.pointer (some ⟨b,0,none⟩))).heap:=by
   refine Array.ext_getElem? (fun i=>?_)
   simp only [World.setRow,World.setCell,Array.getElem?_modify]
   split
   ·rename_i e;subst e;rw [h2];simp
   ·rfl
  show World.setRow w b _=_
  calc w.setRow b _={ w with heap:=(w.setRow b ((List.take (0+0) (#[Value.pointer none,v1]:Array Value).toList++ [Value.pointer (some ⟨b,0,none⟩)]++List.drop (0+0 + [Value.pointer (some ⟨b,0,none⟩)].length) (#[Value.pointer none,v1]:Array Value).toList).toArray)).heap }:=rfl
   _={ w with heap:=(w.setCell ⟨b,0,none⟩ (.pointer (some ⟨b,0,none⟩))).heap }:=by rw [hh]
   _=_:=rfl
 subst hw
 exact ⟨_, .tup [],_,g,rfl,⟨rfl,rfl⟩,by simpa using q2,q3, .dz .nil⟩
def bB (β τ:Nat) (l:List UInt8):List AV:=match l with
 | []=> [.nilp, .nils]
 | _::_=> [.ptr β 0, .tsl τ l.length (eC l)]
def bT (σ:St) (τ:Nat) (l:List UInt8):St:=match l with
 | []=>σ
 | _::_=>σ.ai τ (5,1,l.length)
def bS (σ:St) (β τ:Nat) (l:List UInt8):St:=(bT σ τ l).ad β (bB β τ l)
theorem pw (σ:St) (β τ:Nat) (l:List UInt8):(bS σ β τ l).box β=some (bB β τ l):=by simp [bS,St.ad,upd]
theorem rH (σ:St) {β γ:Nat} (τ:Nat) (l:List UInt8) [h:Apart γ β]:(bS σ β τ l).box γ=σ.box γ:=by
 cases l<;>simp [bS,bT,St.ad,St.ai,upd,h.ne]
theorem JP (σ:St) (β τ:Nat) (l:List UInt8):(bS σ β τ l).bt=σ.bt:=by cases l<;>rfl
theorem u0 (σ:St) (β τ:Nat) (l:List UInt8):(bS σ β τ l).glob=σ.glob:=by cases l<;>rfl
theorem HR (σ:St) {β γ:Nat} (τ:Nat) (l:List UInt8) (c:List AV) [h:Apart γ β]:(bS σ β τ l).ad γ c=bS (σ.ad γ c) β τ l:=by
 have hc:∀ (s:St) (d:List AV),(s.ad β d).ad γ c=(s.ad γ c).ad β d:=fun s d=>by
  simp only [St.ad,St.mk.injEq,and_true]
  funext j
  simp only [upd]
  by_cases h1:j=γ
  ·subst h1;rw [if_pos rfl,if_neg h.ne,if_pos rfl]
  ·rw [if_neg h1,if_neg h1]
 cases l<;>exact hc _ _
theorem tW (σ:St) (β τ:Nat):bS σ β τ []=σ.ad β [.nilp, .nils]:=rfl
theorem kR {σ:St} {β:Nat} {c:List AV} (h:σ.box β=some c):σ.ad β c=σ:=by
 unfold St.ad
 have:upd σ.box β c=σ.box:=by
  funext j
  simp only [upd]
  split
  ·rename_i e;subst e;exact h.symm
  ·rfl
 rw [this]
theorem px {σ:St} {β γ τ:Nat} {l:List UInt8}:(bS σ β τ l).box γ=none↔(Apart γ β∧Apart β γ)∧σ.box γ=none:=by
 unfold bS
 rw [St.aD]
 cases l<;>rfl
theorem E6 {σ s:St} {β τ:Nat} {l:List UInt8} (h:St.le s σ) (hn:s.box β=none) (ht:l≠ []→s.tip τ=none):St.le s (bS σ β τ l):=by
 cases l with
 | nil=>exact St.aw h hn
 | cons x l=>exact St.aw (St.ew h (ht (by simp))) hn
def BW (f:Nat) (xs:List AV) (r:AV) (β:Nat) (m:List UInt8):Prop:=∀ (σ:St) (τ:Nat) (l:List UInt8),(l≠ []→σ.tip τ=none)→σ.bt β=some 222→l.length+m.length≤1000000000000 →
 AC Tryz.prog f (.ptr β 0::xs) (bS σ β τ l) (fun v s=>v=r∧∃ τ',σ.tip τ'=none∧(l≠ []→τ'=τ)∧s=bS σ β τ' (l++m))
theorem fz (β:Nat) (c:UInt8):BW 228 [.int .u8 c.toNat] .nili β [c]:=by
  intro σ τ l hτ hbt hl
  simp only [List.length_cons,List.length_nil] at hl
  refine aT GZ K3 ?_
  simp only [GZ,↓R1,RR,seval]
  cases l with
  | nil =>
    rw [tW]
    refine AC.mono (AC.wk (mz (β:=β) (x:= .nils) (by simp only [↓R1,RR,seval]) (by simpa [St.ad] using hbt)) (aa _)) ?_
    rintro _ _ ⟨rfl,rfl⟩
    simp only [↓R1,RR,seval]
    refine l9 (n:=0) (cs:= []) rfl trivial rfl rfl rfl ?_ ?_ (fun ρ hρ=>?_)
    · unfold maxLen;decide
    · decide
    simp only [↓R1,RR,seval]
    refine cq ⟨rfl,ρ,hρ,(fun h=>absurd rfl h),?_⟩ (by first|(simp [aj,rvS];done)|(simp only [aj,rvS,↓R1,RR,seval];try simp))
    simp [bS,bT,bB,eC]
    rfl
  | cons x l =>
    have hT:(bS σ β τ (x::l)).box β=some [.ptr β 0, .tsl τ (l.length+1) (eC (x::l))]:=pw _ _ _ _
    refine AC.mono (AC.wk (ot (β:=β) hT) (aa _)) ?_
    rintro _ _ ⟨rfl,rfl⟩
    simp only [hT,↓R1,RR,seval]
    simp only [List.length_cons] at hl
    refine bV rfl ?_ ?_ rfl ?_ ?_ ?_
    · simp [bS,bT,St.ad,St.ai,upd]
    · simp [eC]
    · unfold maxLen;omega
    · omega
    simp only [hT,↓R1,RR,seval]
    refine cq ⟨rfl,τ,hτ (by simp),fun _=>rfl,?_⟩ (by first|(simp [aj,rvS];done)|(simp only [aj,rvS,↓R1,RR,seval];try simp))
    simp [bS,bT,bB,eC,St.ad,St.ai]
    constructor<;>(funext j;simp only [upd];split<;>rfl)
theorem iL (β:Nat) (m:List UInt8) (hm:m≠ []):BW 173 [.str m] (.tup [.int .i64 m.length, .nili]) β m:=by
  intro σ τ l hτ hbt hl
  refine aT GB KI ?_
  simp only [GB,fO,↓R1,RR,seval]
  cases l with
  | nil =>
    rw [tW]
    refine AC.mono (AC.wk (mz (β:=β) (x:= .nils) (by simp only [↓R1,RR,seval]) (by simpa [St.ad] using hbt)) (aa _)) ?_
    rintro _ _ ⟨rfl,rfl⟩
    simp only [fO,↓R1,RR,seval]
    simp only [List.length_nil] at hl
    refine xv hm ?_ ?_ (fun ρ hρ=>?_)
    · unfold maxLen;omega
    · omega
    simp only [fO,↓R1,RR,seval]
    refine cq ⟨rfl,ρ,hρ,(fun h=>absurd rfl h),?_⟩ (by first|(simp [aj,rvS];done)|(simp only [aj,rvS,↓R1,RR,seval];try simp))
    cases m with
    | nil=>exact (hm rfl).elim
    | cons y m=>simp [bS,bT,bB,eC];rfl
  | cons x l =>
    have hT:(bS σ β τ (x::l)).box β=some [.ptr β 0, .tsl τ (l.length+1) (eC (x::l))]:=pw _ _ _ _
    refine AC.mono (AC.wk (ot (β:=β) hT) (aa _)) ?_
    rintro _ _ ⟨rfl,rfl⟩
    simp only [fO,hT,↓R1,RR,seval]
    simp only [List.length_cons] at hl
    refine xu hm ?_ ?_ ?_ ?_ ?_
    · simp [bS,bT,St.ad,St.ai,upd]
    · simp [eC]
    · unfold maxLen;omega
    · omega
    simp only [fO,hT,↓R1,RR,seval]
    refine cq ⟨rfl,τ,hτ (by simp),fun _=>rfl,?_⟩ (by first|(simp [aj,rvS];done)|(simp only [aj,rvS,↓R1,RR,seval];try simp))
    simp [bS,bT,bB,eC,St.ad,St.ai]
    (repeat' apply And.intro)
    all_goals first|omega|(funext j;simp only [upd];split<;>simp [Nat.add_assoc,Nat.add_comm,Nat.add_left_comm])
theorem BW.used {f β τ:Nat} {xs:List AV} {r:AV} {m l:List UInt8} {σ:St} (h:BW f xs r β m) (h0:l≠ []) (hτ:σ.tip τ=none) (hb:σ.bt β=some 222) (hl:l.length+m.length≤1000000000000) :
  AC Tryz.prog f (.ptr β 0::xs) (bS σ β τ l) (fun v s=>v=r∧s=bS σ β τ (l++m)) :=
 (h σ τ l (fun _=>hτ) hb hl).mono (by rintro v s ⟨rfl,τ',_,h2,rfl⟩;rw [h2 h0];exact ⟨rfl,rfl⟩)
theorem JQ (σ:St) (β τ:Nat) (l:List UInt8):AC Tryz.prog 186 [.ptr β 0] (bS σ β τ l) (fun v s=>v= .int .i64 l.length∧s=bS σ β τ l):=by
  refine aT DZ KN ?_
  have hT:(bS σ β τ l).box β=some (bB β τ l):=pw _ _ _ _
  cases l with
  | nil =>
    simp only [DZ,hT,bB,↓R1,RR,seval]
    exact cq ⟨rfl,rfl⟩
  | cons x l =>
    simp only [DZ,hT,bB,↓R1,RR,seval]
    exact cq ⟨rfl,rfl⟩
theorem mA {σ:St} {β τ:Nat} {l:List UInt8} (hτ:l≠ []→σ.tip τ=none) (hbt:σ.bt β=some 222):AC Tryz.prog 174 [.ptr β 0] (bS σ β τ l) (fun v s=>v= .str l∧s=σ.ad β (bB β τ l)):=by
  intro g w vs hI hv
  obtain ⟨b,rfl,hg⟩:=pt hv
  have hT:(bS σ β τ l).box β=some (bB β τ l):=pw _ _ _ _
  obtain ⟨b',cs,T,h1,h2,h3⟩:=hI.box β _ hT
  rw [hg] at h1;cases h1
  obtain ⟨b',cs',h1,h2'⟩:=hI.bty β _ (by rw [JP];exact hbt)
  rw [hg] at h1;cases h1
  rw [h2] at h2';cases h2'
  refine .inl ⟨BE _ _,?_⟩
  cases l with
  | nil =>
    obtain ⟨v0,r0,hl,hv0,hr0⟩:=h3.1.cons_inv
    obtain ⟨v1,r1,rfl,hv1,hr1⟩:=hr0.cons_inv
    rw [hr1.bO] at hl
    have hv1':v1= .slice none 0 0:=by cases hv1;rfl
    subst hv1'
    have hcs:cs= #[v0, .slice none 0 0]:=by rw [←Array.toArray_toList (xs:=cs),hl]
    subst hcs
    refine (Any.Builder_String_nil Tryz.Ea Tryz.jD w.heap.size b v0 w h2).mono ?_
    rintro e w' ⟨rfl,hb⟩
    exact ⟨_, .str [],_,_,rfl,⟨rfl,rfl⟩,hI.below hb,Ext.below g hb, .str []⟩
  | cons x m =>
    generalize hlx:x::m=l at *
    have h0:l≠ []:=by rw [←hlx];simp
    have hτ:=hτ h0
    have hbB:bB β τ l= [.ptr β 0, .tsl τ l.length (eC l)]:=by rw [←hlx];rfl
    have hbSt:bS σ β τ l=(σ.ai τ (5,1,l.length)).ad β (bB β τ l):=by rw [←hlx];rfl
    rw [hbB] at h3
    obtain ⟨v0,r0,hl,hv0,hr0⟩:=h3.1.cons_inv
    obtain ⟨v1,r1,rfl,hv1,hr1⟩:=hr0.cons_inv
    rw [hr1.bO] at hl
    have hcs:cs= #[v0,v1]:=by rw [←Array.toArray_toList (xs:=cs),hl]
    subst hcs
    have htip:(bS σ β τ l).tip τ=some (5,1,l.length):=by rw [hbSt];simp [St.ad,St.ai,upd]
    obtain ⟨v,k1,k2,k4⟩:=hI.tip τ _ _ _ htip
    have hv1t:=hv1.lz
    rw [k1] at hv1t
    cases hv1t
    have hheld:Held l.length v1:= .inr (by simpa using h0)
    obtain ⟨xs,hown,hblk⟩:=k2 hheld
    obtain ⟨hxl,hown⟩:=hown
    rcases hown with ⟨rfl,hz⟩|⟨gb,cap,cur,rfl,_,hgb,hnc,hcm,hsz,htk⟩
    · exact absurd (List.length_eq_zero_iff.1 hz) h0
    obtain ⟨hcl,hnb,hrow⟩:=hblk gb rfl
    have hlies:=hv1.bP (n:=l.length) (cs:=eC l) rfl
    rcases hlies with ⟨x,hx,hx2,_⟩|⟨b2,off,cap2,u,hx,hx2,hL⟩
    · exact absurd (List.length_eq_zero_iff.1 hx2) h0
    cases hx
    have hcell:cur.toList.take l.length=byteCells l:=by
      apply List.ext_getElem?
      intro i
      rw [List.getElem?_take]
      split
      · rename_i hi
        have hr:=hL.rel.1
        have hc1:(eC l)[i]? =some (.int .u8 (l[i]).toNat):=by simp [eC,hi]
        obtain ⟨v,hv,hrv⟩:=hr.get hc1
        have:=hL.cell i v hv
        rw [Lib.cell_of_heap hgb,Nat.zero_add,←Array.getElem?_toList] at this
        rw [this,hrv.bc]
        simp [byteCells,hi]
      · rename_i hi
        rw [List.getElem?_eq_none (by simp [byteCells];omega)]
    refine (xS b gb cap v0 cur l w h2 hgb hnc hcm (by omega) hcell h0).mono ?_
    rintro e w' ⟨rfl,rfl⟩
    have hI2:=eM hI τ
    have hI3:=ik hI2
    have hst:(bS σ β τ l).dw τ=σ.ad β (bB β τ l):=by
      rw [hbSt]
      simp only [St.dw,St.ad,St.ai,St.mk.injEq,true_and,and_true]
      funext j
      simp only [upd]
      split
      · rename_i e;subst e;exact hτ.symm
      · rfl
    rw [hst] at hI3
    have htt:∀ τ' x v,(σ.ad β (bB β τ l)).tip τ'=some x→g.tip τ' x.2.2=some v→Held x.2.2 v→v.ownBlock≠some gb:=by
      intro τ' x v hx hv hh
      have hne:τ'≠τ:=by
        rintro rfl
        rw [show (σ.ad β (bB β τ' l)).tip=σ.tip from rfl,hτ] at hx
        cases hx
      have hx':(bS σ β τ l).tip τ'=some x:=by
        rw [hbSt]
        show upd σ.tip τ _ τ'=some x
        rw [upd,if_neg hne];exact hx
      exact hI.tipinj τ τ' _ x _ v gb htip hx' (fun e=>hne e.symm) k1 hv hheld hh rfl
    have hgd:w.drew.heap[gb]? =some (.cells cur 5 (0,0)):=hgb
    obtain ⟨hI4,he4⟩:=tU (n:=l.length) hI3 hgd hcl hnb htt
    exact ⟨_, .str l,_,g,rfl,⟨rfl,rfl⟩,hI4,(eG (g:=g) (w:=w)).trans he4, .str l⟩
end Go.Proofs.YtgephffbfiemeaaGreatDoor
namespace Go.Proofs.YtgephffbfiemeaaGreatDoor
open Go.Abs
set_option linter.all false
set_option maxRecDepth 100000
theorem HS (b:UInt8):Pu Tryz.prog 229 [.int .u8 b.toNat] (.bool (cO b)):=by
 (refine al G0 K4 fun σ=>?_;simp only [G0,↓R1,RR,seval])
 skip
 all_goals (refine ak (af ?_))
 all_goals (simp only [ao,↓R1,RR,seval])
 all_goals rfl
theorem JR (b:UInt8):Pu Tryz.prog 230 [.int .u8 b.toNat] (.bool (bI b)):=by
 (refine al G1 K5 fun σ=>?_;simp only [G1,↓R1,RR,seval])
 repeat' ((first|(refine ir (fun hc=>?_) (fun hc=>?_)<;>(try simp only [hc,↓R1,RR,seval]))|(refine Pt (HS b) ?_))<;>(try simp only [↓R1,RR,seval]))
 all_goals (refine ak (af ?_))
 all_goals (simp only [ao,↓R1,RR,seval])
 all_goals simp only [bI,hc,Bool.true_and,Bool.false_and]
theorem HT (b:UInt8):Pu Tryz.prog 246 [.int .u8 b.toNat] (.bool (aV b)):=by
 (refine al G7 Lb fun σ=>?_;simp only [G7,↓R1,RR,seval])
 skip
 all_goals (refine ak (af ?_))
 all_goals (simp only [ao,↓R1,RR,seval])
 all_goals rfl
theorem mB (b:UInt8):b.toNat<256:=b.toNat_lt
def HU (n:Nat):Int :=
 bif decide ((48:Int)≤n)&&decide ((n:Int)≤57) then IntKind.u8.wrap ((n:Int) - 48)
 else bif decide ((97:Int)≤bits .or .u8 n 32)&&decide (bits .or .u8 n 32≤102) then IntKind.u8.wrap (IntKind.u8.wrap (bits .or .u8 n 32 - 97)+10) else 16
theorem BF:((List.range 256).all fun n=>HU n == ((if 48≤n∧n≤57 then n - 48 else if 97≤n∧n≤102 then n - 87 else if 65≤n∧n≤70 then n - 55 else 16:Nat):Int))=true:=by kernel_rfl
theorem Et (b:UInt8):HU b.toNat=iF b:=by
 have:=List.all_eq_true.1 BF b.toNat (List.mem_range.2 (mB b))
 exact beq_iff_eq.1 this
theorem JS (b:UInt8):Pu Tryz.prog 294 [.int .u8 b.toNat] (.int .u8 (iF b)):=by
 rw [←Et]
 (refine al Hi Ll fun σ=>?_;simp only [Hi,↓R1,RR,seval])
 repeat' ((refine an (fun hc=>?_) (fun hc=>?_))<;>(try simp only [↓R1,RR,seval]))
 all_goals (refine ak (af ?_))
 all_goals (simp only [ao,↓R1,RR,seval])
 all_goals simp only [HU, *,cond_true,cond_false]
theorem dE {σ:St} {β k:Nat} {l:List UInt8} (hb:σ.box β=some [.str l, .int .i64 k]):AC Tryz.prog 199 [.ptr β 0] σ (fun r s=>r= .bool (decide ((k:Int)<l.length))∧s=σ):=by
 haveI:BoxIs σ β [.str l, .int .i64 k]:=⟨hb⟩
 (refine aT GR KX ?_;simp only [GR,↓R1,RR,seval])
 skip
 all_goals (refine ak (af ?_))
 all_goals (simp only [ao,↓R1,RR,seval])
theorem cG {l r:List UInt8} {k:Nat} {c:UInt8} (h:l.drop k=c::r):l[k]? =some c∧k<l.length∧l.drop (k+1)=r:=by
 have h1:l[k]? =some c:=by
  have:=List.getElem?_drop (xs:=l) (i:=k) (j:=0)
  rw [h] at this;simpa using this.symm
 refine ⟨h1,(List.getElem?_eq_some_iff.1 h1).1,?_⟩
 rw [←List.drop_drop,h];rfl
theorem eD {σ:St} {β k:Nat} {l r:List UInt8} {c:UInt8} (hb:σ.box β=some [.str l, .int .i64 k]) (hr:l.drop k=c::r):AC Tryz.prog 200 [.ptr β 0] σ (fun r s=>r= .int .u8 c.toNat∧s=σ):=by
 haveI:BoxIs σ β [.str l, .int .i64 k]:=⟨hb⟩
 obtain ⟨h1,h2,_⟩:=cG hr
 (refine aT GS KY ?_;simp only [GS,↓R1,RR,seval,h1])
 repeat' (with_reducible refine And.intro ?_ ?_;exact aq)
 (refine ak (af ?_))
 (simp only [ao,↓R1,RR,seval,h1])
theorem py {σ:St} {β k:Nat} {l r:List UInt8} {c:UInt8} (hb:σ.box β=some [.str l, .int .i64 k]) (hr:l.drop k=c::r) (hl:l.length≤1000000):AC Tryz.prog 270 [.ptr β 0] σ (fun r s=>r= .int .u8 c.toNat∧s=σ.ad β [.str l, .int .i64 (k+1:Nat)]):=by
 haveI:BoxIs σ β [.str l, .int .i64 k]:=⟨hb⟩
 obtain ⟨h1,h2,_⟩:=cG hr
 have hw:IntKind.i64.wrap ((k:Int)+1)=((k+1:Nat):Int):=by rw [wrap64 (by omega) (by omega)];omega
 have hw2:IntKind.i64.wrap (((k+1:Nat):Int) - 1)=(k:Nat):=by rw [wrap64 (by omega) (by omega)];omega
 (refine aT Hd Lh ?_;simp only [Hd,↓R1,RR,seval,h1,hw,hw2])
 repeat' (with_reducible refine And.intro ?_ ?_;exact aq)
 (refine cq ?_)
 exact ⟨rfl,rfl⟩
def posOf (l r:List UInt8):Nat:=l.length - r.length
theorem eE (l:List UInt8) (k:Nat) (h:k≤l.length):(l.drop k= []∧k=l.length)∨∃ c r,l.drop k=c::r∧k<l.length:=by
  cases hd:l.drop k with
  | nil =>
    have:=congrArg List.length hd
    simp at this
    exact .inl ⟨rfl,by omega⟩
  | cons c r=>exact .inr ⟨c,r,rfl,(cG hd).2.1⟩
theorem mC (l:List UInt8) (k:Nat) (h:k≤l.length):posOf l (l.drop k)=k:=by simp [posOf];omega
theorem jG {l r:List UInt8} {k:Nat} {c:UInt8} (h:l.drop k=c::r):posOf l r=k+1:=by
 obtain ⟨_,h2,h3⟩:=cG h
 rw [←h3];exact mC l (k+1) h2
theorem hG {l r:List UInt8} (h:r <:+ l):l.drop (posOf l r)=r∧posOf l r≤l.length:=by
 obtain ⟨p,rfl⟩:=h
 have:posOf (p++r) r=p.length:=by simp [posOf]
 rw [this]
 exact ⟨by simp,by simp⟩
theorem jH (l:List UInt8) (k:Nat):l.drop k <:+ l:=List.drop_suffix k l
set_option maxHeartbeats 1000000 in
theorem BG {σ:St} {β k:Nat} {l:List UInt8} (hb:σ.box β=some [.str l, .int .i64 k]) (hk:k≤l.length) (hl:l.length≤1000000):AC Tryz.prog 198 [.ptr β 0] σ (fun r s=>r= .tup []∧s=σ.ad β [.str l, .int .i64 (posOf l ((l.drop k).dropWhile aV):Nat)]):=by
  have hc1:True:=trivial
  have hp:True:=trivial
  have hw:True:=trivial
  (refine aT GQ KW ?_;simp only [GQ,↓R1,RR,Nat.reduceEqDiff,Nat.reduceAdd,Nat.reduceLeDiff,Nat.reduceLT,reduceCtorEq,hw,hc1,hp])
  refine bQ (α:=Nat) (fun _=> [(0, .ptr β 0)]) (fun j=>σ.ad β [.str l, .int .i64 (j:Nat)]) (fun j=>j≤l.length∧(l.drop j).dropWhile aV=(l.drop k).dropWhile aV) (fun j=>l.length - j) k (by simp [aE,slot,ae]) (by simp only [St.le,St.ad,upd];exact ⟨fun γ c h=>by split at h<;>simp_all,fun _ _ h=>h,fun _ _ h=>h,fun _ _ h=>h,fun _ _ h=>h⟩) ⟨hk,rfl⟩ ?_
  rintro j ⟨hj,hI⟩
  simp only [↓R1,RR,Nat.reduceEqDiff,Nat.reduceAdd,Nat.reduceLeDiff,Nat.reduceLT,reduceCtorEq,hw,hc1,hp]
  have a1:=dE (σ:=σ.ad β [.str l, .int .i64 (j:Nat)]) (β:=β) (k:=j) (l:=l) (by simp only [↓R1,RR,Nat.reduceEqDiff,Nat.reduceAdd,Nat.reduceLeDiff,Nat.reduceLT,reduceCtorEq,hw,hc1,hp])
  rcases eE l j hj with ⟨hd,rfl⟩|⟨c,r,hd,hlt⟩
  · have hc1:decide ((l.length:Int)<(l.length:Int))=false:=by simp
    simp only [hc1] at a1
    repeat' (((refine AC.mono (AC.wk (a1) (aa _)) ?_;(rintro _ _ ⟨rfl,rfl⟩)))<;>(try simp only [↓R1,RR,Nat.reduceEqDiff,Nat.reduceAdd,Nat.reduceLeDiff,Nat.reduceLT,reduceCtorEq,hw,hc1,hp]))
    (refine cq ?_)
    rw [←hI,hd]
    exact ⟨rfl,rfl⟩
  · have hc1:decide ((j:Int)<(l.length:Int))=true:=by simpa using hlt
    have hw:IntKind.i64.wrap ((j:Int)+1)=((j+1:Nat):Int):=by rw [wrap64 (by omega) (by omega)];omega
    simp only [hc1] at a1
    have a2:=eD (σ:=σ.ad β [.str l, .int .i64 (j:Nat)]) (β:=β) (k:=j) (l:=l) (by simp only [↓R1,RR,Nat.reduceEqDiff,Nat.reduceAdd,Nat.reduceLeDiff,Nat.reduceLT,reduceCtorEq,hw,hc1,hp]) hd
    have a3:=HT c
    cases hp:aV c with
    | true =>
      rw [hp] at a3
      repeat' ((first|((refine AC.mono (AC.wk (a1) (aa _)) ?_;(rintro _ _ ⟨rfl,rfl⟩)))|((refine AC.mono (AC.wk (a2) (aa _)) ?_;(rintro _ _ ⟨rfl,rfl⟩)))|(refine Pt (a3) ?_))<;>(try simp only [↓R1,RR,Nat.reduceEqDiff,Nat.reduceAdd,Nat.reduceLeDiff,Nat.reduceLT,reduceCtorEq,hw,hc1,hp]))
      refine ⟨j+1,⟨by omega,?_⟩,by simp [aE,slot,ae],St.le_refl _,by omega⟩
      rw [←hI,hd,(cG hd).2.2,List.dropWhile_cons,hp];rfl
    | false =>
      rw [hp] at a3
      repeat' ((first|((refine AC.mono (AC.wk (a1) (aa _)) ?_;(rintro _ _ ⟨rfl,rfl⟩)))|((refine AC.mono (AC.wk (a2) (aa _)) ?_;(rintro _ _ ⟨rfl,rfl⟩)))|(refine Pt (a3) ?_))<;>(try simp only [↓R1,RR,Nat.reduceEqDiff,Nat.reduceAdd,Nat.reduceLeDiff,Nat.reduceLT,reduceCtorEq,hw,hc1,hp]))
      (refine cq ?_)
      rw [←hI,hd,List.dropWhile_cons,hp]
      refine ⟨rfl,?_⟩
      rw [if_neg (by simp),←hd,mC l j hj]
theorem eF {P:Program} {σ:St} {K:AV→St→Prop} {f β:Nat} {xs ys c d:List AV} {v:AV} {h:Hold (σ,K)} (hb:σ.box β=some d) (hp:AC P f ys σ (fun x s=>x=v∧s=σ.ad β c)) (hw:wkL xs ys) (hK:K v (σ.ad β c)):sM P f xs σ K h :=
 qA hp hw ⟨rfl,fun γ hγ=>by
  simp only [St.ad,upd]
  split
  ·rename_i e;subst e;rw [hb] at hγ;cases hγ
  ·exact hγ,fun _ h=>h⟩ hK
theorem pz {σ:St} {β:Nat} {c:List AV} (hb:σ.box β=some c):St.le (σ.ad β c) σ :=
 ⟨fun γ d h=>by
  simp only [St.ad,upd] at h
  split at h
  ·rename_i e;subst e;rw [←h];exact hb
  ·exact h,fun _ _ h=>h,fun _ _ h=>h,fun _ _ h=>h,fun _ _ h=>h⟩
def rI (σ:St) (β:Nat) (l:List UInt8) {α:Type} (o:Option (α × List UInt8)) (val:α→AV) (r:AV) (s:St):Prop :=
 match o with
 | some (x,t)=>r= .tup [val x, .bool true]∧s=σ.ad β [.str l, .int .i64 (posOf l t:Nat)]
 | none=>∃ v j,r= .tup [v, .bool false]∧s=σ.ad β [.str l, .int .i64 (j:Nat)]
def mD (b:UInt8):AV:= .int .u8 b.toNat
theorem HV {n:Nat} (h:n<256):(UInt8.ofNat n).toNat=n:=by
 rw [UInt8.toNat_ofNat'];exact Nat.mod_eq_of_lt h
theorem Eu:((List.range 16).all fun a=>(List.range 17).all fun b=>(a == 16||b == 16||decide (IntKind.u8.wrap (bits .or .u8 (IntKind.u8.wrap ((a:Int)*2^min 4 IntKind.u8.bits)) (bits .and .u8 b 15))=((16*a+b:Nat):Int))&&decide (bits .or .u8 (IntKind.u8.wrap ((a:Int)*2^min 4 IntKind.u8.bits)) (bits .and .u8 b 15)=((16*a+b:Nat):Int))))=true:=by kernel_rfl
theorem nib (a b:Nat) (ha:a<16) (hb:b<16):bits .or .u8 (IntKind.u8.wrap ((a:Int)*2^min 4 IntKind.u8.bits)) (bits .and .u8 b 15)=((16*a+b:Nat):Int):=by
 have h1:=List.all_eq_true.1 Eu a (List.mem_range.2 ha)
 have h2:=List.all_eq_true.1 h1 b (List.mem_range.2 (by omega))
 have e1:(a == 16)=false:=by simp;omega
 have e2:(b == 16)=false:=by simp;omega
 simp only [e1,e2,Bool.false_or,Bool.and_eq_true,decide_eq_true_eq] at h2
 exact h2.2
theorem BH {k n:Nat} (h:k≤n) (hn:n≤1000000):IntKind.i64.wrap ((n:Int) - k)=((n - k:Nat):Int):=by
 rw [wrap64 (by omega) (by omega)];omega
set_option maxHeartbeats 1000000 in
theorem HW {σ:St} {β k:Nat} {l:List UInt8} (hb:σ.box β=some [.str l, .int .i64 k]) (hk:k≤l.length) (hl:l.length≤1000000):AC Tryz.prog 287 [.ptr β 0] σ (rI σ β l (jy (l.drop k)) mD):=by
  haveI:BoxIs σ β [.str l, .int .i64 k]:=⟨hb⟩
  have hw:=BH hk hl
  have hlen:(l.drop k).length=l.length - k:=by simp
  cases hd:l.drop k with
  | nil =>
    rw [hd] at hlen
    have hc1:decide (((l.length - k:Nat):Int)<2)=true:=by simp at hlen;simp;omega
    (refine aT tx Hh ?_;simp only [tx,↓R1,RR,Nat.reduceEqDiff,Nat.reduceAdd,Nat.reduceLeDiff,Nat.reduceLT,reduceCtorEq,hw,hc1])
    skip
    refine aB (by simp) (by simp [aj,rvS]) (ae _) (pz hb) ⟨_,k,rfl,rfl⟩
  | cons c r =>
    cases hr:r with
    | nil =>
      rw [hd,hr] at hlen
      have hc1:decide (((l.length - k:Nat):Int)<2)=true:=by simp at hlen;simp;omega
      (refine aT tx Hh ?_;simp only [tx,↓R1,RR,Nat.reduceEqDiff,Nat.reduceAdd,Nat.reduceLeDiff,Nat.reduceLT,reduceCtorEq,hw,hc1])
      skip
      refine aB (by simp) (by simp [aj,rvS]) (ae _) (pz hb) ⟨_,k,rfl,rfl⟩
    | cons c2 r2 =>
      rw [hd,hr] at hlen
      have hc1:decide (((l.length - k:Nat):Int)<2)=false:=by simp at hlen;simp;omega
      have a1:=py hb hd hl
      have hd2:l.drop (k+1)=c2::r2:=by rw [(cG hd).2.2,hr]
      have hb2:(σ.ad β [.str l, .int .i64 (k+1:Nat)]).box β=some [.str l, .int .i64 (k+1:Nat)]:=by simp only [↓R1,RR,Nat.reduceEqDiff,Nat.reduceAdd,Nat.reduceLeDiff,Nat.reduceLT,reduceCtorEq,hw,hc1]
      have a2:=py hb2 hd2 hl
      have d1:=JS c
      have d2:=JS c2
      (refine aT tx Hh ?_;simp only [tx,↓R1,RR,Nat.reduceEqDiff,Nat.reduceAdd,Nat.reduceLeDiff,Nat.reduceLT,reduceCtorEq,hw,hc1])
      repeat' (first|(with_reducible refine And.intro ?_ ?_;exact aq)|((first|(refine eF hb a1 (aa _) ?_)|(refine eF hb2 a2 (aa _) ?_)|(refine Ct (d1) ?_)|(refine Ct (d2) ?_))<;>(try simp only [↓R1,RR,Nat.reduceEqDiff,Nat.reduceAdd,Nat.reduceLeDiff,Nat.reduceLT,reduceCtorEq,hw,hc1])))
      have hp1:posOf l r2=k+1+1:=jG hd2
      by_cases h:iF c<16∧iF c2<16
      · have hn:=nib _ _ h.1 h.2
        refine aB (r:= .tup [mD (UInt8.ofNat (16*iF c+iF c2)), .bool true]) (by simp) (by simp [aj,rvS]) (af ?_) (St.le_refl _) ?_
        · (simp only [ao,↓R1,RR,Nat.reduceEqDiff,Nat.reduceAdd,Nat.reduceLeDiff,Nat.reduceLT,reduceCtorEq,hw,hc1])
          rw [show Int.toNat 4=4 from rfl,hn,mD,HV (by omega)]
          have e1:decide ((iF c:Int)<16)=true:=by simp;omega
          have e2:decide ((iF c2:Int)<16)=true:=by simp;omega
          rw [e1,e2];rfl
        · simp only [rI,jy,if_pos h,hp1,true_and]
      · refine aB (r:= .tup [.int .u8 (bits .or .u8 (IntKind.u8.wrap ((iF c:Int)*2^min (Int.toNat 4) IntKind.u8.bits)) (bits .and .u8 (iF c2) 15)), .bool false]) (by simp) (by simp [aj,rvS]) (af ?_) (St.le_refl _) ?_
        · (simp only [ao,↓R1,RR,Nat.reduceEqDiff,Nat.reduceAdd,Nat.reduceLeDiff,Nat.reduceLT,reduceCtorEq,hw,hc1])
          have:(decide ((iF c:Int)<16)&&decide ((iF c2:Int)<16))=false:=by
            rw [←Bool.not_eq_true,Bool.and_eq_true,decide_eq_true_eq,decide_eq_true_eq];omega
          rw [this]
        · simp only [rI,jy,if_neg h]
          exact ⟨_,k+1+1,rfl,rfl⟩
theorem rJ (b c:UInt8):((b.toNat:Int) == (c.toNat:Int))=decide (b=c):=by
 rw [Bool.eq_iff_iff];simp only [beq_iff_eq,decide_eq_true_eq,Int.natCast_inj,UInt8.toNat_inj]
theorem bW (b:UInt8):((b.toNat:Int) == 120)=decide (b=120):=rJ b 120
theorem au (b:UInt8):((b.toNat:Int) == 34)=decide (b=34):=rJ b 34
theorem ba (b:UInt8):((b.toNat:Int) == 92)=decide (b=92):=rJ b 92
theorem cW (b:UInt8):((b.toNat:Int) == 35)=decide (b=35):=rJ b 35
set_option maxHeartbeats 1000000 in
theorem xU {σ:St} {β k:Nat} {l:List UInt8} (hb:σ.box β=some [.str l, .int .i64 k]) (hk:k≤l.length) (hl:l.length≤1000000):AC Tryz.prog 271 [.ptr β 0] σ (rI σ β l (jz (l.drop k)) mD):=by
  haveI:BoxIs σ β [.str l, .int .i64 k]:=⟨hb⟩
  have a1:=dE hb
  rcases eE l k hk with ⟨hd,he⟩|⟨c,r,hd,hlt⟩
  · have hc1:decide ((k:Int)<(l.length:Int))=false:=by simp;omega
    rw [hd]
    (refine aT AN Ju ?_;simp only [AN,↓R1,RR,Nat.reduceEqDiff,Nat.reduceAdd,Nat.reduceLeDiff,Nat.reduceLT,reduceCtorEq,bW,au,ba,hc1])
    repeat' (((refine AC.mono (AC.wk (a1) (aa _)) ?_;(rintro _ _ ⟨rfl,rfl⟩)))<;>(try simp only [↓R1,RR,Nat.reduceEqDiff,Nat.reduceAdd,Nat.reduceLeDiff,Nat.reduceLT,reduceCtorEq,bW,au,ba,hc1]))
    refine aB (by simp) (by simp [aj,rvS]) (ae _) (pz hb) ⟨_,k,rfl,rfl⟩
  · have hc1:decide ((k:Int)<(l.length:Int))=true:=by simpa using hlt
    have a2:=py hb hd hl
    have hb2:(σ.ad β [.str l, .int .i64 (k+1:Nat)]).box β=some [.str l, .int .i64 (k+1:Nat)]:=by simp only [↓R1,RR,Nat.reduceEqDiff,Nat.reduceAdd,Nat.reduceLeDiff,Nat.reduceLT,reduceCtorEq,bW,au,ba,hc1]
    have a3:=HW hb2 hlt hl
    rw [(cG hd).2.2] at a3
    have hp1:posOf l r=k+1:=jG hd
    rw [hd]
    (refine aT AN Ju ?_;simp only [AN,↓R1,RR,Nat.reduceEqDiff,Nat.reduceAdd,Nat.reduceLeDiff,Nat.reduceLT,reduceCtorEq,bW,au,ba,hc1])
    repeat' ((first|(refine an (fun hc=>?_) (fun hc=>?_))|((refine AC.mono (AC.wk (a1) (aa _)) ?_;(rintro _ _ ⟨rfl,rfl⟩)))|((refine AC.mono (AC.wk (a2) (aa _)) ?_;(rintro _ _ ⟨rfl,rfl⟩))))<;>(try simp only [↓R1,RR,Nat.reduceEqDiff,Nat.reduceAdd,Nat.reduceLeDiff,Nat.reduceLT,reduceCtorEq,bW,au,ba,hc1]))
    · have h:c=120:=by simpa using hc
      cases hp:jy r with
      | none =>
        rw [hp] at a3
        refine (AC.wk a3 (aa _)).mono ?_
        rintro _ _ ⟨v,j,rfl,rfl⟩
        simp only [↓R1,RR,Nat.reduceEqDiff,Nat.reduceAdd,Nat.reduceLeDiff,Nat.reduceLT,reduceCtorEq,bW,au,ba,hc1]
        (refine cq ?_)
        simp only [rI,jz,if_pos h,hp]
        exact ⟨v,j,rfl,rfl⟩
      | some q =>
        rw [hp] at a3
        refine (AC.wk a3 (aa _)).mono ?_
        rintro _ _ ⟨rfl,rfl⟩
        simp only [↓R1,RR,Nat.reduceEqDiff,Nat.reduceAdd,Nat.reduceLeDiff,Nat.reduceLT,reduceCtorEq,bW,au,ba,hc1]
        (refine cq ?_)
        simp only [rI,jz,if_pos h,hp]
        exact ⟨rfl,trivial⟩
    · have h:c≠120:=by simpa using hc
      by_cases h2:c=34∨c=92
      · refine aB (r:= .tup [mD c, .bool true]) (by simp) (by simp [aj,rvS]) (af ?_) (St.le_refl _) ?_
        · (simp only [ao,↓R1,RR,Nat.reduceEqDiff,Nat.reduceAdd,Nat.reduceLeDiff,Nat.reduceLT,reduceCtorEq,bW,au,ba,hc1])
          rcases h2 with rfl|rfl<;>rfl
        · simp only [rI,jz,if_neg h,if_pos h2,hp1,true_and]
      · refine aB (r:= .tup [mD c, .bool false]) (by simp) (by simp [aj,rvS]) (af ?_) (St.le_refl _) ?_
        · (simp only [ao,↓R1,RR,Nat.reduceEqDiff,Nat.reduceAdd,Nat.reduceLeDiff,Nat.reduceLT,reduceCtorEq,bW,au,ba,hc1])
          have e1:decide (c=34)=false:=decide_eq_false (fun e=>h2 (.inl e))
          have e2:decide (c=92)=false:=decide_eq_false (fun e=>h2 (.inr e))
          rw [e1,e2];rfl
        · simp only [rI,jz,if_neg h,if_neg h2]
          exact ⟨_,k+1,rfl,rfl⟩
def fS (b:UInt8):Bool:=decide ((32:Int)≤b.toNat)&&decide ((b.toNat:Int)≤126)
theorem HX (b:UInt8):Pu Tryz.prog 179 [.int .u8 b.toNat] (.bool (fS b)):=by
 (refine al GF KL fun σ=>?_;simp only [GF,↓R1,RR,seval])
 skip
 all_goals (refine ak (af ?_))
 all_goals (simp only [ao,↓R1,RR,seval])
 all_goals rfl
theorem Ml (b:UInt8):Pu Tryz.prog 177 [.int .u8 b.toNat] (.bool (bI b)):=by
 have e:bI b=(fS b&&((b.toNat:Int) != 32)&&((b.toNat:Int) != 34)&&((b.toNat:Int) != 92)):=by
  simp only [bI,cO,fS]
  generalize decide ((32:Int)≤b.toNat)=x1
  generalize decide ((b.toNat:Int)≤126)=x2
  generalize ((b.toNat:Int) != 32)=x3
  generalize ((b.toNat:Int) != 34)=x4
  generalize ((b.toNat:Int) != 92)=x5
  cases x1<;>cases x2<;>cases x3<;>cases x4<;>cases x5<;>rfl
 rw [e]
 (refine al GC KJ fun σ=>?_;simp only [GC,↓R1,RR,seval])
 repeat' (first|((first|refine Pu.to (HX b) (aa _) ?_|refine aK (HX b) (aa _) ?_);(try simp only [↓R1,RR,seval])))
 all_goals (refine ak (af ?_))
 all_goals (simp only [ao,↓R1,RR,seval])
 all_goals (try rfl)
theorem byte_at (l:List UInt8) {k:Nat} (h:k<l.length):l[k]? =some l[k]:=List.getElem?_eq_getElem h
theorem kf (p:UInt8→Bool) (l:List UInt8) {k:Nat} (h:k<l.length):(l.take (k+1)).all p=((l.take k).all p&&p l[k]):=by
 rw [←List.take_append_getElem h,List.all_append];simp
theorem jd (l:List UInt8) {k:Nat} (h:k<l.length):((l.map fun b=>AV.int .u8 b.toNat).drop (k*1)).take 1= [.int .u8 l[k].toNat]:=by
 rw [Nat.mul_one,List.drop_eq_getElem_cons (by simpa using h)]
 simp
set_option maxHeartbeats 1000000 in
theorem JT (l:List UInt8) (hl:l.length≤1000000):Pu Tryz.prog 187 [.str l] (.bool (bareS l)):=by
  have q1:True:=trivial
  have q2:True:=trivial
  have hw:True:=trivial
  have hd:True:=trivial
  (refine al GI KO fun σ=>?_;simp only [GI,↓R1,RR,seval,q1,q2,hw,hd])
  refine bn l.length (fun k=> [(0, .str l),(6, .sl false l.length (l.map fun b=> .int .u8 b.toNat)),(7, .int .i64 (l.length:Nat)),(8, .int .i64 (k:Nat))]) (fun _=>σ) (fun k=>(l.take k).all bI=true) (by simp [aE,slot,ae]) (St.le_refl _) (by simp) (fun k hk hI=>?_)
  by_cases hlt:k<l.length
  · have q1:decide ((k:Int)<(l.length:Int))=true:=by rw [decide_eq_true_eq];omega
    have hd:=jd l hlt
    have hw:IntKind.i64.wrap ((k:Int)+1)=((k+1:Nat):Int):=by rw [wrap64 (by omega) (by omega)];omega
    have hp:=JR l[k]
    simp only [q1,↓R1,RR,seval,q1,q2,hw,hd]
    cases hb:bI l[k] with
    | true =>
      rw [hb] at hp
      repeat' (first|(with_reducible refine And.intro ?_ ?_;(focus (first|omega|(intros;(repeat' (with_reducible apply And.intro))<;>first|omega|(simp only [List.length_map];omega)))))|(with_reducible apply And.intro)|((first|refine Pu.to (hp) (aa _) ?_|refine aK (hp) (aa _) ?_);(try simp only [↓R1,RR,seval,q1,q2,hw,hd])))
      all_goals first|(simp only [List.length_map];omega)|skip
      all_goals first|(rw [kf _ _ hlt,hI,hb];rfl)|(simp [aE,slot,ae];done)|exact St.le_refl _
    | false =>
      rw [hb] at hp
      repeat' (first|(with_reducible refine And.intro ?_ ?_;(focus (first|omega|(intros;(repeat' (with_reducible apply And.intro))<;>first|omega|(simp only [List.length_map];omega)))))|((first|refine Pu.to (hp) (aa _) ?_|refine aK (hp) (aa _) ?_);(try simp only [↓R1,RR,seval,q1,q2,hw,hd])))
      all_goals first|(simp only [List.length_map];omega)|skip
      (refine ak (af ?_))
      (simp only [ao,↓R1,RR,seval,q1,q2,hw,hd])
      have:l.all bI=false:=by
        rw [←Bool.not_eq_true,List.all_eq_true]
        intro h
        have:=h l[k] (List.getElem_mem hlt)
        rw [hb] at this;cases this
      simp only [bareS,this,Bool.false_and]
  · have hke:k=l.length:=by omega
    subst hke
    have q1:decide ((l.length:Int)<(l.length:Int))=false:=by simp
    rw [List.take_length] at hI
    by_cases hnil:l= []
    · have q2:(l == [])=true:=by rw [hnil];rfl
      have e:bareS l=false:=by rw [hnil];rfl
      rw [e]
      simp only [q1,↓R1,RR,seval,q1,q2,hw,hd]
      skip
      (refine ak (af ?_))
      (simp only [ao,↓R1,RR,seval,q1,q2,hw,hd])
    · obtain ⟨c,m,e⟩:∃ c m,l=c::m:=by
        cases l with
        | nil=>exact (hnil rfl).elim
        | cons c m=>exact ⟨c,m,rfl⟩
      have q2:(l == [])=false:=by rw [e];rfl
      have hd:l[0]? =some c:=by rw [e];rfl
      have e2:bareS l=((c.toNat:Int) != 35):=by
        unfold bareS
        rw [hI,Bool.true_and]
        subst e
        show (c != 35)=_
        rw [bne,bne,cW]
        congr 1
      have hl1:0<l.length:=by rw [e];simp
      rw [e2]
      simp only [q1,↓R1,RR,seval,q1,q2,hw,hd]
      repeat' (first|(with_reducible refine And.intro ?_ ?_;(focus (first|omega|(intros;(repeat' (with_reducible apply And.intro))<;>first|omega|(simp only [List.length_map];omega))))))
      all_goals first|omega|skip
      (refine ak (af ?_))
      (simp only [ao,↓R1,RR,seval,q1,q2,hw,hd])
set_option maxHeartbeats 1000000 in
theorem HY (l:List UInt8) (hl:l.length≤1000000):Pu Tryz.prog 117 [.str l] (.bool (bareS l)):=by
  have q1:True:=trivial
  have q2:True:=trivial
  have hw:True:=trivial
  have hd:True:=trivial
  by_cases hnil:l= []
  · have q2:(l == [])=true:=by rw [hnil];rfl
    have e:bareS l=false:=by rw [hnil];rfl
    rw [e]
    (refine al tq Gd fun σ=>?_;simp only [tq,↓R1,RR,seval,q1,q2,hw,hd])
    skip
    (refine ak (af ?_))
    (simp only [ao,↓R1,RR,seval,q1,q2,hw,hd])
  · obtain ⟨c,m,e⟩:∃ c m,l=c::m:=by
      cases l with
      | nil=>exact (hnil rfl).elim
      | cons c m=>exact ⟨c,m,rfl⟩
    have q2:(l == [])=false:=by rw [e];rfl
    have hd:l[0]? =some c:=by rw [e];rfl
    have hl1:0<l.length:=by rw [e];simp
    have e2:bareS l=(l.all bI&&(c != 35)):=by unfold bareS;subst e;rfl
    by_cases h35:c=35
    · have q1:((c.toNat:Int) == 35)=true:=by rw [cW];simpa using h35
      have e3:bareS l=false:=by rw [e2,h35];simp
      rw [e3]
      (refine al tq Gd fun σ=>?_;simp only [tq,↓R1,RR,seval,q1,q2,hw,hd])
      repeat' (first|(with_reducible refine And.intro ?_ ?_;(focus (first|omega|(intros;(repeat' (with_reducible apply And.intro))<;>first|omega|(simp only [List.length_map];omega))))))
      all_goals first|omega|skip
      (refine ak (af ?_))
      (simp only [ao,↓R1,RR,seval,q1,q2,hw,hd])
    · have q1:((c.toNat:Int) == 35)=false:=by rw [cW];simpa using h35
      have e3:bareS l=l.all bI:=by
        have:(c != 35)=true:=by simpa using h35
        rw [e2,this,Bool.and_true]
      rw [e3]
      (refine al tq Gd fun σ=>?_;simp only [tq,↓R1,RR,seval,q1,q2,hw,hd])
      repeat' (first|(with_reducible refine And.intro ?_ ?_;(focus (first|omega|(intros;(repeat' (with_reducible apply And.intro))<;>first|omega|(simp only [List.length_map];omega))))))
      all_goals first|omega|skip
      clear hd
      refine bn l.length (fun k=> [(0, .str l),(3, .int .i64 (k:Nat))]) (fun _=>σ) (fun k=>(l.take k).all bI=true) (by simp [aE,slot,ae]) (St.le_refl _) (by simp) (fun k hk hI=>?_)
      by_cases hlt:k<l.length
      · have q1:decide ((k:Int)<(l.length:Int))=true:=by rw [decide_eq_true_eq];omega
        have hd:=byte_at l hlt
        have hw:IntKind.i64.wrap ((k:Int)+1)=((k+1:Nat):Int):=by rw [wrap64 (by omega) (by omega)];omega
        have hp:=Ml l[k]
        simp only [q1,↓R1,RR,seval,q1,q2,hw,hd]
        cases hb:bI l[k] with
        | true =>
          rw [hb] at hp
          repeat' (first|(with_reducible refine And.intro ?_ ?_;(focus (first|omega|(intros;(repeat' (with_reducible apply And.intro))<;>first|omega|(simp only [List.length_map];omega)))))|(with_reducible apply And.intro)|((first|refine Pu.to (hp) (aa _) ?_|refine aK (hp) (aa _) ?_);(try simp only [↓R1,RR,seval,q1,q2,hw,hd])))
          all_goals first|omega|skip
          all_goals first|(rw [kf _ _ hlt,hI,hb];rfl)|(simp [aE,slot,ae];done)|exact St.le_refl _
        | false =>
          rw [hb] at hp
          repeat' (first|(with_reducible refine And.intro ?_ ?_;(focus (first|omega|(intros;(repeat' (with_reducible apply And.intro))<;>first|omega|(simp only [List.length_map];omega)))))|((first|refine Pu.to (hp) (aa _) ?_|refine aK (hp) (aa _) ?_);(try simp only [↓R1,RR,seval,q1,q2,hw,hd])))
          all_goals first|omega|skip
          (refine ak (af ?_))
          (simp only [ao,↓R1,RR,seval,q1,q2,hw,hd])
          have:l.all bI=false:=by
            rw [←Bool.not_eq_true,List.all_eq_true]
            intro h
            have:=h l[k] (List.getElem_mem hlt)
            rw [hb] at this;cases this
          rw [this]
      · have hke:k=l.length:=by omega
        subst hke
        have q1:decide ((l.length:Int)<(l.length:Int))=false:=by simp
        rw [List.take_length] at hI
        simp only [q1,↓R1,RR,seval,q1,q2,hw,hd]
        skip
        (refine ak (af ?_))
        (simp only [ao,↓R1,RR,seval,q1,q2,hw,hd])
        rw [hI]
theorem jI (n:Nat) (h:n<16):(([48,49,50,51,52,53,54,55,56,57,97,98,99,100,101,102]:List UInt8).drop n).take 1= [lb n]:=by
 have:∀ n,n<16→(([48,49,50,51,52,53,54,55,56,57,97,98,99,100,101,102]:List UInt8).drop n).take 1= [lb n]:=by decide
 exact this n h
theorem Mm (b:UInt8):Pu Tryz.prog 180 [.int .u8 b.toNat] (.str [lb (b.toNat / 16),lb (b.toNat % 16)]):=by
 have hb:=mB b
 have q1:IntKind.u8.wrap (Int.tdiv (b.toNat:Int) 16)=((b.toNat / 16:Nat):Int):=by
  rw [show Int.tdiv (b.toNat:Int) 16=((b.toNat / 16:Nat):Int) from rfl];simp [IntKind.wrap,IntKind.signed,IntKind.bits];omega
 have q2:Int.tmod (b.toNat:Int) 16=((b.toNat % 16:Nat):Int):=rfl
 have q3:IntKind.u8.wrap (((b.toNat / 16:Nat):Int)+1)=((b.toNat / 16+1:Nat):Int):=by simp [IntKind.wrap,IntKind.signed,IntKind.bits];omega
 have q4:IntKind.u8.wrap (((b.toNat % 16:Nat):Int)+1)=((b.toNat % 16+1:Nat):Int):=by simp [IntKind.wrap,IntKind.signed,IntKind.bits];omega
 have q5:=jI (b.toNat / 16) (by omega)
 have q6:=jI (b.toNat % 16) (by omega)
 (refine al GG KM fun σ=>?_;simp only [GG,↓R1,RR,seval,q1,q2,q3,q4,q5,q6])
 repeat' (first|(with_reducible refine And.intro ?_ ?_;(focus (first|omega|(intros;(repeat' (with_reducible apply And.intro))<;>first|omega|(simp only [List.length_map];omega)))))|(with_reducible apply And.intro))
 ·simp only [Nat.add_sub_cancel_left,q5,q6,List.length_cons,List.length_nil];omega
 ·(refine ak (af ?_))
  (simp only [ao,↓R1,RR,seval,q1,q2,q3,q4,q5,q6])
  simp only [Nat.add_sub_cancel_left,q5,q6]
  rfl
def u4 (σ:St) (β:Nat) (l:List UInt8) (o:Option (List UInt8 × List UInt8)) (r:AV) (s:St):Prop :=
 match o with
 | some (x,t)=>r= .tup [.str x, .bool true]∧s=σ.ad β [.str l, .int .i64 (posOf l t:Nat)]
 | none=>∃ j,r= .tup [.str [], .bool false]∧s=σ.ad β [.str l, .int .i64 (j:Nat)]
set_option maxHeartbeats 4000000 in
theorem rK {σ:St} {β k:Nat} {l:List UInt8} (hb:σ.box β=some [.str l, .int .i64 k]) (hk:k≤l.length) (hl:l.length≤1000000):AC Tryz.prog 247 [.ptr β 0] σ (u4 σ β l (fw (l.drop k))):=by
  have hc1:True:=trivial
  have q1:True:=trivial
  have q2:True:=trivial
  haveI hbi:BoxIs σ β [.str l, .int .i64 k]:=⟨hb⟩
  (refine aT G8 Lc ?_;simp only [G8,↓R1,RR,seval,bW,au,ba,hc1,q1,q2])
  refine j6 (fun γ hγ hγt=>?_)
  obtain ⟨_,_⟩:=ag hbi hγ
  simp only [↓R1,RR,seval,bW,au,ba,hc1,q1,q2]
  refine bQ (α:=Nat × Nat × List UInt8) (fun _=> [(0, .ptr β 0),(4, .ptr γ 0)]) (fun z=>bS ((σ.cm γ 222).ad β [.str l, .int .i64 (z.1:Nat)]) γ z.2.1 z.2.2)
    (fun z=>z.1≤l.length∧(z.2.2≠ []→σ.tip z.2.1=none)∧z.2.2.length≤z.1∧fw (l.drop k)=(fw (l.drop z.1)).map fun q=>(z.2.2++q.1,q.2)) (fun z=>l.length - z.1) (k,0,[]) (by simp [aE,slot,ae])
    (by rw [kR (show (σ.cm γ 222).box β=_ from hb)];exact St.le_refl _) ⟨hk,(fun h=>absurd rfl h),Nat.zero_le _,(by cases fw (l.drop k)<;>simp)⟩ ?_
  rintro ⟨j,τ,out⟩ ⟨hj,hτ,hlen,hI⟩
  simp only at hj hτ hlen hI
  have hbS:∀ (j:Nat) τ out,(bS ((σ.cm γ 222).ad β [.str l, .int .i64 j]) γ τ out).box β=some [.str l, .int .i64 j]:=fun j τ out=>by
    rw [rH];simp only [↓R1,RR,seval,bW,au,ba,hc1,q1,q2]
  have hset:∀ (i j:Nat) τ out,(bS ((σ.cm γ 222).ad β [.str l, .int .i64 i]) γ τ out).ad β [.str l, .int .i64 j]=bS ((σ.cm γ 222).ad β [.str l, .int .i64 j]) γ τ out:=fun i j τ out=>by
    rw [HR];simp only [↓R1,RR,seval,bW,au,ba,hc1,q1,q2]
  have hbt:∀ j:Nat,((σ.cm γ 222).ad β [.str l, .int .i64 j]).bt γ=some 222:=fun j=>St.lD _ _ _
  have hle:∀ (j:Nat) τ out,(out≠ []→σ.tip τ=none)→St.le (σ.ad β [.str l, .int .i64 j]) (bS ((σ.cm γ 222).ad β [.str l, .int .i64 j]) γ τ out):=fun j τ out h=>by
    refine E6 (St.gX (St.le_refl _) hγt) ?_ h
    rw [St.aD];exact ⟨⟨by assumption,by assumption⟩,hγ⟩
  have a1:=dE (hbS j τ out)
  simp only [↓R1,RR,seval,bW,au,ba,hc1,q1,q2]
  rcases eE l j hj with ⟨hd,he⟩|⟨c,r,hd,hlt⟩
  · have hc1:decide ((j:Int)<(l.length:Int))=false:=by simp;omega
    repeat' (((refine AC.mono (AC.wk (a1) (aa _)) ?_;(rintro _ _ ⟨rfl,rfl⟩)))<;>(try simp only [↓R1,RR,seval,bW,au,ba,hc1,q1,q2]))
    rw [hd,xA,Option.map_none] at hI
    refine aB (by simp) (by simp [aj,rvS]) (ae _) (hle j τ out hτ) ?_
    rw [hI]
    exact ⟨j,rfl,rfl⟩
  · have hc1:decide ((j:Int)<(l.length:Int))=true:=by simpa using hlt
    have a2:=py (hbS j τ out) hd hl
    rw [hset] at a2
    have a3:=mA (β:=γ) (τ:=τ) (l:=out) (σ:=(σ.cm γ 222).ad β [.str l, .int .i64 (j+1:Nat)]) hτ (hbt _)
    have a4:=xU (hbS (j+1) τ out) hlt hl
    rw [(cG hd).2.2] at a4
    have a5:=HS c
    have hp1:posOf l r=j+1:=jG hd
    rw [hd,tn] at hI
    have hsf:∀ {m:List UInt8},m <:+ r→l.drop (posOf l m)=m∧posOf l m≤l.length:=fun hm=>hG (hm.trans (by rw [←(cG hd).2.2];exact jH _ _))
    have hgrow:∀ (i:Nat) (x:UInt8),AC Tryz.prog 228 (.ptr γ 0:: [.int .u8 x.toNat]) (bS ((σ.cm γ 222).ad β [.str l, .int .i64 i]) γ τ out) (fun v s=>v= .nili∧∃ τ',σ.tip τ'=none∧s=bS ((σ.cm γ 222).ad β [.str l, .int .i64 i]) γ τ' (out++ [x])):=fun i x =>
      (fz γ x ((σ.cm γ 222).ad β [.str l, .int .i64 i]) τ out hτ (hbt i) (by simp;omega)).mono (by rintro v s ⟨rfl,τ',h1,_,h2⟩;exact ⟨rfl,τ',h1,h2⟩)
    by_cases h34:c=34
    · have q1:decide (c=34)=true:=by simpa using h34
      rw [if_pos h34] at hI
      repeat' ((first|((refine AC.mono (AC.wk (a1) (aa _)) ?_;(rintro _ _ ⟨rfl,rfl⟩)))|((refine AC.mono (AC.wk (a2) (aa _)) ?_;(rintro _ _ ⟨rfl,rfl⟩)))|((refine AC.mono (AC.wk (a3) (aa _)) ?_;(rintro _ _ ⟨rfl,rfl⟩))))<;>(try simp only [↓R1,RR,seval,bW,au,ba,hc1,q1,q2]))
      refine aB (r:= .tup [.str out, .bool true]) (by simp) (by simp [aj,rvS]) (af (by (simp only [ao,↓R1,RR,seval,bW,au,ba,hc1,q1,q2]))) (σ':=σ.ad β [.str l, .int .i64 (j+1:Nat)]) ?_ ?_
      · refine St.aw (St.gX (St.le_refl _) hγt) ?_
        rw [St.aD];exact ⟨⟨by assumption,by assumption⟩,hγ⟩
      · rw [hI]
        simp only [u4,Option.map_some,List.append_nil,hp1,and_self]
    · have q1:decide (c=34)=false:=by simpa using h34
      rw [if_neg h34] at hI
      by_cases h92:c=92
      · have q2:decide (c=92)=true:=by simpa using h92
        rw [if_pos h92] at hI
        cases he:jz r with
        | none =>
          rw [he] at a4 hI
          repeat' ((first|((refine AC.mono (AC.wk (a1) (aa _)) ?_;(rintro _ _ ⟨rfl,rfl⟩)))|((refine AC.mono (AC.wk (a2) (aa _)) ?_;(rintro _ _ ⟨rfl,rfl⟩))))<;>(try simp only [↓R1,RR,seval,bW,au,ba,hc1,q1,q2]))
          refine (AC.wk a4 (aa _)).mono ?_
          rintro _ _ ⟨v,i,rfl,rfl⟩
          rw [hset]
          simp only [↓R1,RR,seval,bW,au,ba,hc1,q1,q2]
          refine aB (r:= .tup [.str [], .bool false]) (by simp) (by simp [aj,rvS]) (af (by (simp only [ao,↓R1,RR,seval,bW,au,ba,hc1,q1,q2]))) (hle i τ out hτ) ?_
          rw [hI]
          exact ⟨i,rfl,rfl⟩
        | some q =>
          rw [he] at a4 hI
          obtain ⟨hd1,hd2⟩:=hsf (qU (x:=q.1) he)
          have hql:=gY (x:=q.1) he
          have hrl:r.length=l.length - (j+1):=by rw [←(cG hd).2.2];simp
          have hpq:posOf l q.2=l.length - q.2.length:=rfl
          repeat' ((first|((refine AC.mono (AC.wk (a1) (aa _)) ?_;(rintro _ _ ⟨rfl,rfl⟩)))|((refine AC.mono (AC.wk (a2) (aa _)) ?_;(rintro _ _ ⟨rfl,rfl⟩))))<;>(try simp only [↓R1,RR,seval,bW,au,ba,hc1,q1,q2]))
          refine (AC.wk a4 (aa _)).mono ?_
          rintro _ _ ⟨rfl,rfl⟩
          rw [hset]
          simp only [mD,↓R1,RR,seval,bW,au,ba,hc1,q1,q2]
          refine (AC.wk (hgrow _ q.1) (aa _)).mono ?_
          rintro _ _ ⟨rfl,τ',hτ',rfl⟩
          simp only [↓R1,RR,seval,bW,au,ba,hc1,q1,q2]
          refine ⟨(posOf l q.2,τ',out++ [q.1]),⟨hd2,fun _=>hτ',?_,?_⟩,by simp [aE,slot,ae],St.le_refl _,?_⟩
          · simp only [List.length_append,List.length_cons,List.length_nil];omega
          · rw [hI]
            simp only [hd1,Option.map_map]
            congr 1
            funext z
            simp
          · simp only;omega
      · have q2:decide (c=92)=false:=by simpa using h92
        rw [if_neg h92] at hI
        cases hpl:cO c with
        | true =>
          rw [hpl] at a5
          rw [hpl,if_pos rfl] at hI
          repeat' ((first|((refine AC.mono (AC.wk (a1) (aa _)) ?_;(rintro _ _ ⟨rfl,rfl⟩)))|((refine AC.mono (AC.wk (a2) (aa _)) ?_;(rintro _ _ ⟨rfl,rfl⟩)))|(refine Pt (a5) ?_))<;>(try simp only [↓R1,RR,seval,bW,au,ba,hc1,q1,q2]))
          refine (AC.wk (hgrow _ c) (aa _)).mono ?_
          rintro _ _ ⟨rfl,τ',hτ',rfl⟩
          simp only [↓R1,RR,seval,bW,au,ba,hc1,q1,q2]
          refine ⟨(j+1,τ',out++ [c]),⟨hlt,fun _=>hτ',?_,?_⟩,by simp [aE,slot,ae],St.le_refl _,?_⟩
          · simp only [List.length_append,List.length_cons,List.length_nil];omega
          · rw [hI]
            simp only [(cG hd).2.2,Option.map_map]
            congr 1
            funext z
            simp
          · simp only;omega
        | false =>
          rw [hpl] at a5
          rw [hpl,if_neg (by simp)] at hI
          repeat' ((first|((refine AC.mono (AC.wk (a1) (aa _)) ?_;(rintro _ _ ⟨rfl,rfl⟩)))|((refine AC.mono (AC.wk (a2) (aa _)) ?_;(rintro _ _ ⟨rfl,rfl⟩)))|(refine Pt (a5) ?_))<;>(try simp only [↓R1,RR,seval,bW,au,ba,hc1,q1,q2]))
          refine aB (r:= .tup [.str [], .bool false]) (by simp) (by simp [aj,rvS]) (af (by (simp only [ao,↓R1,RR,seval,bW,au,ba,hc1,q1,q2]))) (hle (j+1) τ out hτ) ?_
          rw [hI]
          exact ⟨j+1,rfl,rfl⟩
end Go.Proofs.YtgephffbfiemeaaGreatDoor
namespace Go.Abs
theorem di {P:Program} {σ:St} {K:AV→St→Prop} {f:Nat} {xs ys:List AV} {v:AV} {b:Bool} {p:Prop} {h:Hold (σ,K)} (hp:b=true→p∧(∀ σ2,St.le σ σ2→AC P f ys σ2 (fun x s=>x=v∧s=σ2))∧wkL xs ys) (hK:K (.opt b v) σ):l7 P b f p xs σ K h :=
 ⟨v,fun hb=>⟨(hp hb).1,fun σ2 hl=>((hp hb).2.1 σ2 hl).wk (hp hb).2.2⟩,hK⟩
theorem fT {P:Program} {σ:St} {K:AV→St→Prop} {f:Nat} {xs:List AV} {p:Prop} {h:Hold (σ,K)} (hK:K (.opt false .junk) σ):l7 P false f p xs σ K h :=
 ⟨.junk,(fun hb=>by cases hb),hK⟩
end Go.Abs
namespace Go.Proofs.YtgephffbfiemeaaGreatDoor
open Go.Abs
set_option linter.all false
set_option maxRecDepth 100000
def wdV (k:Nat) (p:Bool × List UInt8):AV:= .agg [.bool p.1, .str p.2, .int .i64 (k:Nat)]
theorem pA {l:List UInt8} {k j:Nat} (hkj:k≤j) (hj:j≤l.length) {p:UInt8→Bool} (h:(l.drop k).dropWhile p=l.drop j):(l.drop k).takeWhile p=(l.drop k).take (j - k):=by
 have h1:=List.takeWhile_append_dropWhile (p:=p) (l:=l.drop k)
 have h2:=List.take_append_drop (j - k) (l.drop k)
 rw [List.drop_drop,show k+(j - k)=j by omega] at h2
 rw [h] at h1
 exact List.append_cancel_right (h1.trans h2.symm)
def rL (σ:St) (β:Nat) (l:List UInt8) (k:Nat) (o:Option (Bool × List UInt8 × List UInt8)) (r:AV) (s:St):Prop :=
 match o with
 | some (q,t,m)=>r= .tup [wdV k (q,t), .bool true]∧s=σ.ad β [.str l, .int .i64 (posOf l m:Nat)]
 | none=>∃ p j,r= .tup [wdV k p, .bool false]∧s=σ.ad β [.str l, .int .i64 (j:Nat)]
theorem gC {σ:St} {u γ:Nat} {c d:List AV} (hn:σ.box γ=none) (h:Apart γ u):St.le (σ.ad u c) ((σ.ad γ d).ad u c):=by
 refine ⟨fun δ x hx=>?_,fun _ _ h=>h,fun _ _ h=>h,fun _ _ h=>h,fun _ _ h=>h⟩
 simp only [St.ad,upd] at hx ⊢
 split
 ·rename_i e;rw [if_pos e] at hx;exact hx
 ·rename_i e
  rw [if_neg e] at hx
  rw [if_neg]
  ·exact hx
  ·rintro rfl;rw [hn] at hx;cases hx
set_option maxHeartbeats 4000000 in
theorem HZ {σ:St} {u k:Nat} {l:List UInt8} {c:UInt8} {r:List UInt8} (hb:σ.box u=some [.str l, .int .i64 k]) (hr:l.drop k=c::r) (hl:l.length≤1000000):AC Tryz.prog 201 [.ptr u 0] σ (rL σ u l k (de (c::r))):=by
  have hc1:True:=trivial
  have q1:True:=trivial
  have q2:True:=trivial
  have hw:True:=trivial
  haveI hbi:BoxIs σ u [.str l, .int .i64 k]:=⟨hb⟩
  have hlt:k<l.length:=(cG hr).2.1
  have hp1:posOf l r=k+1:=jG hr
  have hw:IntKind.i64.wrap ((k:Int)+1)=((k+1:Nat):Int):=by rw [wrap64 (by omega) (by omega)];omega
  by_cases h34:c=34
  · have q1:decide (c=34)=true:=by simpa using h34
    have e1:de (c::r)=match fw r with
      | some (t,r')=>if jA r' then some (true,t,r') else none
      | none=>none:=by simp only [de,if_pos h34];rfl
    have hrr:l.drop (k+1)=r:=(cG hr).2.2
    cases hq:fw r with
    | none =>
      rw [hq] at e1
      have a4:∀ s:St,s.box u=some [.str l, .int .i64 (k+1:Nat)]→AC Tryz.prog 247 [.ptr u 0] s (u4 s u l none):=fun s hs=>by
        have:=rK hs hlt hl
        rwa [hrr,hq] at this
      (refine aT tv GU ?_;simp only [tv,↓R1,RR,seval,au,hc1,q1,q2,hw])
      repeat' (first|(with_reducible rw [ah])|((first|(with_reducible intro β hβ;(try simp only [RB] at hβ);(repeat (obtain ⟨⟨_,_⟩,hβ⟩:=hβ));(try (have hbis:=ag (by assumption) hβ;obtain ⟨_,_⟩:=hbis)))|((refine AC.mono (AC.wk (eD (k:=k) (l:=l) (by simp only [↓R1,RR,seval,au,hc1,q1,q2,hw]) hr) (aa _)) ?_;(rintro _ _ ⟨rfl,rfl⟩))))<;>(try simp only [↓R1,RR,seval,au,hc1,q1,q2,hw])))
      refine (AC.wk (a4 _ (by simp only [↓R1,RR,seval,au,hc1,q1,q2,hw])) (aa _)).mono ?_
      rintro _ _ ⟨j,rfl,rfl⟩
      simp only [↓R1,RR,seval,au,hc1,q1,q2,hw]
      repeat' (((refine fT ?_))<;>(try simp only [↓R1,RR,seval,au,hc1,q1,q2,hw]))
      refine aB (r:= .tup [wdV k (true,[]), .bool false]) (by simp) (by first|(simp [aj,rvS];done)|(simp only [aj,rvS,↓R1,RR,seval,au,hc1,q1,q2,hw];try simp)) (af (by (simp only [ao,↓R1,RR,seval,au,hc1,q1,q2,hw]);rfl)) (gC hβ (by assumption)) ?_
      rw [e1]
      exact ⟨_,j,rfl,rfl⟩
    | some q =>
      obtain ⟨t,m⟩:=q
      rw [hq] at e1
      simp only at e1
      have a4:∀ s:St,s.box u=some [.str l, .int .i64 (k+1:Nat)]→AC Tryz.prog 247 [.ptr u 0] s (u4 s u l (some (t,m))):=fun s hs=>by
        have:=rK hs hlt hl
        rwa [hrr,hq] at this
      obtain ⟨hdm,hml⟩:=hG ((n6 hq).trans (by rw [←hrr];exact jH l (k+1)))
      obtain ⟨i,hi⟩:∃ i,posOf l m=i:=⟨_,rfl⟩
      rw [hi] at hdm hml
      have key:∀ v,(v= .tup [wdV k (true,t), .bool true]∧jA m=true)∨(v= .tup [wdV k (true,t), .bool false]∧jA m=false)→rL σ u l k (de (c::r)) v (σ.ad u [.str l, .int .i64 (i:Nat)]):=by
        rintro v (⟨rfl,hm⟩|⟨rfl,hm⟩)
        · rw [e1,if_pos hm];simp only [rL,hi,and_self]
        · rw [e1,if_neg (by simp [hm])];exact ⟨_,i,rfl,rfl⟩
      (refine aT tv GU ?_;simp only [tv,↓R1,RR,seval,au,hc1,q1,q2,hw])
      repeat' (first|(with_reducible rw [ah])|((first|(with_reducible intro β hβ;(try simp only [RB] at hβ);(repeat (obtain ⟨⟨_,_⟩,hβ⟩:=hβ));(try (have hbis:=ag (by assumption) hβ;obtain ⟨_,_⟩:=hbis)))|((refine AC.mono (AC.wk (eD (k:=k) (l:=l) (by simp only [↓R1,RR,seval,au,hc1,q1,q2,hw]) hr) (aa _)) ?_;(rintro _ _ ⟨rfl,rfl⟩))))<;>(try simp only [↓R1,RR,seval,au,hc1,q1,q2,hw])))
      refine (AC.wk (a4 _ (by simp only [↓R1,RR,seval,au,hc1,q1,q2,hw])) (aa _)).mono ?_
      rintro _ _ ⟨rfl,rfl⟩
      rw [hi]
      simp only [↓R1,RR,seval,au,hc1,q1,q2,hw]
      rcases eE l i hml with ⟨hd,he⟩|⟨c2,r2,hd2,hlt2⟩
      · have hc1:decide ((i:Int)<(l.length:Int))=false:=by simp;omega
        repeat' ((first|((refine di (fun hgv=>⟨?_,((fun σ2 hle=>dE (k:=i) (l:=l) (hle.1 _ _ (by simp only [↓R1,RR,seval,au,hc1,q1,q2,hw])))),aa _⟩) ?_;(first|trivial|(focus (simp only [↓R1,RR,seval,au,hc1,q1,q2,hw];done)))))|((refine fT ?_)))<;>(try simp only [↓R1,RR,seval,au,hc1,q1,q2,hw]))
        refine aB (r:= .tup [wdV k (true,t), .bool true]) (by simp) (by first|(simp [aj,rvS];done)|(simp only [aj,rvS,↓R1,RR,seval,au,hc1,q1,q2,hw];try simp)) (af (by (simp only [ao,↓R1,RR,seval,au,hc1,q1,q2,hw]);rfl)) (gC hβ (by assumption)) (key _ (.inl ⟨rfl,?_⟩))
        rw [←hdm,hd];rfl
      · have hc1:decide ((i:Int)<(l.length:Int))=true:=by simpa using hlt2
        have b3:=HT c2
        cases hbl:aV c2 with
        | true =>
          rw [hbl] at b3
          repeat' ((first|((refine di (fun hgv=>⟨?_,((fun σ2 hle=>dE (k:=i) (l:=l) (hle.1 _ _ (by simp only [↓R1,RR,seval,au,hc1,q1,q2,hw])))),aa _⟩) ?_;(first|trivial|(focus (simp only [↓R1,RR,seval,au,hc1,q1,q2,hw];done)))))|((refine di (fun hgv=>⟨?_,((fun σ2 hle=>eD (k:=i) (l:=l) (hle.1 _ _ (by simp only [↓R1,RR,seval,au,hc1,q1,q2,hw])) hd2)),aa _⟩) ?_;(first|trivial|(focus (simp only [↓R1,RR,seval,au,hc1,q1,q2,hw];done)))))|((refine iu (fun hgv=>⟨?_,(b3),aa _⟩) ?_;(first|trivial|(focus (simp only [↓R1,RR,seval,au,hc1,q1,q2,hw];done))))))<;>(try simp only [↓R1,RR,seval,au,hc1,q1,q2,hw]))
          refine aB (r:= .tup [wdV k (true,t), .bool true]) (by simp) (by first|(simp [aj,rvS];done)|(simp only [aj,rvS,↓R1,RR,seval,au,hc1,q1,q2,hw];try simp)) (af (by (simp only [ao,↓R1,RR,seval,au,hc1,q1,q2,hw]);rfl)) (gC hβ (by assumption)) (key _ (.inl ⟨rfl,?_⟩))
          rw [←hdm,hd2];exact hbl
        | false =>
          rw [hbl] at b3
          repeat' ((first|((refine di (fun hgv=>⟨?_,((fun σ2 hle=>dE (k:=i) (l:=l) (hle.1 _ _ (by simp only [↓R1,RR,seval,au,hc1,q1,q2,hw])))),aa _⟩) ?_;(first|trivial|(focus (simp only [↓R1,RR,seval,au,hc1,q1,q2,hw];done)))))|((refine di (fun hgv=>⟨?_,((fun σ2 hle=>eD (k:=i) (l:=l) (hle.1 _ _ (by simp only [↓R1,RR,seval,au,hc1,q1,q2,hw])) hd2)),aa _⟩) ?_;(first|trivial|(focus (simp only [↓R1,RR,seval,au,hc1,q1,q2,hw];done)))))|((refine iu (fun hgv=>⟨?_,(b3),aa _⟩) ?_;(first|trivial|(focus (simp only [↓R1,RR,seval,au,hc1,q1,q2,hw];done))))))<;>(try simp only [↓R1,RR,seval,au,hc1,q1,q2,hw]))
          refine aB (r:= .tup [wdV k (true,t), .bool false]) (by simp) (by first|(simp [aj,rvS];done)|(simp only [aj,rvS,↓R1,RR,seval,au,hc1,q1,q2,hw];try simp)) (af (by (simp only [ao,↓R1,RR,seval,au,hc1,q1,q2,hw]);rfl)) (gC hβ (by assumption)) (key _ (.inr ⟨rfl,?_⟩))
          rw [←hdm,hd2];exact hbl
  · have q1:decide (c=34)=false:=by simpa using h34
    have e1:de (c::r)=if ((c::r).takeWhile bI).isEmpty then none else if jA ((c::r).dropWhile bI) then some (false,(c::r).takeWhile bI,(c::r).dropWhile bI) else none:=by simp only [de,if_neg h34]
    (refine aT tv GU ?_;simp only [tv,↓R1,RR,seval,au,hc1,q1,q2,hw])
    repeat' (first|(with_reducible rw [ah])|((first|(with_reducible intro β hβ;(try simp only [RB] at hβ);(repeat (obtain ⟨⟨_,_⟩,hβ⟩:=hβ));(try (have hbis:=ag (by assumption) hβ;obtain ⟨_,_⟩:=hbis)))|((refine AC.mono (AC.wk (eD (k:=k) (l:=l) (by simp only [↓R1,RR,seval,au,hc1,q1,q2,hw]) hr) (aa _)) ?_;(rintro _ _ ⟨rfl,rfl⟩))))<;>(try simp only [↓R1,RR,seval,au,hc1,q1,q2,hw])))
    refine bQ (α:=Nat) (fun _=> [(0, .ptr u 0),(2, .ptr β 0)]) (fun j=>(σ.ad β [.bool false, .str [], .int .i64 (k:Nat)]).ad u [.str l, .int .i64 (j:Nat)]) (fun j=>k≤j∧j≤l.length∧(l.drop j).dropWhile bI=(l.drop k).dropWhile bI) (fun j=>l.length - j) k (by simp [aE,slot,ae])
      (by simp only [↓R1,RR,seval,au,hc1,q1,q2,hw];rw [kR (by simp only [↓R1,RR,seval,au,hc1,q1,q2,hw])];exact St.le_refl _) ⟨Nat.le_refl _,by omega,rfl⟩ ?_
    rintro i ⟨hki,hil,hI⟩
    simp only [↓R1,RR,seval,au,hc1,q1,q2,hw]
    have hpi:posOf l (l.drop i)=i:=mC l i hil
    have stop:(l.drop i).dropWhile bI=l.drop i→de (c::r)=if ((l.drop k).take (i - k)) == [] then none else if jA (l.drop i) then some (false,(l.drop k).take (i - k),l.drop i) else none:=fun hs=>by
      rw [hs] at hI
      have hT:=pA hki hil hI.symm
      rw [e1,←hr,hT,←hI]
      cases (l.drop k).take (i - k)<;>rfl
    rcases eE l i hil with ⟨hd,he⟩|⟨c2,r2,hd2,hlt2⟩
    · have hc1:decide ((i:Int)<(l.length:Int))=false:=by simp;omega
      have hs:=stop (by rw [hd];rfl)
      cases hq:((l.drop k).take (i - k) == []) with
      | true =>
        have q2:=hq
        rw [q2,if_pos rfl] at hs
        repeat' (first|(with_reducible refine And.intro ?_ ?_;exact aq)|((first|((refine AC.mono (AC.wk (dE (k:=i) (l:=l) (by simp only [↓R1,RR,seval,au,hc1,q1,q2,hw])) (aa _)) ?_;(rintro _ _ ⟨rfl,rfl⟩)))|((refine fT ?_)))<;>(try simp only [↓R1,RR,seval,au,hc1,q1,q2,hw])))
        refine aB (r:= .tup [wdV k (false,(l.drop k).take (i - k)), .bool false]) (by simp) (by first|(simp [aj,rvS];done)|(simp only [aj,rvS,↓R1,RR,seval,au,hc1,q1,q2,hw];try simp)) (af (by (simp only [ao,↓R1,RR,seval,au,hc1,q1,q2,hw]);rfl)) (gC hβ (by assumption)) ?_
        rw [hs]
        exact ⟨_,i,rfl,rfl⟩
      | false =>
        have q2:=hq
        rw [q2,if_neg (by simp),hd] at hs
        simp only [jA,if_true] at hs
        repeat' (first|(with_reducible refine And.intro ?_ ?_;exact aq)|((first|((refine AC.mono (AC.wk (dE (k:=i) (l:=l) (by simp only [↓R1,RR,seval,au,hc1,q1,q2,hw])) (aa _)) ?_;(rintro _ _ ⟨rfl,rfl⟩)))|((refine di (fun hgv=>⟨?_,((fun σ2 hle=>dE (k:=i) (l:=l) (hle.1 _ _ (by simp only [↓R1,RR,seval,au,hc1,q1,q2,hw])))),aa _⟩) ?_;(first|trivial|(focus (simp only [↓R1,RR,seval,au,hc1,q1,q2,hw];done)))))|((refine fT ?_)))<;>(try simp only [↓R1,RR,seval,au,hc1,q1,q2,hw])))
        refine aB (r:= .tup [wdV k (false,(l.drop k).take (i - k)), .bool true]) (by simp) (by first|(simp [aj,rvS];done)|(simp only [aj,rvS,↓R1,RR,seval,au,hc1,q1,q2,hw];try simp)) (af (by (simp only [ao,↓R1,RR,seval,au,hc1,q1,q2,hw]);rfl)) (gC hβ (by assumption)) ?_
        rw [hs]
        simp only [rL,true_and]
        rw [←hd,hpi]
    · have hc1:decide ((i:Int)<(l.length:Int))=true:=by simpa using hlt2
      have b3:=JR c2
      have b4:=HT c2
      have hw:IntKind.i64.wrap ((i:Int)+1)=((i+1:Nat):Int):=by rw [wrap64 (by omega) (by omega)];omega
      cases hbl:bI c2 with
      | true =>
        rw [hbl] at b3
        repeat' ((first|((refine AC.mono (AC.wk (dE (k:=i) (l:=l) (by simp only [↓R1,RR,seval,au,hc1,q1,q2,hw])) (aa _)) ?_;(rintro _ _ ⟨rfl,rfl⟩)))|((refine AC.mono (AC.wk (eD (k:=i) (l:=l) (by simp only [↓R1,RR,seval,au,hc1,q1,q2,hw]) hd2) (aa _)) ?_;(rintro _ _ ⟨rfl,rfl⟩)))|(refine Pt (b3) ?_))<;>(try simp only [↓R1,RR,seval,au,hc1,q1,q2,hw]))
        refine ⟨i+1,⟨by omega,by omega,?_⟩,by simp [aE,slot,ae],St.le_refl _,by omega⟩
        rw [←hI,hd2,(cG hd2).2.2,List.dropWhile_cons,hbl];rfl
      | false =>
        rw [hbl] at b3
        have hs:=stop (by rw [hd2,List.dropWhile_cons,hbl];rfl)
        cases hq:((l.drop k).take (i - k) == []) with
        | true =>
          have q2:=hq
          rw [q2,if_pos rfl] at hs
          repeat' (first|(with_reducible refine And.intro ?_ ?_;exact aq)|((first|((refine AC.mono (AC.wk (dE (k:=i) (l:=l) (by simp only [↓R1,RR,seval,au,hc1,q1,q2,hw])) (aa _)) ?_;(rintro _ _ ⟨rfl,rfl⟩)))|((refine AC.mono (AC.wk (eD (k:=i) (l:=l) (by simp only [↓R1,RR,seval,au,hc1,q1,q2,hw]) hd2) (aa _)) ?_;(rintro _ _ ⟨rfl,rfl⟩)))|(refine Pt (b3) ?_)|((refine fT ?_)))<;>(try simp only [↓R1,RR,seval,au,hc1,q1,q2,hw])))
          refine aB (r:= .tup [wdV k (false,(l.drop k).take (i - k)), .bool false]) (by simp) (by first|(simp [aj,rvS];done)|(simp only [aj,rvS,↓R1,RR,seval,au,hc1,q1,q2,hw];try simp)) (af (by (simp only [ao,↓R1,RR,seval,au,hc1,q1,q2,hw]);rfl)) (gC hβ (by assumption)) ?_
          rw [hs]
          exact ⟨_,i,rfl,rfl⟩
        | false =>
          have q2:=hq
          rw [q2,if_neg (by simp)] at hs
          cases hbk:aV c2 with
          | true =>
            rw [hbk] at b4
            rw [if_pos (by rw [hd2];exact hbk)] at hs
            repeat' (first|(with_reducible refine And.intro ?_ ?_;exact aq)|((first|((refine AC.mono (AC.wk (dE (k:=i) (l:=l) (by simp only [↓R1,RR,seval,au,hc1,q1,q2,hw])) (aa _)) ?_;(rintro _ _ ⟨rfl,rfl⟩)))|((refine AC.mono (AC.wk (eD (k:=i) (l:=l) (by simp only [↓R1,RR,seval,au,hc1,q1,q2,hw]) hd2) (aa _)) ?_;(rintro _ _ ⟨rfl,rfl⟩)))|(refine Pt (b3) ?_)|((refine di (fun hgv=>⟨?_,((fun σ2 hle=>dE (k:=i) (l:=l) (hle.1 _ _ (by simp only [↓R1,RR,seval,au,hc1,q1,q2,hw])))),aa _⟩) ?_;(first|trivial|(focus (simp only [↓R1,RR,seval,au,hc1,q1,q2,hw];done)))))|((refine di (fun hgv=>⟨?_,((fun σ2 hle=>eD (k:=i) (l:=l) (hle.1 _ _ (by simp only [↓R1,RR,seval,au,hc1,q1,q2,hw])) hd2)),aa _⟩) ?_;(first|trivial|(focus (simp only [↓R1,RR,seval,au,hc1,q1,q2,hw];done)))))|((refine iu (fun hgv=>⟨?_,(b4),aa _⟩) ?_;(first|trivial|(focus (simp only [↓R1,RR,seval,au,hc1,q1,q2,hw];done))))))<;>(try simp only [↓R1,RR,seval,au,hc1,q1,q2,hw])))
            refine aB (r:= .tup [wdV k (false,(l.drop k).take (i - k)), .bool true]) (by simp) (by first|(simp [aj,rvS];done)|(simp only [aj,rvS,↓R1,RR,seval,au,hc1,q1,q2,hw];try simp)) (af (by (simp only [ao,↓R1,RR,seval,au,hc1,q1,q2,hw]);rfl)) (gC hβ (by assumption)) ?_
            rw [hs]
            simp only [rL,true_and]
            rw [hpi]
          | false =>
            rw [hbk] at b4
            rw [if_neg (by rw [hd2];simp [jA,hbk])] at hs
            repeat' (first|(with_reducible refine And.intro ?_ ?_;exact aq)|((first|((refine AC.mono (AC.wk (dE (k:=i) (l:=l) (by simp only [↓R1,RR,seval,au,hc1,q1,q2,hw])) (aa _)) ?_;(rintro _ _ ⟨rfl,rfl⟩)))|((refine AC.mono (AC.wk (eD (k:=i) (l:=l) (by simp only [↓R1,RR,seval,au,hc1,q1,q2,hw]) hd2) (aa _)) ?_;(rintro _ _ ⟨rfl,rfl⟩)))|(refine Pt (b3) ?_)|((refine di (fun hgv=>⟨?_,((fun σ2 hle=>dE (k:=i) (l:=l) (hle.1 _ _ (by simp only [↓R1,RR,seval,au,hc1,q1,q2,hw])))),aa _⟩) ?_;(first|trivial|(focus (simp only [↓R1,RR,seval,au,hc1,q1,q2,hw];done)))))|((refine di (fun hgv=>⟨?_,((fun σ2 hle=>eD (k:=i) (l:=l) (hle.1 _ _ (by simp only [↓R1,RR,seval,au,hc1,q1,q2,hw])) hd2)),aa _⟩) ?_;(first|trivial|(focus (simp only [↓R1,RR,seval,au,hc1,q1,q2,hw];done)))))|((refine iu (fun hgv=>⟨?_,(b4),aa _⟩) ?_;(first|trivial|(focus (simp only [↓R1,RR,seval,au,hc1,q1,q2,hw];done))))))<;>(try simp only [↓R1,RR,seval,au,hc1,q1,q2,hw])))
            refine aB (r:= .tup [wdV k (false,(l.drop k).take (i - k)), .bool false]) (by simp) (by first|(simp [aj,rvS];done)|(simp only [aj,rvS,↓R1,RR,seval,au,hc1,q1,q2,hw];try simp)) (af (by (simp only [ao,↓R1,RR,seval,au,hc1,q1,q2,hw]);rfl)) (gC hβ (by assumption)) ?_
            rw [hs]
            exact ⟨_,i,rfl,rfl⟩
end Go.Proofs.YtgephffbfiemeaaGreatDoor
namespace Go.Proofs.YtgephffbfiemeaaGreatDoor
open Go.Abs
set_option linter.all false
set_option maxRecDepth 100000
theorem rM (t:List UInt8) {k:Nat} (h:k<t.length):(t.take (k+1)).flatMap eg=(t.take k).flatMap eg++eg t[k]:=by
 rw [←List.take_append_getElem h,List.flatMap_append];simp
theorem BI:((List.range 256).all fun n=>decide ((n:Int).fdiv (2^min (4:Int).toNat IntKind.u8.bits)=((n / 16:Nat):Int))&&decide (bits .and .u8 n 15=((n % 16:Nat):Int)))=true:=by kernel_rfl
theorem Mn (b:UInt8):(b.toNat:Int).fdiv (2^min (4:Int).toNat IntKind.u8.bits)=((b.toNat / 16:Nat):Int):=by
 have:=List.all_eq_true.1 BI b.toNat (List.mem_range.2 (mB b))
 simp only [Bool.and_eq_true,decide_eq_true_eq] at this
 exact this.1
theorem JU (b:UInt8):bits .and .u8 (b.toNat:Int) 15=((b.toNat % 16:Nat):Int):=by
 have:=List.all_eq_true.1 BI b.toNat (List.mem_range.2 (mB b))
 simp only [Bool.and_eq_true,decide_eq_true_eq] at this
 exact this.2
theorem rN (b:UInt8):IntKind.u8.wrap (((b.toNat / 16:Nat):Int)+1)=((b.toNat / 16+1:Nat):Int)∧IntKind.u8.wrap (((b.toNat % 16:Nat):Int)+1)=((b.toNat % 16+1:Nat):Int):=by
 have hb:=mB b
 constructor<;>(simp [IntKind.wrap,IntKind.signed,IntKind.bits];omega)
theorem rO {b:UInt8} (h1:cO b=false) (h2:¬ (b=34∨b=92)):eg b= [92,120]++ [lb (b.toNat / 16)]++ [lb (b.toNat % 16)]:=by
 unfold eg
 rw [h1,if_neg (by simp),if_neg h2];rfl
theorem u5 {b:UInt8} (h1:cO b=false) (h2:b=34∨b=92):eg b= [92]++ [b]:=by
 unfold eg
 rw [h1,if_neg (by simp),if_pos h2];rfl
theorem mE {b:UInt8} (h1:cO b=true):eg b= [b]:=by
 unfold eg
 rw [h1,if_pos rfl]
theorem Ev (σ:St) (γ τ:Nat) {a b:List UInt8} (ha:a≠ []) (hb:b≠ []):(bS σ γ τ b).glob=(bS σ γ τ a).glob∧(∀ δ,(bS σ γ τ a).box δ=none→(bS σ γ τ b).box δ=none)∧∀ δ,(bS σ γ τ a).tip δ=none→(bS σ γ τ b).tip δ=none:=by
  refine ⟨by rw [u0,u0],fun δ h=>by rw [px] at h ⊢;exact h,fun δ h=>?_⟩
  cases a with
  | nil=>exact (ha rfl).elim
  | cons x a =>
    cases b with
    | nil=>exact (hb rfl).elim
    | cons y b =>
      simp only [bS,bT,St.ad,St.ai,upd] at h ⊢
      split at h
      · cases h
      · rename_i e;rw [if_neg e];exact h
set_option maxHeartbeats 2000000 in
theorem Mo (q:Bool) (t:List UInt8) (a:Int) (ht:t.length≤1000000):Pu Tryz.prog 185 [.agg [.bool q, .str t, .int .i64 a]] (mj (bR q t)):=by
  have q1:True:=trivial
  have q2:True:=trivial
  have q3:True:=trivial
  have q4:True:=trivial
  have q5:True:=trivial
  have q6:True:=trivial
  have q7:True:=trivial
  have q8:True:=trivial
  have hw:True:=trivial
  have hd:True:=trivial
  have hp:=JT t ht
  cases q with
  | false =>
    cases hb:bareS t with
    | false =>
      rw [hb] at hp
      have e:bR false t=none:=by simp [bR,hb]
      rw [e]
      (refine al tu GH fun σ=>?_;simp only [tu,↓R1,RR,Nat.reduceEqDiff,Nat.reduceAdd,Nat.reduceLT,q1,q2,q3,q4,q5,q6,q7,q8,hw,hd,au,ba,Nat.add_sub_cancel_left])
      repeat' ((first|(with_reducible intro β hβ;(try simp only [RB] at hβ);(repeat (obtain ⟨⟨_,_⟩,hβ⟩:=hβ));(try (have hbis:=ag (by assumption) hβ;obtain ⟨_,_⟩:=hbis)))|(refine Pt (hp) ?_))<;>(try simp only [↓R1,RR,Nat.reduceEqDiff,Nat.reduceAdd,Nat.reduceLT,q1,q2,q3,q4,q5,q6,q7,q8,hw,hd,au,ba,Nat.add_sub_cancel_left]))
      (refine ak (af ?_))
      (simp only [ao,↓R1,RR,Nat.reduceEqDiff,Nat.reduceAdd,Nat.reduceLT,q1,q2,q3,q4,q5,q6,q7,q8,hw,hd,au,ba,Nat.add_sub_cancel_left])
      rfl
    | true =>
      rw [hb] at hp
      have e:bR false t=some t:=by simp [bR,hb]
      rw [e]
      (refine al tu GH fun σ=>?_;simp only [tu,↓R1,RR,Nat.reduceEqDiff,Nat.reduceAdd,Nat.reduceLT,q1,q2,q3,q4,q5,q6,q7,q8,hw,hd,au,ba,Nat.add_sub_cancel_left])
      repeat' ((first|(with_reducible intro β hβ;(try simp only [RB] at hβ);(repeat (obtain ⟨⟨_,_⟩,hβ⟩:=hβ));(try (have hbis:=ag (by assumption) hβ;obtain ⟨_,_⟩:=hbis)))|(refine Pt (hp) ?_))<;>(try simp only [↓R1,RR,Nat.reduceEqDiff,Nat.reduceAdd,Nat.reduceLT,q1,q2,q3,q4,q5,q6,q7,q8,hw,hd,au,ba,Nat.add_sub_cancel_left]))
      (refine ak (af ?_))
      (simp only [ao,↓R1,RR,Nat.reduceEqDiff,Nat.reduceAdd,Nat.reduceLT,q1,q2,q3,q4,q5,q6,q7,q8,hw,hd,au,ba,Nat.add_sub_cancel_left])
      rfl
  | true =>
    have e:bR true t=some (34::(t.flatMap eg++ [34])):=by simp [bR]
    rw [e]
    (refine al tu GH fun σ=>?_;simp only [tu,↓R1,RR,Nat.reduceEqDiff,Nat.reduceAdd,Nat.reduceLT,q1,q2,q3,q4,q5,q6,q7,q8,hw,hd,au,ba,Nat.add_sub_cancel_left])
    intro b1 h1
    refine j6 (fun γ hγ hγt=>?_)
    rw [St.aD] at hγ
    obtain ⟨⟨_,_⟩,hγ⟩:=hγ
    have hγt:σ.bt γ=none:=hγt
    simp only [↓R1,RR,Nat.reduceEqDiff,Nat.reduceAdd,Nat.reduceLT,q1,q2,q3,q4,q5,q6,q7,q8,hw,hd,au,ba,Nat.add_sub_cancel_left]
    obtain ⟨X,hX⟩:∃ X,X=(σ.cm γ 222).ad b1 [.bool true, .str t, .int .i64 a]:=⟨_,rfl⟩
    have hXt:X.tip=σ.tip:=by rw [hX];rfl
    have hXb:X.bt γ=some 222:=by rw [hX];exact St.lD _ _ _
    have hX1:∀ τ out,(bS X γ τ out).box b1=some [.bool true, .str t, .int .i64 a]:=fun τ out=>by rw [rH,hX];simp only [↓R1,RR,Nat.reduceEqDiff,Nat.reduceAdd,Nat.reduceLT,q1,q2,q3,q4,q5,q6,q7,q8,hw,hd,au,ba,Nat.add_sub_cancel_left]
    have hXl:∀ c,St.le σ (X.ad γ c):=fun c=>by
      rw [hX]
      exact St.aw (St.aw (St.gX (St.le_refl _) hγt) h1) hγ
    have w0:=fz γ 34 X 0 [] (by simp) hXb (by simp)
    rw [tW,hX] at w0
    refine (AC.wk w0 (aa _)).mono ?_
    rintro _ _ ⟨rfl,τ,hτ,_,rfl⟩
    rw [←hX] at hτ ⊢
    simp only [hX1,List.nil_append,↓R1,RR,Nat.reduceEqDiff,Nat.reduceAdd,Nat.reduceLT,q1,q2,q3,q4,q5,q6,q7,q8,hw,hd,au,ba,Nat.add_sub_cancel_left]
    have hlen:∀ k,(34::(t.take k).flatMap eg).length≤4000001:=fun k=>by
      have h1:=pg (t.take k)
      have h2:(t.take k).length≤t.length:=by simp;omega
      simp only [List.length_cons];omega
    refine bn t.length (fun k=> [(4, .ptr γ 0),(19, .sl false t.length (t.map fun b=> .int .u8 b.toNat)),(20, .int .i64 (t.length:Nat)),(21, .int .i64 (k:Nat))]) (fun k=>bS X γ τ (34::(t.take k).flatMap eg)) (fun _=>True) (by simp [aE,slot,ae]) (by simp;exact St.le_refl _) trivial (fun k hk _=>?_)
    have hlk:=hlen k
    by_cases hlt:k<t.length
    · have q1:decide ((k:Int)<(t.length:Int))=true:=by rw [decide_eq_true_eq];omega
      have hd:=jd t hlt
      have hw:IntKind.i64.wrap ((k:Int)+1)=((k+1:Nat):Int):=by rw [wrap64 (by omega) (by omega)];omega
      have hpl:=HS t[k]
      have w1:∀ (x:UInt8) (out:List UInt8),out≠ []→out.length≤5000000→AC Tryz.prog 228 [.ptr γ 0, .int .u8 x.toNat] (bS X γ τ out) (fun v s=>v= .nili∧s=bS X γ τ (out++ [x])):=fun x out h0 hl=>(fz γ x).used h0 hτ hXb (by simp;omega)
      have hes:=rM t hlt
      simp only [q1,↓R1,RR,Nat.reduceEqDiff,Nat.reduceAdd,Nat.reduceLT,q1,q2,q3,q4,q5,q6,q7,q8,hw,hd,au,ba,Nat.add_sub_cancel_left]
      cases hb:cO t[k] with
      | true =>
        rw [hb] at hpl
        rw [mE hb] at hes
        repeat' (first|(with_reducible refine And.intro ?_ ?_;exact aq)|(with_reducible apply And.intro)|((first|(refine Pt (hpl) ?_)|((refine AC.mono (AC.wk (w1 _ _ (by simp) (by omega)) (aa _)) ?_;(rintro _ _ ⟨rfl,rfl⟩))))<;>(try simp only [↓R1,RR,Nat.reduceEqDiff,Nat.reduceAdd,Nat.reduceLT,q1,q2,q3,q4,q5,q6,q7,q8,hw,hd,au,ba,Nat.add_sub_cancel_left])))
        all_goals first|(simp only [List.length_map];omega)|skip
        · simp [aE,slot,ae]
        · rw [hes];exact St.le_refl _
      | false =>
        rw [hb] at hpl
        by_cases h2:t[k]=34∨t[k]=92
        · have q2:(decide (t[k]=34)||decide (t[k]=92))=true:=by simpa using h2
          have w92:AC Tryz.prog 228 [.ptr γ 0, .int .u8 92] (bS X γ τ (34::(t.take k).flatMap eg)) (fun v s=>v= .nili∧s=bS X γ τ ((34::(t.take k).flatMap eg)++ [92])):=w1 92 _ (by simp) (by omega)
          have wc:=w1 t[k] ((34::(t.take k).flatMap eg)++ [92]) (by simp) (by rw [List.length_append];simp only [List.length_cons,List.length_nil] at *;omega)
          rw [u5 hb h2] at hes
          repeat' (first|(with_reducible refine And.intro ?_ ?_;exact aq)|(with_reducible apply And.intro)|((first|(refine Pt (hpl) ?_)|((refine AC.mono (AC.wk (w92) (aa _)) ?_;(rintro _ _ ⟨rfl,rfl⟩)))|((refine AC.mono (AC.wk (wc) (aa _)) ?_;(rintro _ _ ⟨rfl,rfl⟩))))<;>(try simp only [↓R1,RR,Nat.reduceEqDiff,Nat.reduceAdd,Nat.reduceLT,q1,q2,q3,q4,q5,q6,q7,q8,hw,hd,au,ba,Nat.add_sub_cancel_left])))
          all_goals first|(simp only [List.length_map];omega)|skip
          · simp [aE,slot,ae]
          · rw [hes];simp;exact St.le_refl _
        · have q2:(decide (t[k]=34)||decide (t[k]=92))=false:=by
            rw [←Bool.not_eq_true];simpa using h2
          have q3:=Mn t[k]
          have q4:=JU t[k]
          have q5:=(rN t[k]).1
          have q6:=(rN t[k]).2
          have q7:=jI (t[k].toNat / 16) (by have:=mB t[k];omega)
          have q8:=jI (t[k].toNat % 16) (by omega)
          have ws:=(iL γ ([92,120]++ [lb (t[k].toNat / 16)]++ [lb (t[k].toNat % 16)]) (by simp)).used (l:=34::(t.take k).flatMap eg) (by simp) hτ hXb (by simp only [List.length_append,List.length_cons,List.length_nil] at *;omega)
          rw [rO hb h2] at hes
          have hks:=Ev X γ τ (a:=34::(t.take k).flatMap eg) (b:=34::(t.take k).flatMap eg++([92,120]++ [lb (t[k].toNat / 16)]++ [lb (t[k].toNat % 16)])) (by simp) (by simp)
          repeat' (first|(with_reducible refine And.intro ?_ ?_;exact aq)|(with_reducible apply And.intro)|((first|(refine Pt (hpl) ?_)|((refine qA ws (aa _) hks ?_)))<;>(try simp only [↓R1,RR,Nat.reduceEqDiff,Nat.reduceAdd,Nat.reduceLT,q1,q2,q3,q4,q5,q6,q7,q8,hw,hd,au,ba,Nat.add_sub_cancel_left])))
          all_goals first|(simp only [List.length_map];omega)|(have:=mB t[k];omega)|skip
          · simp [aE,slot,ae]
          · rw [hes];simp;exact St.le_refl _
    · have hke:k=t.length:=by omega
      subst hke
      have q1:decide ((t.length:Int)<(t.length:Int))=false:=by simp
      rw [List.take_length] at hlk ⊢
      have w34:AC Tryz.prog 228 [.ptr γ 0, .int .u8 34] (bS X γ τ (34::t.flatMap eg)) (fun v s=>v= .nili∧s=bS X γ τ ((34::t.flatMap eg)++ [34])):=(fz γ 34).used (by simp) hτ hXb (by simp only [List.length_cons,List.length_nil] at *;omega)
      have ws:=mA (β:=γ) (τ:=τ) (l:=(34::t.flatMap eg)++ [34]) (σ:=X) (fun _=>hτ) hXb
      simp only [q1,↓R1,RR,Nat.reduceEqDiff,Nat.reduceAdd,Nat.reduceLT,q1,q2,q3,q4,q5,q6,q7,q8,hw,hd,au,ba,Nat.add_sub_cancel_left]
      repeat' ((first|((refine AC.mono (AC.wk (w34) (aa _)) ?_;(rintro _ _ ⟨rfl,rfl⟩)))|((refine AC.mono (AC.wk (ws) (aa _)) ?_;(rintro _ _ ⟨rfl,rfl⟩))))<;>(try simp only [↓R1,RR,Nat.reduceEqDiff,Nat.reduceAdd,Nat.reduceLT,q1,q2,q3,q4,q5,q6,q7,q8,hw,hd,au,ba,Nat.add_sub_cancel_left]))
      refine ak (af ?_) (by simp [aj,rvS]) (hXl _)
      (simp only [ao,↓R1,RR,Nat.reduceEqDiff,Nat.reduceAdd,Nat.reduceLT,q1,q2,q3,q4,q5,q6,q7,q8,hw,hd,au,ba,Nat.add_sub_cancel_left])
      rfl
theorem Ew (l:List UInt8) {k:Nat} (h:k<l.length):(l.drop k).take 1= [l[k]]:=by
 rw [List.drop_eq_getElem_cons h];rfl
set_option maxHeartbeats 2000000 in
theorem Mp (q:Bool) (t:List UInt8) (a:Int) (ht:t.length≤1000000):Pu Tryz.prog 122 [.agg [.bool q, .str t, .int .i64 a]] (mj (bR q t)):=by
  have q1:True:=trivial
  have q2:True:=trivial
  have q3:True:=trivial
  have hw:True:=trivial
  have hd:True:=trivial
  have hp:=HY t ht
  cases q with
  | false =>
    cases hb:bareS t with
    | false =>
      rw [hb] at hp
      have e:bR false t=none:=by simp [bR,hb]
      rw [e]
      (refine al tr Gi fun σ=>?_;simp only [tr,↓R1,RR,Nat.reduceEqDiff,Nat.reduceAdd,Nat.reduceLT,q1,q2,q3,hw,hd,au,ba,Nat.add_sub_cancel_left])
      repeat' ((first|(with_reducible intro β hβ;(try simp only [RB] at hβ);(repeat (obtain ⟨⟨_,_⟩,hβ⟩:=hβ));(try (have hbis:=ag (by assumption) hβ;obtain ⟨_,_⟩:=hbis)))|(refine Pt (hp) ?_))<;>(try simp only [↓R1,RR,Nat.reduceEqDiff,Nat.reduceAdd,Nat.reduceLT,q1,q2,q3,hw,hd,au,ba,Nat.add_sub_cancel_left]))
      (refine ak (af ?_))
      (simp only [ao,↓R1,RR,Nat.reduceEqDiff,Nat.reduceAdd,Nat.reduceLT,q1,q2,q3,hw,hd,au,ba,Nat.add_sub_cancel_left])
      rfl
    | true =>
      rw [hb] at hp
      have e:bR false t=some t:=by simp [bR,hb]
      rw [e]
      (refine al tr Gi fun σ=>?_;simp only [tr,↓R1,RR,Nat.reduceEqDiff,Nat.reduceAdd,Nat.reduceLT,q1,q2,q3,hw,hd,au,ba,Nat.add_sub_cancel_left])
      repeat' ((first|(with_reducible intro β hβ;(try simp only [RB] at hβ);(repeat (obtain ⟨⟨_,_⟩,hβ⟩:=hβ));(try (have hbis:=ag (by assumption) hβ;obtain ⟨_,_⟩:=hbis)))|(refine Pt (hp) ?_))<;>(try simp only [↓R1,RR,Nat.reduceEqDiff,Nat.reduceAdd,Nat.reduceLT,q1,q2,q3,hw,hd,au,ba,Nat.add_sub_cancel_left]))
      (refine ak (af ?_))
      (simp only [ao,↓R1,RR,Nat.reduceEqDiff,Nat.reduceAdd,Nat.reduceLT,q1,q2,q3,hw,hd,au,ba,Nat.add_sub_cancel_left])
      rfl
  | true =>
    have e:bR true t=some (34::(t.flatMap eg++ [34])):=by simp [bR]
    rw [e]
    (refine al tr Gi fun σ=>?_;simp only [tr,↓R1,RR,Nat.reduceEqDiff,Nat.reduceAdd,Nat.reduceLT,q1,q2,q3,hw,hd,au,ba,Nat.add_sub_cancel_left])
    intro b1 h1
    have hlen:∀ k,((t.take k).flatMap eg).length≤4000000:=fun k=>by
      have h1:=pg (t.take k)
      have h2:(t.take k).length≤t.length:=by simp;omega
      omega
    refine bn t.length (fun k=> [(1, .ptr b1 0),(4, .str ((t.take k).flatMap eg)),(5, .int .i64 (k:Nat))]) (fun k=>σ.ad b1 [.bool true, .str t, .int .i64 a]) (fun _=>True) (by simp [aE,slot,ae]) (St.le_refl _) trivial (fun k hk _=>?_)
    have hlk:=hlen k
    by_cases hlt:k<t.length
    · have q1:decide ((k:Int)<(t.length:Int))=true:=by rw [decide_eq_true_eq];omega
      have hd:=byte_at t hlt
      have hw:IntKind.i64.wrap ((k:Int)+1)=((k+1:Nat):Int):=by rw [wrap64 (by omega) (by omega)];omega
      have hpl:=HX t[k]
      have hes:=rM t hlt
      have q3:=Ew t hlt
      have hpp:cO t[k]=(fS t[k]&& !(decide (t[k]=34)||decide (t[k]=92))):=by
        simp only [cO,fS,bne,au,ba]
        cases decide (t[k]=34)<;>cases decide (t[k]=92)<;>simp
      simp only [q1,↓R1,RR,Nat.reduceEqDiff,Nat.reduceAdd,Nat.reduceLT,q1,q2,q3,hw,hd,au,ba,Nat.add_sub_cancel_left]
      by_cases h2:t[k]=34∨t[k]=92
      · have q2:(decide (t[k]=34)||decide (t[k]=92))=true:=by simpa using h2
        have hb:cO t[k]=false:=by rw [hpp,q2];simp
        rw [u5 hb h2] at hes
        simp only [q2,↓R1,RR,Nat.reduceEqDiff,Nat.reduceAdd,Nat.reduceLT,q1,q2,q3,hw,hd,au,ba,Nat.add_sub_cancel_left]
        repeat' (first|(with_reducible refine And.intro ?_ ?_;exact aq)|(with_reducible apply And.intro))
        all_goals first|omega|(simp only [List.length_append,List.length_cons,List.length_nil];omega)|(simp [aE,slot,ae,hes];done)|exact St.le_refl _|skip
      · have q2:(decide (t[k]=34)||decide (t[k]=92))=false:=by
          rw [←Bool.not_eq_true];simpa using h2
        cases hb:fS t[k] with
        | true =>
          rw [hb] at hpl
          have hb2:cO t[k]=true:=by rw [hpp,q2,hb];rfl
          rw [mE hb2] at hes
          simp only [q2,↓R1,RR,Nat.reduceEqDiff,Nat.reduceAdd,Nat.reduceLT,q1,q2,q3,hw,hd,au,ba,Nat.add_sub_cancel_left]
          repeat' (first|(with_reducible refine And.intro ?_ ?_;exact aq)|(with_reducible apply And.intro)|((refine Pt (hpl) ?_)<;>(try simp only [↓R1,RR,Nat.reduceEqDiff,Nat.reduceAdd,Nat.reduceLT,q1,q2,q3,hw,hd,au,ba,Nat.add_sub_cancel_left])))
          all_goals first|omega|(simp only [List.length_append,List.length_cons,List.length_nil];omega)|(simp [aE,slot,ae,hes];done)|exact St.le_refl _|skip
        | false =>
          rw [hb] at hpl
          have hb2:cO t[k]=false:=by rw [hpp,hb];rfl
          rw [rO hb2 h2] at hes
          have h22:=Mm t[k]
          simp only [q2,↓R1,RR,Nat.reduceEqDiff,Nat.reduceAdd,Nat.reduceLT,q1,q2,q3,hw,hd,au,ba,Nat.add_sub_cancel_left]
          repeat' (first|(with_reducible refine And.intro ?_ ?_;exact aq)|(with_reducible apply And.intro)|((first|(refine Pt (hpl) ?_)|(refine Pt (h22) ?_))<;>(try simp only [↓R1,RR,Nat.reduceEqDiff,Nat.reduceAdd,Nat.reduceLT,q1,q2,q3,hw,hd,au,ba,Nat.add_sub_cancel_left])))
          all_goals first|omega|(simp only [List.length_append,List.length_cons,List.length_nil];omega)|(simp [aE,slot,ae,hes];done)|exact St.le_refl _|skip
    · have hke:k=t.length:=by omega
      subst hke
      have q1:decide ((t.length:Int)<(t.length:Int))=false:=by simp
      rw [List.take_length] at hlk ⊢
      simp only [q1,↓R1,RR,Nat.reduceEqDiff,Nat.reduceAdd,Nat.reduceLT,q1,q2,q3,hw,hd,au,ba,Nat.add_sub_cancel_left]
      repeat' (with_reducible refine And.intro ?_ ?_;exact aq)
      all_goals first|omega|(simp only [List.length_append,List.length_cons,List.length_nil];omega)|skip
      refine ak (af ?_) (by simp [aj,rvS]) (St.aw (St.le_refl _) h1)
      (simp only [ao,↓R1,RR,Nat.reduceEqDiff,Nat.reduceAdd,Nat.reduceLT,q1,q2,q3,hw,hd,au,ba,Nat.add_sub_cancel_left])
      simp [mj]
end Go.Proofs.YtgephffbfiemeaaGreatDoor
namespace Go.Abs
theorem AC.le {P:Program} {f:Nat} {xs:List AV} {σ σ':St} {R:AV→St→Prop} (h:AC P f xs σ R) (hl:St.le σ σ'):AC P f xs σ' R:=fun g w vs hI hv=>h g w vs (hI.le hl) hv
end Go.Abs
namespace Go.Proofs.YtgephffbfiemeaaGreatDoor
open Go.Abs
set_option linter.all false
set_option maxRecDepth 100000
theorem H0:A6 Tryz.prog 113 :=
 ri (Go.Proofs.enters_of Tryz.func113 (by kernel_rfl) rfl) (fun x sep w=>Tryz.strings_Join_none x 0 sep w) (fun bk o c xs sep w h1 h2 h3 h4 h5=>Tryz.strings_Join bk o c xs sep w h1 h2 h3 h4 h5)
def sV (τ:Nat):List (List UInt8)→AV
 | []=> .nils
 | p=> .tsl τ p.length (p.map AV.str)
def sT (σ:St) (τ:Nat):List (List UInt8)→St
 | []=>σ
 | p=>σ.ai τ (9,1,p.length)
theorem BJ (σ:St) (τ:Nat) (p:List (List UInt8)):(sT σ τ p).box=σ.box:=by cases p<;>rfl
theorem BK (σ:St) (τ:Nat) (p:List (List UInt8)) (u:Nat) (c:List AV):(sT σ τ p).ad u c=sT (σ.ad u c) τ p:=by cases p<;>rfl
theorem E7 {s s':St} (h:St.le s s') {τ:Nat} {p:List (List UInt8)} (hn:p≠ []→s.tip τ=none):St.le s (sT s' τ p):=by
 cases p with
 | nil=>exact h
 | cons x p=>exact St.ew h (hn (by simp))
theorem H2 {s s':St} (h:St.le s s') (τ:Nat) (p:List (List UInt8)):St.le (sT s τ p) (sT s' τ p):=by
 cases p with
 | nil=>exact h
 | cons x p=>exact St.qJ h
theorem rP {σ:St} {γ τ τ1:Nat} {out:List UInt8} (h:(bS σ γ τ out).tip τ1=none):σ.tip τ1=none:=by
  cases out with
  | nil=>exact h
  | cons x out =>
    simp only [bS,bT,St.ad,St.ai,upd] at h
    split at h
    · cases h
    · exact h
theorem H3 (τ:Nat) (p:List (List UInt8)):slv (sV τ p)=some (p.length,p.map AV.str):=by cases p<;>rfl
theorem H4 {P:Program} {Y:St} {K:AV→St→Prop} {τ:Nat} {pre:List (List UInt8)} {w:List UInt8} {h:Hold (sT Y τ pre,K)} (hl:pre.length≤1000000) (hY:pre≠ []→Y.tip τ=none)
    (hK:∀ τ',Y.tip τ'=none→K (sV τ' (pre++ [w])) (sT Y τ' (pre++ [w]))):k9 true 9 1 16 (sV τ pre) (.sl true 1 [.str w]) (sT Y τ pre) K h:=by
  cases pre with
  | nil =>
    refine l9 (n:=0) (cs:= []) rfl trivial rfl rfl rfl ?_ ?_ (fun τ' hτ'=>?_)
    · unfold maxLen;decide
    · decide
    · exact hK τ' hτ'
  | cons x p =>
    simp only [List.length_cons] at hl
    refine bV rfl ?_ ?_ rfl ?_ ?_ ?_
    · simp [sT,St.ai,upd]
    · simp
    · unfold maxLen;simp;omega
    · simp;omega
    · have:=hK τ (hY (by simp))
      have e1:(x::p).map AV.str++ [AV.str w]=((x::p)++ [w]).map AV.str:=by simp
      have e2:sT (sT Y τ (x::p)) τ ((x::p)++ [w])=sT Y τ ((x::p)++ [w]):=St.eH _ _ _ _
      have e3:(x::p).length+1=((x::p)++ [w]).length:=by simp
      rw [e1,e3]
      rw [←e2] at this
      exact this
theorem u6 (l:List RI) {k:Nat} (h:k<l.length):((l.flatMap cRI).drop (k*2)).take 2=cRI l[k]:=by
 have:=flat_get (f:=cRI) (s:=2) (fun _=>rfl) l k h
 exact this
theorem u7 (l:List WI) {k:Nat} (h:k<l.length):((l.flatMap cWI).drop (k*3)).take 3=cWI l[k]:=by
 have:=flat_get (f:=cWI) (s:=3) (fun _=>rfl) l k h
 exact this
theorem iM {out:List UInt8} {l:List RI} {k:Nat} (h:k<l.length) (h0:l[k].ws.length=0):fj out (l.drop k)= .error 7:=by
 rw [List.drop_eq_getElem_cons h];simp only [fj,h0,if_true]
theorem mF {out:List UInt8} {l:List RI} {k:Nat} (h:k<l.length) (h0:¬ l[k].ws.length=0) (hw:cw l[k].ws=none):fj out (l.drop k)= .error 3:=by
 rw [List.drop_eq_getElem_cons h];simp only [fj,if_neg h0,hw]
theorem mG {out:List UInt8} {l:List RI} {k:Nat} {ws:List (List UInt8)} (h:k<l.length) (h0:¬ l[k].ws.length=0) (hw:cw l[k].ws=some ws) :
  fj out (l.drop k)=if 1000<(Lib.join ws [32]).length∨20000<(out++(Lib.join ws [32]++ [10])).length then .error 4 else fj (out++(Lib.join ws [32]++ [10])) (l.drop (k+1)):=by
 rw [List.drop_eq_getElem_cons h];simp only [fj,if_neg h0,hw]
set_option maxHeartbeats 4000000 in
theorem JV (l:List RI) (hl:ph l):Pu Tryz.prog 133 [.sl false l.length (l.flatMap cRI)] (od (eW l)):=by
  have q1:True:=trivial
  have q2:True:=trivial
  have q3:True:=trivial
  have q4:True:=trivial
  have q5:True:=trivial
  have hw:True:=trivial
  have hd:True:=trivial
  have hd2:True:=trivial
  obtain ⟨hl1,hl2⟩:=hl
  (refine al Gj Kr fun σ=>?_;simp only [Gj,↓R1,RR,seval,q1,q2,q3,q4,q5,hw,hd,hd2])
  refine j6 (fun γ hγ hγt=>?_)
  have hγt:σ.bt γ=none:=hγt
  simp only [↓R1,RR,seval,q1,q2,q3,q4,q5,hw,hd,hd2]
  obtain ⟨X,hX⟩:∃ X,X=σ.cm γ 222:=⟨_,rfl⟩
  have hXt:X.tip=σ.tip:=by rw [hX];rfl
  have hXb:X.bt γ=some 222:=by rw [hX];exact St.lD _ _ _
  have hXl:∀ c,St.le σ (X.ad γ c):=fun c=>by
    rw [hX];exact St.aw (St.gX (St.le_refl _) hγt) hγ
  have hle:∀ τ out,(out≠ []→σ.tip τ=none)→St.le σ (bS X γ τ out):=fun τ out h=>by
    rw [hX];exact E6 (St.gX (St.le_refl _) hγt) hγ h
  refine bQ (α:=Nat × Nat × List UInt8) (fun z=> [(4, .ptr γ 0),(13, .sl false l.length (l.flatMap cRI)),(14, .int .i64 (l.length:Nat)),(15, .int .i64 (z.1:Nat))]) (fun z=>bS X γ z.2.1 z.2.2)
    (fun z=>z.1≤l.length∧(z.2.2≠ []→σ.tip z.2.1=none)∧z.2.2.length≤20000∧eW l=fj z.2.2 (l.drop z.1)) (fun z=>l.length - z.1) (0,0,[]) (by simp [aE,slot,ae]) (by rw [hX];exact St.le_refl _) ⟨Nat.zero_le _,(fun h=>absurd rfl h),Nat.zero_le _,rfl⟩ ?_
  rintro ⟨k,τ,out⟩ ⟨hk,hτ,hlen,hI⟩
  simp only at hk hτ hlen hI
  by_cases hlt:k<l.length
  · have q1:decide ((k:Int)<(l.length:Int))=true:=by rw [decide_eq_true_eq];omega
    have hd:=u6 l hlt
    have hd2:=a8 l
    have hw:IntKind.i64.wrap ((k:Int)+1)=((k+1:Nat):Int):=by rw [wrap64 (by omega) (by omega)];omega
    obtain ⟨hwn,hwt⟩:=hl2 l[k] (List.getElem_mem hlt)
    simp only [cRI] at hd
    have hτX:out≠ []→X.tip τ=none:=by rw [hXt];exact hτ
    by_cases h0:l[k].ws.length=0
    · have q2:((l[k].ws.length:Int) == 0)=true:=by rw [h0];rfl
      rw [iM hlt h0] at hI
      rw [hI]
      simp only [q1,↓R1,RR,seval,q1,q2,q3,q4,q5,hw,hd,hd2]
      repeat' (first|(with_reducible rw [ah])|(with_reducible refine And.intro ?_ ?_;exact aq)|((with_reducible intro β hβ;(try simp only [RB] at hβ);(repeat (obtain ⟨⟨_,_⟩,hβ⟩:=hβ));(try (have hbis:=ag (by assumption) hβ;obtain ⟨_,_⟩:=hbis)))<;>(try simp only [↓R1,RR,seval,q1,q2,q3,q4,q5,hw,hd,hd2])))
      all_goals first|(rw [hd2];omega)|skip
      refine ak (af ?_) (by simp [aj,rvS]) (St.aw (hle τ out hτ) (by rw [px] at hβ;rw [hX] at hβ;exact hβ.2))
      (simp only [ao,↓R1,RR,seval,q1,q2,q3,q4,q5,hw,hd,hd2])
      rfl
    · have q2:((l[k].ws.length:Int) == 0)=false:=by
        rw [←Bool.not_eq_true,beq_iff_eq];omega
      simp only [q1,↓R1,RR,seval,q1,q2,q3,q4,q5,hw,hd,hd2]
      repeat' (first|(with_reducible rw [ah])|(with_reducible refine And.intro ?_ ?_;exact aq)|((with_reducible intro β hβ;(try simp only [RB] at hβ);(repeat (obtain ⟨⟨_,_⟩,hβ⟩:=hβ));(try (have hbis:=ag (by assumption) hβ;obtain ⟨_,_⟩:=hbis)))<;>(try simp only [↓R1,RR,seval,q1,q2,q3,q4,q5,hw,hd,hd2])))
      all_goals first|(rw [hd2];omega)|skip
      obtain ⟨ws,hws⟩:∃ ws,l[k].ws=ws:=⟨_,rfl⟩
      rw [hws] at hwn hwt h0 ⊢
      have hd:True:=trivial
      have hd2:True:=trivial
      refine bQ (α:=Nat × Nat × List (List UInt8)) (fun z=> [(4, .ptr γ 0),(7,sV z.2.1 z.2.2),(13, .sl false l.length (l.flatMap cRI)),(14, .int .i64 (l.length:Nat)),(15, .int .i64 (k:Nat)),(24, .sl false ws.length (ws.flatMap cWI)),(25, .int .i64 (ws.length:Nat)),(26, .int .i64 (z.1:Nat))])
        (fun z=>sT (bS X γ τ out) z.2.1 z.2.2) (fun z=>z.1≤ws.length∧(z.2.2≠ []→(bS X γ τ out).tip z.2.1=none)∧cw (ws.take z.1)=some z.2.2∧z.2.2.length=z.1) (fun z=>ws.length - z.1) (0,0,[])
        (by simp [aE,slot,ae,sV]) (St.aw (St.aw (St.le_refl _) hβ) hβ) ⟨Nat.zero_le _,(fun h=>absurd rfl h),rfl,rfl⟩ ?_
      rintro ⟨i,τ1,acc⟩ ⟨hi,hτ1,hacc,hal⟩
      simp only at hi hτ1 hacc hal
      by_cases hin:i<ws.length
      · have q3:decide ((i:Int)<(ws.length:Int))=true:=by rw [decide_eq_true_eq];omega
        have hd:=u7 ws hin
        have hd2:=aW ws
        have hw:IntKind.i64.wrap ((i:Int)+1)=((i+1:Nat):Int):=by rw [wrap64 (by omega) (by omega)];omega
        have hp:=Mo ws[i].q ws[i].t ws[i].a (by have:=hwt ws[i] (List.getElem_mem hin);omega)
        simp only [cWI] at hd
        simp only [q3,↓R1,RR,seval,q1,q2,q3,q4,q5,hw,hd,hd2]
        cases hwd:bR ws[i].q ws[i].t with
        | none =>
          rw [hwd] at hp
          have hbad:=jb ws i hin hwd
          rw [mF hlt (by rw [hws];exact h0) (by rw [hws];exact hbad)] at hI
          rw [hI]
          simp only [mj] at hp
          repeat' (first|(with_reducible rw [ah])|(with_reducible refine And.intro ?_ ?_;exact aq)|((first|(with_reducible intro β hβ;(try simp only [RB] at hβ);(repeat (obtain ⟨⟨_,_⟩,hβ⟩:=hβ));(try (have hbis:=ag (by assumption) hβ;obtain ⟨_,_⟩:=hbis)))|(refine Pt (hp) ?_))<;>(try simp only [↓R1,RR,seval,q1,q2,q3,q4,q5,hw,hd,hd2])))
          all_goals first|(rw [hd2];omega)|skip
          rw [BJ,px,hX] at hβ
          refine ak (af ?_) (by simp [aj,rvS]) (St.aw (E7 (hle τ out hτ) (fun h=>by have:=rP (hτ1 h);rwa [hXt] at this)) hβ.2)
          (simp only [ao,↓R1,RR,seval,q1,q2,q3,q4,q5,hw,hd,hd2])
          rfl
        | some x =>
          rw [hwd] at hp
          have hnx:=gZ hin hacc hwd
          simp only [mj] at hp
          repeat' (first|(with_reducible rw [ah])|(with_reducible refine And.intro ?_ ?_;exact aq)|((first|(with_reducible intro β hβ;(try simp only [RB] at hβ);(repeat (obtain ⟨⟨_,_⟩,hβ⟩:=hβ));(try (have hbis:=ag (by assumption) hβ;obtain ⟨_,_⟩:=hbis)))|(refine Pt (hp) ?_))<;>(try simp only [↓R1,RR,seval,q1,q2,q3,q4,q5,hw,hd,hd2])))
          all_goals first|(rw [hd2];omega)|skip
          rw [BJ] at hβ
          rw [BK,BK]
          refine H4 (P:=Tryz.prog) (by omega) hτ1 (fun τ' hτ'=>?_)
          simp only [↓R1,RR,seval,q1,q2,q3,q4,q5,hw,hd,hd2]
          skip
          refine ⟨(i+1,τ',acc++ [x]),⟨hin,fun _=>hτ',hnx,by simp [hal]⟩,by simp [aE,slot,ae],H2 (St.aw (St.le_refl _) hβ) _ _,by simp only;omega⟩
      · have hie:i=ws.length:=by omega
        subst hie
        have q3:decide ((ws.length:Int)<(ws.length:Int))=false:=by simp
        rw [List.take_length] at hacc
        obtain ⟨ha1,ha2⟩:=ml ws hacc
        have hjl:=A4 80002 acc (fun x hx=>by have:=ha2 20000 hwt x hx;omega)
        have hjl2:(Lib.join acc [32]).length≤80003000:=by
          have:80003*acc.length≤80003*1000:=Nat.mul_le_mul_left _ (by omega)
          omega
        rw [mG hlt (by rw [hws];exact h0) (by rw [hws];exact hacc)] at hI
        have hj:=H0 (sV τ1 acc) acc [32] (sT (bS X γ τ out) τ1 acc) (H3 τ1 acc) (by omega) (by omega)
        obtain ⟨line,hline⟩:∃ line,Lib.join acc [32]=line:=⟨_,rfl⟩
        rw [hline] at hj hI hjl2
        have hwr:=(iL γ (line++ [10]) (by simp) X τ out hτX hXb (by simp;omega)).le (E7 (St.le_refl _) hτ1)
        simp only [q3,↓R1,RR,seval,q1,q2,q3,q4,q5,hw,hd,hd2]
        repeat' (first|(with_reducible refine And.intro ?_ ?_;exact aq)|(((refine AC.mono (AC.wk (hj) (aa _)) ?_;(rintro _ _ ⟨rfl,rfl⟩)))<;>(try simp only [↓R1,RR,seval,q1,q2,q3,q4,q5,hw,hd,hd2])))
        all_goals first|omega|(simp only [List.length_append,List.length_cons,List.length_nil];omega)|skip
        refine (AC.wk hwr (aa _)).mono ?_
        rintro _ _ ⟨rfl,τ',hτ',_,rfl⟩
        have hln:=JQ X γ τ' (out++(line++ [10]))
        have hτ'σ:σ.tip τ'=none:=by rw [←hXt];exact hτ'
        simp only [↓R1,RR,seval,q1,q2,q3,q4,q5,hw,hd,hd2]
        by_cases hL:1000<line.length
        · have q4:decide ((1000:Int)<(line.length:Int))=true:=by rw [decide_eq_true_eq];omega
          rw [if_pos (.inl hL)] at hI
          rw [hI]
          simp only [q4,↓R1,RR,seval,q1,q2,q3,q4,q5,hw,hd,hd2]
          skip
          all_goals (try (first|omega|(rename_i hno;cases hno;done)))
          refine ak (af ?_) (by simp [aj,rvS]) (hle τ' _ (fun _=>hτ'σ))
          (simp only [ao,↓R1,RR,seval,q1,q2,q3,q4,q5,hw,hd,hd2])
          rfl
        · have q4:decide ((1000:Int)<(line.length:Int))=false:=by rw [decide_eq_false_iff_not];omega
          by_cases hO:20000<(out++(line++ [10])).length
          · have q5:decide ((20000:Int)<((out++(line++ [10])).length:Int))=true:=by rw [decide_eq_true_eq];omega
            rw [if_pos (.inr hO)] at hI
            rw [hI]
            simp only [q4,↓R1,RR,seval,q1,q2,q3,q4,q5,hw,hd,hd2]
            repeat' (((refine AC.mono (AC.wk (hln) (aa _)) ?_;(rintro _ _ ⟨rfl,rfl⟩)))<;>(try simp only [↓R1,RR,seval,q1,q2,q3,q4,q5,hw,hd,hd2]))
            refine ak (af ?_) (by simp [aj,rvS]) (hle τ' _ (fun _=>hτ'σ))
            (simp only [ao,↓R1,RR,seval,q1,q2,q3,q4,q5,hw,hd,hd2])
            rfl
          · have q5:decide ((20000:Int)<((out++(line++ [10])).length:Int))=false:=by rw [decide_eq_false_iff_not];omega
            rw [if_neg (by omega)] at hI
            simp only [q4,↓R1,RR,seval,q1,q2,q3,q4,q5,hw,hd,hd2]
            repeat' (((refine AC.mono (AC.wk (hln) (aa _)) ?_;(rintro _ _ ⟨rfl,rfl⟩)))<;>(try simp only [↓R1,RR,seval,q1,q2,q3,q4,q5,hw,hd,hd2]))
            exact ⟨(k+1,τ',out++(line++ [10])),⟨hlt,fun _=>hτ'σ,by simp only;omega,hI⟩,by simp [aE,slot,ae],St.le_refl _,by simp only;omega⟩
  · have hke:k=l.length:=by omega
    subst hke
    have q1:decide ((l.length:Int)<(l.length:Int))=false:=by simp
    rw [List.drop_length] at hI
    have ws:=mA (β:=γ) (τ:=τ) (l:=out) (σ:=X) (by rw [hXt];exact hτ) hXb
    simp only [q1,↓R1,RR,seval,q1,q2,q3,q4,q5,hw,hd,hd2]
    repeat' (((refine AC.mono (AC.wk (ws) (aa _)) ?_;(rintro _ _ ⟨rfl,rfl⟩)))<;>(try simp only [↓R1,RR,seval,q1,q2,q3,q4,q5,hw,hd,hd2]))
    rw [hI]
    refine ak (af ?_) (by simp [aj,rvS]) (hXl _)
    (simp only [ao,↓R1,RR,seval,q1,q2,q3,q4,q5,hw,hd,hd2])
    rfl
end Go.Proofs.YtgephffbfiemeaaGreatDoor
namespace Go.Proofs.YtgephffbfiemeaaGreatDoor
open Go.Abs
set_option linter.all false
set_option maxRecDepth 100000
theorem ou (l:List (List UInt8)) (x:List UInt8) (h:l≠ []):Lib.join (l++ [x]) [32]=Lib.join l [32]++ [32]++x:=by
  cases l with
  | nil=>exact (h rfl).elim
  | cons y l =>
    rw [List.cons_append,Lib.join_cons,Lib.join_cons]
    simp [Lib.joinTail]
def kS (row:List UInt8) (acc:List (List UInt8)):Prop:=row=Lib.join acc [32]∨1000<row.length∧1000<(Lib.join acc [32]).length
theorem kS.next {row x:List UInt8} {acc:List (List UInt8)} (h:kS row acc) (hr:row.length≤1000):kS ((if acc= [] then row else row++ [32])++x) (acc++ [x]):=by
 have he:row=Lib.join acc [32]:=h.elim id (fun h=>by omega)
 left
 split
 ·rename_i ha;subst ha;rw [he];simp [Lib.join_nil,Lib.join_one]
 ·rename_i ha;rw [ou acc x ha,he]
theorem kS.over {row x y:List UInt8} {acc:List (List UInt8)} (h:kS row acc) (hr:1000<row.length):kS ((if acc= [] then row else row++ [32])++y) (acc++ [x]):=by
 have hj:1000<(Lib.join acc [32]).length:=h.elim (fun e=>by rw [←e];exact hr) And.right
 have ha:acc≠ []:=by rintro rfl;simp [Lib.join_nil] at hj
 right
 rw [if_neg ha,ou acc x ha]
 simp only [List.length_append]
 omega
theorem tX {q:Bool} {t:List UInt8}:(bR q t).isSome=(q||bareS t):=by
 unfold bR
 cases q<;>cases bareS t<;>rfl
set_option maxHeartbeats 4000000 in
theorem p61 (l:List RI) (hl:ph l):Pu Tryz.prog 61 [.sl false l.length (l.flatMap cRI)] (od (eW l)):=by
  have q1:True:=trivial
  have q2:True:=trivial
  have q3:True:=trivial
  have q4:True:=trivial
  have q5:True:=trivial
  have q6:True:=trivial
  have hw:True:=trivial
  have hd:True:=trivial
  have hd2:True:=trivial
  have hd3:True:=trivial
  have hd4:True:=trivial
  have q7:True:=trivial
  have hqq:True:=trivial
  have hws:True:=trivial
  have hw2:True:=trivial
  obtain ⟨hl1,hl2⟩:=hl
  (refine al c61 b61 fun σ=>?_;simp only [c61,↓R1,RR,seval,q1,q2,q3,q4,q5,q6,q7,hqq,hws,hw,hw2,hd,hd2,hd3,hd4])
  refine bQ (α:=Nat × List UInt8) (fun z=> [(0, .sl false l.length (l.flatMap cRI)),(4, .str z.2),(5, .int .i64 (z.1:Nat))]) (fun _=>σ)
    (fun z=>z.1≤l.length∧z.2.length≤20000∧eW l=fj z.2 (l.drop z.1)) (fun z=>l.length - z.1) (0,[]) (by simp [aE,slot,ae]) (St.le_refl _) ⟨Nat.zero_le _,Nat.zero_le _,rfl⟩ ?_
  rintro ⟨k,out⟩ ⟨hk,hlen,hI⟩
  simp only at hk hlen hI
  by_cases hlt:k<l.length
  · have q1:decide ((k:Int)<(l.length:Int))=true:=by rw [decide_eq_true_eq];omega
    have hd:=u6 l hlt
    have hd2:=a8 l
    have hw:IntKind.i64.wrap ((k:Int)+1)=((k+1:Nat):Int):=by rw [wrap64 (by omega) (by omega)];omega
    obtain ⟨hwn,hwt⟩:=hl2 l[k] (List.getElem_mem hlt)
    simp only [cRI] at hd
    by_cases h0:l[k].ws.length=0
    · have q2:((l[k].ws.length:Int) == 0)=true:=by rw [h0];rfl
      rw [iM hlt h0] at hI
      rw [hI]
      simp only [q1,↓R1,RR,seval,q1,q2,q3,q4,q5,q6,q7,hqq,hws,hw,hw2,hd,hd2,hd3,hd4]
      repeat' (with_reducible refine And.intro ?_ ?_;exact aq)
      all_goals first|(rw [hd2];omega)|skip
      (refine ak (af ?_))
      (simp only [ao,↓R1,RR,seval,q1,q2,q3,q4,q5,q6,q7,hqq,hws,hw,hw2,hd,hd2,hd3,hd4])
      rfl
    · have q2:((l[k].ws.length:Int) == 0)=false:=by
        rw [←Bool.not_eq_true,beq_iff_eq];omega
      simp only [q1,↓R1,RR,seval,q1,q2,q3,q4,q5,q6,q7,hqq,hws,hw,hw2,hd,hd2,hd3,hd4]
      repeat' (with_reducible refine And.intro ?_ ?_;exact aq)
      all_goals first|(rw [hd2];omega)|skip
      obtain ⟨ws,hws⟩:∃ ws,l[k].ws=ws:=⟨_,rfl⟩
      rw [hws] at hwn hwt h0 hd
      refine bQ (α:=Nat × List UInt8 × List (List UInt8)) (fun z=> [(0, .sl false l.length (l.flatMap cRI)),(4, .str out),(5, .int .i64 (k:Nat)),(6, .str z.2.1),(7, .int .i64 (z.1:Nat))]) (fun _=>σ)
        (fun z=>z.1≤ws.length∧cw (ws.take z.1)=some z.2.2∧z.2.2.length=z.1∧kS z.2.1 z.2.2∧z.2.1.length≤90000+z.1) (fun z=>ws.length - z.1) (0,[],[])
        (by simp [aE,slot,ae]) (St.le_refl _) ⟨Nat.zero_le _,rfl,rfl, .inl rfl,by simp⟩ ?_
      rintro ⟨i,row,acc⟩ ⟨hi,hacc,hal,hrw,hrl⟩
      simp only at hi hacc hal hrw hrl
      by_cases hin:i<ws.length
      · have q3:decide ((i:Int)<(ws.length:Int))=true:=by rw [decide_eq_true_eq];omega
        have hd3:=u7 ws hin
        have hd4:=aW ws
        have hw2:IntKind.i64.wrap ((i:Int)+1)=((i+1:Nat):Int):=by rw [wrap64 (by omega) (by omega)];omega
        have htl:=hwt ws[i] (List.getElem_mem hin)
        have hp:=Mp ws[i].q ws[i].t ws[i].a (by omega)
        have hpb:=HY ws[i].t (by omega)
        have hsome:=tX (q:=ws[i].q) (t:=ws[i].t)
        simp only [cWI] at hd3
        have hnone:bR ws[i].q ws[i].t=none→eW l= .error 3:=fun h=>by
          rw [mF hlt (by rw [hws];exact h0) (by rw [hws];exact jb ws i hin h)] at hI
          exact hI
        have hsep:(if acc= [] then row else row++ [32])=if 0<i then row++ [32] else row:=by
          cases acc with
          | nil=>simp at hal;simp [←hal]
          | cons y acc=>simp at hal;rw [if_neg (by simp),if_pos (by omega)]
        by_cases hle:row.length≤1000
        · have q4:decide ((row.length:Int)≤1000)=true:=by rw [decide_eq_true_eq];omega
          cases hwd:bR ws[i].q ws[i].t with
          | none =>
            rw [hwd] at hp
            rw [hnone hwd]
            simp only [mj] at hp
            simp only [q3,↓R1,RR,seval,q1,q2,q3,q4,q5,q6,q7,hqq,hws,hw,hw2,hd,hd2,hd3,hd4]
            repeat' (first|(with_reducible rw [ah])|(with_reducible refine And.intro ?_ ?_;exact aq)|((first|(with_reducible intro β hβ;(try simp only [RB] at hβ);(repeat (obtain ⟨⟨_,_⟩,hβ⟩:=hβ));(try (have hbis:=ag (by assumption) hβ;obtain ⟨_,_⟩:=hbis)))|(refine Pt (hp) ?_))<;>(try simp only [↓R1,RR,seval,q1,q2,q3,q4,q5,q6,q7,hqq,hws,hw,hw2,hd,hd2,hd3,hd4])))
            all_goals first|(rw [hd2];omega)|(rw [hd4];omega)|omega|(simp only [List.length_append,List.length_cons,List.length_nil];omega)|skip
            refine ak (af ?_) (by simp [aj,rvS]) (St.aw (St.le_refl _) hβ)
            (simp only [ao,↓R1,RR,seval,q1,q2,q3,q4,q5,q6,q7,hqq,hws,hw,hw2,hd,hd2,hd3,hd4])
            rfl
          | some x =>
            rw [hwd] at hp
            have hnx:=gZ hin hacc hwd
            have hxl:=oe hwd
            have hrn:=hrw.next (x:=x) hle
            rw [hsep] at hrn
            simp only [mj] at hp
            by_cases hi0:0<i
            · have q5:decide ((0:Int)<(i:Int))=true:=by rw [decide_eq_true_eq];omega
              rw [if_pos hi0] at hrn
              simp only [q3,↓R1,RR,seval,q1,q2,q3,q4,q5,q6,q7,hqq,hws,hw,hw2,hd,hd2,hd3,hd4]
              repeat' (first|(with_reducible rw [ah])|(with_reducible refine And.intro ?_ ?_;exact aq)|((first|(with_reducible intro β hβ;(try simp only [RB] at hβ);(repeat (obtain ⟨⟨_,_⟩,hβ⟩:=hβ));(try (have hbis:=ag (by assumption) hβ;obtain ⟨_,_⟩:=hbis)))|(refine Pt (hp) ?_))<;>(try simp only [↓R1,RR,seval,q1,q2,q3,q4,q5,q6,q7,hqq,hws,hw,hw2,hd,hd2,hd3,hd4])))
              all_goals first|(rw [hd2];omega)|(rw [hd4];omega)|omega|(simp only [List.length_append,List.length_cons,List.length_nil];omega)|skip
              exact ⟨(i+1,row++ [32]++x,acc++ [x]),⟨hin,hnx,by simp [hal],hrn,by simp only [List.length_append,List.length_cons,List.length_nil];omega⟩,by simp [aE,slot,ae],St.aw (St.le_refl _) hβ,by simp only;omega⟩
            · have q5:decide ((0:Int)<(i:Int))=false:=by rw [decide_eq_false_iff_not];omega
              rw [if_neg hi0] at hrn
              simp only [q3,↓R1,RR,seval,q1,q2,q3,q4,q5,q6,q7,hqq,hws,hw,hw2,hd,hd2,hd3,hd4]
              repeat' (first|(with_reducible rw [ah])|(with_reducible refine And.intro ?_ ?_;exact aq)|((first|(with_reducible intro β hβ;(try simp only [RB] at hβ);(repeat (obtain ⟨⟨_,_⟩,hβ⟩:=hβ));(try (have hbis:=ag (by assumption) hβ;obtain ⟨_,_⟩:=hbis)))|(refine Pt (hp) ?_))<;>(try simp only [↓R1,RR,seval,q1,q2,q3,q4,q5,q6,q7,hqq,hws,hw,hw2,hd,hd2,hd3,hd4])))
              all_goals first|(rw [hd2];omega)|(rw [hd4];omega)|omega|(simp only [List.length_append,List.length_cons,List.length_nil];omega)|skip
              exact ⟨(i+1,row++x,acc++ [x]),⟨hin,hnx,by simp [hal],hrn,by simp only [List.length_append];omega⟩,by simp [aE,slot,ae],St.aw (St.le_refl _) hβ,by simp only;omega⟩
        · have q4:decide ((row.length:Int)≤1000)=false:=by rw [decide_eq_false_iff_not];omega
          have over:∀ x,bR ws[i].q ws[i].t=some x→cw (ws.take (i+1))=some (acc++ [x])∧kS ((if 0<i then row++ [32] else row)++ []) (acc++ [x]):=fun x hx=>by
            have hov:=hrw.over (x:=x) (y:= []) (by omega)
            rw [hsep] at hov
            exact ⟨gZ hin hacc hx,hov⟩
          have hi0:0<i:=by
            cases acc with
            | nil =>
              rcases hrw with h|h
              · rw [h] at hle;simp [Lib.join_nil] at hle
              · have:=h.2;simp [Lib.join_nil] at this
            | cons y acc=>simp at hal;omega
          have q5:decide ((0:Int)<(i:Int))=true:=by rw [decide_eq_true_eq];omega
          simp only [if_pos hi0,List.append_nil] at over
          cases hqq:ws[i].q with
          | true =>
            rw [hqq] at hsome hd3 over hnone
            obtain ⟨x,hx⟩:=Option.isSome_iff_exists.1 hsome
            obtain ⟨o1,o2⟩:=over x hx
            simp only [q3,↓R1,RR,seval,q1,q2,q3,q4,q5,q6,q7,hqq,hws,hw,hw2,hd,hd2,hd3,hd4]
            repeat' (first|(with_reducible rw [ah])|(with_reducible refine And.intro ?_ ?_;exact aq)|((with_reducible intro β hβ;(try simp only [RB] at hβ);(repeat (obtain ⟨⟨_,_⟩,hβ⟩:=hβ));(try (have hbis:=ag (by assumption) hβ;obtain ⟨_,_⟩:=hbis)))<;>(try simp only [↓R1,RR,seval,q1,q2,q3,q4,q5,q6,q7,hqq,hws,hw,hw2,hd,hd2,hd3,hd4])))
            all_goals first|(rw [hd2];omega)|(rw [hd4];omega)|omega|(simp only [List.length_append,List.length_cons,List.length_nil];omega)|skip
            exact ⟨(i+1,row++ [32],acc++ [x]),⟨hin,o1,by simp [hal],o2,by simp only [List.length_append,List.length_cons,List.length_nil];omega⟩,by simp [aE,slot,ae],St.aw (St.le_refl _) hβ,by simp only;omega⟩
          | false =>
            rw [hqq] at hsome hd3 over hnone
            cases hbb:bareS ws[i].t with
            | true =>
              rw [hbb] at hsome hpb
              obtain ⟨x,hx⟩:=Option.isSome_iff_exists.1 hsome
              obtain ⟨o1,o2⟩:=over x hx
              simp only [q3,↓R1,RR,seval,q1,q2,q3,q4,q5,q6,q7,hqq,hws,hw,hw2,hd,hd2,hd3,hd4]
              repeat' (first|(with_reducible rw [ah])|(with_reducible refine And.intro ?_ ?_;exact aq)|((first|(with_reducible intro β hβ;(try simp only [RB] at hβ);(repeat (obtain ⟨⟨_,_⟩,hβ⟩:=hβ));(try (have hbis:=ag (by assumption) hβ;obtain ⟨_,_⟩:=hbis)))|(refine Pt (hpb) ?_))<;>(try simp only [↓R1,RR,seval,q1,q2,q3,q4,q5,q6,q7,hqq,hws,hw,hw2,hd,hd2,hd3,hd4])))
              all_goals first|(rw [hd2];omega)|(rw [hd4];omega)|omega|(simp only [List.length_append,List.length_cons,List.length_nil];omega)|skip
              exact ⟨(i+1,row++ [32],acc++ [x]),⟨hin,o1,by simp [hal],o2,by simp only [List.length_append,List.length_cons,List.length_nil];omega⟩,by simp [aE,slot,ae],St.aw (St.le_refl _) hβ,by simp only;omega⟩
            | false =>
              rw [hbb] at hsome hpb
              have hx:bR false ws[i].t=none:=by
                cases h:bR false ws[i].t with
                | none=>rfl
                | some x=>rw [h] at hsome;cases hsome
              rw [hnone hx]
              simp only [q3,↓R1,RR,seval,q1,q2,q3,q4,q5,q6,q7,hqq,hws,hw,hw2,hd,hd2,hd3,hd4]
              repeat' (first|(with_reducible rw [ah])|(with_reducible refine And.intro ?_ ?_;exact aq)|((first|(with_reducible intro β hβ;(try simp only [RB] at hβ);(repeat (obtain ⟨⟨_,_⟩,hβ⟩:=hβ));(try (have hbis:=ag (by assumption) hβ;obtain ⟨_,_⟩:=hbis)))|(refine Pt (hpb) ?_))<;>(try simp only [↓R1,RR,seval,q1,q2,q3,q4,q5,q6,q7,hqq,hws,hw,hw2,hd,hd2,hd3,hd4])))
              all_goals first|(rw [hd2];omega)|(rw [hd4];omega)|omega|(simp only [List.length_append,List.length_cons,List.length_nil];omega)|skip
              refine ak (af ?_) (by simp [aj,rvS]) (St.aw (St.le_refl _) hβ)
              (simp only [ao,↓R1,RR,seval,q1,q2,q3,q4,q5,q6,q7,hqq,hws,hw,hw2,hd,hd2,hd3,hd4])
              rfl
      · have hie:i=ws.length:=by omega
        subst hie
        have q3:decide ((ws.length:Int)<(ws.length:Int))=false:=by simp
        rw [List.take_length] at hacc
        rw [mG hlt (by rw [hws];exact h0) (by rw [hws];exact hacc)] at hI
        by_cases hle:1000<row.length
        · have q4:decide ((1000:Int)<(row.length:Int))=true:=by rw [decide_eq_true_eq];omega
          have hj:1000<(Lib.join acc [32]).length:=hrw.elim (fun e=>by rw [←e];exact hle) And.right
          rw [if_pos (.inl hj)] at hI
          rw [hI]
          simp only [q3,↓R1,RR,seval,q1,q2,q3,q4,q5,q6,q7,hqq,hws,hw,hw2,hd,hd2,hd3,hd4]
          repeat' (with_reducible refine And.intro ?_ ?_;exact aq)
          all_goals first|(rw [hd2];omega)|(rw [hd4];omega)|omega|(simp only [List.length_append,List.length_cons,List.length_nil];omega)|skip
          (refine ak (af ?_))
          (simp only [ao,↓R1,RR,seval,q1,q2,q3,q4,q5,q6,q7,hqq,hws,hw,hw2,hd,hd2,hd3,hd4])
          rfl
        · have q4:decide ((1000:Int)<(row.length:Int))=false:=by rw [decide_eq_false_iff_not];omega
          have he:row=Lib.join acc [32]:=hrw.elim id (fun h=>by omega)
          rw [←he] at hI
          have q5:IntKind.i64.wrap ((out.length:Int)+(row.length:Int))=((out.length+row.length:Nat):Int):=by rw [wrap64 (by omega) (by omega)];omega
          have q6:IntKind.i64.wrap (((out.length+row.length:Nat):Int)+1)=((out.length+row.length+1:Nat):Int):=by rw [wrap64 (by omega) (by omega)];omega
          have hol:(out++(row++ [10])).length=out.length+row.length+1:=by simp;omega
          by_cases hO:20000<(out++(row++ [10])).length
          · have q7:decide ((20000:Int)<((out.length+row.length+1:Nat):Int))=true:=by rw [decide_eq_true_eq];omega
            rw [if_pos (.inr hO)] at hI
            rw [hI]
            simp only [q3,↓R1,RR,seval,q1,q2,q3,q4,q5,q6,q7,hqq,hws,hw,hw2,hd,hd2,hd3,hd4]
            repeat' (with_reducible refine And.intro ?_ ?_;exact aq)
            all_goals first|(rw [hd2];omega)|(rw [hd4];omega)|omega|(simp only [List.length_append,List.length_cons,List.length_nil];omega)|skip
            (refine ak (af ?_))
            (simp only [ao,↓R1,RR,seval,q1,q2,q3,q4,q5,q6,q7,hqq,hws,hw,hw2,hd,hd2,hd3,hd4])
            rfl
          · have q7:decide ((20000:Int)<((out.length+row.length+1:Nat):Int))=false:=by rw [decide_eq_false_iff_not];omega
            rw [if_neg (by omega)] at hI
            simp only [q3,↓R1,RR,seval,q1,q2,q3,q4,q5,q6,q7,hqq,hws,hw,hw2,hd,hd2,hd3,hd4]
            repeat' (with_reducible refine And.intro ?_ ?_;exact aq)
            all_goals first|(rw [hd2];omega)|(rw [hd4];omega)|omega|(simp only [List.length_append,List.length_cons,List.length_nil];omega)|skip
            refine ⟨(k+1,out++row++ [10]),⟨hlt,?_,?_⟩,by simp [aE,slot,ae],St.le_refl _,by simp only;omega⟩
            · simp only [List.append_assoc];omega
            · rw [hI];simp only [List.append_assoc]
  · have hke:k=l.length:=by omega
    subst hke
    have q1:decide ((l.length:Int)<(l.length:Int))=false:=by simp
    rw [List.drop_length] at hI
    simp only [q1,↓R1,RR,seval,q1,q2,q3,q4,q5,q6,q7,hqq,hws,hw,hw2,hd,hd2,hd3,hd4]
    skip
    rw [hI]
    (refine ak (af ?_))
    (simp only [ao,↓R1,RR,seval,q1,q2,q3,q4,q5,q6,q7,hqq,hws,hw,hw2,hd,hd2,hd3,hd4])
    rfl
theorem kT {P:Program} {x:CC} {fr:Fr} {σ:St} {Q:Exit→Fr→St→Prop} {h:Hold (x,σ,Q)} (n t o e s:Nat) {β:Nat} {c0:List AV} (hp:slot t fr= .ptr β 0) (hb:σ.box β=some c0) (hc:c0[o]? =some .nils) (F:Nat→Nat→Fr) (S:Nat→Nat→St) (I:Nat→Prop) (h0:I 0)
  (hF:∀ τ,aE (F τ 0) fr) (hS:∀ τ,σ.tip τ=none→St.le (S τ 0) ((σ.ai τ (e,s,0)).ad β (c0.set o (.tsl τ 0 []))))
  (hr:∀ τ,σ.tip τ=none→∀ k,k≤n→I k→aC P x (F τ k) (S τ k) (ff (fun fr' σ'=>k<n∧I (k+1)∧aE (F τ (k+1)) fr'∧St.le (S τ (k+1)) σ') Q)):nQ P x fr σ Q h:=by
 refine ⟨[(true,t,o,e,s)],?_⟩
 simp only [cA,hp,hb,Nat.zero_add,hc,slv,fresh,true_and]
 intro τ hτ
 refine ⟨Nat,F τ,S τ,fun k=>k≤n∧I k,fun k=>n - k,0,⟨Nat.zero_le _,h0⟩,hF τ,hS τ hτ,fun k hk=>?_⟩
 refine cz _ _ _ (hr τ hτ k hk.1 hk.2) (fun e fr' σ' hq=>?_)
 unfold ff at hq
 cases e with
 | normal=>simp only at hq ⊢;exact ⟨k+1,⟨hq.1,hq.2.1⟩,hq.2.2.1,hq.2.2.2,by omega⟩
 | _=>exact hq
def mkW (t:List UInt8):WI:=⟨!bareS t,t,0⟩
def mkR (l:List (List UInt8)):RI:=⟨0,l.map mkW⟩
theorem mH (l:List (List UInt8)) {k:Nat} (h:k<l.length):((l.map AV.str).drop (k*1)).take 1= [.str l[k]]:=by
 rw [Nat.mul_one,List.drop_eq_getElem_cons (by simpa using h)]
 simp
theorem u9 (l:List (List UInt8)) {k:Nat} (h:k<l.length):((l.take k).map mkW).flatMap cWI++ [.bool (!bareS l[k]), .str l[k], .int .i64 0]=((l.take (k+1)).map mkW).flatMap cWI:=by
 rw [←List.take_append_getElem h,List.map_append,List.flatMap_append]
 simp [mkW,cWI]
set_option maxHeartbeats 2000000 in
theorem JW (l:List (List UInt8)) (hl:l.length≤1000) (ht:∀ t∈l,t.length≤1000000):Pu Tryz.prog 134 [.sl false l.length (l.map AV.str)] (.agg (cRI (mkR l))):=by
 have q1:True:=trivial
 have hw:True:=trivial
 have hd:True:=trivial
 (refine al Gk Ks fun σ=>?_;simp only [Gk,↓R1,RR,seval,q1,hw,hd])
 rw [ah];intro b2 h2;simp only [↓R1,RR,seval,q1,hw,hd]
 rw [ah];intro b3 h3;rw [St.aD] at h3;obtain ⟨⟨_,_⟩,h3⟩:=h3;simp only [↓R1,RR,seval,q1,hw,hd]
 refine kT l.length 3 1 109 3 (β:=b3) rfl (by simp only [↓R1,RR,seval,q1,hw,hd];rfl) rfl
  (fun τ k=> [(2, .ptr b2 0),(3, .ptr b3 0),(6, .sl false l.length (l.map AV.str)),(7, .int .i64 (l.length:Nat)),(8, .int .i64 (k:Nat))])
  (fun τ k=>((σ.ad b2 [.int .i64 0, .nils]).ad b3 [.int .i64 0, .tsl τ k (((l.take k).map mkW).flatMap cWI)]).ai τ (109,3,k)) (fun _=>True) trivial (fun τ=>by simp [aE,slot,ae]) (fun τ _=>by simp only [List.set_cons_succ,List.set_cons_zero,List.take_zero,List.map_nil,List.flatMap_nil,↓R1,RR,seval,q1,hw,hd];exact St.le_refl _) (fun τ hτ k hk _=>?_)
 by_cases hlt:k<l.length
 ·have q1:decide ((k:Int)<(l.length:Int))=true:=by rw [decide_eq_true_eq];omega
  have hd:=mH l hlt
  have hw:IntKind.i64.wrap ((k:Int)+1)=((k+1:Nat):Int):=by rw [wrap64 (by omega) (by omega)];omega
  have hp:=JT l[k] (ht _ (List.getElem_mem hlt))
  have hcl:(((l.take k).map mkW).flatMap cWI).length=k*3:=by rw [aW];simp;omega
  have hs:=u9 l hlt
  simp only [q1,↓R1,RR,seval,q1,hw,hd]
  repeat' (first|(with_reducible refine And.intro ?_ ?_;focus (intros;(repeat' (with_reducible apply And.intro))<;>first|omega|(simp only [RZ,aW,a8];omega)))|(with_reducible apply And.intro)|((first|((first|(refine cD (.inr rfl) rfl ?_ ?_ ?_ ?_ ?_ ?_;(first|rfl|exact St.bm _ _ _|(simp only [↓R1,RR,seval,q1,hw,hd]));(first|omega|(simp only [RZ,aW,a8,List.length_nil,List.length_cons];omega)|(simp only [RZ,aW,a8,List.length_nil,List.length_cons]));(first|rfl|first|omega|(simp only [RZ,aW,a8,List.length_nil,List.length_cons];omega)|(simp only [RZ,aW,a8,List.length_nil,List.length_cons])))|(refine bV rfl ?_ ?_ ?_ ?_ ?_ ?_;(first|rfl|exact St.bm _ _ _|(simp only [↓R1,RR,seval,q1,hw,hd]));(first|omega|(simp only [RZ,aW,a8,List.length_nil,List.length_cons];omega)|(simp only [RZ,aW,a8,List.length_nil,List.length_cons]));(first|rfl|first|omega|(simp only [RZ,aW,a8,List.length_nil,List.length_cons];omega)|(simp only [RZ,aW,a8,List.length_nil,List.length_cons])))|(refine dr ?_ ?_ ?_ ?_;exact aU (by intro _;rfl) _)|(refine appD_own ?_ ?_ ?_ ?_ ?_;omega;exact aU (by intro _;rfl) _)|(refine ct rfl trivial rfl ?_ ?_ ?_ ?_ ?_;(first|rfl|first|omega|(simp only [RZ,aW,a8,List.length_nil,List.length_cons];omega)|(simp only [RZ,aW,a8,List.length_nil,List.length_cons]));(first|rfl|first|omega|(simp only [RZ,aW,a8,List.length_nil,List.length_cons];omega)|(simp only [RZ,aW,a8,List.length_nil,List.length_cons])))|(refine appD_fresh rfl trivial rfl ?_ ?_ ?_ ?_ ?_ ?_;omega;(first|rfl|first|omega|(simp only [RZ,aW,a8,List.length_nil,List.length_cons];omega)|(simp only [RZ,aW,a8,List.length_nil,List.length_cons]));(first|rfl|first|omega|(simp only [RZ,aW,a8,List.length_nil,List.length_cons];omega)|(simp only [RZ,aW,a8,List.length_nil,List.length_cons]))));(unfold maxLen;omega);omega)|(refine Ct (hp) ?_))<;>(try simp only [↓R1,RR,seval,q1,hw,hd])))
  all_goals first|(simp only [List.length_map];omega)|skip
  ·simp [aE,slot,ae]
  ·rw [hs];exact St.le_refl _
 ·have hke:k=l.length:=by omega
  subst hke
  have q1:decide ((l.length:Int)<(l.length:Int))=false:=by simp
  rw [List.take_length]
  simp only [q1,↓R1,RR,seval,q1,hw,hd]
  skip
  refine ak ?_ (by first|(simp [aj,rvS];done)|(simp only [aj,rvS,↓R1,RR,seval,q1,hw,hd];try simp)) (St.ew (St.aw (St.aw (St.le_refl _) h2) h3) hτ)
  simp only [ao,↓R1,RR,seval,q1,hw,hd]
  simp only [cRI,mkR,List.length_map]
  exact dC (.cons (ae _) (.cons (cd _ _ _) .nil))
set_option maxHeartbeats 2000000 in
theorem p56 (l:List (List UInt8)) (hl:l.length≤1000) (ht:∀ t∈l,t.length≤1000000):Pu Tryz.prog 56 [.sl false l.length (l.map AV.str)] (.agg (cRI (mkR l))):=by
 have q1:True:=trivial
 have hw:True:=trivial
 have hd:True:=trivial
 (refine al c56 b56 fun σ=>?_;simp only [c56,↓R1,RR,seval,q1,hw,hd])
 rw [ah];intro b2 h2;simp only [↓R1,RR,seval,q1,hw,hd]
 rw [ah];intro b3 h3;rw [St.aD] at h3;obtain ⟨⟨_,_⟩,h3⟩:=h3;simp only [↓R1,RR,seval,q1,hw,hd]
 refine kT l.length 3 1 109 3 (β:=b3) rfl (by simp only [↓R1,RR,seval,q1,hw,hd];rfl) rfl
  (fun τ k=> [(2, .ptr b2 0),(3, .ptr b3 0),(0, .sl false l.length (l.map AV.str)),(4, .int .i64 (k:Nat))])
  (fun τ k=>((σ.ad b2 [.int .i64 0, .nils]).ad b3 [.int .i64 0, .tsl τ k (((l.take k).map mkW).flatMap cWI)]).ai τ (109,3,k)) (fun _=>True) trivial (fun τ=>by simp [aE,slot,ae]) (fun τ _=>by simp only [List.set_cons_succ,List.set_cons_zero,List.take_zero,List.map_nil,List.flatMap_nil,↓R1,RR,seval,q1,hw,hd];exact St.le_refl _) (fun τ hτ k hk _=>?_)
 by_cases hlt:k<l.length
 ·have q1:decide ((k:Int)<(l.length:Int))=true:=by rw [decide_eq_true_eq];omega
  have hd:=mH l hlt
  have hw:IntKind.i64.wrap ((k:Int)+1)=((k+1:Nat):Int):=by rw [wrap64 (by omega) (by omega)];omega
  have hp:=HY l[k] (ht _ (List.getElem_mem hlt))
  have hcl:(((l.take k).map mkW).flatMap cWI).length=k*3:=by rw [aW];simp;omega
  have hs:=u9 l hlt
  simp only [q1,↓R1,RR,seval,q1,hw,hd]
  repeat' (first|(with_reducible refine And.intro ?_ ?_;focus (intros;(repeat' (with_reducible apply And.intro))<;>first|omega|(simp only [RZ,aW,a8];omega)))|(with_reducible apply And.intro)|((first|((first|(refine cD (.inr rfl) rfl ?_ ?_ ?_ ?_ ?_ ?_;(first|rfl|exact St.bm _ _ _|(simp only [↓R1,RR,seval,q1,hw,hd]));(first|omega|(simp only [RZ,aW,a8,List.length_nil,List.length_cons];omega)|(simp only [RZ,aW,a8,List.length_nil,List.length_cons]));(first|rfl|first|omega|(simp only [RZ,aW,a8,List.length_nil,List.length_cons];omega)|(simp only [RZ,aW,a8,List.length_nil,List.length_cons])))|(refine bV rfl ?_ ?_ ?_ ?_ ?_ ?_;(first|rfl|exact St.bm _ _ _|(simp only [↓R1,RR,seval,q1,hw,hd]));(first|omega|(simp only [RZ,aW,a8,List.length_nil,List.length_cons];omega)|(simp only [RZ,aW,a8,List.length_nil,List.length_cons]));(first|rfl|first|omega|(simp only [RZ,aW,a8,List.length_nil,List.length_cons];omega)|(simp only [RZ,aW,a8,List.length_nil,List.length_cons])))|(refine dr ?_ ?_ ?_ ?_;exact aU (by intro _;rfl) _)|(refine appD_own ?_ ?_ ?_ ?_ ?_;omega;exact aU (by intro _;rfl) _)|(refine ct rfl trivial rfl ?_ ?_ ?_ ?_ ?_;(first|rfl|first|omega|(simp only [RZ,aW,a8,List.length_nil,List.length_cons];omega)|(simp only [RZ,aW,a8,List.length_nil,List.length_cons]));(first|rfl|first|omega|(simp only [RZ,aW,a8,List.length_nil,List.length_cons];omega)|(simp only [RZ,aW,a8,List.length_nil,List.length_cons])))|(refine appD_fresh rfl trivial rfl ?_ ?_ ?_ ?_ ?_ ?_;omega;(first|rfl|first|omega|(simp only [RZ,aW,a8,List.length_nil,List.length_cons];omega)|(simp only [RZ,aW,a8,List.length_nil,List.length_cons]));(first|rfl|first|omega|(simp only [RZ,aW,a8,List.length_nil,List.length_cons];omega)|(simp only [RZ,aW,a8,List.length_nil,List.length_cons]))));(unfold maxLen;omega);omega)|(refine Ct (hp) ?_))<;>(try simp only [↓R1,RR,seval,q1,hw,hd])))
  all_goals first|(simp only [List.length_map];omega)|skip
  ·simp [aE,slot,ae]
  ·rw [hs];exact St.le_refl _
 ·have hke:k=l.length:=by omega
  subst hke
  have q1:decide ((l.length:Int)<(l.length:Int))=false:=by simp
  rw [List.take_length]
  simp only [q1,↓R1,RR,seval,q1,hw,hd]
  skip
  refine ak ?_ (by first|(simp [aj,rvS];done)|(simp only [aj,rvS,↓R1,RR,seval,q1,hw,hd];try simp)) (St.ew (St.aw (St.aw (St.le_refl _) h2) h3) hτ)
  simp only [ao,↓R1,RR,seval,q1,hw,hd]
  simp only [cRI,mkR,List.length_map]
  exact dC (.cons (ae _) (.cons (cd _ _ _) .nil))
def cWd (w:Wd):List AV:= [.bool w.q, .str w.t, .int .i64 (w.a:Nat)]
theorem bM (l:List Wd):(l.flatMap cWd).length=l.length*3:=aU (f:=cWd) (fun _=>rfl) l
def lV (τ:Nat):List Wd→AV
 | []=> .nils
 | p=> .tsl τ p.length (p.flatMap cWd)
def lT (σ:St) (τ:Nat):List Wd→St
 | []=>σ
 | p=>σ.ai τ (109,3,p.length)
theorem mI (σ:St) (τ:Nat) (p:List Wd):(lT σ τ p).box=σ.box:=by cases p<;>rfl
theorem mJ (σ:St) (τ:Nat) (p:List Wd) (u:Nat) (c:List AV):(lT σ τ p).ad u c=lT (σ.ad u c) τ p:=by cases p<;>rfl
theorem H5 {P:Program} {Y:St} {K:AV→St→Prop} {τ:Nat} {pre:List Wd} {w:Wd} {h:Hold (lT Y τ pre,K)} (hl:pre.length≤1000000) (hY:pre≠ []→Y.tip τ=none)
    (hK:∀ τ',Y.tip τ'=none→K (lV τ' (pre++ [w])) (lT Y τ' (pre++ [w]))):k9 true 109 3 32 (lV τ pre) (.sl true 1 (cWd w)) (lT Y τ pre) K h:=by
  cases pre with
  | nil =>
    refine l9 (n:=0) (cs:= []) rfl trivial rfl rfl rfl ?_ ?_ (fun τ' hτ'=>?_)
    · unfold maxLen;decide
    · decide
    · exact hK τ' hτ'
  | cons x p =>
    have h1:=bM (x::p)
    simp only [List.length_cons] at hl h1
    refine bV rfl ?_ ?_ rfl ?_ ?_ ?_
    · simp [lT,St.ai,upd]
    · simpa using h1
    · unfold maxLen;simp;omega
    · simp;omega
    · have:=hK τ (hY (by simp))
      have e1:(x::p).flatMap cWd++cWd w=((x::p)++ [w]).flatMap cWd:=by simp
      have e2:lT (lT Y τ (x::p)) τ ((x::p)++ [w])=lT Y τ ((x::p)++ [w]):=St.eH _ _ _ _
      have e3:(x::p).length+1=((x::p)++ [w]).length:=by simp
      rw [e1,e3]
      rw [←e2] at this
      exact this
theorem JX {s s':St} (h:St.le s s') (τ:Nat) (p:List Wd):St.le (lT s τ p) (lT s' τ p):=by
 cases p with
 | nil=>exact h
 | cons x p=>exact St.qJ h
def tY (σ:St) (o:Except Nat (List Wd)) (r:AV) (s:St):Prop :=
 match o with
 | .error b=>r= .tup [.nils, .int .i64 (b:Nat), .bool false]∧s=σ
 | .ok ws=>∃ τ,(ws≠ []→σ.tip τ=none)∧r= .tup [lV τ ws, .int .i64 0, .bool true]∧s=lT σ τ ws
set_option maxHeartbeats 4000000 in
theorem pB (σ:St) (l:List UInt8) (hl:l.length≤1000000):AC Tryz.prog 149 [.str l] σ (tY σ (cU l)):=by
  have hc1:True:=trivial
  have q1:True:=trivial
  have q3:True:=trivial
  (refine aT Gw KD ?_;simp only [Gw,↓R1,RR,Nat.reduceEqDiff,Nat.reduceAdd,Nat.reduceLeDiff,Nat.reduceLT,reduceCtorEq,cW,hc1,q1,q3])
  repeat' ((with_reducible intro β hβ;(try simp only [RB] at hβ);(repeat (obtain ⟨⟨_,_⟩,hβ⟩:=hβ));(try (have hbis:=ag (by assumption) hβ;obtain ⟨_,_⟩:=hbis)))<;>(try simp only [↓R1,RR,Nat.reduceEqDiff,Nat.reduceAdd,Nat.reduceLeDiff,Nat.reduceLT,reduceCtorEq,cW,hc1,q1,q3]))
  refine (AC.wk (BG (k:=0) (l:=l) (by simp only [↓R1,RR,Nat.reduceEqDiff,Nat.reduceAdd,Nat.reduceLeDiff,Nat.reduceLT,reduceCtorEq,cW,hc1,q1,q3];rfl) (Nat.zero_le _) hl) (aa _)).mono ?_
  rintro _ _ ⟨rfl,rfl⟩
  rw [List.drop_zero]
  simp only [↓R1,RR,Nat.reduceEqDiff,Nat.reduceAdd,Nat.reduceLeDiff,Nat.reduceLT,reduceCtorEq,cW,hc1,q1,q3]
  revert hβ
  revert β
  intro u hu
  have hz:posOf l (l.dropWhile aV)≤l.length:=by simp [posOf]
  have hz2:l.drop (posOf l (l.dropWhile aV))=l.dropWhile aV:=(hG (List.dropWhile_suffix _)).1
  refine bQ (α:=Nat × Nat × List Wd) (fun z=> [(2,lV z.2.1 z.2.2),(5, .ptr u 0)]) (fun z=>lT (σ.ad u [.str l, .int .i64 (z.1:Nat)]) z.2.1 z.2.2)
    (fun z=>z.1≤l.length∧(z.2.2≠ []→σ.tip z.2.1=none)∧z.2.2.length≤z.1∧(l.drop z.1).dropWhile aV=l.drop z.1∧cU l=np z.2.2 (dD (l.drop z.1) z.1)) (fun z=>l.length - z.1) (posOf l (l.dropWhile aV),0,[])
    (by simp [aE,slot,ae,lV]) (by simp only [↓R1,RR,Nat.reduceEqDiff,Nat.reduceAdd,Nat.reduceLeDiff,Nat.reduceLT,reduceCtorEq,cW,hc1,q1,q3];exact St.le_refl _) ⟨hz,(fun h=>absurd rfl h),Nat.zero_le _,(by rw [hz2,fh]),(by rw [AJ,hz2,cU,kC,Nat.zero_add];rfl)⟩ ?_
  rintro ⟨i,τ,pre⟩ ⟨hi,hτ,hlen,hdw,hI⟩
  simp only at hi hτ hlen hdw hI
  have hbS:∀ (i:Nat) τ pre,(lT (σ.ad u [.str l, .int .i64 i]) τ pre).box u=some [.str l, .int .i64 i]:=fun i τ pre=>by rw [mI];simp only [↓R1,RR,Nat.reduceEqDiff,Nat.reduceAdd,Nat.reduceLeDiff,Nat.reduceLT,reduceCtorEq,cW,hc1,q1,q3]
  have hset:∀ (i j:Nat) τ pre,(lT (σ.ad u [.str l, .int .i64 i]) τ pre).ad u [.str l, .int .i64 j]=lT (σ.ad u [.str l, .int .i64 j]) τ pre:=fun i j τ pre=>by rw [mJ];simp only [↓R1,RR,Nat.reduceEqDiff,Nat.reduceAdd,Nat.reduceLeDiff,Nat.reduceLT,reduceCtorEq,cW,hc1,q1,q3]
  have fin:∀ (i:Nat),cU l= .ok pre→tY σ (cU l) (.tup [lV τ pre, .int .i64 0, .bool true]) (lT σ τ pre):=fun i h=>by rw [h];exact ⟨τ,hτ,rfl,rfl⟩
  have hle:∀ (i:Nat),St.le (lT σ τ pre) (lT (σ.ad u [.str l, .int .i64 i]) τ pre):=fun i=>by
    rw [←mJ];exact St.aw (St.le_refl _) (by rw [mI];exact hu)
  have hle0:∀ (i:Nat),St.le σ (lT (σ.ad u [.str l, .int .i64 i]) τ pre):=fun i=>by
    have h1:St.le σ (σ.ad u [.str l, .int .i64 i]):=St.aw (St.le_refl _) hu
    cases pre with
    | nil=>exact h1
    | cons x p=>exact St.ew h1 (hτ (by simp))
  simp only [↓R1,RR,Nat.reduceEqDiff,Nat.reduceAdd,Nat.reduceLeDiff,Nat.reduceLT,reduceCtorEq,cW,hc1,q1,q3]
  have a1:=dE (hbS i τ pre)
  have q3:=hbS i τ pre
  rcases eE l i hi with ⟨hd,he⟩|⟨c,r,hd,hlt⟩
  · have hc1:decide ((i:Int)<(l.length:Int))=false:=by simp;omega
    have hok:cU l= .ok pre:=by rw [hI,hd,eB];simp [np]
    repeat' (((refine AC.mono (AC.wk (a1) (aa _)) ?_;(rintro _ _ ⟨rfl,rfl⟩)))<;>(try simp only [↓R1,RR,Nat.reduceEqDiff,Nat.reduceAdd,Nat.reduceLeDiff,Nat.reduceLT,reduceCtorEq,cW,hc1,q1,q3]))
    exact aB (by simp) (by simp [aj,rvS]) (af (by (simp only [ao,↓R1,RR,Nat.reduceEqDiff,Nat.reduceAdd,Nat.reduceLeDiff,Nat.reduceLT,reduceCtorEq,cW,hc1,q1,q3]))) (hle i) (fin i hok)
  · have hc1:decide ((i:Int)<(l.length:Int))=true:=by simpa using hlt
    have a2:=eD (hbS i τ pre) hd
    rw [eB,hdw,hd] at hI
    simp only at hI
    by_cases h35:c=35
    · have q1:((c.toNat:Int) != 35)=false:=by rw [bne,cW];simpa using h35
      have hok:cU l= .ok pre:=by rw [hI,if_pos h35];simp [np]
      repeat' ((first|((refine AC.mono (AC.wk (a1) (aa _)) ?_;(rintro _ _ ⟨rfl,rfl⟩)))|((refine AC.mono (AC.wk (a2) (aa _)) ?_;(rintro _ _ ⟨rfl,rfl⟩))))<;>(try simp only [↓R1,RR,Nat.reduceEqDiff,Nat.reduceAdd,Nat.reduceLeDiff,Nat.reduceLT,reduceCtorEq,cW,hc1,q1,q3]))
      exact aB (by simp) (by simp [aj,rvS]) (af (by (simp only [ao,↓R1,RR,Nat.reduceEqDiff,Nat.reduceAdd,Nat.reduceLeDiff,Nat.reduceLT,reduceCtorEq,cW,hc1,q1,q3]))) (hle i) (fin i hok)
    · have q1:((c.toNat:Int) != 35)=true:=by rw [bne,cW];simpa using h35
      rw [if_neg h35] at hI
      have hlr:(l.drop i).length - (c::r).length=0:=by rw [hd];omega
      have a3:=HZ (hbS i τ pre) hd hl
      cases hw0:de (c::r) with
      | none =>
        rw [hw0] at a3 hI
        repeat' ((first|((refine AC.mono (AC.wk (a1) (aa _)) ?_;(rintro _ _ ⟨rfl,rfl⟩)))|((refine AC.mono (AC.wk (a2) (aa _)) ?_;(rintro _ _ ⟨rfl,rfl⟩))))<;>(try simp only [↓R1,RR,Nat.reduceEqDiff,Nat.reduceAdd,Nat.reduceLeDiff,Nat.reduceLT,reduceCtorEq,cW,hc1,q1,q3]))
        refine (AC.wk a3 (aa _)).mono ?_
        rintro _ _ ⟨p,j,rfl,rfl⟩
        rw [hset]
        simp only [wdV,↓R1,RR,Nat.reduceEqDiff,Nat.reduceAdd,Nat.reduceLeDiff,Nat.reduceLT,reduceCtorEq,cW,hc1,q1,q3]
        repeat' (first|(with_reducible rw [ah])|((with_reducible intro β hβ;(try simp only [RB] at hβ);(repeat (obtain ⟨⟨_,_⟩,hβ⟩:=hβ));(try (have hbis:=ag (by assumption) hβ;obtain ⟨_,_⟩:=hbis)))<;>(try simp only [↓R1,RR,Nat.reduceEqDiff,Nat.reduceAdd,Nat.reduceLeDiff,Nat.reduceLT,reduceCtorEq,cW,hc1,q1,q3])))
        rw [mI,St.aD] at hβ
        obtain ⟨⟨_,_⟩,hβ⟩:=hβ
        refine aB (r:= .tup [.nils, .int .i64 (i:Nat), .bool false]) (by simp) (by simp [aj,rvS]) (af (by (simp only [ao,↓R1,RR,Nat.reduceEqDiff,Nat.reduceAdd,Nat.reduceLeDiff,Nat.reduceLT,reduceCtorEq,cW,hc1,q1,q3]))) (St.aM (hle0 j) (by assumption)) ?_
        rw [hI]
        simp only [np,tY,Nat.sub_self,Nat.add_zero,true_and]
      | some q =>
        obtain ⟨q,t,m⟩:=q
        rw [hw0] at a3 hI
        obtain ⟨hdm,hml⟩:=hG ((n7 hw0).trans (by rw [←hd];exact jH l i))
        have hmlen:=eA hw0
        have hpm:posOf l m=l.length - m.length:=rfl
        have hcl:(c::r).length=l.length - i:=by rw [←hd];simp
        repeat' ((first|((refine AC.mono (AC.wk (a1) (aa _)) ?_;(rintro _ _ ⟨rfl,rfl⟩)))|((refine AC.mono (AC.wk (a2) (aa _)) ?_;(rintro _ _ ⟨rfl,rfl⟩))))<;>(try simp only [↓R1,RR,Nat.reduceEqDiff,Nat.reduceAdd,Nat.reduceLeDiff,Nat.reduceLT,reduceCtorEq,cW,hc1,q1,q3]))
        refine (AC.wk a3 (aa _)).mono ?_
        rintro _ _ ⟨rfl,rfl⟩
        rw [hset]
        simp only [wdV,↓R1,RR,Nat.reduceEqDiff,Nat.reduceAdd,Nat.reduceLeDiff,Nat.reduceLT,reduceCtorEq,cW,hc1,q1,q3]
        repeat' (first|(with_reducible rw [ah])|((with_reducible intro β hβ;(try simp only [RB] at hβ);(repeat (obtain ⟨⟨_,_⟩,hβ⟩:=hβ));(try (have hbis:=ag (by assumption) hβ;obtain ⟨_,_⟩:=hbis)))<;>(try simp only [↓R1,RR,Nat.reduceEqDiff,Nat.reduceAdd,Nat.reduceLeDiff,Nat.reduceLT,reduceCtorEq,cW,hc1,q1,q3])))
        rw [mI,St.aD] at hβ
        obtain ⟨⟨_,_⟩,hβ⟩:=hβ
        rw [mJ,mJ]
        refine H5 (P:=Tryz.prog) (w:=⟨q,t,i⟩) (by omega) hτ (fun τ' hτ'=>?_)
        simp only [↓R1,RR,Nat.reduceEqDiff,Nat.reduceAdd,Nat.reduceLeDiff,Nat.reduceLT,reduceCtorEq,cW,hc1,q1,q3]
        have hbu:∀ p,(lT (((σ.ad u [.str l, .int .i64 (posOf l m:Nat)]).ad β [.bool false, .str [], .int .i64 0]).ad β [.bool q, .str t, .int .i64 (i:Nat)]) τ' p).box u=some [.str l, .int .i64 (posOf l m:Nat)]:=fun p=>by
          rw [mI];simp only [↓R1,RR,Nat.reduceEqDiff,Nat.reduceAdd,Nat.reduceLeDiff,Nat.reduceLT,reduceCtorEq,cW,hc1,q1,q3]
        refine (AC.wk (BG (hbu _) hml hl) (aa _)).mono ?_
        rintro _ _ ⟨rfl,rfl⟩
        rw [hdm,mJ]
        simp only [↓R1,RR,Nat.reduceEqDiff,Nat.reduceAdd,Nat.reduceLeDiff,Nat.reduceLT,reduceCtorEq,cW,hc1,q1,q3]
        have hsuf:m.dropWhile aV <:+ l:=(List.dropWhile_suffix _).trans ((n7 hw0).trans (by rw [←hd];exact jH l i))
        obtain ⟨hd4,hl4⟩:=hG hsuf
        have hp4:posOf l (m.dropWhile aV)=l.length - (m.dropWhile aV).length:=rfl
        have hl5:=cK aV m
        refine ⟨(posOf l (m.dropWhile aV),τ',pre++ [⟨q,t,i⟩]),⟨hl4,fun _=>hτ',?_,?_,?_⟩,by simp [aE,slot,ae],JX (St.aw (St.le_refl _) (by rw [St.aD];exact ⟨⟨by assumption,by assumption⟩,hβ⟩)) _ _,?_⟩
        · simp only [List.length_append,List.length_cons,List.length_nil];omega
        · rw [hd4,fh]
        · rw [hI,hd4]
          simp only
          rw [xD,AI,kC m]
          rw [show i+((c::r).length - m.length)+(m.length - (m.dropWhile aV).length)=posOf l (m.dropWhile aV) by omega]
          simp only [Nat.sub_self,Nat.add_zero]
        · simp only;omega
theorem Mq (s:List UInt8) (c:UInt8):Pu Tryz.prog 244 [.str s, .str [c]] (.int .i64 (Lib.indexByte s c)):=by
 intro σ
 refine AC.eO (Go.Proofs.enters_of Tryz.func244 (by kernel_rfl) rfl) ?_
 intro g w vs hI hv
 obtain ⟨v1,vs,rfl,r1,hv⟩:=hv.cons_inv
 obtain ⟨v2,vs,rfl,r2,hv⟩:=hv.cons_inv
 rw [hv.bO,r1.cN,r2.cN]
 refine (Tryz.strings_Index_one ⟨s.toArray⟩ c w).mono ?_
 rintro e w' ⟨rfl,rfl⟩
 exact ⟨_,rfl,Go.RowKit.Below.refl _ _,fun g' _=> .int _ _⟩
theorem Ey (σ:St) (l:List UInt8):AC Tryz.prog 147 [.str l, .str [10]] σ (fun r s=>∃ β0 β1 β2,σ.box β0=none∧σ.box β1=none∧σ.box β2=none∧(Apart β1 β0∧Apart β0 β1)∧(Apart β2 β0∧Apart β0 β2)∧(Apart β2 β1∧Apart β1 β2) ∧
  r= .fn 242 [.ptr β1 0, .ptr β0 0, .ptr β2 0]∧s=((σ.ad β0 [.str l]).ad β1 [.str [10]]).ad β2 [.int .i64 1]):=by
 have h:∀ σ:St,AC Tryz.prog 196 [.str l, .str [10], .int .i64 1] σ (fun r s=>∃ β0 β1 β2,σ.box β0=none∧σ.box β1=none∧σ.box β2=none∧(Apart β1 β0∧Apart β0 β1)∧(Apart β2 β0∧Apart β0 β2)∧(Apart β2 β1∧Apart β1 β2) ∧
   r= .fn 242 [.ptr β1 0, .ptr β0 0, .ptr β2 0]∧s=((σ.ad β0 [.str l]).ad β1 [.str [10]]).ad β2 [.int .i64 1]):=fun σ=>by
  (refine aT GP KV ?_;simp only [GP,↓R1,RR,seval])
  intro β0 h0 β1 h1 β2 h2
  simp only [St.aD] at h1 h2
  refine cq ?_
  exact ⟨β0,β1,β2,h0,h1.2,h2.2.2,h1.1,h2.2.1,h2.1,rfl,rfl⟩
 (refine aT Gu KB ?_;simp only [Gu,↓R1,RR,seval])
 refine (AC.wk (h σ) (aa _)).mono ?_
 rintro _ _ ⟨β0,β1,β2,h0,h1,h2,h3,h4,h5,rfl,rfl⟩
 simp only [↓R1,RR,seval]
 refine cq ?_
 exact ⟨β0,β1,β2,h0,h1,h2,h3,h4,h5,rfl,rfl⟩
theorem jJ {l:List UInt8} (h:cj l= []):cut l=(l,none):=by simp only [cut,h]
theorem jK {l r:List UInt8} {c:UInt8} (h:cj l=c::r):cut l=(bl l++ [10],some r)∧l.take ((bl l).length+1)=bl l++ [10]∧l.drop ((bl l).length+1)=r∧(bl l).length+1≤l.length:=by
 have h1:=gA l
 rw [h] at h1
 have hc:=tG h
 subst hc
 have h2:l=(bl l++ [10])++r:=by rw [List.append_assoc];exact h1.symm
 have hn:(bl l++ [10]).length=(bl l).length+1:=by simp
 refine ⟨by simp only [cut,h],?_,?_,?_⟩
 ·exact (congrArg (List.take _) h2).trans (List.take_left' hn)
 ·exact (congrArg (List.drop _) h2).trans (List.drop_left' hn)
 ·have:=congrArg List.length h2
  rw [List.length_append,hn] at this;omega
set_option maxHeartbeats 2000000 in
theorem BL {γ:Type} {prs:List Nat} {asg body:CC} {fr:Fr} {Q:Exit→Fr→St→Prop} {β0 β1 β2:Nat} (T:γ→List UInt8→St) (I:γ→List UInt8→Prop) (J:γ→Prop) (hps:prs.length=1) (g0:γ) (l0:List UInt8) (h0:I g0 l0)
    (hb0:∀ g r,(T g r).box β0=some [.str r]) (hb1:∀ g r,(T g r).box β1=some [.str [10]]) (hb2:∀ g r,(T g r).box β2=some [.int .i64 1])
    (hs:∀ g r r',(T g r).ad β0 [.str r']=T g r') (hl:∀ g r L,(T g r).lp L=(T g0 l0).lp L) (hlen:∀ g r,I g r→r.length≤1000000)
    (hround:∀ L (r:Loop) g rest,(T g0 l0).lp L=none→I g rest→aC Tryz.prog asg (iD prs [.str (cut rest).1] fr) ((T g rest).av L (r,fr)) (fun e fr1 σ2=>e= .normal∧σ2.lp L=some (.loop r,fr)∧aC Tryz.prog body fr1 (σ2.av L (busy r,fr)) (fun e _ σ3=>σ3.lp L=some (.loop (busy r),fr)∧match e with
        | .normal=>∃ g',St.le ((T g' rest).av L (r,fr)) (σ3.av L (r,fr))∧(match (cut rest).2 with|none=>J g'|some r'=>I g' r')
        | .ret=>Q .ret fr ((σ3.av L (left r .ret,fr)).dropLp L)
        | _=>False)))
    (hend:∀ g r,J g→Q .normal fr (T g r)):RF Tryz.prog 242 [.ptr β1 0, .ptr β0 0, .ptr β2 0] prs asg body fr (T g0 l0) Q:=by
  refine ⟨by kernel_rfl,fun L r hL hr1 hr2 hY=>?_⟩
  have hY':∀ g rest,I g rest→YC Tryz.prog L [.str (cut rest).1] ((T g rest).av L (r,fr)) (fun v s'=>(v= .bool true∧∃ g',(match (cut rest).2 with|none=>J g'|some r'=>I g' r')∧s'=(T g' rest).av L (r,fr))∨(v= .bool false∧s'.lp L=some (.loop (left r .ret),fr)∧Q .ret fr (s'.dropLp L))):=fun g rest hI=>by
    refine YC.weaken (hY [.str (cut rest).1] ((T g rest).av L (r,fr)) (fun v s=>(v= .bool true∧∃ g',St.le ((T g' rest).av L (r,fr)) s∧(match (cut rest).2 with|none=>J g'|some r'=>I g' r'))∨(v= .bool false∧s.lp L=some (.loop (left r .ret),fr)∧Q .ret fr (s.dropLp L))) (by simpa using hps.symm) (St.aZ _ _ _) ?_) ?_
    · refine cz _ _ _ (hround L r g rest hL hI) (fun e fr1 σ2 h=>?_)
      obtain ⟨h1,h2,h3⟩:=h
      refine ⟨h1,h2,cz _ _ _ h3 (fun e2 fr2 σ3 h4=>?_)⟩
      obtain ⟨h5,h6⟩:=h4
      refine ⟨h5,?_⟩
      cases e2 with
      | normal=>obtain ⟨g',k1,k2⟩:=h6;exact .inl ⟨rfl,g',k1,k2⟩
      | ret=>exact .inr ⟨rfl,St.aZ _ _ _,h6⟩
      | _=>exact h6.elim
    · rintro v s (⟨rfl,g',k1,k2⟩|⟨rfl,k1,k2⟩)
      · exact ⟨_,_,ae _,k1, .inl ⟨rfl,g',k2,rfl⟩⟩
      · exact ⟨_,_,ae _,St.le_refl _, .inr ⟨rfl,k1,k2⟩⟩
  have hb0':∀ g rest,((T g rest).av L (r,fr)).box β0=some [.str rest]:=fun g rest=>hb0 g rest
  have hb1':∀ g rest,((T g rest).av L (r,fr)).box β1=some [.str [10]]:=fun g rest=>hb1 g rest
  have hb2':∀ g rest,((T g rest).av L (r,fr)).box β2=some [.int .i64 1]:=fun g rest=>hb2 g rest
  have hs':∀ g rest r',((T g rest).av L (r,fr)).ad β0 [.str r']=(T g r').av L (r,fr):=fun g rest r'=>by rw [←St.ef,hs]
  have q1:(((1:Nat):Int) == 0)=false:=rfl
  have q2:True:=trivial
  have q3:True:=trivial
  have q4:True:=trivial
  have q5:True:=trivial
  have q6:True:=trivial
  refine aT G6 La ?_
  simp only [G6,hb0,hb1,hb2,List.length_cons,List.length_nil,Nat.zero_add,↓R1,RR,seval,hb0',hb1',hb2',q1,q2,q3,q4,q5,q6]
  refine bQ (α:=γ × List UInt8) (fun _=> [(0, .yld L),(1, .ptr β1 0),(2, .ptr β0 0),(3, .ptr β2 0)]) (fun z=>(T z.1 z.2).av L (r,fr)) (fun z=>I z.1 z.2) (fun z=>z.2.length) (g0,l0) (by simp [aE,slot,ae]) (St.le_refl _) h0 ?_
  rintro ⟨g,rest⟩ hI
  simp only at hI
  have hn:=hlen g rest hI
  have hy:=hY' g rest hI
  have hix:=Mq rest 10
  simp only [hb0',hb1',hb2',↓R1,RR,seval,hb0',hb1',hb2',q1,q2,q3,q4,q5,q6]
  rw [tH] at hix
  cases ha:cj rest with
  | nil =>
    rw [ha] at hix
    rw [jJ ha] at hy
    simp only at hix
    have q2:decide ((-1:Int)<0)=true:=rfl
    repeat' ((refine Pt (hix) ?_)<;>(try simp only [↓R1,RR,seval,hb0',hb1',hb2',q1,q2,q3,q4,q5,q6]))
    refine YC.mono hy ?_
    rintro v s' (⟨rfl,g',hJ,rfl⟩|⟨rfl,h1,h2⟩)
    · simp only [↓R1,RR,seval,hb0',hb1',hb2',q1,q2,q3,q4,q5,q6]
      refine cq (.inl ⟨St.aZ _ _ _,?_⟩) (by simp [aj])
      rw [St.drop_set (by rw [hl,hL])]
      exact hend g' rest hJ
    · simp only [↓R1,RR,seval,hb0',hb1',hb2',q1,q2,q3,q4,q5,q6]
      exact cq (.inr (.inl ⟨h1,h2⟩)) (by simp [aj])
  | cons c r' =>
    rw [ha] at hix
    simp only at hix
    obtain ⟨k1,k2,k3,k4⟩:=jK ha
    rw [k1] at hy
    have q2:decide (((bl rest).length:Int)<0)=false:=by simp
    have q3:IntKind.i64.wrap (((bl rest).length:Int)+1)=(((bl rest).length+1:Nat):Int):=by rw [wrap64 (by omega) (by omega)];omega
    have q6:IntKind.i64.wrap (((bl rest).length:Int)+((1:Nat):Int))=(((bl rest).length+1:Nat):Int):=q3
    have q4:=k2
    have q5:=List.take_of_length_le (l:=rest.drop ((bl rest).length+1)) (i:=rest.length - ((bl rest).length+1)) (by simp)
    repeat' (first|(with_reducible refine And.intro ?_ ?_;exact aq)|((refine Pt (hix) ?_)<;>(try simp only [↓R1,RR,seval,hb0',hb1',hb2',q1,q2,q3,q4,q5,q6])))
    all_goals first|omega|skip
    refine YC.mono hy ?_
    rintro v s' (⟨rfl,g',hJ,rfl⟩|⟨rfl,h1,h2⟩)
    · simp only [hb0',hb1',hb2',↓R1,RR,seval,hb0',hb1',hb2',q1,q2,q3,q4,q5,q6]
      repeat' (with_reducible refine And.intro ?_ ?_;exact aq)
      all_goals first|omega|skip
      rw [hs',k3]
      refine ⟨(g',r'),hJ,by simp [aE,slot,ae],St.le_refl _,?_⟩
      have:=congrArg List.length k3
      simp only [List.length_drop] at this
      simp only;omega
    · simp only [↓R1,RR,seval,hb0',hb1',hb2',q1,q2,q3,q4,q5,q6]
      exact cq (.inr (.inl ⟨h1,h2⟩)) (by simp [aj])
def jL (l:List UInt8):List UInt8:=if 1≤l.length∧l.drop (l.length - 1)= [10] then l.take (l.length - 1) else l
theorem Mr (l:List UInt8) (hl:l.length≤1000000):Pu Tryz.prog 245 [.str l, .str [10]] (.bool (decide (1≤l.length∧l.drop (l.length - 1)= [10]))):=by
 have q1:True:=trivial
 have hw:True:=trivial
 by_cases h:1≤l.length
 ·have q1:decide ((((1:Nat):Int))≤(l.length:Int))=true:=by simp;omega
  have hw:IntKind.i64.wrap ((l.length:Int) - ((1:Nat):Int))=((l.length - 1:Nat):Int):=by rw [wrap64 (by omega) (by omega)];omega
  (refine al AM Jt fun σ=>?_;simp only [AM,↓R1,RR,Nat.reduceEqDiff,reduceCtorEq,hw,q1])
  repeat' (with_reducible refine And.intro ?_ ?_;focus (intros;(repeat' (with_reducible apply And.intro))<;>first|omega|(simp only [RZ,bM];omega)))
  all_goals first|omega|skip
  (refine ak (af ?_))
  (simp only [ao,↓R1,RR,Nat.reduceEqDiff,reduceCtorEq,hw,q1])
  have e:(l.drop (l.length - 1)).take (l.length - (l.length - 1))=l.drop (l.length - 1):=List.take_of_length_le (by simp)
  rw [e]
  by_cases h2:l.drop (l.length - 1)= [10]<;>simp [h,h2]
 ·have q1:decide ((((1:Nat):Int))≤(l.length:Int))=false:=by simp;omega
  (refine al AM Jt fun σ=>?_;simp only [AM,↓R1,RR,Nat.reduceEqDiff,reduceCtorEq,hw,q1])
  skip
  (refine ak (af ?_))
  (simp only [ao,↓R1,RR,Nat.reduceEqDiff,reduceCtorEq,hw,q1])
  simp [h]
theorem Mt (l:List UInt8) (hl:l.length≤1000000):Pu Tryz.prog 197 [.str l, .str [10]] (.str (jL l)):=by
 have hw:True:=trivial
 have hp:=Mr l hl
 by_cases h:1≤l.length∧l.drop (l.length - 1)= [10]
 ·have hw:IntKind.i64.wrap ((l.length:Int) - ((1:Nat):Int))=((l.length - 1:Nat):Int):=by rw [wrap64 (by omega) (by omega)];omega
  rw [decide_eq_true h] at hp
  (refine al AL Js fun σ=>?_;simp only [AL,↓R1,RR,Nat.reduceEqDiff,reduceCtorEq,hw])
  repeat' (first|(with_reducible refine And.intro ?_ ?_;focus (intros;(repeat' (with_reducible apply And.intro))<;>first|omega|(simp only [RZ,bM];omega)))|((refine Pt (hp) ?_)<;>(try simp only [↓R1,RR,Nat.reduceEqDiff,reduceCtorEq,hw])))
  skip
  all_goals first|omega|skip
  (refine ak (af ?_))
  (simp only [ao,↓R1,RR,Nat.reduceEqDiff,reduceCtorEq,hw])
  simp [jL,h]
 ·rw [decide_eq_false h] at hp
  (refine al AL Js fun σ=>?_;simp only [AL,↓R1,RR,Nat.reduceEqDiff,reduceCtorEq,hw])
  repeat' ((refine Pt (hp) ?_)<;>(try simp only [↓R1,RR,Nat.reduceEqDiff,reduceCtorEq,hw]))
  (refine ak (af ?_))
  (simp only [ao,↓R1,RR,Nat.reduceEqDiff,reduceCtorEq,hw])
  simp [jL,h]
theorem Mu (l:List UInt8) (hl:l.length≤1000000):Pu Tryz.prog 148 [.str l, .str [10]] (.str (jL l)):=by
 (refine al Gv KC fun σ=>?_;simp only [Gv,↓R1,RR,Nat.reduceEqDiff,reduceCtorEq])
 repeat' ((refine Pt (Mt l hl) ?_)<;>(try simp only [↓R1,RR,Nat.reduceEqDiff,reduceCtorEq]))
 (refine ak (af ?_))
 (simp only [ao,↓R1,RR,Nat.reduceEqDiff,reduceCtorEq])
theorem xV (x:List UInt8):jL (x++ [10])=x:=by
 have h1:(x++ [10]:List UInt8).length - 1=x.length:=by simp
 unfold jL
 rw [h1,List.drop_left,if_pos ⟨by simp,rfl⟩,List.take_left]
theorem xW {l:List UInt8} (h:cj l= []):jL l=l:=by
  unfold jL
  rw [if_neg]
  rintro ⟨h1,h2⟩
  have hl:=gA l
  rw [h,List.append_nil] at hl
  have hm:(10:UInt8)∈bl l:=by
    rw [hl]
    exact List.mem_of_mem_drop (i:=l.length - 1) (by rw [h2];simp)
  have:∀ m:List UInt8,(10:UInt8)∈bl m→False:=by
    intro m
    induction m with
    | nil=>intro h;simp [bl] at h
    | cons c m ih =>
      intro h
      simp only [bl,List.takeWhile_cons] at h
      split at h
      · rename_i hc
        rcases List.mem_cons.1 h with e|h
        · subst e;simp at hc
        · exact ih h
      · simp at h
  exact this l hm
def cRw (r:Rw):List AV:= [.int .i64 (r.a:Nat), .sl false r.ws.length (r.ws.flatMap cWd)]
theorem cH (l:List Rw):(l.flatMap cRw).length=l.length*2:=aU (f:=cRw) (fun _=>rfl) l
def fk (e a:Nat):AV:= .agg [.int .i64 (e:Nat), .int .i64 (a:Nat)]
def iN:Except (Nat × Nat) (List Rw)→AV
 | .error (e,a)=> .tup [.sl false 0 [],fk e a]
 | .ok rs=> .tup [.sl false rs.length (rs.flatMap cRw),fk 0 0]
theorem lF (σ:St) {β γ:Nat} [h:Apart γ β] (a b:List AV):(σ.ad β a).ad γ b=(σ.ad γ b).ad β a:=by
 simp only [St.ad,St.mk.injEq,and_true]
 funext j
 simp only [upd]
 by_cases h1:j=γ
 ·subst h1;rw [if_pos rfl,if_neg h.ne,if_pos rfl]
 ·rw [if_neg h1,if_neg h1]
theorem xX (σ:St) {β γ δ ε ζ:Nat} [Apart β γ] [Apart β δ] [Apart β ε] [Apart β ζ] (a b d e f c:List AV):(((((σ.ad β a).ad γ b).ad δ d).ad ε e).ad ζ f).ad β c=((((σ.ad β c).ad γ b).ad δ d).ad ε e).ad ζ f:=by
 rw [lF _ (β:=ζ) (γ:=β),lF _ (β:=ε) (γ:=β),lF _ (β:=δ) (γ:=β),lF _ (β:=γ) (γ:=β),St.set_set]
structure RG where
 a:Nat
 rs:List Rw
def TR (σ:St) (b2 b3 b4 b5 β0 β1 β2 τ:Nat) (g:RG) (rest:List UInt8):St :=
 (((((((((σ.ad b2 [AV.nils]).ad b3 [AV.int IntKind.i64 0,AV.int IntKind.i64 0]).ad b4 [AV.nils]).ad b5 [AV.int IntKind.i64 (g.a:Nat)]).ad β0 [AV.str rest]).ad β1 [AV.str [10]]).ad β2 [AV.int IntKind.i64 1]).ad b4 [AV.tsl τ g.rs.length (g.rs.flatMap cRw)]).ai τ (80,2,g.rs.length))
theorem rQ {x:List UInt8} {a b:Nat} (h:¬ 1000<x.length) (hw:cU x= .error b):cE x a= .error (3,a+b):=by
 simp only [cE,if_neg h,hw]
theorem rR {x:List UInt8} {a:Nat} (h:¬ 1000<x.length) (hw:cU x= .ok []):cE x a= .ok []:=by
 simp only [cE,if_neg h,hw]
theorem pC {x:List UInt8} {a:Nat} {ws:List Wd} (h:¬ 1000<x.length) (hw:cU x= .ok ws) (hn:ws≠ []):cE x a= .ok [⟨a,ws.map (dN a)⟩]:=by
 cases ws with
 | nil=>exact (hn rfl).elim
 | cons w ws=>simp only [cE,if_neg h,hw]
theorem rS (σ:St) {x:List UInt8} {ws:List Wd} (hl:x.length≤1000000) (hw:cU x= .ok ws) (hn:ws≠ []) :
  AC Tryz.prog 149 [.str x] σ (fun r s=>∃ β k,σ.box β=none∧r= .tup (.psl β 0 ws.length:: [.int .i64 0, .bool true])∧s=σ.ad β (ws.flatMap cWd++List.replicate k .junk)):=by
 refine AC.owned (e:=109) (es:=3) (enters_of Tryz.func149 (by kernel_rfl) rfl) (by simp [gnd]) (by simp [gnd]) ?_ (by simpa using hn) ?_
 ·intro a ha
  simp only [List.mem_flatMap,cWd] at ha
  obtain ⟨w,_,hw⟩:=ha
  simp at hw
  rcases hw with rfl|rfl|rfl<;>rfl
 ·have h:=pB (s0 fun _=>none) x hl
  rw [hw] at h
  refine h.mono ?_
  rintro r s ⟨τ,_,rfl,rfl⟩
  cases ws with
  | nil=>exact (hn rfl).elim
  | cons w ws=>exact ⟨τ,rfl,rfl⟩
end Go.Proofs.YtgephffbfiemeaaGreatDoor
