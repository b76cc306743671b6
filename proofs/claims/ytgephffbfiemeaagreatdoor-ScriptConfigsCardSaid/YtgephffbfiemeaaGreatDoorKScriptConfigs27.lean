/- Part 27 of the proof of ScriptConfigs: an abstract semantics that is proved sound for the model, contracts of functions in it, and plain facts (SB SB2 SB3 SB4 RW1 RW2 RX1 RW3 RW4 RX2 RX3 RX4 RX5 RW5 RW6 RW7 RW8 RW9). No condition. -/
import Derived.Test.YtgephffbfiemeaaGreatDoorKScriptConfigs26
import Derived.WalkKit
import Derived.Lib.Walk
import Derived.Lib.Builder
import Derived.Lib.UnsafeStr
import Derived.Shelf.RegionOpenPlain
import Derived.Shelf.Strings.BuilderX
import Derived.Laws.Externs
set_option linter.all false
namespace Go.Proofs.YtgephffbfiemeaaGreatDoor
open Go.Abs Go.Lib Go.RowKit
set_option linter.all false
set_option maxRecDepth 100000
theorem w9:(Tryz.prog.info? 222).map (·.size)=some 2:=P7
theorem GK:liesAt Tryz.prog Tryz.prog.depth 222 (2 / Tryz.prog.cellsOf 222) 0 222 1=true:=P7
theorem GL (b:Nat) (w:World) (h0:w.cell? ⟨b,0,none⟩=some (.pointer (some ⟨b,0,none⟩))) :
  Calls Tryz.prog 222 #[.pointer (some ⟨b,0,none⟩)] w fun e w'=>e= .returned (.tuple #[])∧w'=w:=by
 obtain ⟨j,hj,_⟩:=Option.map_eq_some_iff.1 w9
 go_enter Tryz.func222,Tryz.ntmps222
 go_wp2
 rw [Lib.run_neq_ptr_same w _ Tryz.underlying220 hj]
 go_wp2
 go_end0
 exact ⟨rfl,rfl⟩
theorem DC (b:Nat) (w:World) (h0:w.cell? ⟨b,0,none⟩=some (.pointer none)) (hsh:w.shape? b=some (222,2)) (hfz:w.frozen? ⟨b,0,none⟩=false) :
  Calls Tryz.prog 222 #[.pointer (some ⟨b,0,none⟩)] w fun e w'=>e= .returned (.tuple #[])∧w'=w.setCell ⟨b,0,none⟩ (.pointer (some ⟨b,0,none⟩)):=by
 obtain ⟨j,hj,hjs⟩:=Option.map_eq_some_iff.1 w9
 go_enter Tryz.func222,Tryz.ntmps222
 go_wp2
 rw [Lib.run_to_unsafe w ⟨b,0,none⟩ Tryz.underlying220 Tryz.underlying320 hj (by rw [hjs];decide) hsh (Nat.zero_lt_succ 1)]
 simp only [Result.andThen]
 rw [Oper.upon_value]
 go_wp2
 rw [run_callFunc_extern Tryz.func259 P7 P7 P7 (e:=Extern.AbiNoEscape.same) P7]
 rw [Lib.run_noEscape]
 simp only [Result.andThen]
 rw [Oper.upon_value]
 go_wp2
 rw [Lib.run_from_unsafe w ⟨b,0,none⟩ Tryz.underlying320 Tryz.underlying220 hj hsh GK]
 simp only [Result.andThen]
 rw [Oper.upon_value]
 go_wp2
 go_end0
 exact ⟨rfl,rfl⟩
end Go.Proofs.YtgephffbfiemeaaGreatDoor
namespace Go.Abs
open Go.RowKit Go.Lib
set_option linter.all false
section
variable {P:Program} {g:Gh} {σ:St} {w:World}
theorem _root_.Rp {p:Prop} (h:p:=by unfold World.freeze;split<;>rfl):p:=h
theorem vP (hI:Inv g σ w) {b F n:Nat} {cur:Array Value} {T:TypeId} {q:Nat × Nat} (hb:w.heap[b]? =some (.cells cur T q)) (hcl:g.cl b=some F) (hbox:∀ β,g.box β≠some b)
  (htip:∀ τ x v,σ.tip τ=some x→g.tip τ x.2.2=some v→Held x.2.2 v→v.ownBlock≠some b) :
  Inv g σ (w.freeze ⟨b,0,none⟩ n)∧Ext g w g (w.freeze ⟨b,0,none⟩ n):=by
 have hother:∀ k,k≠b→(w.freeze ⟨b,0,none⟩ n).heap[k]? =w.heap[k]? :=fun k hk=>by
  unfold World.freeze
  split
  ·rfl
  ·simp only [Array.getElem?_modify];rw [if_neg (fun e=>hk e.symm)]
 have hcell:∀ i,(w.freeze ⟨b,0,none⟩ n).cell? ⟨b,i,none⟩=w.cell? ⟨b,i,none⟩:=fun i=>by
  unfold World.freeze
  split
  ·rfl
  ·simp only [World.cell?,Array.getElem?_modify,if_true,hb,Option.map_some]
 have hos:(w.freeze ⟨b,0,none⟩ n).os=w.os:=Rp
 have htp:(w.freeze ⟨b,0,none⟩ n).tape=w.tape:=Rp
 have hou:(w.freeze ⟨b,0,none⟩ n).output=w.output:=Rp
 have hsz:(w.freeze ⟨b,0,none⟩ n).heap.size=w.heap.size:=by unfold World.freeze;split<;>simp
 have he:Ext g w g (w.freeze ⟨b,0,none⟩ n):=by
  refine ⟨hos,htp,hou,by omega,fun _ _ h=>h,fun _ _=>rfl,Nat.le_refl _,Nat.le_refl _,fun _ _ _ h=>h,fun k hk hc=>?_,fun k G hk hc=>?_,fun _ _ h=>h,fun k us T' hx h=>by
   obtain ⟨β,hβ⟩:=hx
   exact ⟨us,by rw [hother k (fun e=>hbox β (e ▸ hβ))];exact h,rfl⟩⟩
  ·have hkb:k≠b:=by rintro rfl;rw [hcl] at hc;cases hc
   exact ⟨hc,hother k hkb⟩
  ·by_cases hkb:k=b
   ·subst hkb
    exact ⟨G,hc,Nat.le_refl _,fun i _=>hcell i⟩
   ·exact ⟨G,hc,Nat.le_refl _,fun i _=>World.cell?_of_block (hother k hkb)⟩
 refine ⟨⟨fun β cs hβ=>?_,fun β k hβ=>?_,hI.boxinj,hI.boxfresh,fun τ e s n ht=>?_,hI.tipinj,hI.tipfresh,fun k cs hk=>(hI.glob k cs hk).mono he,fun l r hl=>by
  obtain ⟨q1,q2,q3⟩:=hI.lp l r hl
  have hlb:l≠b:=fun e=>by subst e;rw [hb] at q1;exact r.1.iU q1
  exact ⟨by rw [hother l hlb];exact q1,q2,fun t=>(q3 t).mono he⟩,fun β T2 hβ=>by
  obtain ⟨k,vs,k1,k2⟩:=hI.bty β T2 hβ
  exact ⟨k,vs,k1,by rw [hother k (fun e=>hbox β (e ▸ k1))];exact k2⟩⟩,he⟩
 ·obtain ⟨k,vs,T2,k1,k2,k3⟩:=hI.box β cs hβ
  exact ⟨k,vs,T2,k1,by rw [hother k (fun e=>hbox β (e ▸ k1))];exact k2,k3.mono he⟩
 ·obtain ⟨k1,k2⟩:=hI.boxcl β k hβ
  exact ⟨by omega,k2⟩
 ·obtain ⟨v,k1,k2,k4⟩:=hI.tip τ e s n ht
  refine ⟨v,k1,fun hs=>?_,k4⟩
  obtain ⟨xs,k2,k3⟩:=k2 hs
  have hvb:=htip τ _ v ht k1 hs
  refine ⟨xs,k2.kept (row:=some b) ⟨hos,htp,hou,by omega,fun k _ hk=>hother k (fun e=>hk (by rw [e]))⟩ (.inr hvb),fun k hk=>?_⟩
  obtain ⟨k5,k6⟩:=k3 k hk
  exact ⟨k5,k6.1,k6.2.same (hother k (fun e=>hvb (e ▸ hk)))⟩
end
end Go.Abs
namespace Go.Proofs.YtgephffbfiemeaaGreatDoor
open Go.Abs Go.Lib Go.RowKit
set_option linter.all false
set_option maxRecDepth 100000
theorem vQ:Tryz.prog.cellsOf 5=1:=P7
set_option maxHeartbeats 2000000 in
theorem zT (b g cap:Nat) (p:Value) (cur:Array Value) (l:List UInt8) (w:World) (hbk:w.heap[b]? =some (.cells #[p, .slice (some ⟨g,0,none⟩) l.length cap] 222 (0,0))) (hg:w.heap[g]? =some (.cells cur 5 (0,0)))
  (hnc:l.length≤cap) (hcm:cap≤maxLen) (hcs:cur.size=cap) (htake:cur.toList.take l.length=byteCells l) (h0:l≠ []) :
  Calls Tryz.prog 174 #[.pointer (some ⟨b,0,none⟩)] w fun e w'=>e= .returned (.string ⟨l.toArray⟩)∧w'=w.drew.freeze ⟨g,0,none⟩ l.length:=by
 have hl0:l.length≠0:=Q9
 have c1:w.drew.cell? ⟨b,1,none⟩=some (.slice (some ⟨g,0,none⟩) l.length cap):=by
  have h:w.drew.heap[b]? =some (.cells #[p, .slice (some ⟨g,0,none⟩) l.length cap] 222 (0,0)):=hbk
  rw [Lib.cell_of_heap h];rfl
 have hSD:(Builtin.unsafeSliceData_ #[135] 286 #[.slice (some ⟨g,0,none⟩) l.length cap]).run Tryz.prog w.drew= .ok (.pointer (some ⟨g,0,none⟩)) w.drew :=
  Lib.run_unsafeSliceData_row _ _ _ _ _ _ P6
 have hUS:(Builtin.unsafeString_ #[286,3] 9 #[.pointer (some ⟨g,0,none⟩), .int .i64 l.length]).run Tryz.prog w.drew= .ok (.string ⟨l.toArray⟩) (w.drew.freeze ⟨g,0,none⟩ l.length):=by
  refine Lib.run_unsafeString_row w.drew _ _ _ 5 Tryz.underlying286 vQ g cur.size (by have hg':w.drew.heap[g]? =some (.cells cur 5 (0,0)):=hg;simp [World.shape?,hg']) l h0 P6 (by unfold maxLen at hcm;omega) ?_
  intro j x hx
  have hg':w.drew.heap[g]? =some (.cells cur 5 (0,0)):=hg
  have hj:j<l.length:=(List.getElem?_eq_some_iff.1 hx).1
  have:(cur.toList.take l.length)[j]? =some (.int .u8 x.toNat):=by rw [htake];simp [Lib.byteCells,hx]
  rw [List.getElem?_take,if_pos hj] at this
  rw [bM]
  rw [Lib.cell_of_heap hg',Nat.zero_add,←Array.getElem?_toList]
  exact this
 have mixed:Tryz.prog.follows .mixedOrders=true:=P7
 go_enter Tryz.func174,Tryz.ntmps174
 go_wp2
 go_region_o
 all_goals (go_wp2;go_ret;exact ⟨rfl,rfl⟩)
end Go.Proofs.YtgephffbfiemeaaGreatDoor
namespace Go.Proofs.YtgephffbfiemeaaGreatDoor
open Go.Abs Go.Lib Go.RowKit
set_option linter.all false
set_option maxRecDepth 100000
def fj (l:List UInt8):List AV:=l.map fun b=> .int .u8 b.toNat
theorem tF:∀ args w,(callFunc 222 args).run Tryz.prog w= .ok (.enter 222 args) w:=enters_of Tryz.func222 P7 rfl
theorem DD:∀ args w,(callFunc 174 args).run Tryz.prog w= .ok (.enter 174 args) w:=enters_of Tryz.func174 P7 rfl
theorem qZ {g:Gh} {w:World} {β:Nat} {vs:List Value} (hv:ct g w [.ptr β 0] vs):∃ b,vs= [.pointer (some ⟨b,0,none⟩)]∧g.box β=some b:=by
 obtain ⟨v,vs',rfl,h1,h2⟩:=hv.cons_inv
 rw [h2.cG]
 obtain ⟨b,rfl,hb⟩:=h1.gu
 exact ⟨b,rfl,hb⟩
theorem p7 {σ:St} {β:Nat} {x:AV} (hb:σ.box β=some [.ptr β 0,x]):AC Tryz.prog 222 [.ptr β 0] σ (fun r s=>r= .tup []∧s=σ):=by
 intro g w vs hI hv
 obtain ⟨b,rfl,hg⟩:=qZ hv
 obtain ⟨b',cs,T,h1,h2,h3⟩:=hI.box β _ hb
 rw [hg] at h1;cases h1
 obtain ⟨v0,r0,hl,hv0,_⟩:=h3.1.cons_inv
 obtain ⟨b2,rfl,hb2⟩:=hv0.gu
 rw [hg] at hb2;cases hb2
 have hc:w.cell? ⟨b,0,none⟩=some (.pointer (some ⟨b,0,none⟩)):=by
  rw [Lib.cell_of_heap h2,←Array.getElem?_toList,hl];rfl
 refine .inl ⟨tF _ _,(GL b w hc).mono ?_⟩
 rintro e w' ⟨rfl,rfl⟩
 exact ⟨_, .tup [],σ,g,rfl,⟨rfl,rfl⟩,hI, .refl g w', .eN .nil⟩
theorem _root_.Q5 {p:Prop} (h:p:=by rw [←Array.toArray_toList (xs:=cs),hl]):p:=h
theorem n6 {σ:St} {β:Nat} {x:AV} (hb:σ.box β=some [.nilp,x]) (ht:σ.bt β=some 222):AC Tryz.prog 222 [.ptr β 0] σ (fun r s=>r= .tup []∧s=σ.aa β [.ptr β 0,x]):=by
 intro g w vs hI hv
 obtain ⟨b,rfl,hg⟩:=qZ hv
 obtain ⟨b',cs,T,h1,h2,h3⟩:=hI.box β _ hb
 rw [hg] at h1;cases h1
 obtain ⟨b',cs',h1,h2'⟩:=hI.bty β _ ht
 rw [hg] at h1;cases h1
 rw [h2] at h2';cases h2'
 obtain ⟨v0,r0,hl,hv0,hr0⟩:=h3.1.cons_inv
 obtain ⟨v1,r1,rfl,hv1,hr1⟩:=hr0.cons_inv
 rw [hr1.cG] at hl
 have hv0':v0= .pointer none:=by cases hv0;rfl
 subst hv0'
 have hc:w.cell? ⟨b,0,none⟩=some (.pointer none):=by
  rw [Lib.cell_of_heap h2,←Array.getElem?_toList,hl];rfl
 have hsz:cs.size=2:=by rw [←Array.length_toList,hl];rfl
 have hfz:=Lib.frozen_of_heap h2 0
 refine .inl ⟨tF _ _,(DC b w hc (by simp only [World.shape?,h2,hsz]) hfz).mono ?_⟩
 rintro e w' ⟨rfl,rfl⟩
 obtain ⟨w2,q1,q2,q3⟩:=iW (P:=Tryz.prog) hI hb hg (off:=0) (us:= [.pointer (some ⟨b,0,none⟩)]) (cs':= [.ptr β 0]) ⟨.cons (.ptr β 0 b hg) .nil,by simp [Value.oneCell']⟩ Qd
 have hw:w2=w.setCell ⟨b,0,none⟩ (.pointer (some ⟨b,0,none⟩)):=by
  have hfz':w.frozen? ((⟨b,0,none⟩:Addr).add 0)=false:=hfz
  have:=run_storeCells_at Tryz.prog b 0 222 [.pointer (some ⟨b,0,none⟩)] 0 cs w h2 Qr (by simp [Value.oneCell'])
  rw [this] at q1
  simp only [Result.ok.injEq,true_and] at q1
  rw [←q1]
  have hcs:cs= #[.pointer none,v1]:=Q5
  subst hcs
  have hh:(w.setRow b ((List.take (0+0) (#[Value.pointer none,v1]:Array Value).toList++ [Value.pointer (some ⟨b,0,none⟩)]++List.drop (0+0 + [Value.pointer (some ⟨b,0,none⟩)].length) (#[Value.pointer none,v1]:Array Value).toList).toArray)).heap=(w.setCell ⟨b,0,none⟩ (.pointer (some ⟨b,0,none⟩))).heap:=by
   refine Array.ext_getElem? (fun i=>?_)
   simp only [World.setRow,World.setCell,Array.getElem?_modify]
   split
   ·rename_i e;subst e;rw [h2];simp
   ·rfl
  show World.setRow w b _=_
  calc w.setRow b _={ w with heap:=(w.setRow b ((List.take (0+0) (#[Value.pointer none,v1]:Array Value).toList++ [Value.pointer (some ⟨b,0,none⟩)]++List.drop (0+0 + [Value.pointer (some ⟨b,0,none⟩)].length) (#[Value.pointer none,v1]:Array Value).toList).toArray)).heap }:=rfl
   _={ w with heap:=(w.setCell ⟨b,0,none⟩ (.pointer (some ⟨b,0,none⟩))).heap }:=by rw [hh]
   _=_:=rfl
 subst hw
 exact ⟨_, .tup [],_,g,rfl,⟨rfl,rfl⟩,by simpa using q2,q3, .eN .nil⟩
def bB (β τ:Nat) (l:List UInt8):List AV:=match l with
 | []=> [.nilp, .nils]
 | _::_=> [.ptr β 0, .tsl τ l.length (fj l)]
def bT (σ:St) (τ:Nat) (l:List UInt8):St:=match l with
 | []=>σ
 | _::_=>σ.ai τ (5,1,l.length)
def bS (σ:St) (β τ:Nat) (l:List UInt8):St:=(bT σ τ l).aa β (bB β τ l)
theorem q9 (σ:St) (β τ:Nat) (l:List UInt8):(bS σ β τ l).box β=some (bB β τ l):=by simp [bS,St.aa,upd]
theorem tG (σ:St) {β γ:Nat} (τ:Nat) (l:List UInt8) [h:Apart γ β]:(bS σ β τ l).box γ=σ.box γ:=by
 cases l<;>simp [bS,bT,St.aa,St.ai,upd,h.ne]
theorem MJ (σ:St) (β τ:Nat) (l:List UInt8):(bS σ β τ l).bt=σ.bt:=by cases l<;>rfl
theorem xq (σ:St) (β τ:Nat) (l:List UInt8):(bS σ β τ l).glob=σ.glob:=by cases l<;>rfl
theorem Kp (σ:St) {β γ:Nat} (τ:Nat) (l:List UInt8) (c:List AV) [h:Apart γ β]:(bS σ β τ l).aa γ c=bS (σ.aa γ c) β τ l:=by
 have hc:∀ (s:St) (d:List AV),(s.aa β d).aa γ c=(s.aa γ c).aa β d:=fun s d=>by
  simp only [St.aa,St.mk.injEq,and_true]
  funext j
  simp only [upd]
  by_cases h1:j=γ
  ·subst h1;rw [if_pos rfl,if_neg h.ne,if_pos rfl]
  ·rw [if_neg h1,if_neg h1]
 cases l<;>exact hc _ _
theorem vR (σ:St) (β τ:Nat):bS σ β τ []=σ.aa β [.nilp, .nils]:=rfl
theorem mC {σ:St} {β:Nat} {c:List AV} (h:σ.box β=some c):σ.aa β c=σ:=by
 unfold St.aa
 have:upd σ.box β c=σ.box:=by
  funext j
  simp only [upd]
  split
  ·rename_i e;subst e;exact h.symm
  ·rfl
 rw [this]
theorem ra {σ:St} {β γ τ:Nat} {l:List UInt8}:(bS σ β τ l).box γ=none↔(Apart γ β∧Apart β γ)∧σ.box γ=none:=by
 unfold bS
 rw [St.bq]
 cases l<;>rfl
theorem HH {σ s:St} {β τ:Nat} {l:List UInt8} (h:St.le s σ) (hn:s.box β=none) (ht:l≠ []→s.tip τ=none):St.le s (bS σ β τ l):=by
 cases l with
 | nil=>exact St.aB h hn
 | cons x l=>exact St.aB (St.fg h (ht Qd)) hn
def BW (f:Nat) (xs:List AV) (r:AV) (β:Nat) (m:List UInt8):Prop:=∀ (σ:St) (τ:Nat) (l:List UInt8),(l≠ []→σ.tip τ=none)→σ.bt β=some 222→l.length+m.length≤1000000000000 →
 AC Tryz.prog f (.ptr β 0::xs) (bS σ β τ l) (fun v s=>v=r∧∃ τ',σ.tip τ'=none∧(l≠ []→τ'=τ)∧s=bS σ β τ' (l++m))
theorem _root_.Qj {p:Prop} (h:p:=by simp only [RR,seval]):p:=h
theorem gC (β:Nat) (c:UInt8):BW 228 [.int .u8 c.toNat] .nili β [c]:=by
  intro σ τ l hτ hbt hl
  simp only [List.length_cons,List.length_nil] at hl
  refine bg Jx N8 ?_
  simp only [Jx,↓R1,RR,seval]
  cases l with
  | nil =>
    rw [vR]
    refine AC.mono (AC.wk (n6 (β:=β) (x:= .nils) Qj (by simpa [St.aa] using hbt)) (ad _)) ?_
    rintro _ _ ⟨rfl,rfl⟩
    simp only [↓R1,RR,seval]
    refine nM (n:=0) (cs:= []) rfl trivial rfl rfl rfl ?_ ?_ (fun ρ hρ=>?_)
    · unfold maxLen;decide
    · decide
    simp only [↓R1,RR,seval]
    refine cb ⟨rfl,ρ,hρ,(fun h=>absurd rfl h),?_⟩
    simp [bS,bT,bB,fj]
    rfl
  | cons x l =>
    have hT:(bS σ β τ (x::l)).box β=some [.ptr β 0, .tsl τ (l.length+1) (fj (x::l))]:=q9 _ _ _ _
    refine AC.mono (AC.wk (p7 (β:=β) hT) (ad _)) ?_
    rintro _ _ ⟨rfl,rfl⟩
    simp only [hT,↓R1,RR,seval]
    simp only [List.length_cons] at hl
    refine br rfl ?_ ?_ rfl ?_ ?_ ?_
    · simp [bS,bT,St.aa,St.ai,upd]
    · simp [fj]
    · unfold maxLen;omega
    · omega
    simp only [hT,↓R1,RR,seval]
    refine cb ⟨rfl,τ,hτ Qd,fun _=>rfl,?_⟩
    simp [bS,bT,bB,fj,St.aa,St.ai]
    constructor<;>(funext j;simp only [upd];split<;>rfl)
theorem jS (β:Nat) (m:List UInt8) (hm:m≠ []):BW 173 [.str m] (.tup [.int .i64 m.length, .nili]) β m:=by
  intro σ τ l hτ hbt hl
  refine bg Jf NR ?_
  simp only [Jf,↓R1,RR,seval]
  cases l with
  | nil =>
    rw [vR]
    refine AC.mono (AC.wk (n6 (β:=β) (x:= .nils) Qj (by simpa [St.aa] using hbt)) (ad _)) ?_
    rintro _ _ ⟨rfl,rfl⟩
    simp only [nQ,↓R1,RR,seval]
    simp only [List.length_nil] at hl
    refine zF hm ?_ ?_ (fun ρ hρ=>?_)
    · unfold maxLen;omega
    · omega
    simp only [↓R1,RR,seval]
    refine cb ⟨rfl,ρ,hρ,(fun h=>absurd rfl h),?_⟩
    cases m with
    | nil=>exact (hm rfl).elim
    | cons y m=>simp [bS,bT,bB,fj];rfl
  | cons x l =>
    have hT:(bS σ β τ (x::l)).box β=some [.ptr β 0, .tsl τ (l.length+1) (fj (x::l))]:=q9 _ _ _ _
    refine AC.mono (AC.wk (p7 (β:=β) hT) (ad _)) ?_
    rintro _ _ ⟨rfl,rfl⟩
    simp only [nQ,hT,↓R1,RR,seval]
    simp only [List.length_cons] at hl
    refine zE hm ?_ ?_ ?_ ?_ ?_
    · simp [bS,bT,St.aa,St.ai,upd]
    · simp [fj]
    · unfold maxLen;omega
    · omega
    simp only [hT,↓R1,RR,seval]
    refine cb ⟨rfl,τ,hτ Qd,fun _=>rfl,?_⟩
    simp [bS,bT,bB,fj,St.aa,St.ai]
    (repeat' apply And.intro)
    all_goals first|omega|(funext j;simp only [upd];split<;>simp [Nat.add_assoc,Nat.add_comm])
theorem BW.used {f β τ:Nat} {xs:List AV} {r:AV} {m l:List UInt8} {σ:St} (h:BW f xs r β m) (h0:l≠ []) (hτ:σ.tip τ=none) (hb:σ.bt β=some 222) (hl:l.length+m.length≤1000000000000) :
  AC Tryz.prog f (.ptr β 0::xs) (bS σ β τ l) (fun v s=>v=r∧s=bS σ β τ (l++m)) :=
 (h σ τ l (fun _=>hτ) hb hl).mono (by rintro v s ⟨rfl,τ',_,h2,rfl⟩;rw [h2 h0];exact ⟨rfl,rfl⟩)
theorem MK (σ:St) (β τ:Nat) (l:List UInt8):AC Tryz.prog 186 [.ptr β 0] (bS σ β τ l) (fun v s=>v= .int .i64 l.length∧s=bS σ β τ l):=by
  refine bg Gp NX ?_
  have hT:(bS σ β τ l).box β=some (bB β τ l):=q9 _ _ _ _
  cases l with
  | nil =>
    simp only [Gp,hT,bB,↓R1,RR,seval]
    exact cb ⟨rfl,rfl⟩
  | cons x l =>
    simp only [Gp,hT,bB,↓R1,RR,seval]
    exact cb ⟨rfl,rfl⟩
theorem n7 {σ:St} {β τ:Nat} {l:List UInt8} (hτ:l≠ []→σ.tip τ=none) (hbt:σ.bt β=some 222):AC Tryz.prog 174 [.ptr β 0] (bS σ β τ l) (fun v s=>v= .str l∧s=σ.aa β (bB β τ l)):=by
  intro g w vs hI hv
  obtain ⟨b,rfl,hg⟩:=qZ hv
  have hT:(bS σ β τ l).box β=some (bB β τ l):=q9 _ _ _ _
  obtain ⟨b',cs,T,h1,h2,h3⟩:=hI.box β _ hT
  rw [hg] at h1;cases h1
  obtain ⟨b',cs',h1,h2'⟩:=hI.bty β _ (by rw [MJ];exact hbt)
  rw [hg] at h1;cases h1
  rw [h2] at h2';cases h2'
  refine .inl ⟨DD _ _,?_⟩
  cases l with
  | nil =>
    obtain ⟨v0,r0,hl,hv0,hr0⟩:=h3.1.cons_inv
    obtain ⟨v1,r1,rfl,hv1,hr1⟩:=hr0.cons_inv
    rw [hr1.cG] at hl
    have hv1':v1= .slice none 0 0:=by cases hv1;rfl
    subst hv1'
    have hcs:cs= #[v0, .slice none 0 0]:=Q5
    subst hcs
    refine (Any.Builder_String_nil Tryz.Gz Tryz.kP w.heap.size b v0 w h2).mono ?_
    rintro e w' ⟨rfl,hb⟩
    exact ⟨_, .str [],_,_,rfl,⟨rfl,rfl⟩,hI.below hb,Ext.below g hb, .str []⟩
  | cons x m =>
    generalize hlx:x::m=l at *
    have h0:l≠ []:=by rw [←hlx];simp
    have hτ:=hτ h0
    have hbB:bB β τ l= [.ptr β 0, .tsl τ l.length (fj l)]:=by rw [←hlx];rfl
    have hbSt:bS σ β τ l=(σ.ai τ (5,1,l.length)).aa β (bB β τ l):=by rw [←hlx];rfl
    rw [hbB] at h3
    obtain ⟨v0,r0,hl,hv0,hr0⟩:=h3.1.cons_inv
    obtain ⟨v1,r1,rfl,hv1,hr1⟩:=hr0.cons_inv
    rw [hr1.cG] at hl
    have hcs:cs= #[v0,v1]:=Q5
    subst hcs
    have htip:(bS σ β τ l).tip τ=some (5,1,l.length):=by rw [hbSt];simp [St.aa,St.ai,upd]
    obtain ⟨v,k1,k2,k4⟩:=hI.tip τ _ _ _ htip
    have hv1t:=hv1.mW
    rw [k1] at hv1t
    cases hv1t
    have hheld:Held l.length v1:= .inr Q9
    obtain ⟨xs,hown,hblk⟩:=k2 hheld
    obtain ⟨hxl,hown⟩:=hown
    rcases hown with ⟨rfl,hz⟩|⟨gb,cap,cur,rfl,_,hgb,hnc,hcm,hsz,htk⟩
    · exact absurd (List.length_eq_zero_iff.1 hz) h0
    obtain ⟨hcl,hnb,hrow⟩:=hblk gb rfl
    have hlies:=hv1.b8 (n:=l.length) (cs:=fj l) rfl
    rcases hlies with ⟨x,hx,hx2,_⟩|⟨b2,off,cap2,u,hx,hx2,hL⟩
    · exact absurd (List.length_eq_zero_iff.1 hx2) h0
    cases hx
    have hcell:cur.toList.take l.length=byteCells l:=by
      apply List.ext_getElem?
      intro i
      rw [List.getElem?_take]
      split
      · rename_i hi
        have hr:=hL.rel.1
        have hc1:(fj l)[i]? =some (.int .u8 (l[i]).toNat):=by simp [fj,hi]
        obtain ⟨v,hv,hrv⟩:=hr.get hc1
        have:=hL.cell i v hv
        rw [Lib.cell_of_heap hgb,Nat.zero_add,←Array.getElem?_toList] at this
        rw [this,hrv.bx]
        simp [byteCells,hi]
      · rename_i hi
        rw [List.getElem?_eq_none (by simp [byteCells];omega)]
    refine (zT b gb cap v0 cur l w h2 hgb hnc hcm P6 hcell h0).mono ?_
    rintro e w' ⟨rfl,rfl⟩
    have hI2:=fx hI τ
    have hI3:=jt hI2
    have hst:(bS σ β τ l).dV τ=σ.aa β (bB β τ l):=by
      rw [hbSt]
      simp only [St.dV,St.aa,St.ai,St.mk.injEq,true_and,and_true]
      funext j
      simp only [upd]
      split
      · rename_i e;subst e;exact hτ.symm
      · rfl
    rw [hst] at hI3
    have htt:∀ τ' x v,(σ.aa β (bB β τ l)).tip τ'=some x→g.tip τ' x.2.2=some v→Held x.2.2 v→v.ownBlock≠some gb:=by
      intro τ' x v hx hv hh
      have hne:τ'≠τ:=by
        rintro rfl
        rw [show (σ.aa β (bB β τ' l)).tip=σ.tip from rfl,hτ] at hx
        cases hx
      have hx':(bS σ β τ l).tip τ'=some x:=by
        rw [hbSt]
        show upd σ.tip τ _ τ'=some x
        rw [upd,if_neg hne];exact hx
      exact hI.tipinj τ τ' _ x _ v gb htip hx' (fun e=>hne e.symm) k1 hv hheld hh rfl
    have hgd:w.drew.heap[gb]? =some (.cells cur 5 (0,0)):=hgb
    obtain ⟨hI4,he4⟩:=vP (n:=l.length) hI3 hgd hcl hnb htt
    exact ⟨_, .str l,_,g,rfl,⟨rfl,rfl⟩,hI4,(fo (g:=g) (w:=w)).trans he4, .str l⟩
end Go.Proofs.YtgephffbfiemeaaGreatDoor
namespace Go.Proofs.YtgephffbfiemeaaGreatDoor
open Go.Abs
set_option linter.all false
set_option maxRecDepth 100000
theorem Kq (b:UInt8):Pu Tryz.prog 229 [.int .u8 b.toNat] (.bool (cv b)):=by
 (refine al Jy N9 fun σ=>?_;simp only [Jy,↓R1,RR,seval])
 skip
 all_goals (refine ak (ag ?_))
 all_goals (simp only [an,RR,seval])
 all_goals rfl
theorem ML (b:UInt8):Pu Tryz.prog 230 [.int .u8 b.toNat] (.bool (aG b)):=by
 (refine al Jz Oa fun σ=>?_;simp only [Jz,↓R1,RR,seval])
 repeat' ((first|(refine bL (fun hc=>?_) (fun hc=>?_)<;>(try simp only [hc,↓R1,RR,seval]))|(refine Pt (Kq b) ?_))<;>(try simp only [↓R1,RR,seval]))
 all_goals (refine ak (ag ?_))
 all_goals (simp only [an,RR,seval])
 all_goals simp only [aG,hc,Bool.true_and,Bool.false_and]
theorem Kr (b:UInt8):Pu Tryz.prog 246 [.int .u8 b.toNat] (.bool (aH b)):=by
 (refine al JB Oc fun σ=>?_;simp only [JB,↓R1,RR,seval])
 skip
 all_goals (refine ak (ag ?_))
 all_goals (simp only [an,RR,seval])
 all_goals rfl
theorem kR (b:UInt8):b.toNat<256:=b.toNat_lt
def Ks (n:Nat):Int :=
 bif decide ((48:Int)≤n)&&decide ((n:Int)≤57) then IntKind.u8.wrap ((n:Int) - 48)
 else bif decide ((97:Int)≤bits .or .u8 n 32)&&decide (bits .or .u8 n 32≤102) then IntKind.u8.wrap (IntKind.u8.wrap (bits .or .u8 n 32 - 97)+10) else 16
theorem DE:((List.range 256).all fun n=>Ks n == ((if 48≤n∧n≤57 then n - 48 else if 97≤n∧n≤102 then n - 87 else if 65≤n∧n≤70 then n - 55 else 16:Nat):Int))=true:=P7
theorem GM (b:UInt8):Ks b.toNat=fA b:=by
 have:=List.all_eq_true.1 DE b.toNat (List.mem_range.2 (kR b))
 exact beq_iff_eq.1 this
theorem MM (b:UInt8):Pu Tryz.prog 294 [.int .u8 b.toNat] (.int .u8 (fA b)):=by
 rw [←GM]
 (refine al JJ Ol fun σ=>?_;simp only [JJ,↓R1,RR,seval])
 repeat' ((refine ar (fun hc=>?_) (fun hc=>?_))<;>(try simp only [↓R1,RR,seval]))
 all_goals (refine ak (ag ?_))
 all_goals (simp only [an,RR,seval])
 all_goals simp only [Ks, *,cond_true,cond_false]
theorem ej {σ:St} {β k:Nat} {l:List UInt8} (hb:σ.box β=some [.str l, .int .i64 k]):AC Tryz.prog 199 [.ptr β 0] σ (fun r s=>r= .bool (decide ((k:Int)<l.length))∧s=σ):=by
 haveI:BoxIs σ β [.str l, .int .i64 k]:=⟨hb⟩
 (refine bg Jp N1 ?_;simp only [Jp,↓R1,RR,seval])
 skip
 all_goals (refine ak (ag ?_))
 all_goals (simp only [an,RR,seval])
theorem cr {l r:List UInt8} {k:Nat} {c:UInt8} (h:l.drop k=c::r):l[k]? =some c∧k<l.length∧l.drop (k+1)=r:=by
 have h1:l[k]? =some c:=by
  have:=List.getElem?_drop (xs:=l) (i:=k) (j:=0)
  rw [h] at this;simpa using this.symm
 refine ⟨h1,(List.getElem?_eq_some_iff.1 h1).1,?_⟩
 rw [←List.drop_drop,h];rfl
theorem fk {σ:St} {β k:Nat} {l r:List UInt8} {c:UInt8} (hb:σ.box β=some [.str l, .int .i64 k]) (hr:l.drop k=c::r):AC Tryz.prog 200 [.ptr β 0] σ (fun r s=>r= .int .u8 c.toNat∧s=σ):=by
 haveI:BoxIs σ β [.str l, .int .i64 k]:=⟨hb⟩
 obtain ⟨h1,h2,_⟩:=cr hr
 (refine bg Jq N2 ?_;simp only [Jq,↓R1,RR,seval,h1])
 repeat' (with_reducible refine And.intro ?_ ?_;exact af)
 (refine ak (ag ?_))
 (simp only [an,RR,seval])
theorem re {σ:St} {β k:Nat} {l r:List UInt8} {c:UInt8} (hb:σ.box β=some [.str l, .int .i64 k]) (hr:l.drop k=c::r) (hl:l.length≤1000000):AC Tryz.prog 270 [.ptr β 0] σ (fun r s=>r= .int .u8 c.toNat∧s=σ.aa β [.str l, .int .i64 (k+1:Nat)]):=by
 haveI:BoxIs σ β [.str l, .int .i64 k]:=⟨hb⟩
 obtain ⟨h1,h2,_⟩:=cr hr
 have hw:IntKind.i64.wrap ((k:Int)+1)=((k+1:Nat):Int):=P9
 have hw2:IntKind.i64.wrap (((k+1:Nat):Int) - 1)=(k:Nat):=P9
 (refine bg JF Oi ?_;simp only [JF,↓R1,RR,seval,h1,hw,hw2])
 repeat' (with_reducible refine And.intro ?_ ?_;exact af)
 (refine cb ?_)
 exact ⟨rfl,rfl⟩
def posOf (l r:List UInt8):Nat:=l.length - r.length
theorem fl (l:List UInt8) (k:Nat) (h:k≤l.length):(l.drop k= []∧k=l.length)∨∃ c r,l.drop k=c::r∧k<l.length:=by
  cases hd:l.drop k with
  | nil =>
    have:=congrArg List.length hd
    simp at this
    exact .inl ⟨rfl,by omega⟩
  | cons c r=>exact .inr ⟨c,r,rfl,(cr hd).2.1⟩
theorem n8 (l:List UInt8) (k:Nat) (h:k≤l.length):posOf l (l.drop k)=k:=by simp [posOf];omega
theorem kS {l r:List UInt8} {k:Nat} {c:UInt8} (h:l.drop k=c::r):posOf l r=k+1:=by
 obtain ⟨_,h2,h3⟩:=cr h
 rw [←h3];exact n8 l (k+1) h2
theorem jj {l r:List UInt8} (h:r <:+ l):l.drop (posOf l r)=r∧posOf l r≤l.length:=by
 obtain ⟨p,rfl⟩:=h
 have:posOf (p++r) r=p.length:=by simp [posOf]
 rw [this]
 exact ⟨by simp,by simp⟩
theorem kT (l:List UInt8) (k:Nat):l.drop k <:+ l:=List.drop_suffix k l
set_option maxHeartbeats 1000000 in
theorem DF {σ:St} {β k:Nat} {l:List UInt8} (hb:σ.box β=some [.str l, .int .i64 k]) (hk:k≤l.length) (hl:l.length≤1000000):AC Tryz.prog 198 [.ptr β 0] σ (fun r s=>r= .tup []∧s=σ.aa β [.str l, .int .i64 (posOf l ((l.drop k).dropWhile aH):Nat)]):=by
  have hc1:True:=trivial
  have hp:True:=trivial
  have hw:True:=trivial
  (refine bg Jo N0 ?_;simp only [Jo,↓R1,RR])
  refine ca (α:=Nat) (fun _=> [(0, .ptr β 0)]) (fun j=>σ.aa β [.str l, .int .i64 (j:Nat)]) (fun j=>j≤l.length∧(l.drop j).dropWhile aH=(l.drop k).dropWhile aH) (fun j=>l.length - j) k Qi (by simp only [St.le,St.aa,upd];exact ⟨fun γ c h=>by split at h<;>simp_all,fun _ _ h=>h,fun _ _ h=>h,fun _ _ h=>h,fun _ _ h=>h⟩) ⟨hk,rfl⟩ ?_
  rintro j ⟨hj,hI⟩
  simp only [↓R1,RR,reduceCtorEq]
  have a1:=ej (σ:=σ.aa β [.str l, .int .i64 (j:Nat)]) (β:=β) (k:=j) (l:=l) (by simp only [RR])
  rcases fl l j hj with ⟨hd,rfl⟩|⟨c,r,hd,hlt⟩
  · have hc1:decide ((l.length:Int)<(l.length:Int))=false:=by simp
    simp only [hc1] at a1
    repeat' (((refine AC.mono (AC.wk (a1) (ad _)) ?_;(rintro _ _ ⟨rfl,rfl⟩)))<;>(try simp only [↓R1,RR,Nat.reduceEqDiff,reduceCtorEq]))
    (refine cb ?_)
    rw [←hI,hd]
    exact ⟨rfl,rfl⟩
  · have hc1:decide ((j:Int)<(l.length:Int))=true:=by simpa using hlt
    have hw:IntKind.i64.wrap ((j:Int)+1)=((j+1:Nat):Int):=P9
    simp only [hc1] at a1
    have a2:=fk (σ:=σ.aa β [.str l, .int .i64 (j:Nat)]) (β:=β) (k:=j) (l:=l) (by simp only [RR]) hd
    have a3:=Kr c
    cases hp:aH c with
    | true =>
      rw [hp] at a3
      repeat' ((first|((refine AC.mono (AC.wk (a1) (ad _)) ?_;(rintro _ _ ⟨rfl,rfl⟩)))|((refine AC.mono (AC.wk (a2) (ad _)) ?_;(rintro _ _ ⟨rfl,rfl⟩)))|(refine Pt (a3) ?_))<;>(try simp only [↓R1,RR,Nat.reduceEqDiff,Nat.reduceAdd,Nat.reduceLeDiff,Nat.reduceLT,reduceCtorEq,hw]))
      refine ⟨j+1,⟨by omega,?_⟩,by simp [aq,slot,ae],St.le_refl _,by omega⟩
      rw [←hI,hd,(cr hd).2.2,List.dropWhile_cons,hp];rfl
    | false =>
      rw [hp] at a3
      repeat' ((first|((refine AC.mono (AC.wk (a1) (ad _)) ?_;(rintro _ _ ⟨rfl,rfl⟩)))|((refine AC.mono (AC.wk (a2) (ad _)) ?_;(rintro _ _ ⟨rfl,rfl⟩)))|(refine Pt (a3) ?_))<;>(try simp only [↓R1,RR,Nat.reduceEqDiff,reduceCtorEq]))
      (refine cb ?_)
      rw [←hI,hd,List.dropWhile_cons,hp]
      refine ⟨rfl,?_⟩
      rw [if_neg Qd,←hd,n8 l j hj]
theorem fm {P:Program} {σ:St} {K:AV→St→Prop} {f β:Nat} {xs ys c d:List AV} {v:AV} {h:Hold (σ,K)} (hb:σ.box β=some d) (hp:AC P f ys σ (fun x s=>x=v∧s=σ.aa β c)) (hw:wkL xs ys) (hK:K v (σ.aa β c)):uR P f xs σ K h :=
 nK hp hw ⟨rfl,fun γ hγ=>by
  simp only [St.aa,upd]
  split
  ·rename_i e;subst e;rw [hb] at hγ;cases hγ
  ·exact hγ,fun _ h=>h⟩ hK
theorem rh {σ:St} {β:Nat} {c:List AV} (hb:σ.box β=some c):St.le (σ.aa β c) σ :=
 ⟨fun γ d h=>by
  simp only [St.aa,upd] at h
  split at h
  ·rename_i e;subst e;rw [←h];exact hb
  ·exact h,fun _ _ h=>h,fun _ _ h=>h,fun _ _ h=>h,fun _ _ h=>h⟩
def tH (σ:St) (β:Nat) (l:List UInt8) {α:Type} (o:Option (α × List UInt8)) (val:α→AV) (r:AV) (s:St):Prop :=
 match o with
 | some (x,t)=>r= .tup [val x, .bool true]∧s=σ.aa β [.str l, .int .i64 (posOf l t:Nat)]
 | none=>∃ v j,r= .tup [v, .bool false]∧s=σ.aa β [.str l, .int .i64 (j:Nat)]
def n9 (b:UInt8):AV:= .int .u8 b.toNat
theorem Kt {n:Nat} (h:n<256):(UInt8.ofNat n).toNat=n:=by
 rw [UInt8.toNat_ofNat'];exact Nat.mod_eq_of_lt h
theorem GN:((List.range 16).all fun a=>(List.range 17).all fun b=>(a == 16||b == 16||decide (IntKind.u8.wrap (bits .or .u8 (IntKind.u8.wrap ((a:Int)*2^min 4 IntKind.u8.bits)) (bits .and .u8 b 15))=((16*a+b:Nat):Int))&&decide (bits .or .u8 (IntKind.u8.wrap ((a:Int)*2^min 4 IntKind.u8.bits)) (bits .and .u8 b 15)=((16*a+b:Nat):Int))))=true:=P7
theorem nib (a b:Nat) (ha:a<16) (hb:b<16):bits .or .u8 (IntKind.u8.wrap ((a:Int)*2^min 4 IntKind.u8.bits)) (bits .and .u8 b 15)=((16*a+b:Nat):Int):=by
 have h1:=List.all_eq_true.1 GN a (List.mem_range.2 ha)
 have h2:=List.all_eq_true.1 h1 b (List.mem_range.2 P6)
 have e1:(a == 16)=false:=Qr
 have e2:(b == 16)=false:=Qr
 simp only [e1,e2,Bool.false_or,Bool.and_eq_true,decide_eq_true_eq] at h2
 exact h2.2
theorem DG {k n:Nat} (h:k≤n) (hn:n≤1000000):IntKind.i64.wrap ((n:Int) - k)=((n - k:Nat):Int):=by
 rw [wrap64 P6 P6];omega
set_option maxHeartbeats 1000000 in
theorem Ku {σ:St} {β k:Nat} {l:List UInt8} (hb:σ.box β=some [.str l, .int .i64 k]) (hk:k≤l.length) (hl:l.length≤1000000):AC Tryz.prog 287 [.ptr β 0] σ (tH σ β l (fK (l.drop k)) n9):=by
  haveI:BoxIs σ β [.str l, .int .i64 k]:=⟨hb⟩
  have hw:=DG hk hl
  have hlen:(l.drop k).length=l.length - k:=Qd
  cases hd:l.drop k with
  | nil =>
    rw [hd] at hlen
    have hc1:decide (((l.length - k:Nat):Int)<2)=true:=by simp at hlen;simp;omega
    (refine bg vt JI ?_;simp only [vt,↓R1,RR,Nat.reduceEqDiff,Nat.reduceAdd,Nat.reduceLeDiff,Nat.reduceLT,reduceCtorEq,hw,hc1])
    skip
    refine aN Qd Qp (ae _) (rh hb) ⟨_,k,rfl,rfl⟩
  | cons c r =>
    cases hr:r with
    | nil =>
      rw [hd,hr] at hlen
      have hc1:decide (((l.length - k:Nat):Int)<2)=true:=by simp at hlen;simp;omega
      (refine bg vt JI ?_;simp only [vt,↓R1,RR,Nat.reduceEqDiff,Nat.reduceAdd,Nat.reduceLeDiff,Nat.reduceLT,reduceCtorEq,hw,hc1])
      skip
      refine aN Qd Qp (ae _) (rh hb) ⟨_,k,rfl,rfl⟩
    | cons c2 r2 =>
      rw [hd,hr] at hlen
      have hc1:decide (((l.length - k:Nat):Int)<2)=false:=by simp at hlen;simp;omega
      have a1:=re hb hd hl
      have hd2:l.drop (k+1)=c2::r2:=by rw [(cr hd).2.2,hr]
      have hb2:(σ.aa β [.str l, .int .i64 (k+1:Nat)]).box β=some [.str l, .int .i64 (k+1:Nat)]:=by simp only [RR]
      have a2:=re hb2 hd2 hl
      have d1:=MM c
      have d2:=MM c2
      (refine bg vt JI ?_;simp only [vt,↓R1,RR,Nat.reduceEqDiff,Nat.reduceAdd,Nat.reduceLeDiff,Nat.reduceLT,reduceCtorEq,hw,hc1])
      repeat' (first|(with_reducible refine And.intro ?_ ?_;exact af)|((first|(refine fm hb a1 (ad _) ?_)|(refine fm hb2 a2 (ad _) ?_)|(refine Ct (d1) ?_)|(refine Ct (d2) ?_))<;>(try simp only [↓R1,RR,Nat.reduceEqDiff,Nat.reduceLeDiff,reduceCtorEq])))
      have hp1:posOf l r2=k+1+1:=kS hd2
      by_cases h:fA c<16∧fA c2<16
      · have hn:=nib _ _ h.1 h.2
        refine aN (r:= .tup [n9 (UInt8.ofNat (16*fA c+fA c2)), .bool true]) Qd Qp (ag ?_) (St.le_refl _) ?_
        · (simp only [an,RR,Nat.reduceEqDiff])
          rw [show Int.toNat 4=4 from rfl,hn,n9,Kt P6]
          have e1:decide ((fA c:Int)<16)=true:=Qr
          have e2:decide ((fA c2:Int)<16)=true:=Qr
          rw [e1,e2];rfl
        · simp only [tH,fK,if_pos h,hp1,true_and]
      · refine aN (r:= .tup [.int .u8 (bits .or .u8 (IntKind.u8.wrap ((fA c:Int)*2^min (Int.toNat 4) IntKind.u8.bits)) (bits .and .u8 (fA c2) 15)), .bool false]) Qd Qp (ag ?_) (St.le_refl _) ?_
        · (simp only [an,RR,Nat.reduceEqDiff])
          have:(decide ((fA c:Int)<16)&&decide ((fA c2:Int)<16))=false:=by
            rw [←Bool.not_eq_true,Bool.and_eq_true,decide_eq_true_eq,decide_eq_true_eq];omega
          rw [this]
        · simp only [tH,fK,if_neg h]
          exact ⟨_,k+1+1,rfl,rfl⟩
theorem oa (b c:UInt8):((b.toNat:Int) == (c.toNat:Int))=decide (b=c):=by
 rw [Bool.eq_iff_iff];simp only [beq_iff_eq,decide_eq_true_eq,Int.natCast_inj,UInt8.toNat_inj]
theorem Kv (b:UInt8):((b.toNat:Int) == 120)=decide (b=120):=oa b 120
theorem dm (b:UInt8):((b.toNat:Int) == 34)=decide (b=34):=oa b 34
theorem kU (b:UInt8):((b.toNat:Int) == 92)=decide (b=92):=oa b 92
theorem p8 (b:UInt8):((b.toNat:Int) == 35)=decide (b=35):=oa b 35
set_option maxHeartbeats 1000000 in
theorem zU {σ:St} {β k:Nat} {l:List UInt8} (hb:σ.box β=some [.str l, .int .i64 k]) (hk:k≤l.length) (hl:l.length≤1000000):AC Tryz.prog 271 [.ptr β 0] σ (tH σ β l (j8 (l.drop k)) n9):=by
  haveI:BoxIs σ β [.str l, .int .i64 k]:=⟨hb⟩
  have a1:=ej hb
  rcases fl l k hk with ⟨hd,he⟩|⟨c,r,hd,hlt⟩
  · have hc1:decide ((k:Int)<(l.length:Int))=false:=by simp;omega
    rw [hd]
    (refine bg C1 Ml ?_;simp only [C1,↓R1,RR,Nat.reduceEqDiff,reduceCtorEq])
    repeat' (((refine AC.mono (AC.wk (a1) (ad _)) ?_;(rintro _ _ ⟨rfl,rfl⟩)))<;>(try simp only [↓R1,RR,Nat.reduceEqDiff,reduceCtorEq,hc1]))
    refine aN Qd Qp (ae _) (rh hb) ⟨_,k,rfl,rfl⟩
  · have hc1:decide ((k:Int)<(l.length:Int))=true:=by simpa using hlt
    have a2:=re hb hd hl
    have hb2:(σ.aa β [.str l, .int .i64 (k+1:Nat)]).box β=some [.str l, .int .i64 (k+1:Nat)]:=by simp only [RR]
    have a3:=Ku hb2 hlt hl
    rw [(cr hd).2.2] at a3
    have hp1:posOf l r=k+1:=kS hd
    rw [hd]
    (refine bg C1 Ml ?_;simp only [C1,↓R1,RR,Nat.reduceEqDiff,reduceCtorEq])
    repeat' ((first|(refine ar (fun hc=>?_) (fun hc=>?_))|((refine AC.mono (AC.wk (a1) (ad _)) ?_;(rintro _ _ ⟨rfl,rfl⟩)))|((refine AC.mono (AC.wk (a2) (ad _)) ?_;(rintro _ _ ⟨rfl,rfl⟩))))<;>(try simp only [↓R1,RR,Nat.reduceEqDiff,reduceCtorEq,Kv,dm,kU,hc1]))
    · have h:c=120:=by simpa using hc
      cases hp:fK r with
      | none =>
        rw [hp] at a3
        refine (AC.wk a3 (ad _)).mono ?_
        rintro _ _ ⟨v,j,rfl,rfl⟩
        simp only [↓R1,RR,Nat.reduceEqDiff,Nat.reduceAdd,Nat.reduceLT,reduceCtorEq]
        (refine cb ?_)
        simp only [tH,j8,if_pos h,hp]
        exact ⟨v,j,rfl,rfl⟩
      | some q =>
        rw [hp] at a3
        refine (AC.wk a3 (ad _)).mono ?_
        rintro _ _ ⟨rfl,rfl⟩
        simp only [↓R1,RR,Nat.reduceEqDiff,Nat.reduceAdd,Nat.reduceLT,reduceCtorEq]
        (refine cb ?_)
        simp only [tH,j8,if_pos h,hp]
        exact ⟨rfl,trivial⟩
    · have h:c≠120:=by simpa using hc
      by_cases h2:c=34∨c=92
      · refine aN (r:= .tup [n9 c, .bool true]) Qd Qp (ag ?_) (St.le_refl _) ?_
        · (simp only [an,RR,Nat.reduceEqDiff])
          rcases h2 with rfl|rfl<;>rfl
        · simp only [tH,j8,if_neg h,if_pos h2,hp1,true_and]
      · refine aN (r:= .tup [n9 c, .bool false]) Qd Qp (ag ?_) (St.le_refl _) ?_
        · (simp only [an,RR,Nat.reduceEqDiff])
          have e1:decide (c=34)=false:=decide_eq_false (fun e=>h2 (.inl e))
          have e2:decide (c=92)=false:=decide_eq_false (fun e=>h2 (.inr e))
          rw [e1,e2];rfl
        · simp only [tH,j8,if_neg h,if_neg h2]
          exact ⟨_,k+1,rfl,rfl⟩
def eu (b:UInt8):Bool:=decide ((32:Int)≤b.toNat)&&decide ((b.toNat:Int)≤126)
theorem GO (b:UInt8):Pu Tryz.prog 179 [.int .u8 b.toNat] (.bool (eu b)):=by
 (refine al Ji NU fun σ=>?_;simp only [Ji,↓R1,RR,seval])
 skip
 all_goals (refine ak (ag ?_))
 all_goals (simp only [an,RR,seval])
 all_goals rfl
theorem Kw (b:UInt8):Pu Tryz.prog 177 [.int .u8 b.toNat] (.bool (aG b)):=by
 have e:aG b=(eu b&&((b.toNat:Int) != 32)&&((b.toNat:Int) != 34)&&((b.toNat:Int) != 92)):=by
  simp only [aG,cv,eu]
  generalize decide ((32:Int)≤b.toNat)=x1
  generalize decide ((b.toNat:Int)≤126)=x2
  generalize ((b.toNat:Int) != 32)=x3
  generalize ((b.toNat:Int) != 34)=x4
  generalize ((b.toNat:Int) != 92)=x5
  cases x1<;>cases x2<;>cases x3<;>cases x4<;>cases x5<;>rfl
 rw [e]
 (refine al Jg NS fun σ=>?_;simp only [Jg,↓R1,RR,seval])
 repeat' (first|((first|refine Pu.to (GO b) (ad _) ?_|refine eI (GO b) (ad _) ?_);(try simp only [↓R1,RR,seval])))
 all_goals (refine ak (ag ?_))
 all_goals (simp only [an,RR,seval])
 all_goals (try rfl)
theorem byte_at (l:List UInt8) {k:Nat} (h:k<l.length):l[k]? =some l[k]:=List.getElem?_eq_getElem h
theorem jD (p:UInt8→Bool) (l:List UInt8) {k:Nat} (h:k<l.length):(l.take (k+1)).all p=((l.take k).all p&&p l[k]):=by
 rw [←List.take_append_getElem h,List.all_append];simp
theorem kd (l:List UInt8) {k:Nat} (h:k<l.length):((l.map fun b=>AV.int .u8 b.toNat).drop (k*1)).take 1= [.int .u8 l[k].toNat]:=by
 rw [Nat.mul_one,List.drop_eq_getElem_cons Rf]
 simp
theorem _root_.Q7 {p:Prop} (h:p:=by rw [e];rfl):p:=h
set_option maxHeartbeats 1000000 in
theorem MN (l:List UInt8) (hl:l.length≤1000000):Pu Tryz.prog 187 [.str l] (.bool (bareS l)):=by
  have q1:True:=trivial
  have q2:True:=trivial
  have hw:True:=trivial
  have hd:True:=trivial
  (refine al Jm NY fun σ=>?_;simp only [Jm,↓R1,RR,seval])
  refine aS l.length (fun k=> [(0, .str l),(6, .sl false l.length (l.map fun b=> .int .u8 b.toNat)),(7, .int .i64 (l.length:Nat)),(8, .int .i64 (k:Nat))]) (fun _=>σ) (fun k=>(l.take k).all aG=true) Qi (St.le_refl _) Qd (fun k hk hI=>?_)
  by_cases hlt:k<l.length
  · have q1:decide ((k:Int)<(l.length:Int))=true:=by rw [decide_eq_true_eq];omega
    have hd:=kd l hlt
    have hw:IntKind.i64.wrap ((k:Int)+1)=((k+1:Nat):Int):=P9
    have hp:=ML l[k]
    simp only [↓R1,RR,seval,q1,hd]
    cases hb:aG l[k] with
    | true =>
      rw [hb] at hp
      repeat' (first|(with_reducible refine And.intro ?_ ?_;(focus (first|omega|(intros;(repeat' (with_reducible apply And.intro))<;>first|omega|(simp only [List.length_map];omega)))))|(with_reducible apply And.intro)|((first|refine Pu.to (hp) (ad _) ?_|refine eI (hp) (ad _) ?_);(try simp only [↓R1,RR,seval,hw])))
      all_goals first|(simp only [List.length_map];omega)|skip
      all_goals first|(rw [jD _ _ hlt,hI,hb];rfl)|(simp [aq,slot,ae];done)|exact St.le_refl _
    | false =>
      rw [hb] at hp
      repeat' (first|(with_reducible refine And.intro ?_ ?_;(focus (first|omega|(intros;(repeat' (with_reducible apply And.intro))<;>first|omega|(simp only [List.length_map];omega)))))|((first|refine Pu.to (hp) (ad _) ?_|refine eI (hp) (ad _) ?_);(try simp only [↓R1,RR,seval])))
      all_goals first|(simp only [List.length_map];omega)|skip
      (refine ak (ag ?_))
      (simp only [an,RR,seval])
      have:l.all aG=false:=by
        rw [←Bool.not_eq_true,List.all_eq_true]
        intro h
        have:=h l[k] (List.getElem_mem hlt)
        rw [hb] at this;cases this
      simp only [bareS,this,Bool.false_and]
  · have hke:k=l.length:=by omega
    subst hke
    have q1:decide ((l.length:Int)<(l.length:Int))=false:=Qd
    rw [List.take_length] at hI
    by_cases hnil:l= []
    · have q2:(l == [])=true:=by rw [hnil];rfl
      have e:bareS l=false:=by rw [hnil];rfl
      rw [e]
      simp only [↓R1,RR,seval,q1,q2]
      skip
      (refine ak (ag ?_))
      (simp only [an,RR,seval])
    · obtain ⟨c,m,e⟩:∃ c m,l=c::m:=by
        cases l with
        | nil=>exact (hnil rfl).elim
        | cons c m=>exact ⟨c,m,rfl⟩
      have q2:(l == [])=false:=Q7
      have hd:l[0]? =some c:=Q7
      have e2:bareS l=((c.toNat:Int) != 35):=by
        unfold bareS
        rw [hI,Bool.true_and]
        subst e
        show (c != 35)=_
        rw [bne,bne,p8]
        congr 1
      have hl1:0<l.length:=by rw [e];simp
      rw [e2]
      simp only [↓R1,RR,seval,q1,q2,hd]
      repeat' (first|(with_reducible refine And.intro ?_ ?_;(focus (first|omega|(intros;(repeat' (with_reducible apply And.intro))<;>first|omega|(simp only [List.length_map];omega))))))
      all_goals first|omega|skip
      (refine ak (ag ?_))
      (simp only [an,RR,seval])
set_option maxHeartbeats 1000000 in
theorem Kx (l:List UInt8) (hl:l.length≤1000000):Pu Tryz.prog 117 [.str l] (.bool (bareS l)):=by
  have q1:True:=trivial
  have q2:True:=trivial
  have hw:True:=trivial
  have hd:True:=trivial
  by_cases hnil:l= []
  · have q2:(l == [])=true:=by rw [hnil];rfl
    have e:bareS l=false:=by rw [hnil];rfl
    rw [e]
    (refine al vn IY fun σ=>?_;simp only [vn,↓R1,RR,seval,q2])
    skip
    (refine ak (ag ?_))
    (simp only [an,RR,seval])
  · obtain ⟨c,m,e⟩:∃ c m,l=c::m:=by
      cases l with
      | nil=>exact (hnil rfl).elim
      | cons c m=>exact ⟨c,m,rfl⟩
    have q2:(l == [])=false:=Q7
    have hd:l[0]? =some c:=Q7
    have hl1:0<l.length:=by rw [e];simp
    have e2:bareS l=(l.all aG&&(c != 35)):=by unfold bareS;subst e;rfl
    by_cases h35:c=35
    · have q1:((c.toNat:Int) == 35)=true:=by rw [p8];simpa using h35
      have e3:bareS l=false:=by rw [e2,h35];simp
      rw [e3]
      (refine al vn IY fun σ=>?_;simp only [vn,↓R1,RR,seval,q1,q2,hd])
      repeat' (first|(with_reducible refine And.intro ?_ ?_;(focus (first|omega|(intros;(repeat' (with_reducible apply And.intro))<;>first|omega|(simp only [List.length_map];omega))))))
      all_goals first|omega|skip
      (refine ak (ag ?_))
      (simp only [an,RR,seval])
    · have q1:((c.toNat:Int) == 35)=false:=by rw [p8];simpa using h35
      have e3:bareS l=l.all aG:=by
        have:(c != 35)=true:=by simpa using h35
        rw [e2,this,Bool.and_true]
      rw [e3]
      (refine al vn IY fun σ=>?_;simp only [vn,↓R1,RR,seval,q1,q2,hd])
      repeat' (first|(with_reducible refine And.intro ?_ ?_;(focus (first|omega|(intros;(repeat' (with_reducible apply And.intro))<;>first|omega|(simp only [List.length_map];omega))))))
      all_goals first|omega|skip
      clear hd
      refine aS l.length (fun k=> [(0, .str l),(3, .int .i64 (k:Nat))]) (fun _=>σ) (fun k=>(l.take k).all aG=true) Qi (St.le_refl _) Qd (fun k hk hI=>?_)
      by_cases hlt:k<l.length
      · have q1:decide ((k:Int)<(l.length:Int))=true:=by rw [decide_eq_true_eq];omega
        have hd:=byte_at l hlt
        have hw:IntKind.i64.wrap ((k:Int)+1)=((k+1:Nat):Int):=P9
        have hp:=Kw l[k]
        simp only [↓R1,RR,seval,q1,hd]
        cases hb:aG l[k] with
        | true =>
          rw [hb] at hp
          repeat' (first|(with_reducible refine And.intro ?_ ?_;(focus (first|omega|(intros;(repeat' (with_reducible apply And.intro))<;>first|omega|(simp only [List.length_map];omega)))))|(with_reducible apply And.intro)|((first|refine Pu.to (hp) (ad _) ?_|refine eI (hp) (ad _) ?_);(try simp only [↓R1,RR,seval,hw])))
          all_goals first|omega|skip
          all_goals first|(rw [jD _ _ hlt,hI,hb];rfl)|(simp [aq,slot,ae];done)|exact St.le_refl _
        | false =>
          rw [hb] at hp
          repeat' (first|(with_reducible refine And.intro ?_ ?_;(focus (first|omega|(intros;(repeat' (with_reducible apply And.intro))<;>first|omega|(simp only [List.length_map];omega)))))|((first|refine Pu.to (hp) (ad _) ?_|refine eI (hp) (ad _) ?_);(try simp only [↓R1,RR,seval])))
          all_goals first|omega|skip
          (refine ak (ag ?_))
          (simp only [an,RR,seval])
          have:l.all aG=false:=by
            rw [←Bool.not_eq_true,List.all_eq_true]
            intro h
            have:=h l[k] (List.getElem_mem hlt)
            rw [hb] at this;cases this
          rw [this]
      · have hke:k=l.length:=by omega
        subst hke
        have q1:decide ((l.length:Int)<(l.length:Int))=false:=Qd
        rw [List.take_length] at hI
        simp only [↓R1,RR,seval,q1]
        skip
        (refine ak (ag ?_))
        (simp only [an,RR,seval])
        rw [hI]
theorem kV (n:Nat) (h:n<16):(([48,49,50,51,52,53,54,55,56,57,97,98,99,100,101,102]:List UInt8).drop n).take 1= [mP n]:=by
 have:∀ n,n<16→(([48,49,50,51,52,53,54,55,56,57,97,98,99,100,101,102]:List UInt8).drop n).take 1= [mP n]:=Qg
 exact this n h
theorem Ph (b:UInt8):Pu Tryz.prog 180 [.int .u8 b.toNat] (.str [mP (b.toNat / 16),mP (b.toNat % 16)]):=by
 have hb:=kR b
 have q1:IntKind.u8.wrap (Int.tdiv (b.toNat:Int) 16)=((b.toNat / 16:Nat):Int):=by
  rw [show Int.tdiv (b.toNat:Int) 16=((b.toNat / 16:Nat):Int) from rfl];simp [IntKind.wrap,IntKind.signed,IntKind.bits];omega
 have q2:Int.tmod (b.toNat:Int) 16=((b.toNat % 16:Nat):Int):=rfl
 have q3:IntKind.u8.wrap (((b.toNat / 16:Nat):Int)+1)=((b.toNat / 16+1:Nat):Int):=QM
 have q4:IntKind.u8.wrap (((b.toNat % 16:Nat):Int)+1)=((b.toNat % 16+1:Nat):Int):=QM
 have q5:=kV (b.toNat / 16) P6
 have q6:=kV (b.toNat % 16) P6
 (refine al Jj NV fun σ=>?_;simp only [Jj,↓R1,RR,seval,q1,q2,q3,q4])
 repeat' (first|(with_reducible refine And.intro ?_ ?_;(focus (first|omega|(intros;(repeat' (with_reducible apply And.intro))<;>first|omega|(simp only [List.length_map];omega)))))|(with_reducible apply And.intro))
 ·simp only [Nat.add_sub_cancel_left,q5,q6,List.length_cons,List.length_nil];omega
 ·(refine ak (ag ?_))
  (simp only [an,RR,seval])
  simp only [Nat.add_sub_cancel_left,q5,q6]
  rfl
def xr (σ:St) (β:Nat) (l:List UInt8) (o:Option (List UInt8 × List UInt8)) (r:AV) (s:St):Prop :=
 match o with
 | some (x,t)=>r= .tup [.str x, .bool true]∧s=σ.aa β [.str l, .int .i64 (posOf l t:Nat)]
 | none=>∃ j,r= .tup [.str [], .bool false]∧s=σ.aa β [.str l, .int .i64 (j:Nat)]
set_option maxHeartbeats 4000000 in
theorem tI {σ:St} {β k:Nat} {l:List UInt8} (hb:σ.box β=some [.str l, .int .i64 k]) (hk:k≤l.length) (hl:l.length≤1000000):AC Tryz.prog 247 [.ptr β 0] σ (xr σ β l (ed (l.drop k))):=by
  have hc1:True:=trivial
  have q1:True:=trivial
  have q2:True:=trivial
  haveI hbi:BoxIs σ β [.str l, .int .i64 k]:=⟨hb⟩
  (refine bg JC Oe ?_;simp only [JC,↓R1,RR,seval])
  refine lM (fun γ hγ hγt=>?_)
  obtain ⟨_,_⟩:=aj hbi hγ
  simp only [↓R1,RR,seval]
  refine ca (α:=Nat × Nat × List UInt8) (fun _=> [(0, .ptr β 0),(4, .ptr γ 0)]) (fun z=>bS ((σ.cM γ 222).aa β [.str l, .int .i64 (z.1:Nat)]) γ z.2.1 z.2.2)
    (fun z=>z.1≤l.length∧(z.2.2≠ []→σ.tip z.2.1=none)∧z.2.2.length≤z.1∧ed (l.drop k)=(ed (l.drop z.1)).map fun q=>(z.2.2++q.1,q.2)) (fun z=>l.length - z.1) (k,0,[]) Qi
    (by rw [mC (show (σ.cM γ 222).box β=_ from hb)];exact St.le_refl _) ⟨hk,(fun h=>absurd rfl h),Nat.zero_le _,(by cases ed (l.drop k)<;>simp)⟩ ?_
  rintro ⟨j,τ,out⟩ ⟨hj,hτ,hlen,hI⟩
  simp only at hj hτ hlen hI
  have hbS:∀ (j:Nat) τ out,(bS ((σ.cM γ 222).aa β [.str l, .int .i64 j]) γ τ out).box β=some [.str l, .int .i64 j]:=fun j τ out=>by
    rw [tG];simp only [RR,seval]
  have hset:∀ (i j:Nat) τ out,(bS ((σ.cM γ 222).aa β [.str l, .int .i64 i]) γ τ out).aa β [.str l, .int .i64 j]=bS ((σ.cM γ 222).aa β [.str l, .int .i64 j]) γ τ out:=fun i j τ out=>by
    rw [Kp];simp only [RR,seval]
  have hbt:∀ j:Nat,((σ.cM γ 222).aa β [.str l, .int .i64 j]).bt γ=some 222:=fun j=>St.nc _ _ _
  have hle:∀ (j:Nat) τ out,(out≠ []→σ.tip τ=none)→St.le (σ.aa β [.str l, .int .i64 j]) (bS ((σ.cM γ 222).aa β [.str l, .int .i64 j]) γ τ out):=fun j τ out h=>by
    refine HH (St.je (St.le_refl _) hγt) ?_ h
    rw [St.bq];exact ⟨⟨by assumption,by assumption⟩,hγ⟩
  have a1:=ej (hbS j τ out)
  simp only [↓R1,RR,seval]
  rcases fl l j hj with ⟨hd,he⟩|⟨c,r,hd,hlt⟩
  · have hc1:decide ((j:Int)<(l.length:Int))=false:=by simp;omega
    repeat' (((refine AC.mono (AC.wk (a1) (ad _)) ?_;(rintro _ _ ⟨rfl,rfl⟩)))<;>(try simp only [↓R1,RR,seval,hc1]))
    rw [hd,zK,Option.map_none] at hI
    refine aN Qd Qp (ae _) (hle j τ out hτ) ?_
    rw [hI]
    exact ⟨j,rfl,rfl⟩
  · have hc1:decide ((j:Int)<(l.length:Int))=true:=by simpa using hlt
    have a2:=re (hbS j τ out) hd hl
    rw [hset] at a2
    have a3:=n7 (β:=γ) (τ:=τ) (l:=out) (σ:=(σ.cM γ 222).aa β [.str l, .int .i64 (j+1:Nat)]) hτ (hbt _)
    have a4:=zU (hbS (j+1) τ out) hlt hl
    rw [(cr hd).2.2] at a4
    have a5:=Kq c
    have hp1:posOf l r=j+1:=kS hd
    rw [hd,nR] at hI
    have hsf:∀ {m:List UInt8},m <:+ r→l.drop (posOf l m)=m∧posOf l m≤l.length:=fun hm=>jj (hm.trans (by rw [←(cr hd).2.2];exact kT _ _))
    have hgrow:∀ (i:Nat) (x:UInt8),AC Tryz.prog 228 (.ptr γ 0:: [.int .u8 x.toNat]) (bS ((σ.cM γ 222).aa β [.str l, .int .i64 i]) γ τ out) (fun v s=>v= .nili∧∃ τ',σ.tip τ'=none∧s=bS ((σ.cM γ 222).aa β [.str l, .int .i64 i]) γ τ' (out++ [x])):=fun i x =>
      (gC γ x ((σ.cM γ 222).aa β [.str l, .int .i64 i]) τ out hτ (hbt i) Qr).mono (by rintro v s ⟨rfl,τ',h1,_,h2⟩;exact ⟨rfl,τ',h1,h2⟩)
    by_cases h34:c=34
    · have q1:decide (c=34)=true:=by simpa using h34
      rw [if_pos h34] at hI
      repeat' ((first|((refine AC.mono (AC.wk (a1) (ad _)) ?_;(rintro _ _ ⟨rfl,rfl⟩)))|((refine AC.mono (AC.wk (a2) (ad _)) ?_;(rintro _ _ ⟨rfl,rfl⟩)))|((refine AC.mono (AC.wk (a3) (ad _)) ?_;(rintro _ _ ⟨rfl,rfl⟩))))<;>(try simp only [↓R1,RR,seval,dm,hc1,q1]))
      refine aN (r:= .tup [.str out, .bool true]) Qd Qp (ag QN) (σ':=σ.aa β [.str l, .int .i64 (j+1:Nat)]) ?_ ?_
      · refine St.aB (St.je (St.le_refl _) hγt) ?_
        rw [St.bq];exact ⟨⟨by assumption,by assumption⟩,hγ⟩
      · rw [hI]
        simp only [xr,Option.map_some,List.append_nil,hp1,and_self]
    · have q1:decide (c=34)=false:=by simpa using h34
      rw [if_neg h34] at hI
      by_cases h92:c=92
      · have q2:decide (c=92)=true:=by simpa using h92
        rw [if_pos h92] at hI
        cases he:j8 r with
        | none =>
          rw [he] at a4 hI
          repeat' ((first|((refine AC.mono (AC.wk (a1) (ad _)) ?_;(rintro _ _ ⟨rfl,rfl⟩)))|((refine AC.mono (AC.wk (a2) (ad _)) ?_;(rintro _ _ ⟨rfl,rfl⟩))))<;>(try simp only [↓R1,RR,seval,dm,kU,hc1,q1,q2]))
          refine (AC.wk a4 (ad _)).mono ?_
          rintro _ _ ⟨v,i,rfl,rfl⟩
          rw [hset]
          simp only [↓R1,RR,seval]
          refine aN (r:= .tup [.str [], .bool false]) Qd Qp (ag QN) (hle i τ out hτ) ?_
          rw [hI]
          exact ⟨i,rfl,rfl⟩
        | some q =>
          rw [he] at a4 hI
          obtain ⟨hd1,hd2⟩:=hsf (sY (x:=q.1) he)
          have hql:=jh (x:=q.1) he
          have hrl:r.length=l.length - (j+1):=by rw [←(cr hd).2.2];simp
          have hpq:posOf l q.2=l.length - q.2.length:=rfl
          repeat' ((first|((refine AC.mono (AC.wk (a1) (ad _)) ?_;(rintro _ _ ⟨rfl,rfl⟩)))|((refine AC.mono (AC.wk (a2) (ad _)) ?_;(rintro _ _ ⟨rfl,rfl⟩))))<;>(try simp only [↓R1,RR,seval,dm,kU,hc1,q1,q2]))
          refine (AC.wk a4 (ad _)).mono ?_
          rintro _ _ ⟨rfl,rfl⟩
          rw [hset]
          simp only [n9,↓R1,RR,seval]
          refine (AC.wk (hgrow _ q.1) (ad _)).mono ?_
          rintro _ _ ⟨rfl,τ',hτ',rfl⟩
          simp only [↓R1,RR,seval]
          refine ⟨(posOf l q.2,τ',out++ [q.1]),⟨hd2,fun _=>hτ',?_,?_⟩,by simp [aq,slot,ae],St.le_refl _,?_⟩
          · simp only [List.length_append,List.length_cons,List.length_nil];omega
          · rw [hI]
            simp only [hd1,Option.map_map]
            congr 1
            funext z
            simp
          · simp only;omega
      · have q2:decide (c=92)=false:=by simpa using h92
        rw [if_neg h92] at hI
        cases hpl:cv c with
        | true =>
          rw [hpl] at a5
          rw [hpl,if_pos rfl] at hI
          repeat' ((first|((refine AC.mono (AC.wk (a1) (ad _)) ?_;(rintro _ _ ⟨rfl,rfl⟩)))|((refine AC.mono (AC.wk (a2) (ad _)) ?_;(rintro _ _ ⟨rfl,rfl⟩)))|(refine Pt (a5) ?_))<;>(try simp only [↓R1,RR,seval,dm,kU,hc1,q1,q2]))
          refine (AC.wk (hgrow _ c) (ad _)).mono ?_
          rintro _ _ ⟨rfl,τ',hτ',rfl⟩
          simp only [↓R1,RR,seval]
          refine ⟨(j+1,τ',out++ [c]),⟨hlt,fun _=>hτ',?_,?_⟩,by simp [aq,slot,ae],St.le_refl _,?_⟩
          · simp only [List.length_append,List.length_cons,List.length_nil];omega
          · rw [hI]
            simp only [(cr hd).2.2,Option.map_map]
            congr 1
            funext z
            simp
          · simp only;omega
        | false =>
          rw [hpl] at a5
          rw [hpl,if_neg Qd] at hI
          repeat' ((first|((refine AC.mono (AC.wk (a1) (ad _)) ?_;(rintro _ _ ⟨rfl,rfl⟩)))|((refine AC.mono (AC.wk (a2) (ad _)) ?_;(rintro _ _ ⟨rfl,rfl⟩)))|(refine Pt (a5) ?_))<;>(try simp only [↓R1,RR,seval,dm,kU,hc1,q1,q2]))
          refine aN (r:= .tup [.str [], .bool false]) Qd Qp (ag QN) (hle (j+1) τ out hτ) ?_
          rw [hI]
          exact ⟨j+1,rfl,rfl⟩
end Go.Proofs.YtgephffbfiemeaaGreatDoor
namespace Go.Abs
theorem dG {P:Program} {σ:St} {K:AV→St→Prop} {f:Nat} {xs ys:List AV} {v:AV} {b:Bool} {p:Prop} {h:Hold (σ,K)} (hp:b=true→p∧(∀ σ2,St.le σ σ2→AC P f ys σ2 (fun x s=>x=v∧s=σ2))∧wkL xs ys) (hK:K (.opt b v) σ):nJ P b f p xs σ K h :=
 ⟨v,fun hb=>⟨(hp hb).1,fun σ2 hl=>((hp hb).2.1 σ2 hl).wk (hp hb).2.2⟩,hK⟩
theorem gX {P:Program} {σ:St} {K:AV→St→Prop} {f:Nat} {xs:List AV} {p:Prop} {h:Hold (σ,K)} (hK:K (.opt false .junk) σ):nJ P false f p xs σ K h :=
 ⟨.junk,(fun hb=>by cases hb),hK⟩
end Go.Abs
namespace Go.Proofs.YtgephffbfiemeaaGreatDoor
open Go.Abs
set_option linter.all false
set_option maxRecDepth 100000
def wdV (k:Nat) (p:Bool × List UInt8):AV:= .agg [.bool p.1, .str p.2, .int .i64 (k:Nat)]
theorem ri {l:List UInt8} {k j:Nat} (hkj:k≤j) (hj:j≤l.length) {p:UInt8→Bool} (h:(l.drop k).dropWhile p=l.drop j):(l.drop k).takeWhile p=(l.drop k).take (j - k):=by
 have h1:=List.takeWhile_append_dropWhile (p:=p) (l:=l.drop k)
 have h2:=List.take_append_drop (j - k) (l.drop k)
 rw [List.drop_drop,show k+(j - k)=j by omega] at h2
 rw [h] at h1
 exact List.append_cancel_right (h1.trans h2.symm)
def tJ (σ:St) (β:Nat) (l:List UInt8) (k:Nat) (o:Option (Bool × List UInt8 × List UInt8)) (r:AV) (s:St):Prop :=
 match o with
 | some (q,t,m)=>r= .tup [wdV k (q,t), .bool true]∧s=σ.aa β [.str l, .int .i64 (posOf l m:Nat)]
 | none=>∃ p j,r= .tup [wdV k p, .bool false]∧s=σ.aa β [.str l, .int .i64 (j:Nat)]
theorem iy {σ:St} {u γ:Nat} {c d:List AV} (hn:σ.box γ=none) (h:Apart γ u):St.le (σ.aa u c) ((σ.aa γ d).aa u c):=by
 refine ⟨fun δ x hx=>?_,fun _ _ h=>h,fun _ _ h=>h,fun _ _ h=>h,fun _ _ h=>h⟩
 simp only [St.aa,upd] at hx ⊢
 split
 ·rename_i e;rw [if_pos e] at hx;exact hx
 ·rename_i e
  rw [if_neg e] at hx
  rw [if_neg]
  ·exact hx
  ·rintro rfl;rw [hn] at hx;cases hx
theorem _root_.QA {p:Prop} (h:p:=by (simp only [an,RR,seval]);rfl):p:=h
set_option maxHeartbeats 4000000 in
theorem Ky {σ:St} {u k:Nat} {l:List UInt8} {c:UInt8} {r:List UInt8} (hb:σ.box u=some [.str l, .int .i64 k]) (hr:l.drop k=c::r) (hl:l.length≤1000000):AC Tryz.prog 201 [.ptr u 0] σ (tJ σ u l k (cD (c::r))):=by
  have hc1:True:=trivial
  have q1:True:=trivial
  have q2:True:=trivial
  have hw:True:=trivial
  haveI hbi:BoxIs σ u [.str l, .int .i64 k]:=⟨hb⟩
  have hlt:k<l.length:=(cr hr).2.1
  have hp1:posOf l r=k+1:=kS hr
  have hw:IntKind.i64.wrap ((k:Int)+1)=((k+1:Nat):Int):=P9
  by_cases h34:c=34
  · have q1:decide (c=34)=true:=by simpa using h34
    have e1:cD (c::r)=match ed r with
      | some (t,r')=>if fY r' then some (true,t,r') else none
      | none=>none:=by simp only [cD,if_pos h34];rfl
    have hrr:l.drop (k+1)=r:=(cr hr).2.2
    cases hq:ed r with
    | none =>
      rw [hq] at e1
      have a4:∀ s:St,s.box u=some [.str l, .int .i64 (k+1:Nat)]→AC Tryz.prog 247 [.ptr u 0] s (xr s u l none):=fun s hs=>by
        have:=tI hs hlt hl
        rwa [hrr,hq] at this
      (refine bg vr Jr ?_;simp only [vr,↓R1,RR,seval])
      repeat' (first|(with_reducible rw [ah])|((first|(with_reducible intro β hβ;(try simp only [RB] at hβ);(repeat (obtain ⟨⟨_,_⟩,hβ⟩:=hβ));(try (have hbis:=aj Qa hβ;obtain ⟨_,_⟩:=hbis)))|((refine AC.mono (AC.wk (fk (k:=k) (l:=l) Qj hr) (ad _)) ?_;(rintro _ _ ⟨rfl,rfl⟩))))<;>(try simp only [↓R1,RR,seval,dm,q1,hw])))
      refine (AC.wk (a4 _ Qj) (ad _)).mono ?_
      rintro _ _ ⟨j,rfl,rfl⟩
      simp only [↓R1,RR,seval]
      repeat' (((refine gX ?_))<;>(try simp only [↓R1,RR,seval]))
      refine aN (r:= .tup [wdV k (true,[]), .bool false]) Qd P8 (ag QA) (iy hβ Qa) ?_
      rw [e1]
      exact ⟨_,j,rfl,rfl⟩
    | some q =>
      obtain ⟨t,m⟩:=q
      rw [hq] at e1
      simp only at e1
      have a4:∀ s:St,s.box u=some [.str l, .int .i64 (k+1:Nat)]→AC Tryz.prog 247 [.ptr u 0] s (xr s u l (some (t,m))):=fun s hs=>by
        have:=tI hs hlt hl
        rwa [hrr,hq] at this
      obtain ⟨hdm,hml⟩:=jj ((jC hq).trans (by rw [←hrr];exact kT l (k+1)))
      obtain ⟨i,hi⟩:∃ i,posOf l m=i:=⟨_,rfl⟩
      rw [hi] at hdm hml
      have key:∀ v,(v= .tup [wdV k (true,t), .bool true]∧fY m=true)∨(v= .tup [wdV k (true,t), .bool false]∧fY m=false)→tJ σ u l k (cD (c::r)) v (σ.aa u [.str l, .int .i64 (i:Nat)]):=by
        rintro v (⟨rfl,hm⟩|⟨rfl,hm⟩)
        · rw [e1,if_pos hm];simp only [tJ,hi,and_self]
        · rw [e1,if_neg (by simp [hm])];exact ⟨_,i,rfl,rfl⟩
      (refine bg vr Jr ?_;simp only [vr,↓R1,RR,seval])
      repeat' (first|(with_reducible rw [ah])|((first|(with_reducible intro β hβ;(try simp only [RB] at hβ);(repeat (obtain ⟨⟨_,_⟩,hβ⟩:=hβ));(try (have hbis:=aj Qa hβ;obtain ⟨_,_⟩:=hbis)))|((refine AC.mono (AC.wk (fk (k:=k) (l:=l) Qj hr) (ad _)) ?_;(rintro _ _ ⟨rfl,rfl⟩))))<;>(try simp only [↓R1,RR,seval,dm,q1,hw])))
      refine (AC.wk (a4 _ Qj) (ad _)).mono ?_
      rintro _ _ ⟨rfl,rfl⟩
      rw [hi]
      simp only [↓R1,RR,seval]
      rcases fl l i hml with ⟨hd,he⟩|⟨c2,r2,hd2,hlt2⟩
      · have hc1:decide ((i:Int)<(l.length:Int))=false:=by simp;omega
        repeat' ((first|((refine dG (fun hgv=>⟨?_,((fun σ2 hle=>ej (k:=i) (l:=l) (hle.1 _ _ Qj))),ad _⟩) ?_;(first|trivial|(focus (simp only [↓R1,RR,seval,dm,hc1,q1,q2,hw];done)))))|((refine gX ?_)))<;>(try simp only [↓R1,RR,seval,hc1]))
        refine aN (r:= .tup [wdV k (true,t), .bool true]) Qd P8 (ag QA) (iy hβ Qa) (key _ (.inl ⟨rfl,?_⟩))
        rw [←hdm,hd];rfl
      · have hc1:decide ((i:Int)<(l.length:Int))=true:=by simpa using hlt2
        have b3:=Kr c2
        cases hbl:aH c2 with
        | true =>
          rw [hbl] at b3
          repeat' ((first|((refine dG (fun hgv=>⟨?_,((fun σ2 hle=>ej (k:=i) (l:=l) (hle.1 _ _ Qj))),ad _⟩) ?_;(first|trivial|(focus (simp only [↓R1,RR,seval,dm,hc1,q1,q2,hw];done)))))|((refine dG (fun hgv=>⟨?_,((fun σ2 hle=>fk (k:=i) (l:=l) (hle.1 _ _ Qj) hd2)),ad _⟩) ?_;(first|trivial|(focus (simp only [↓R1,RR,seval,dm,hc1,q1,q2,hw];done)))))|((refine jx (fun hgv=>⟨?_,(b3),ad _⟩) ?_;(first|trivial|(focus (simp only [↓R1,RR,seval,dm,hc1,q1,q2,hw];done))))))<;>(try simp only [↓R1,RR,seval,hc1]))
          refine aN (r:= .tup [wdV k (true,t), .bool true]) Qd P8 (ag QA) (iy hβ Qa) (key _ (.inl ⟨rfl,?_⟩))
          rw [←hdm,hd2];exact hbl
        | false =>
          rw [hbl] at b3
          repeat' ((first|((refine dG (fun hgv=>⟨?_,((fun σ2 hle=>ej (k:=i) (l:=l) (hle.1 _ _ Qj))),ad _⟩) ?_;(first|trivial|(focus (simp only [↓R1,RR,seval,dm,hc1,q1,q2,hw];done)))))|((refine dG (fun hgv=>⟨?_,((fun σ2 hle=>fk (k:=i) (l:=l) (hle.1 _ _ Qj) hd2)),ad _⟩) ?_;(first|trivial|(focus (simp only [↓R1,RR,seval,dm,hc1,q1,q2,hw];done)))))|((refine jx (fun hgv=>⟨?_,(b3),ad _⟩) ?_;(first|trivial|(focus (simp only [↓R1,RR,seval,dm,hc1,q1,q2,hw];done))))))<;>(try simp only [↓R1,RR,seval,hc1]))
          refine aN (r:= .tup [wdV k (true,t), .bool false]) Qd P8 (ag QA) (iy hβ Qa) (key _ (.inr ⟨rfl,?_⟩))
          rw [←hdm,hd2];exact hbl
  · have q1:decide (c=34)=false:=by simpa using h34
    have e1:cD (c::r)=if ((c::r).takeWhile aG).isEmpty then none else if fY ((c::r).dropWhile aG) then some (false,(c::r).takeWhile aG,(c::r).dropWhile aG) else none:=by simp only [cD,if_neg h34]
    (refine bg vr Jr ?_;simp only [vr,↓R1,RR,seval])
    repeat' (first|(with_reducible rw [ah])|((first|(with_reducible intro β hβ;(try simp only [RB] at hβ);(repeat (obtain ⟨⟨_,_⟩,hβ⟩:=hβ));(try (have hbis:=aj Qa hβ;obtain ⟨_,_⟩:=hbis)))|((refine AC.mono (AC.wk (fk (k:=k) (l:=l) Qj hr) (ad _)) ?_;(rintro _ _ ⟨rfl,rfl⟩))))<;>(try simp only [↓R1,RR,seval,dm,q1])))
    refine ca (α:=Nat) (fun _=> [(0, .ptr u 0),(2, .ptr β 0)]) (fun j=>(σ.aa β [.bool false, .str [], .int .i64 (k:Nat)]).aa u [.str l, .int .i64 (j:Nat)]) (fun j=>k≤j∧j≤l.length∧(l.drop j).dropWhile aG=(l.drop k).dropWhile aG) (fun j=>l.length - j) k Qi
      (by simp only [RR,seval];rw [mC Qj];exact St.le_refl _) ⟨Nat.le_refl _,by omega,rfl⟩ ?_
    rintro i ⟨hki,hil,hI⟩
    simp only [↓R1,RR,seval]
    have hpi:posOf l (l.drop i)=i:=n8 l i hil
    have stop:(l.drop i).dropWhile aG=l.drop i→cD (c::r)=if ((l.drop k).take (i - k)) == [] then none else if fY (l.drop i) then some (false,(l.drop k).take (i - k),l.drop i) else none:=fun hs=>by
      rw [hs] at hI
      have hT:=ri hki hil hI.symm
      rw [e1,←hr,hT,←hI]
      cases (l.drop k).take (i - k)<;>rfl
    rcases fl l i hil with ⟨hd,he⟩|⟨c2,r2,hd2,hlt2⟩
    · have hc1:decide ((i:Int)<(l.length:Int))=false:=by simp;omega
      have hs:=stop (by rw [hd];rfl)
      cases hq:((l.drop k).take (i - k) == []) with
      | true =>
        have q2:=hq
        rw [q2,if_pos rfl] at hs
        repeat' (first|(with_reducible refine And.intro ?_ ?_;exact af)|((first|((refine AC.mono (AC.wk (ej (k:=i) (l:=l) Qj) (ad _)) ?_;(rintro _ _ ⟨rfl,rfl⟩)))|((refine gX ?_)))<;>(try simp only [↓R1,RR,seval,hc1,q2])))
        refine aN (r:= .tup [wdV k (false,(l.drop k).take (i - k)), .bool false]) Qd P8 (ag QA) (iy hβ Qa) ?_
        rw [hs]
        exact ⟨_,i,rfl,rfl⟩
      | false =>
        have q2:=hq
        rw [q2,if_neg Qd,hd] at hs
        simp only [fY,if_true] at hs
        repeat' (first|(with_reducible refine And.intro ?_ ?_;exact af)|((first|((refine AC.mono (AC.wk (ej (k:=i) (l:=l) Qj) (ad _)) ?_;(rintro _ _ ⟨rfl,rfl⟩)))|((refine dG (fun hgv=>⟨?_,((fun σ2 hle=>ej (k:=i) (l:=l) (hle.1 _ _ Qj))),ad _⟩) ?_;(first|trivial|(focus (simp only [↓R1,RR,seval,dm,hc1,q1,q2,hw];done)))))|((refine gX ?_)))<;>(try simp only [↓R1,RR,seval,hc1,q2])))
        refine aN (r:= .tup [wdV k (false,(l.drop k).take (i - k)), .bool true]) Qd P8 (ag QA) (iy hβ Qa) ?_
        rw [hs]
        simp only [tJ,true_and]
        rw [←hd,hpi]
    · have hc1:decide ((i:Int)<(l.length:Int))=true:=by simpa using hlt2
      have b3:=ML c2
      have b4:=Kr c2
      have hw:IntKind.i64.wrap ((i:Int)+1)=((i+1:Nat):Int):=P9
      cases hbl:aG c2 with
      | true =>
        rw [hbl] at b3
        repeat' ((first|((refine AC.mono (AC.wk (ej (k:=i) (l:=l) Qj) (ad _)) ?_;(rintro _ _ ⟨rfl,rfl⟩)))|((refine AC.mono (AC.wk (fk (k:=i) (l:=l) Qj hd2) (ad _)) ?_;(rintro _ _ ⟨rfl,rfl⟩)))|(refine Pt (b3) ?_))<;>(try simp only [↓R1,RR,seval,hc1,hw]))
        refine ⟨i+1,⟨by omega,by omega,?_⟩,by simp [aq,slot,ae],St.le_refl _,by omega⟩
        rw [←hI,hd2,(cr hd2).2.2,List.dropWhile_cons,hbl];rfl
      | false =>
        rw [hbl] at b3
        have hs:=stop (by rw [hd2,List.dropWhile_cons,hbl];rfl)
        cases hq:((l.drop k).take (i - k) == []) with
        | true =>
          have q2:=hq
          rw [q2,if_pos rfl] at hs
          repeat' (first|(with_reducible refine And.intro ?_ ?_;exact af)|((first|((refine AC.mono (AC.wk (ej (k:=i) (l:=l) Qj) (ad _)) ?_;(rintro _ _ ⟨rfl,rfl⟩)))|((refine AC.mono (AC.wk (fk (k:=i) (l:=l) Qj hd2) (ad _)) ?_;(rintro _ _ ⟨rfl,rfl⟩)))|(refine Pt (b3) ?_)|((refine gX ?_)))<;>(try simp only [↓R1,RR,seval,hc1,q2])))
          refine aN (r:= .tup [wdV k (false,(l.drop k).take (i - k)), .bool false]) Qd P8 (ag QA) (iy hβ Qa) ?_
          rw [hs]
          exact ⟨_,i,rfl,rfl⟩
        | false =>
          have q2:=hq
          rw [q2,if_neg Qd] at hs
          cases hbk:aH c2 with
          | true =>
            rw [hbk] at b4
            rw [if_pos (by rw [hd2];exact hbk)] at hs
            repeat' (first|(with_reducible refine And.intro ?_ ?_;exact af)|((first|((refine AC.mono (AC.wk (ej (k:=i) (l:=l) Qj) (ad _)) ?_;(rintro _ _ ⟨rfl,rfl⟩)))|((refine AC.mono (AC.wk (fk (k:=i) (l:=l) Qj hd2) (ad _)) ?_;(rintro _ _ ⟨rfl,rfl⟩)))|(refine Pt (b3) ?_)|((refine dG (fun hgv=>⟨?_,((fun σ2 hle=>ej (k:=i) (l:=l) (hle.1 _ _ Qj))),ad _⟩) ?_;(first|trivial|(focus (simp only [↓R1,RR,seval,dm,hc1,q1,q2,hw];done)))))|((refine dG (fun hgv=>⟨?_,((fun σ2 hle=>fk (k:=i) (l:=l) (hle.1 _ _ Qj) hd2)),ad _⟩) ?_;(first|trivial|(focus (simp only [↓R1,RR,seval,dm,hc1,q1,q2,hw];done)))))|((refine jx (fun hgv=>⟨?_,(b4),ad _⟩) ?_;(first|trivial|(focus (simp only [↓R1,RR,seval,dm,hc1,q1,q2,hw];done))))))<;>(try simp only [↓R1,RR,seval,hc1,q2])))
            refine aN (r:= .tup [wdV k (false,(l.drop k).take (i - k)), .bool true]) Qd P8 (ag QA) (iy hβ Qa) ?_
            rw [hs]
            simp only [tJ,true_and]
            rw [hpi]
          | false =>
            rw [hbk] at b4
            rw [if_neg (by rw [hd2];simp [fY,hbk])] at hs
            repeat' (first|(with_reducible refine And.intro ?_ ?_;exact af)|((first|((refine AC.mono (AC.wk (ej (k:=i) (l:=l) Qj) (ad _)) ?_;(rintro _ _ ⟨rfl,rfl⟩)))|((refine AC.mono (AC.wk (fk (k:=i) (l:=l) Qj hd2) (ad _)) ?_;(rintro _ _ ⟨rfl,rfl⟩)))|(refine Pt (b3) ?_)|((refine dG (fun hgv=>⟨?_,((fun σ2 hle=>ej (k:=i) (l:=l) (hle.1 _ _ Qj))),ad _⟩) ?_;(first|trivial|(focus (simp only [↓R1,RR,seval,dm,hc1,q1,q2,hw];done)))))|((refine dG (fun hgv=>⟨?_,((fun σ2 hle=>fk (k:=i) (l:=l) (hle.1 _ _ Qj) hd2)),ad _⟩) ?_;(first|trivial|(focus (simp only [↓R1,RR,seval,dm,hc1,q1,q2,hw];done)))))|((refine jx (fun hgv=>⟨?_,(b4),ad _⟩) ?_;(first|trivial|(focus (simp only [↓R1,RR,seval,dm,hc1,q1,q2,hw];done))))))<;>(try simp only [↓R1,RR,seval,hc1,q2])))
            refine aN (r:= .tup [wdV k (false,(l.drop k).take (i - k)), .bool false]) Qd P8 (ag QA) (iy hβ Qa) ?_
            rw [hs]
            exact ⟨_,i,rfl,rfl⟩
end Go.Proofs.YtgephffbfiemeaaGreatDoor
namespace Go.Proofs.YtgephffbfiemeaaGreatDoor
open Go.Abs
set_option linter.all false
set_option maxRecDepth 100000
theorem tK (t:List UInt8) {k:Nat} (h:k<t.length):(t.take (k+1)).flatMap eV=(t.take k).flatMap eV++eV t[k]:=by
 rw [←List.take_append_getElem h,List.flatMap_append];simp
theorem DH:((List.range 256).all fun n=>decide ((n:Int).fdiv (2^min (4:Int).toNat IntKind.u8.bits)=((n / 16:Nat):Int))&&decide (bits .and .u8 n 15=((n % 16:Nat):Int)))=true:=P7
theorem Pj (b:UInt8):(b.toNat:Int).fdiv (2^min (4:Int).toNat IntKind.u8.bits)=((b.toNat / 16:Nat):Int):=by
 have:=List.all_eq_true.1 DH b.toNat (List.mem_range.2 (kR b))
 simp only [Bool.and_eq_true,decide_eq_true_eq] at this
 exact this.1
theorem MO (b:UInt8):bits .and .u8 (b.toNat:Int) 15=((b.toNat % 16:Nat):Int):=by
 have:=List.all_eq_true.1 DH b.toNat (List.mem_range.2 (kR b))
 simp only [Bool.and_eq_true,decide_eq_true_eq] at this
 exact this.2
theorem tL (b:UInt8):IntKind.u8.wrap (((b.toNat / 16:Nat):Int)+1)=((b.toNat / 16+1:Nat):Int)∧IntKind.u8.wrap (((b.toNat % 16:Nat):Int)+1)=((b.toNat % 16+1:Nat):Int):=by
 have hb:=kR b
 constructor<;>(simp [IntKind.wrap,IntKind.signed,IntKind.bits];omega)
theorem tM {b:UInt8} (h1:cv b=false) (h2:¬ (b=34∨b=92)):eV b= [92,120]++ [mP (b.toNat / 16)]++ [mP (b.toNat % 16)]:=by
 unfold eV
 rw [h1,if_neg Qd,if_neg h2];rfl
theorem xt {b:UInt8} (h1:cv b=false) (h2:b=34∨b=92):eV b= [92]++ [b]:=by
 unfold eV
 rw [h1,if_neg Qd,if_pos h2];rfl
theorem oc {b:UInt8} (h1:cv b=true):eV b= [b]:=by
 unfold eV
 rw [h1,if_pos rfl]
theorem GP (σ:St) (γ τ:Nat) {a b:List UInt8} (ha:a≠ []) (hb:b≠ []):(bS σ γ τ b).glob=(bS σ γ τ a).glob∧(∀ δ,(bS σ γ τ a).box δ=none→(bS σ γ τ b).box δ=none)∧∀ δ,(bS σ γ τ a).tip δ=none→(bS σ γ τ b).tip δ=none:=by
  refine ⟨by rw [xq,xq],fun δ h=>by rw [ra] at h ⊢;exact h,fun δ h=>?_⟩
  cases a with
  | nil=>exact (ha rfl).elim
  | cons x a =>
    cases b with
    | nil=>exact (hb rfl).elim
    | cons y b =>
      simp only [bS,bT,St.aa,St.ai,upd] at h ⊢
      split at h
      · cases h
      · rename_i e;rw [if_neg e];exact h
set_option maxHeartbeats 2000000 in
theorem Pk (q:Bool) (t:List UInt8) (a:Int) (ht:t.length≤1000000):Pu Tryz.prog 185 [.agg [.bool q, .str t, .int .i64 a]] (nX (cd q t)):=by
  have q1:True:=trivial
  have q2:True:=trivial
  have q3:True:=trivial
  have q4:True:=trivial
  have q5:True:=trivial
  have q6:True:=trivial
  have q7:True:=trivial
  have q8:True:=trivial
  have hw:True:=trivial
  have hd:True:=trivial
  have hp:=MN t ht
  cases q with
  | false =>
    cases hb:bareS t with
    | false =>
      rw [hb] at hp
      have e:cd false t=none:=by simp [cd,hb]
      rw [e]
      (refine al vq Jl fun σ=>?_;simp only [vq,↓R1,RR,Nat.reduceEqDiff,Nat.reduceAdd,Nat.reduceLT])
      repeat' ((first|(with_reducible intro β hβ;(try simp only [RB] at hβ);(repeat (obtain ⟨⟨_,_⟩,hβ⟩:=hβ));(try (have hbis:=aj Qa hβ;obtain ⟨_,_⟩:=hbis)))|(refine Pt (hp) ?_))<;>(try simp only [↓R1,RR,Nat.reduceEqDiff]))
      (refine ak (ag ?_))
      (simp only [an,RR,Nat.reduceEqDiff])
      rfl
    | true =>
      rw [hb] at hp
      have e:cd false t=some t:=by simp [cd,hb]
      rw [e]
      (refine al vq Jl fun σ=>?_;simp only [vq,↓R1,RR,Nat.reduceEqDiff,Nat.reduceAdd,Nat.reduceLT])
      repeat' ((first|(with_reducible intro β hβ;(try simp only [RB] at hβ);(repeat (obtain ⟨⟨_,_⟩,hβ⟩:=hβ));(try (have hbis:=aj Qa hβ;obtain ⟨_,_⟩:=hbis)))|(refine Pt (hp) ?_))<;>(try simp only [↓R1,RR,Nat.reduceEqDiff,Nat.reduceAdd,Nat.reduceLT]))
      (refine ak (ag ?_))
      (simp only [an,RR,Nat.reduceEqDiff])
      rfl
  | true =>
    have e:cd true t=some (34::(t.flatMap eV++ [34])):=by simp [cd]
    rw [e]
    (refine al vq Jl fun σ=>?_;simp only [vq,↓R1,RR,Nat.reduceEqDiff,Nat.reduceAdd,Nat.reduceLT])
    intro b1 h1
    refine lM (fun γ hγ hγt=>?_)
    rw [St.bq] at hγ
    obtain ⟨⟨_,_⟩,hγ⟩:=hγ
    have hγt:σ.bt γ=none:=hγt
    simp only [↓R1,RR,Nat.reduceEqDiff]
    obtain ⟨X,hX⟩:∃ X,X=(σ.cM γ 222).aa b1 [.bool true, .str t, .int .i64 a]:=⟨_,rfl⟩
    have hXt:X.tip=σ.tip:=by rw [hX];rfl
    have hXb:X.bt γ=some 222:=by rw [hX];exact St.nc _ _ _
    have hX1:∀ τ out,(bS X γ τ out).box b1=some [.bool true, .str t, .int .i64 a]:=fun τ out=>by rw [tG,hX];simp only [RR]
    have hXl:∀ c,St.le σ (X.aa γ c):=fun c=>by
      rw [hX]
      exact St.aB (St.aB (St.je (St.le_refl _) hγt) h1) hγ
    have w0:=gC γ 34 X 0 [] Qd hXb Qd
    rw [vR,hX] at w0
    refine (AC.wk w0 (ad _)).mono ?_
    rintro _ _ ⟨rfl,τ,hτ,_,rfl⟩
    rw [←hX] at hτ ⊢
    simp only [hX1,List.nil_append,↓R1,RR,Nat.reduceEqDiff,Nat.reduceAdd,Nat.reduceLT]
    have hlen:∀ k,(34::(t.take k).flatMap eV).length≤4000001:=fun k=>by
      have h1:=qT (t.take k)
      have h2:(t.take k).length≤t.length:=Qr
      simp only [List.length_cons];omega
    refine aS t.length (fun k=> [(4, .ptr γ 0),(19, .sl false t.length (t.map fun b=> .int .u8 b.toNat)),(20, .int .i64 (t.length:Nat)),(21, .int .i64 (k:Nat))]) (fun k=>bS X γ τ (34::(t.take k).flatMap eV)) (fun _=>True) Qi (by simp;exact St.le_refl _) trivial (fun k hk _=>?_)
    have hlk:=hlen k
    by_cases hlt:k<t.length
    · have q1:decide ((k:Int)<(t.length:Int))=true:=by rw [decide_eq_true_eq];omega
      have hd:=kd t hlt
      have hw:IntKind.i64.wrap ((k:Int)+1)=((k+1:Nat):Int):=P9
      have hpl:=Kq t[k]
      have w1:∀ (x:UInt8) (out:List UInt8),out≠ []→out.length≤5000000→AC Tryz.prog 228 [.ptr γ 0, .int .u8 x.toNat] (bS X γ τ out) (fun v s=>v= .nili∧s=bS X γ τ (out++ [x])):=fun x out h0 hl=>(gC γ x).used h0 hτ hXb Qr
      have hes:=tK t hlt
      simp only [↓R1,RR,Nat.reduceEqDiff,Nat.reduceLT,q1,hd]
      cases hb:cv t[k] with
      | true =>
        rw [hb] at hpl
        rw [oc hb] at hes
        repeat' (first|(with_reducible refine And.intro ?_ ?_;exact af)|(with_reducible apply And.intro)|((first|(refine Pt (hpl) ?_)|((refine AC.mono (AC.wk (w1 _ _ Qd P6) (ad _)) ?_;(rintro _ _ ⟨rfl,rfl⟩))))<;>(try simp only [↓R1,RR,Nat.reduceEqDiff,hw])))
        all_goals first|(simp only [List.length_map];omega)|skip
        · simp [aq,slot,ae]
        · rw [hes];exact St.le_refl _
      | false =>
        rw [hb] at hpl
        by_cases h2:t[k]=34∨t[k]=92
        · have q2:(decide (t[k]=34)||decide (t[k]=92))=true:=by simpa using h2
          have w92:AC Tryz.prog 228 [.ptr γ 0, .int .u8 92] (bS X γ τ (34::(t.take k).flatMap eV)) (fun v s=>v= .nili∧s=bS X γ τ ((34::(t.take k).flatMap eV)++ [92])):=w1 92 _ Qd P6
          have wc:=w1 t[k] ((34::(t.take k).flatMap eV)++ [92]) Qd (by rw [List.length_append];simp only [List.length_cons,List.length_nil] at *;omega)
          rw [xt hb h2] at hes
          repeat' (first|(with_reducible refine And.intro ?_ ?_;exact af)|(with_reducible apply And.intro)|((first|(refine Pt (hpl) ?_)|((refine AC.mono (AC.wk (w92) (ad _)) ?_;(rintro _ _ ⟨rfl,rfl⟩)))|((refine AC.mono (AC.wk (wc) (ad _)) ?_;(rintro _ _ ⟨rfl,rfl⟩))))<;>(try simp only [↓R1,RR,Nat.reduceEqDiff,q2,hw,dm,kU])))
          all_goals first|(simp only [List.length_map];omega)|skip
          · simp [aq,slot,ae]
          · rw [hes];simp;exact St.le_refl _
        · have q2:(decide (t[k]=34)||decide (t[k]=92))=false:=by
            rw [←Bool.not_eq_true];simpa using h2
          have q3:=Pj t[k]
          have q4:=MO t[k]
          have q5:=(tL t[k]).1
          have q6:=(tL t[k]).2
          have q7:=kV (t[k].toNat / 16) (by have:=kR t[k];omega)
          have q8:=kV (t[k].toNat % 16) P6
          have ws:=(jS γ ([92,120]++ [mP (t[k].toNat / 16)]++ [mP (t[k].toNat % 16)]) Qd).used (l:=34::(t.take k).flatMap eV) Qd hτ hXb (by simp only [List.length_append,List.length_cons,List.length_nil] at *;omega)
          rw [tM hb h2] at hes
          have hks:=GP X γ τ (a:=34::(t.take k).flatMap eV) (b:=34::(t.take k).flatMap eV++([92,120]++ [mP (t[k].toNat / 16)]++ [mP (t[k].toNat % 16)])) Qd Qd
          repeat' (first|(with_reducible refine And.intro ?_ ?_;exact af)|(with_reducible apply And.intro)|((first|(refine Pt (hpl) ?_)|((refine nK ws (ad _) hks ?_)))<;>(try simp only [↓R1,RR,Nat.reduceEqDiff,Nat.reduceAdd,q2,q3,q4,q5,q6,q7,q8,hw,dm,kU,Nat.add_sub_cancel_left])))
          all_goals first|(simp only [List.length_map];omega)|(have:=kR t[k];omega)|skip
          · simp [aq,slot,ae]
          · rw [hes];simp;exact St.le_refl _
    · have hke:k=t.length:=by omega
      subst hke
      have q1:decide ((t.length:Int)<(t.length:Int))=false:=Qd
      rw [List.take_length] at hlk ⊢
      have w34:AC Tryz.prog 228 [.ptr γ 0, .int .u8 34] (bS X γ τ (34::t.flatMap eV)) (fun v s=>v= .nili∧s=bS X γ τ ((34::t.flatMap eV)++ [34])):=(gC γ 34).used Qd hτ hXb (by simp only [List.length_cons,List.length_nil] at *;omega)
      have ws:=n7 (β:=γ) (τ:=τ) (l:=(34::t.flatMap eV)++ [34]) (σ:=X) (fun _=>hτ) hXb
      simp only [↓R1,RR,Nat.reduceEqDiff,q1]
      repeat' ((first|((refine AC.mono (AC.wk (w34) (ad _)) ?_;(rintro _ _ ⟨rfl,rfl⟩)))|((refine AC.mono (AC.wk (ws) (ad _)) ?_;(rintro _ _ ⟨rfl,rfl⟩))))<;>(try simp only [↓R1,RR,Nat.reduceEqDiff]))
      refine ak (ag ?_) Qp (hXl _)
      (simp only [an,RR,Nat.reduceEqDiff])
      rfl
theorem GQ (l:List UInt8) {k:Nat} (h:k<l.length):(l.drop k).take 1= [l[k]]:=by
 rw [List.drop_eq_getElem_cons h];rfl
set_option maxHeartbeats 2000000 in
theorem Pm (q:Bool) (t:List UInt8) (a:Int) (ht:t.length≤1000000):Pu Tryz.prog 122 [.agg [.bool q, .str t, .int .i64 a]] (nX (cd q t)):=by
  have q1:True:=trivial
  have q2:True:=trivial
  have q3:True:=trivial
  have hw:True:=trivial
  have hd:True:=trivial
  have hp:=Kx t ht
  cases q with
  | false =>
    cases hb:bareS t with
    | false =>
      rw [hb] at hp
      have e:cd false t=none:=by simp [cd,hb]
      rw [e]
      (refine al vo I2 fun σ=>?_;simp only [vo,↓R1,RR,Nat.reduceEqDiff,Nat.reduceAdd,Nat.reduceLT])
      repeat' ((first|(with_reducible intro β hβ;(try simp only [RB] at hβ);(repeat (obtain ⟨⟨_,_⟩,hβ⟩:=hβ));(try (have hbis:=aj Qa hβ;obtain ⟨_,_⟩:=hbis)))|(refine Pt (hp) ?_))<;>(try simp only [↓R1,RR,Nat.reduceEqDiff]))
      (refine ak (ag ?_))
      (simp only [an,RR,Nat.reduceEqDiff])
      rfl
    | true =>
      rw [hb] at hp
      have e:cd false t=some t:=by simp [cd,hb]
      rw [e]
      (refine al vo I2 fun σ=>?_;simp only [vo,↓R1,RR,Nat.reduceEqDiff,Nat.reduceAdd,Nat.reduceLT])
      repeat' ((first|(with_reducible intro β hβ;(try simp only [RB] at hβ);(repeat (obtain ⟨⟨_,_⟩,hβ⟩:=hβ));(try (have hbis:=aj Qa hβ;obtain ⟨_,_⟩:=hbis)))|(refine Pt (hp) ?_))<;>(try simp only [↓R1,RR,Nat.reduceEqDiff,Nat.reduceAdd,Nat.reduceLT]))
      (refine ak (ag ?_))
      (simp only [an,RR,Nat.reduceEqDiff])
      rfl
  | true =>
    have e:cd true t=some (34::(t.flatMap eV++ [34])):=by simp [cd]
    rw [e]
    (refine al vo I2 fun σ=>?_;simp only [vo,↓R1,RR,Nat.reduceEqDiff,Nat.reduceAdd,Nat.reduceLT])
    intro b1 h1
    have hlen:∀ k,((t.take k).flatMap eV).length≤4000000:=fun k=>by
      have h1:=qT (t.take k)
      have h2:(t.take k).length≤t.length:=Qr
      omega
    refine aS t.length (fun k=> [(1, .ptr b1 0),(4, .str ((t.take k).flatMap eV)),(5, .int .i64 (k:Nat))]) (fun k=>σ.aa b1 [.bool true, .str t, .int .i64 a]) (fun _=>True) Qi (St.le_refl _) trivial (fun k hk _=>?_)
    have hlk:=hlen k
    by_cases hlt:k<t.length
    · have q1:decide ((k:Int)<(t.length:Int))=true:=by rw [decide_eq_true_eq];omega
      have hd:=byte_at t hlt
      have hw:IntKind.i64.wrap ((k:Int)+1)=((k+1:Nat):Int):=P9
      have hpl:=GO t[k]
      have hes:=tK t hlt
      have q3:=GQ t hlt
      have hpp:cv t[k]=(eu t[k]&& !(decide (t[k]=34)||decide (t[k]=92))):=by
        simp only [cv,eu,bne,dm,kU]
        cases decide (t[k]=34)<;>cases decide (t[k]=92)<;>simp
      simp only [↓R1,RR,Nat.reduceEqDiff,Nat.reduceAdd,Nat.reduceLT,q1,hd,dm,kU]
      by_cases h2:t[k]=34∨t[k]=92
      · have q2:(decide (t[k]=34)||decide (t[k]=92))=true:=by simpa using h2
        have hb:cv t[k]=false:=by rw [hpp,q2];simp
        rw [xt hb h2] at hes
        simp only [↓R1,RR,Nat.reduceEqDiff,Nat.reduceAdd,Nat.reduceLT,q2,q3,hw,Nat.add_sub_cancel_left]
        repeat' (first|(with_reducible refine And.intro ?_ ?_;exact af)|(with_reducible apply And.intro))
        all_goals first|omega|(simp only [List.length_append,List.length_cons,List.length_nil];omega)|(simp [aq,slot,ae,hes];done)|exact St.le_refl _|skip
      · have q2:(decide (t[k]=34)||decide (t[k]=92))=false:=by
          rw [←Bool.not_eq_true];simpa using h2
        cases hb:eu t[k] with
        | true =>
          rw [hb] at hpl
          have hb2:cv t[k]=true:=by rw [hpp,q2,hb];rfl
          rw [oc hb2] at hes
          simp only [↓R1,RR,Nat.reduceEqDiff,q2]
          repeat' (first|(with_reducible refine And.intro ?_ ?_;exact af)|(with_reducible apply And.intro)|((refine Pt (hpl) ?_)<;>(try simp only [↓R1,RR,Nat.reduceEqDiff,Nat.reduceAdd,Nat.reduceLT,q3,hw,Nat.add_sub_cancel_left])))
          all_goals first|omega|(simp only [List.length_append,List.length_cons,List.length_nil];omega)|(simp [aq,slot,ae,hes];done)|exact St.le_refl _|skip
        | false =>
          rw [hb] at hpl
          have hb2:cv t[k]=false:=by rw [hpp,hb];rfl
          rw [tM hb2 h2] at hes
          have h22:=Ph t[k]
          simp only [↓R1,RR,Nat.reduceEqDiff,q2]
          repeat' (first|(with_reducible refine And.intro ?_ ?_;exact af)|(with_reducible apply And.intro)|((first|(refine Pt (hpl) ?_)|(refine Pt (h22) ?_))<;>(try simp only [↓R1,RR,Nat.reduceEqDiff,Nat.reduceAdd,hw])))
          all_goals first|omega|(simp only [List.length_append,List.length_cons,List.length_nil];omega)|(simp [aq,slot,ae,hes];done)|exact St.le_refl _|skip
    · have hke:k=t.length:=by omega
      subst hke
      have q1:decide ((t.length:Int)<(t.length:Int))=false:=Qd
      rw [List.take_length] at hlk ⊢
      simp only [↓R1,RR,Nat.reduceEqDiff,Nat.reduceAdd,Nat.reduceLT,q1]
      repeat' (with_reducible refine And.intro ?_ ?_;exact af)
      all_goals first|omega|(simp only [List.length_append,List.length_cons,List.length_nil];omega)|skip
      refine ak (ag ?_) Qp (St.aB (St.le_refl _) h1)
      (simp only [an,RR,Nat.reduceEqDiff])
      simp [nX]
end Go.Proofs.YtgephffbfiemeaaGreatDoor
namespace Go.Abs
theorem AC.le {P:Program} {f:Nat} {xs:List AV} {σ σ':St} {R:AV→St→Prop} (h:AC P f xs σ R) (hl:St.le σ σ'):AC P f xs σ' R:=fun g w vs hI hv=>h g w vs (hI.le hl) hv
end Go.Abs
namespace Go.Proofs.YtgephffbfiemeaaGreatDoor
open Go.Abs
set_option linter.all false
set_option maxRecDepth 100000
theorem Kz:Dm Tryz.prog 113 :=
 tm (Go.Proofs.enters_of Tryz.func113 P7 rfl) (fun x sep w=>Tryz.strings_Join_none x 0 sep w) (fun bk o c xs sep w h1 h2 h3 h4 h5=>Tryz.strings_Join bk o c xs sep w h1 h2 h3 h4 h5)
def sV (τ:Nat):List (List UInt8)→AV
 | []=> .nils
 | p=> .tsl τ p.length (p.map AV.str)
def sT (σ:St) (τ:Nat):List (List UInt8)→St
 | []=>σ
 | p=>σ.ai τ (9,1,p.length)
theorem DI (σ:St) (τ:Nat) (p:List (List UInt8)):(sT σ τ p).box=σ.box:=by cases p<;>rfl
theorem DJ (σ:St) (τ:Nat) (p:List (List UInt8)) (u:Nat) (c:List AV):(sT σ τ p).aa u c=sT (σ.aa u c) τ p:=by cases p<;>rfl
theorem HI {s s':St} (h:St.le s s') {τ:Nat} {p:List (List UInt8)} (hn:p≠ []→s.tip τ=none):St.le s (sT s' τ p):=by
 cases p with
 | nil=>exact h
 | cons x p=>exact St.fg h (hn Qd)
theorem KA {s s':St} (h:St.le s s') (τ:Nat) (p:List (List UInt8)):St.le (sT s τ p) (sT s' τ p):=by
 cases p with
 | nil=>exact h
 | cons x p=>exact St.gU h
theorem tN {σ:St} {γ τ τ1:Nat} {out:List UInt8} (h:(bS σ γ τ out).tip τ1=none):σ.tip τ1=none:=by
  cases out with
  | nil=>exact h
  | cons x out =>
    simp only [bS,bT,St.aa,St.ai,upd] at h
    split at h
    · cases h
    · exact h
theorem KB (τ:Nat) (p:List (List UInt8)):slv (sV τ p)=some (p.length,p.map AV.str):=by cases p<;>rfl
theorem KC {P:Program} {Y:St} {K:AV→St→Prop} {τ:Nat} {pre:List (List UInt8)} {w:List UInt8} {h:Hold (sT Y τ pre,K)} (hl:pre.length≤1000000) (hY:pre≠ []→Y.tip τ=none)
    (hK:∀ τ',Y.tip τ'=none→K (sV τ' (pre++ [w])) (sT Y τ' (pre++ [w]))):qC true 9 1 16 (sV τ pre) (.sl true 1 [.str w]) (sT Y τ pre) K h:=by
  cases pre with
  | nil =>
    refine nM (n:=0) (cs:= []) rfl trivial rfl rfl rfl ?_ ?_ (fun τ' hτ'=>?_)
    · unfold maxLen;decide
    · decide
    · exact hK τ' hτ'
  | cons x p =>
    simp only [List.length_cons] at hl
    refine br rfl ?_ ?_ rfl ?_ ?_ ?_
    · simp [sT,St.ai,upd]
    · simp
    · unfold maxLen;simp;omega
    · simp;omega
    · have:=hK τ (hY Qd)
      have e1:(x::p).map AV.str++ [AV.str w]=((x::p)++ [w]).map AV.str:=Qd
      have e2:sT (sT Y τ (x::p)) τ ((x::p)++ [w])=sT Y τ ((x::p)++ [w]):=St.fp _ _ _ _
      have e3:(x::p).length+1=((x::p)++ [w]).length:=Qd
      rw [e1,e3]
      rw [←e2] at this
      exact this
theorem xu (l:List RI) {k:Nat} (h:k<l.length):((l.flatMap cRI).drop (k*2)).take 2=cRI l[k]:=by
 have:=flat_get (f:=cRI) (s:=2) (fun _=>rfl) l k h
 exact this
theorem xv (l:List WI) {k:Nat} (h:k<l.length):((l.flatMap cWI).drop (k*3)).take 3=cWI l[k]:=by
 have:=flat_get (f:=cWI) (s:=3) (fun _=>rfl) l k h
 exact this
theorem jT {out:List UInt8} {l:List RI} {k:Nat} (h:k<l.length) (h0:l[k].ws.length=0):gA out (l.drop k)= .error 7:=by
 rw [List.drop_eq_getElem_cons h];simp only [gA,h0,if_true]
theorem od {out:List UInt8} {l:List RI} {k:Nat} (h:k<l.length) (h0:¬ l[k].ws.length=0) (hw:cQ l[k].ws=none):gA out (l.drop k)= .error 3:=by
 rw [List.drop_eq_getElem_cons h];simp only [gA,if_neg h0,hw]
theorem oe {out:List UInt8} {l:List RI} {k:Nat} {ws:List (List UInt8)} (h:k<l.length) (h0:¬ l[k].ws.length=0) (hw:cQ l[k].ws=some ws) :
  gA out (l.drop k)=if 1000<(Lib.join ws [32]).length∨20000<(out++(Lib.join ws [32]++ [10])).length then .error 4 else gA (out++(Lib.join ws [32]++ [10])) (l.drop (k+1)):=by
 rw [List.drop_eq_getElem_cons h];simp only [gA,if_neg h0,hw]
set_option maxHeartbeats 4000000 in
theorem Pn (l:List RI) (hl:qU l):Pu Tryz.prog 133 [.sl false l.length (l.flatMap cRI)] (wX (mq l)):=by
  have q1:True:=trivial
  have q2:True:=trivial
  have q3:True:=trivial
  have q4:True:=trivial
  have q5:True:=trivial
  have hw:True:=trivial
  have hd:True:=trivial
  have hd2:True:=trivial
  obtain ⟨hl1,hl2⟩:=hl
  (refine al I5 NH fun σ=>?_;simp only [I5,↓R1,RR,seval])
  refine lM (fun γ hγ hγt=>?_)
  have hγt:σ.bt γ=none:=hγt
  simp only [↓R1,RR,seval]
  obtain ⟨X,hX⟩:∃ X,X=σ.cM γ 222:=⟨_,rfl⟩
  have hXt:X.tip=σ.tip:=by rw [hX];rfl
  have hXb:X.bt γ=some 222:=by rw [hX];exact St.nc _ _ _
  have hXl:∀ c,St.le σ (X.aa γ c):=fun c=>by
    rw [hX];exact St.aB (St.je (St.le_refl _) hγt) hγ
  have hle:∀ τ out,(out≠ []→σ.tip τ=none)→St.le σ (bS X γ τ out):=fun τ out h=>by
    rw [hX];exact HH (St.je (St.le_refl _) hγt) hγ h
  refine ca (α:=Nat × Nat × List UInt8) (fun z=> [(4, .ptr γ 0),(13, .sl false l.length (l.flatMap cRI)),(14, .int .i64 (l.length:Nat)),(15, .int .i64 (z.1:Nat))]) (fun z=>bS X γ z.2.1 z.2.2)
    (fun z=>z.1≤l.length∧(z.2.2≠ []→σ.tip z.2.1=none)∧z.2.2.length≤20000∧mq l=gA z.2.2 (l.drop z.1)) (fun z=>l.length - z.1) (0,0,[]) Qi (by rw [hX];exact St.le_refl _) ⟨Nat.zero_le _,(fun h=>absurd rfl h),Nat.zero_le _,rfl⟩ ?_
  rintro ⟨k,τ,out⟩ ⟨hk,hτ,hlen,hI⟩
  simp only at hk hτ hlen hI
  by_cases hlt:k<l.length
  · have q1:decide ((k:Int)<(l.length:Int))=true:=by rw [decide_eq_true_eq];omega
    have hd:=xu l hlt
    have hd2:=bo l
    have hw:IntKind.i64.wrap ((k:Int)+1)=((k+1:Nat):Int):=P9
    obtain ⟨hwn,hwt⟩:=hl2 l[k] (List.getElem_mem hlt)
    simp only [cRI] at hd
    have hτX:out≠ []→X.tip τ=none:=by rw [hXt];exact hτ
    by_cases h0:l[k].ws.length=0
    · have q2:((l[k].ws.length:Int) == 0)=true:=by rw [h0];rfl
      rw [jT hlt h0] at hI
      rw [hI]
      simp only [↓R1,RR,seval,q1,hd,hd2]
      repeat' (first|(with_reducible rw [ah])|(with_reducible refine And.intro ?_ ?_;exact af)|((with_reducible intro β hβ;(try simp only [RB] at hβ);(repeat (obtain ⟨⟨_,_⟩,hβ⟩:=hβ));(try (have hbis:=aj Qa hβ;obtain ⟨_,_⟩:=hbis)))<;>(try simp only [↓R1,RR,seval,q2])))
      all_goals first|(rw [hd2];omega)|skip
      refine ak (ag ?_) Qp (St.aB (hle τ out hτ) (by rw [ra] at hβ;rw [hX] at hβ;exact hβ.2))
      (simp only [an,RR,seval])
      rfl
    · have q2:((l[k].ws.length:Int) == 0)=false:=by
        rw [←Bool.not_eq_true,beq_iff_eq];omega
      simp only [↓R1,RR,seval,q1,hd,hd2]
      repeat' (first|(with_reducible rw [ah])|(with_reducible refine And.intro ?_ ?_;exact af)|((with_reducible intro β hβ;(try simp only [RB] at hβ);(repeat (obtain ⟨⟨_,_⟩,hβ⟩:=hβ));(try (have hbis:=aj Qa hβ;obtain ⟨_,_⟩:=hbis)))<;>(try simp only [↓R1,RR,seval,q2])))
      all_goals first|(rw [hd2];omega)|skip
      obtain ⟨ws,hws⟩:∃ ws,l[k].ws=ws:=⟨_,rfl⟩
      rw [hws] at hwn hwt h0 ⊢
      have hd:True:=trivial
      have hd2:True:=trivial
      refine ca (α:=Nat × Nat × List (List UInt8)) (fun z=> [(4, .ptr γ 0),(7,sV z.2.1 z.2.2),(13, .sl false l.length (l.flatMap cRI)),(14, .int .i64 (l.length:Nat)),(15, .int .i64 (k:Nat)),(24, .sl false ws.length (ws.flatMap cWI)),(25, .int .i64 (ws.length:Nat)),(26, .int .i64 (z.1:Nat))])
        (fun z=>sT (bS X γ τ out) z.2.1 z.2.2) (fun z=>z.1≤ws.length∧(z.2.2≠ []→(bS X γ τ out).tip z.2.1=none)∧cQ (ws.take z.1)=some z.2.2∧z.2.2.length=z.1) (fun z=>ws.length - z.1) (0,0,[])
        (by simp [aq,slot,ae,sV]) (St.aB (St.aB (St.le_refl _) hβ) hβ) ⟨Nat.zero_le _,(fun h=>absurd rfl h),rfl,rfl⟩ ?_
      rintro ⟨i,τ1,acc⟩ ⟨hi,hτ1,hacc,hal⟩
      simp only at hi hτ1 hacc hal
      by_cases hin:i<ws.length
      · have q3:decide ((i:Int)<(ws.length:Int))=true:=by rw [decide_eq_true_eq];omega
        have hd:=xv ws hin
        have hd2:=bm ws
        have hw:IntKind.i64.wrap ((i:Int)+1)=((i+1:Nat):Int):=P9
        have hp:=Pk ws[i].q ws[i].t ws[i].a (by have:=hwt ws[i] (List.getElem_mem hin);omega)
        simp only [cWI] at hd
        simp only [↓R1,RR,seval,q3,hd,hd2]
        cases hwd:cd ws[i].q ws[i].t with
        | none =>
          rw [hwd] at hp
          have hbad:=kb ws i hin hwd
          rw [od hlt (by rw [hws];exact h0) (by rw [hws];exact hbad)] at hI
          rw [hI]
          simp only [nX] at hp
          repeat' (first|(with_reducible rw [ah])|(with_reducible refine And.intro ?_ ?_;exact af)|((first|(with_reducible intro β hβ;(try simp only [RB] at hβ);(repeat (obtain ⟨⟨_,_⟩,hβ⟩:=hβ));(try (have hbis:=aj Qa hβ;obtain ⟨_,_⟩:=hbis)))|(refine Pt (hp) ?_))<;>(try simp only [↓R1,RR,seval])))
          all_goals first|(rw [hd2];omega)|skip
          rw [DI,ra,hX] at hβ
          refine ak (ag ?_) Qp (St.aB (HI (hle τ out hτ) (fun h=>by have:=tN (hτ1 h);rwa [hXt] at this)) hβ.2)
          (simp only [an,RR,seval])
          rfl
        | some x =>
          rw [hwd] at hp
          have hnx:=ji hin hacc hwd
          simp only [nX] at hp
          repeat' (first|(with_reducible rw [ah])|(with_reducible refine And.intro ?_ ?_;exact af)|((first|(with_reducible intro β hβ;(try simp only [RB] at hβ);(repeat (obtain ⟨⟨_,_⟩,hβ⟩:=hβ));(try (have hbis:=aj Qa hβ;obtain ⟨_,_⟩:=hbis)))|(refine Pt (hp) ?_))<;>(try simp only [↓R1,RR,seval])))
          all_goals first|(rw [hd2];omega)|skip
          rw [DI] at hβ
          rw [DJ,DJ]
          refine KC (P:=Tryz.prog) P6 hτ1 (fun τ' hτ'=>?_)
          simp only [↓R1,RR,seval,hw]
          skip
          refine ⟨(i+1,τ',acc++ [x]),⟨hin,fun _=>hτ',hnx,by simp [hal]⟩,by simp [aq,slot,ae],KA (St.aB (St.le_refl _) hβ) _ _,by simp only;omega⟩
      · have hie:i=ws.length:=by omega
        subst hie
        have q3:decide ((ws.length:Int)<(ws.length:Int))=false:=Qd
        rw [List.take_length] at hacc
        obtain ⟨ha1,ha2⟩:=nY ws hacc
        have hjl:=Dk 80002 acc (fun x hx=>by have:=ha2 20000 hwt x hx;omega)
        have hjl2:(Lib.join acc [32]).length≤80003000:=by
          have:80003*acc.length≤80003*1000:=Nat.mul_le_mul_left _ P6
          omega
        rw [oe hlt (by rw [hws];exact h0) (by rw [hws];exact hacc)] at hI
        have hj:=Kz (sV τ1 acc) acc [32] (sT (bS X γ τ out) τ1 acc) (KB τ1 acc) P6 P6
        obtain ⟨line,hline⟩:∃ line,Lib.join acc [32]=line:=⟨_,rfl⟩
        rw [hline] at hj hI hjl2
        have hwr:=(jS γ (line++ [10]) Qd X τ out hτX hXb Qr).le (HI (St.le_refl _) hτ1)
        simp only [↓R1,RR,seval,q3]
        repeat' (first|(with_reducible refine And.intro ?_ ?_;exact af)|(((refine AC.mono (AC.wk (hj) (ad _)) ?_;(rintro _ _ ⟨rfl,rfl⟩)))<;>(try simp only [↓R1,RR,seval])))
        all_goals first|omega|(simp only [List.length_append,List.length_cons,List.length_nil];omega)|skip
        refine (AC.wk hwr (ad _)).mono ?_
        rintro _ _ ⟨rfl,τ',hτ',_,rfl⟩
        have hln:=MK X γ τ' (out++(line++ [10]))
        have hτ'σ:σ.tip τ'=none:=by rw [←hXt];exact hτ'
        simp only [↓R1,RR,seval]
        by_cases hL:1000<line.length
        · have q4:decide ((1000:Int)<(line.length:Int))=true:=by rw [decide_eq_true_eq];omega
          rw [if_pos (.inl hL)] at hI
          rw [hI]
          simp only [↓R1,RR,seval,q4]
          skip
          all_goals (try (first|omega|(rename_i hno;cases hno;done)))
          refine ak (ag ?_) Qp (hle τ' _ (fun _=>hτ'σ))
          (simp only [an,RR,seval])
          rfl
        · have q4:decide ((1000:Int)<(line.length:Int))=false:=by rw [decide_eq_false_iff_not];omega
          by_cases hO:20000<(out++(line++ [10])).length
          · have q5:decide ((20000:Int)<((out++(line++ [10])).length:Int))=true:=by rw [decide_eq_true_eq];omega
            rw [if_pos (.inr hO)] at hI
            rw [hI]
            simp only [↓R1,RR,seval,q4]
            repeat' (((refine AC.mono (AC.wk (hln) (ad _)) ?_;(rintro _ _ ⟨rfl,rfl⟩)))<;>(try simp only [↓R1,RR,seval,q4,q5]))
            refine ak (ag ?_) Qp (hle τ' _ (fun _=>hτ'σ))
            (simp only [an,RR,seval])
            rfl
          · have q5:decide ((20000:Int)<((out++(line++ [10])).length:Int))=false:=by rw [decide_eq_false_iff_not];omega
            rw [if_neg P6] at hI
            simp only [↓R1,RR,seval,q4]
            repeat' (((refine AC.mono (AC.wk (hln) (ad _)) ?_;(rintro _ _ ⟨rfl,rfl⟩)))<;>(try simp only [↓R1,RR,seval,q4,q5,hw]))
            exact ⟨(k+1,τ',out++(line++ [10])),⟨hlt,fun _=>hτ'σ,by simp only;omega,hI⟩,by simp [aq,slot,ae],St.le_refl _,by simp only;omega⟩
  · have hke:k=l.length:=by omega
    subst hke
    have q1:decide ((l.length:Int)<(l.length:Int))=false:=Qd
    rw [List.drop_length] at hI
    have ws:=n7 (β:=γ) (τ:=τ) (l:=out) (σ:=X) (by rw [hXt];exact hτ) hXb
    simp only [↓R1,RR,seval,q1]
    repeat' (((refine AC.mono (AC.wk (ws) (ad _)) ?_;(rintro _ _ ⟨rfl,rfl⟩)))<;>(try simp only [↓R1,RR,seval]))
    rw [hI]
    refine ak (ag ?_) Qp (hXl _)
    (simp only [an,RR,seval])
    rfl
end Go.Proofs.YtgephffbfiemeaaGreatDoor
namespace Go.Proofs.YtgephffbfiemeaaGreatDoor
open Go.Abs
set_option linter.all false
set_option maxRecDepth 100000
theorem p9 (l:List (List UInt8)) (x:List UInt8) (h:l≠ []):Lib.join (l++ [x]) [32]=Lib.join l [32]++ [32]++x:=by
  cases l with
  | nil=>exact (h rfl).elim
  | cons y l =>
    rw [List.cons_append,Lib.join_cons,Lib.join_cons]
    simp [Lib.joinTail]
def mD (row:List UInt8) (acc:List (List UInt8)):Prop:=row=Lib.join acc [32]∨1000<row.length∧1000<(Lib.join acc [32]).length
theorem mD.next {row x:List UInt8} {acc:List (List UInt8)} (h:mD row acc) (hr:row.length≤1000):mD ((if acc= [] then row else row++ [32])++x) (acc++ [x]):=by
 have he:row=Lib.join acc [32]:=h.elim id (fun h=>by omega)
 left
 split
 ·rename_i ha;subst ha;rw [he];simp [Lib.join_nil,Lib.join_one]
 ·rename_i ha;rw [p9 acc x ha,he]
theorem mD.over {row x y:List UInt8} {acc:List (List UInt8)} (h:mD row acc) (hr:1000<row.length):mD ((if acc= [] then row else row++ [32])++y) (acc++ [x]):=by
 have hj:1000<(Lib.join acc [32]).length:=h.elim (fun e=>by rw [←e];exact hr) And.right
 have ha:acc≠ []:=by rintro rfl;simp [Lib.join_nil] at hj
 right
 rw [if_neg ha,p9 acc x ha]
 simp only [List.length_append]
 omega
theorem vS {q:Bool} {t:List UInt8}:(cd q t).isSome=(q||bareS t):=by
 unfold cd
 cases q<;>cases bareS t<;>rfl
theorem _root_.Qf {p:Prop} (h:p:=by rw [decide_eq_true_eq];omega):p:=h
set_option maxHeartbeats 4000000 in
theorem p61 (l:List RI) (hl:qU l):Pu Tryz.prog 61 [.sl false l.length (l.flatMap cRI)] (wX (mq l)):=by
  have q1:True:=trivial
  have q2:True:=trivial
  have q3:True:=trivial
  have q4:True:=trivial
  have q5:True:=trivial
  have q6:True:=trivial
  have hw:True:=trivial
  have hd:True:=trivial
  have hd2:True:=trivial
  have hd3:True:=trivial
  have hd4:True:=trivial
  have q7:True:=trivial
  have hqq:True:=trivial
  have hws:True:=trivial
  have hw2:True:=trivial
  obtain ⟨hl1,hl2⟩:=hl
  (refine al c61 b61 fun σ=>?_;simp only [c61,↓R1,RR,seval])
  refine ca (α:=Nat × List UInt8) (fun z=> [(0, .sl false l.length (l.flatMap cRI)),(4, .str z.2),(5, .int .i64 (z.1:Nat))]) (fun _=>σ)
    (fun z=>z.1≤l.length∧z.2.length≤20000∧mq l=gA z.2 (l.drop z.1)) (fun z=>l.length - z.1) (0,[]) Qi (St.le_refl _) ⟨Nat.zero_le _,Nat.zero_le _,rfl⟩ ?_
  rintro ⟨k,out⟩ ⟨hk,hlen,hI⟩
  simp only at hk hlen hI
  by_cases hlt:k<l.length
  · have q1:decide ((k:Int)<(l.length:Int))=true:=by rw [decide_eq_true_eq];omega
    have hd:=xu l hlt
    have hd2:=bo l
    have hw:IntKind.i64.wrap ((k:Int)+1)=((k+1:Nat):Int):=P9
    obtain ⟨hwn,hwt⟩:=hl2 l[k] (List.getElem_mem hlt)
    simp only [cRI] at hd
    by_cases h0:l[k].ws.length=0
    · have q2:((l[k].ws.length:Int) == 0)=true:=by rw [h0];rfl
      rw [jT hlt h0] at hI
      rw [hI]
      simp only [↓R1,RR,seval,q1,q2,hd,hd2]
      repeat' (with_reducible refine And.intro ?_ ?_;exact af)
      all_goals first|(rw [hd2];omega)|skip
      (refine ak (ag ?_))
      (simp only [an,RR,seval])
      rfl
    · have q2:((l[k].ws.length:Int) == 0)=false:=by
        rw [←Bool.not_eq_true,beq_iff_eq];omega
      simp only [↓R1,RR,seval,q1,q2,hd,hd2]
      repeat' (with_reducible refine And.intro ?_ ?_;exact af)
      all_goals first|(rw [hd2];omega)|skip
      obtain ⟨ws,hws⟩:∃ ws,l[k].ws=ws:=⟨_,rfl⟩
      rw [hws] at hwn hwt h0 hd
      refine ca (α:=Nat × List UInt8 × List (List UInt8)) (fun z=> [(0, .sl false l.length (l.flatMap cRI)),(4, .str out),(5, .int .i64 (k:Nat)),(6, .str z.2.1),(7, .int .i64 (z.1:Nat))]) (fun _=>σ)
        (fun z=>z.1≤ws.length∧cQ (ws.take z.1)=some z.2.2∧z.2.2.length=z.1∧mD z.2.1 z.2.2∧z.2.1.length≤90000+z.1) (fun z=>ws.length - z.1) (0,[],[])
        Qi (St.le_refl _) ⟨Nat.zero_le _,rfl,rfl, .inl rfl,by simp⟩ ?_
      rintro ⟨i,row,acc⟩ ⟨hi,hacc,hal,hrw,hrl⟩
      simp only at hi hacc hal hrw hrl
      by_cases hin:i<ws.length
      · have q3:decide ((i:Int)<(ws.length:Int))=true:=by rw [decide_eq_true_eq];omega
        have hd3:=xv ws hin
        have hd4:=bm ws
        have hw2:IntKind.i64.wrap ((i:Int)+1)=((i+1:Nat):Int):=P9
        have htl:=hwt ws[i] (List.getElem_mem hin)
        have hp:=Pm ws[i].q ws[i].t ws[i].a P6
        have hpb:=Kx ws[i].t P6
        have hsome:=vS (q:=ws[i].q) (t:=ws[i].t)
        simp only [cWI] at hd3
        have hnone:cd ws[i].q ws[i].t=none→mq l= .error 3:=fun h=>by
          rw [od hlt (by rw [hws];exact h0) (by rw [hws];exact kb ws i hin h)] at hI
          exact hI
        have hsep:(if acc= [] then row else row++ [32])=if 0<i then row++ [32] else row:=by
          cases acc with
          | nil=>simp at hal;simp [←hal]
          | cons y acc=>simp at hal;rw [if_neg Qd,if_pos P6]
        by_cases hle:row.length≤1000
        · have q4:decide ((row.length:Int)≤1000)=true:=by rw [decide_eq_true_eq];omega
          cases hwd:cd ws[i].q ws[i].t with
          | none =>
            rw [hwd] at hp
            rw [hnone hwd]
            simp only [nX] at hp
            simp only [↓R1,RR,seval,q3,hd,hd2,hd3,hd4]
            repeat' (first|(with_reducible rw [ah])|(with_reducible refine And.intro ?_ ?_;exact af)|((first|(with_reducible intro β hβ;(try simp only [RB] at hβ);(repeat (obtain ⟨⟨_,_⟩,hβ⟩:=hβ));(try (have hbis:=aj Qa hβ;obtain ⟨_,_⟩:=hbis)))|(refine Pt (hp) ?_))<;>(try simp only [↓R1,RR,seval,q4])))
            all_goals first|(rw [hd2];omega)|(rw [hd4];omega)|omega|(simp only [List.length_append,List.length_cons,List.length_nil];omega)|skip
            refine ak (ag ?_) Qp (St.aB (St.le_refl _) hβ)
            (simp only [an,RR,seval])
            rfl
          | some x =>
            rw [hwd] at hp
            have hnx:=ji hin hacc hwd
            have hxl:=pU hwd
            have hrn:=hrw.next (x:=x) hle
            rw [hsep] at hrn
            simp only [nX] at hp
            by_cases hi0:0<i
            · have q5:decide ((0:Int)<(i:Int))=true:=by rw [decide_eq_true_eq];omega
              rw [if_pos hi0] at hrn
              simp only [↓R1,RR,seval,q3,hd,hd2,hd3,hd4]
              repeat' (first|(with_reducible rw [ah])|(with_reducible refine And.intro ?_ ?_;exact af)|((first|(with_reducible intro β hβ;(try simp only [RB] at hβ);(repeat (obtain ⟨⟨_,_⟩,hβ⟩:=hβ));(try (have hbis:=aj Qa hβ;obtain ⟨_,_⟩:=hbis)))|(refine Pt (hp) ?_))<;>(try simp only [↓R1,RR,seval,q4,q5,hw2])))
              all_goals first|(rw [hd2];omega)|(rw [hd4];omega)|omega|(simp only [List.length_append,List.length_cons,List.length_nil];omega)|skip
              exact ⟨(i+1,row++ [32]++x,acc++ [x]),⟨hin,hnx,by simp [hal],hrn,by simp only [List.length_append,List.length_cons,List.length_nil];omega⟩,by simp [aq,slot,ae],St.aB (St.le_refl _) hβ,by simp only;omega⟩
            · have q5:decide ((0:Int)<(i:Int))=false:=by rw [decide_eq_false_iff_not];omega
              rw [if_neg hi0] at hrn
              simp only [↓R1,RR,seval,q3,hd,hd2,hd3,hd4]
              repeat' (first|(with_reducible rw [ah])|(with_reducible refine And.intro ?_ ?_;exact af)|((first|(with_reducible intro β hβ;(try simp only [RB] at hβ);(repeat (obtain ⟨⟨_,_⟩,hβ⟩:=hβ));(try (have hbis:=aj Qa hβ;obtain ⟨_,_⟩:=hbis)))|(refine Pt (hp) ?_))<;>(try simp only [↓R1,RR,seval,q4,q5,hw2])))
              all_goals first|(rw [hd2];omega)|(rw [hd4];omega)|omega|(simp only [List.length_append,List.length_cons,List.length_nil];omega)|skip
              exact ⟨(i+1,row++x,acc++ [x]),⟨hin,hnx,by simp [hal],hrn,by simp only [List.length_append];omega⟩,by simp [aq,slot,ae],St.aB (St.le_refl _) hβ,by simp only;omega⟩
        · have q4:decide ((row.length:Int)≤1000)=false:=by rw [decide_eq_false_iff_not];omega
          have over:∀ x,cd ws[i].q ws[i].t=some x→cQ (ws.take (i+1))=some (acc++ [x])∧mD ((if 0<i then row++ [32] else row)++ []) (acc++ [x]):=fun x hx=>by
            have hov:=hrw.over (x:=x) (y:= []) P6
            rw [hsep] at hov
            exact ⟨ji hin hacc hx,hov⟩
          have hi0:0<i:=by
            cases acc with
            | nil =>
              rcases hrw with h|h
              · rw [h] at hle;simp [Lib.join_nil] at hle
              · have:=h.2;simp [Lib.join_nil] at this
            | cons y acc=>simp at hal;omega
          have q5:decide ((0:Int)<(i:Int))=true:=Qf
          simp only [if_pos hi0,List.append_nil] at over
          cases hqq:ws[i].q with
          | true =>
            rw [hqq] at hsome hd3 over hnone
            obtain ⟨x,hx⟩:=Option.isSome_iff_exists.1 hsome
            obtain ⟨o1,o2⟩:=over x hx
            simp only [↓R1,RR,seval,q3,hd,hd2,hd3,hd4]
            repeat' (first|(with_reducible rw [ah])|(with_reducible refine And.intro ?_ ?_;exact af)|((with_reducible intro β hβ;(try simp only [RB] at hβ);(repeat (obtain ⟨⟨_,_⟩,hβ⟩:=hβ));(try (have hbis:=aj Qa hβ;obtain ⟨_,_⟩:=hbis)))<;>(try simp only [↓R1,RR,seval,q4,q5,hw2])))
            all_goals first|(rw [hd2];omega)|(rw [hd4];omega)|omega|(simp only [List.length_append,List.length_cons,List.length_nil];omega)|skip
            exact ⟨(i+1,row++ [32],acc++ [x]),⟨hin,o1,by simp [hal],o2,by simp only [List.length_append,List.length_cons,List.length_nil];omega⟩,by simp [aq,slot,ae],St.aB (St.le_refl _) hβ,by simp only;omega⟩
          | false =>
            rw [hqq] at hsome hd3 over hnone
            cases hbb:bareS ws[i].t with
            | true =>
              rw [hbb] at hsome hpb
              obtain ⟨x,hx⟩:=Option.isSome_iff_exists.1 hsome
              obtain ⟨o1,o2⟩:=over x hx
              simp only [↓R1,RR,seval,q3,hd,hd2,hd3,hd4]
              repeat' (first|(with_reducible rw [ah])|(with_reducible refine And.intro ?_ ?_;exact af)|((first|(with_reducible intro β hβ;(try simp only [RB] at hβ);(repeat (obtain ⟨⟨_,_⟩,hβ⟩:=hβ));(try (have hbis:=aj Qa hβ;obtain ⟨_,_⟩:=hbis)))|(refine Pt (hpb) ?_))<;>(try simp only [↓R1,RR,seval,q4,q5,hw2])))
              all_goals first|(rw [hd2];omega)|(rw [hd4];omega)|omega|(simp only [List.length_append,List.length_cons,List.length_nil];omega)|skip
              exact ⟨(i+1,row++ [32],acc++ [x]),⟨hin,o1,by simp [hal],o2,by simp only [List.length_append,List.length_cons,List.length_nil];omega⟩,by simp [aq,slot,ae],St.aB (St.le_refl _) hβ,by simp only;omega⟩
            | false =>
              rw [hbb] at hsome hpb
              have hx:cd false ws[i].t=none:=by
                cases h:cd false ws[i].t with
                | none=>rfl
                | some x=>rw [h] at hsome;cases hsome
              rw [hnone hx]
              simp only [↓R1,RR,seval,q3,hd,hd2,hd3,hd4]
              repeat' (first|(with_reducible rw [ah])|(with_reducible refine And.intro ?_ ?_;exact af)|((first|(with_reducible intro β hβ;(try simp only [RB] at hβ);(repeat (obtain ⟨⟨_,_⟩,hβ⟩:=hβ));(try (have hbis:=aj Qa hβ;obtain ⟨_,_⟩:=hbis)))|(refine Pt (hpb) ?_))<;>(try simp only [↓R1,RR,seval,q4])))
              all_goals first|(rw [hd2];omega)|(rw [hd4];omega)|omega|(simp only [List.length_append,List.length_cons,List.length_nil];omega)|skip
              refine ak (ag ?_) Qp (St.aB (St.le_refl _) hβ)
              (simp only [an,RR,seval])
              rfl
      · have hie:i=ws.length:=by omega
        subst hie
        have q3:decide ((ws.length:Int)<(ws.length:Int))=false:=Qd
        rw [List.take_length] at hacc
        rw [oe hlt (by rw [hws];exact h0) (by rw [hws];exact hacc)] at hI
        by_cases hle:1000<row.length
        · have q4:decide ((1000:Int)<(row.length:Int))=true:=by rw [decide_eq_true_eq];omega
          have hj:1000<(Lib.join acc [32]).length:=hrw.elim (fun e=>by rw [←e];exact hle) And.right
          rw [if_pos (.inl hj)] at hI
          rw [hI]
          simp only [↓R1,RR,seval,q3,q4,hd,hd2]
          repeat' (with_reducible refine And.intro ?_ ?_;exact af)
          all_goals first|(rw [hd2];omega)|(rw [hd4];omega)|omega|(simp only [List.length_append,List.length_cons,List.length_nil];omega)|skip
          (refine ak (ag ?_))
          (simp only [an,RR,seval])
          rfl
        · have q4:decide ((1000:Int)<(row.length:Int))=false:=by rw [decide_eq_false_iff_not];omega
          have he:row=Lib.join acc [32]:=hrw.elim id (fun h=>by omega)
          rw [←he] at hI
          have q5:IntKind.i64.wrap ((out.length:Int)+(row.length:Int))=((out.length+row.length:Nat):Int):=P9
          have q6:IntKind.i64.wrap (((out.length+row.length:Nat):Int)+1)=((out.length+row.length+1:Nat):Int):=P9
          have hol:(out++(row++ [10])).length=out.length+row.length+1:=Qr
          by_cases hO:20000<(out++(row++ [10])).length
          · have q7:decide ((20000:Int)<((out.length+row.length+1:Nat):Int))=true:=by rw [decide_eq_true_eq];omega
            rw [if_pos (.inr hO)] at hI
            rw [hI]
            simp only [↓R1,RR,seval,q3,q4,q5,q6,q7,hd,hd2]
            repeat' (with_reducible refine And.intro ?_ ?_;exact af)
            all_goals first|(rw [hd2];omega)|(rw [hd4];omega)|omega|(simp only [List.length_append,List.length_cons,List.length_nil];omega)|skip
            (refine ak (ag ?_))
            (simp only [an,RR,seval])
            rfl
          · have q7:decide ((20000:Int)<((out.length+row.length+1:Nat):Int))=false:=by rw [decide_eq_false_iff_not];omega
            rw [if_neg P6] at hI
            simp only [↓R1,RR,seval,q3,q4,q5,q6,q7,hw,hd,hd2]
            repeat' (with_reducible refine And.intro ?_ ?_;exact af)
            all_goals first|(rw [hd2];omega)|(rw [hd4];omega)|omega|(simp only [List.length_append,List.length_cons,List.length_nil];omega)|skip
            refine ⟨(k+1,out++row++ [10]),⟨hlt,?_,?_⟩,by simp [aq,slot,ae],St.le_refl _,by simp only;omega⟩
            · simp only [List.append_assoc];omega
            · rw [hI];simp only [List.append_assoc]
  · have hke:k=l.length:=by omega
    subst hke
    have q1:decide ((l.length:Int)<(l.length:Int))=false:=Qd
    rw [List.drop_length] at hI
    simp only [↓R1,RR,seval,q1]
    skip
    rw [hI]
    (refine ak (ag ?_))
    (simp only [an,RR,seval])
    rfl
theorem mE {P:Program} {x:CC} {fr:Fr} {σ:St} {Q:Exit→Fr→St→Prop} {h:Hold (x,σ,Q)} (n t o e s:Nat) {β:Nat} {c0:List AV} (hp:slot t fr= .ptr β 0) (hb:σ.box β=some c0) (hc:c0[o]? =some .nils) (F:Nat→Nat→Fr) (S:Nat→Nat→St) (I:Nat→Prop) (h0:I 0)
  (hF:∀ τ,aq (F τ 0) fr) (hS:∀ τ,σ.tip τ=none→St.le (S τ 0) ((σ.ai τ (e,s,0)).aa β (c0.set o (.tsl τ 0 []))))
  (hr:∀ τ,σ.tip τ=none→∀ k,k≤n→I k→aC P x (F τ k) (S τ k) (fU (fun fr' σ'=>k<n∧I (k+1)∧aq (F τ (k+1)) fr'∧St.le (S τ (k+1)) σ') Q)):pF P x fr σ Q h:=by
 refine ⟨[(true,t,o,e,s)],?_⟩
 simp only [cH,hp,hb,Nat.zero_add,hc,slv,fresh,true_and]
 intro τ hτ
 refine ⟨Nat,F τ,S τ,fun k=>k≤n∧I k,fun k=>n - k,0,⟨Nat.zero_le _,h0⟩,hF τ,hS τ hτ,fun k hk=>?_⟩
 refine cR _ _ _ (hr τ hτ k hk.1 hk.2) (fun e fr' σ' hq=>?_)
 unfold fU at hq
 cases e with
 | normal=>simp only at hq ⊢;exact ⟨k+1,⟨hq.1,hq.2.1⟩,hq.2.2.1,hq.2.2.2,by omega⟩
 | _=>exact hq
def mkW (t:List UInt8):WI:=⟨!bareS t,t,0⟩
def mkR (l:List (List UInt8)):RI:=⟨0,l.map mkW⟩
theorem kW (l:List (List UInt8)) {k:Nat} (h:k<l.length):((l.map AV.str).drop (k*1)).take 1= [.str l[k]]:=by
 rw [Nat.mul_one,List.drop_eq_getElem_cons Rf]
 simp
theorem xw (l:List (List UInt8)) {k:Nat} (h:k<l.length):((l.take k).map mkW).flatMap cWI++ [.bool (!bareS l[k]), .str l[k], .int .i64 0]=((l.take (k+1)).map mkW).flatMap cWI:=by
 rw [←List.take_append_getElem h,List.map_append,List.flatMap_append]
 simp [mkW,cWI]
set_option maxHeartbeats 2000000 in
theorem Pp (l:List (List UInt8)) (hl:l.length≤1000) (ht:∀ t∈l,t.length≤1000000):Pu Tryz.prog 134 [.sl false l.length (l.map AV.str)] (.agg (cRI (mkR l))):=by
 have q1:True:=trivial
 have hw:True:=trivial
 have hd:True:=trivial
 (refine al I6 NI fun σ=>?_;simp only [I6,↓R1,RR,seval])
 rw [ah];intro b2 h2;simp only [↓R1,RR,seval]
 rw [ah];intro b3 h3;rw [St.bq] at h3;obtain ⟨⟨_,_⟩,h3⟩:=h3;simp only [↓R1,RR,seval]
 refine mE l.length 3 1 109 3 (β:=b3) rfl (by simp only [RR,seval];rfl) rfl
  (fun τ k=> [(2, .ptr b2 0),(3, .ptr b3 0),(6, .sl false l.length (l.map AV.str)),(7, .int .i64 (l.length:Nat)),(8, .int .i64 (k:Nat))])
  (fun τ k=>((σ.aa b2 [.int .i64 0, .nils]).aa b3 [.int .i64 0, .tsl τ k (((l.take k).map mkW).flatMap cWI)]).ai τ (109,3,k)) (fun _=>True) trivial (fun τ=>by simp [aq,slot,ae]) (fun τ _=>by simp only [List.set_cons_succ,List.set_cons_zero,List.take_zero,List.map_nil,List.flatMap_nil,RR,seval];exact St.le_refl _) (fun τ hτ k hk _=>?_)
 by_cases hlt:k<l.length
 ·have q1:decide ((k:Int)<(l.length:Int))=true:=by rw [decide_eq_true_eq];omega
  have hd:=kW l hlt
  have hw:IntKind.i64.wrap ((k:Int)+1)=((k+1:Nat):Int):=P9
  have hp:=MN l[k] (ht _ (List.getElem_mem hlt))
  have hcl:(((l.take k).map mkW).flatMap cWI).length=k*3:=by rw [bm];simp;omega
  have hs:=xw l hlt
  simp only [↓R1,RR,seval,q1,hd]
  repeat' (first|(with_reducible refine And.intro ?_ ?_;focus (intros;(repeat' (with_reducible apply And.intro))<;>first|omega|(simp only [RZ];omega)))|(with_reducible apply And.intro)|((first|((first|(refine bI (.inr rfl) rfl ?_ ?_ ?_ ?_ ?_ ?_;(first|rfl|exact St.bn _ _ _|(simp only [↓R1,RR,seval,q1,hw,hd]));(first|omega|(simp only [RZ,bm,bo,List.length_nil,List.length_cons];omega)|(simp only [RZ,bm,bo,List.length_nil,List.length_cons]));(first|rfl|first|omega|(simp only [RZ,bm,bo,List.length_nil,List.length_cons];omega)|(simp only [RZ,bm,bo,List.length_nil,List.length_cons])))|(refine br rfl ?_ ?_ ?_ ?_ ?_ ?_;(first|rfl|exact St.bn _ _ _|(simp only [↓R1,RR,seval,q1,hw,hd]));(first|omega|(simp only [RZ,bm,bo,List.length_nil,List.length_cons];omega)|(simp only [RZ,bm,bo,List.length_nil,List.length_cons]));(first|rfl|first|omega|(simp only [RZ,bm,bo,List.length_nil,List.length_cons];omega)|(simp only [RZ,bm,bo,List.length_nil,List.length_cons])))|(refine appV_own ?_ ?_ ?_ ?_;exact a8 QB _)|(refine appD_own ?_ ?_ ?_ ?_ ?_;omega;exact a8 QB _)|(refine appV_fresh rfl trivial rfl ?_ ?_ ?_ ?_ ?_;(first|rfl|first|omega|(simp only [RZ,bm,bo,List.length_nil,List.length_cons];omega)|(simp only [RZ,bm,bo,List.length_nil,List.length_cons]));(first|rfl|first|omega|(simp only [RZ,bm,bo,List.length_nil,List.length_cons];omega)|(simp only [RZ,bm,bo,List.length_nil,List.length_cons])))|(refine appD_fresh rfl trivial rfl ?_ ?_ ?_ ?_ ?_ ?_;omega;(first|rfl|first|omega|(simp only [RZ,bm,bo,List.length_nil,List.length_cons];omega)|(simp only [RZ,bm,bo,List.length_nil,List.length_cons]));(first|rfl|first|omega|(simp only [RZ,bm,bo,List.length_nil,List.length_cons];omega)|(simp only [RZ,bm,bo,List.length_nil,List.length_cons]))));(unfold maxLen;omega);omega)|(refine Ct (hp) ?_))<;>(try simp only [↓R1,RR,seval,hw])))
  all_goals first|(simp only [List.length_map];omega)|skip
  ·simp [aq,slot,ae]
  ·rw [hs];exact St.le_refl _
 ·have hke:k=l.length:=by omega
  subst hke
  have q1:decide ((l.length:Int)<(l.length:Int))=false:=Qd
  rw [List.take_length]
  simp only [↓R1,RR,seval,q1]
  skip
  refine ak ?_ P8 (St.fg (St.aB (St.aB (St.le_refl _) h2) h3) hτ)
  simp only [an,RR,seval]
  simp only [cRI,mkR,List.length_map]
  exact gJ (.cons (ae _) (.cons (cw _ _ _) .nil))
set_option maxHeartbeats 2000000 in
theorem p56 (l:List (List UInt8)) (hl:l.length≤1000) (ht:∀ t∈l,t.length≤1000000):Pu Tryz.prog 56 [.sl false l.length (l.map AV.str)] (.agg (cRI (mkR l))):=by
 have q1:True:=trivial
 have hw:True:=trivial
 have hd:True:=trivial
 (refine al c56 b56 fun σ=>?_;simp only [c56,↓R1,RR,seval])
 rw [ah];intro b2 h2;simp only [↓R1,RR,seval]
 rw [ah];intro b3 h3;rw [St.bq] at h3;obtain ⟨⟨_,_⟩,h3⟩:=h3;simp only [↓R1,RR,seval]
 refine mE l.length 3 1 109 3 (β:=b3) rfl (by simp only [RR,seval];rfl) rfl
  (fun τ k=> [(2, .ptr b2 0),(3, .ptr b3 0),(0, .sl false l.length (l.map AV.str)),(4, .int .i64 (k:Nat))])
  (fun τ k=>((σ.aa b2 [.int .i64 0, .nils]).aa b3 [.int .i64 0, .tsl τ k (((l.take k).map mkW).flatMap cWI)]).ai τ (109,3,k)) (fun _=>True) trivial (fun τ=>by simp [aq,slot,ae]) (fun τ _=>by simp only [List.set_cons_succ,List.set_cons_zero,List.take_zero,List.map_nil,List.flatMap_nil,RR,seval];exact St.le_refl _) (fun τ hτ k hk _=>?_)
 by_cases hlt:k<l.length
 ·have q1:decide ((k:Int)<(l.length:Int))=true:=by rw [decide_eq_true_eq];omega
  have hd:=kW l hlt
  have hw:IntKind.i64.wrap ((k:Int)+1)=((k+1:Nat):Int):=P9
  have hp:=Kx l[k] (ht _ (List.getElem_mem hlt))
  have hcl:(((l.take k).map mkW).flatMap cWI).length=k*3:=by rw [bm];simp;omega
  have hs:=xw l hlt
  simp only [↓R1,RR,seval,q1,hd]
  repeat' (first|(with_reducible refine And.intro ?_ ?_;focus (intros;(repeat' (with_reducible apply And.intro))<;>first|omega|(simp only [RZ];omega)))|(with_reducible apply And.intro)|((first|((first|(refine bI (.inr rfl) rfl ?_ ?_ ?_ ?_ ?_ ?_;(first|rfl|exact St.bn _ _ _|(simp only [↓R1,RR,seval,q1,hw,hd]));(first|omega|(simp only [RZ,bm,bo,List.length_nil,List.length_cons];omega)|(simp only [RZ,bm,bo,List.length_nil,List.length_cons]));(first|rfl|first|omega|(simp only [RZ,bm,bo,List.length_nil,List.length_cons];omega)|(simp only [RZ,bm,bo,List.length_nil,List.length_cons])))|(refine br rfl ?_ ?_ ?_ ?_ ?_ ?_;(first|rfl|exact St.bn _ _ _|(simp only [↓R1,RR,seval,q1,hw,hd]));(first|omega|(simp only [RZ,bm,bo,List.length_nil,List.length_cons];omega)|(simp only [RZ,bm,bo,List.length_nil,List.length_cons]));(first|rfl|first|omega|(simp only [RZ,bm,bo,List.length_nil,List.length_cons];omega)|(simp only [RZ,bm,bo,List.length_nil,List.length_cons])))|(refine appV_own ?_ ?_ ?_ ?_;exact a8 QB _)|(refine appD_own ?_ ?_ ?_ ?_ ?_;omega;exact a8 QB _)|(refine appV_fresh rfl trivial rfl ?_ ?_ ?_ ?_ ?_;(first|rfl|first|omega|(simp only [RZ,bm,bo,List.length_nil,List.length_cons];omega)|(simp only [RZ,bm,bo,List.length_nil,List.length_cons]));(first|rfl|first|omega|(simp only [RZ,bm,bo,List.length_nil,List.length_cons];omega)|(simp only [RZ,bm,bo,List.length_nil,List.length_cons])))|(refine appD_fresh rfl trivial rfl ?_ ?_ ?_ ?_ ?_ ?_;omega;(first|rfl|first|omega|(simp only [RZ,bm,bo,List.length_nil,List.length_cons];omega)|(simp only [RZ,bm,bo,List.length_nil,List.length_cons]));(first|rfl|first|omega|(simp only [RZ,bm,bo,List.length_nil,List.length_cons];omega)|(simp only [RZ,bm,bo,List.length_nil,List.length_cons]))));(unfold maxLen;omega);omega)|(refine Ct (hp) ?_))<;>(try simp only [↓R1,RR,seval,hw,hd])))
  all_goals first|(simp only [List.length_map];omega)|skip
  ·simp [aq,slot,ae]
  ·rw [hs];exact St.le_refl _
 ·have hke:k=l.length:=by omega
  subst hke
  have q1:decide ((l.length:Int)<(l.length:Int))=false:=Qd
  rw [List.take_length]
  simp only [↓R1,RR,seval,q1]
  skip
  refine ak ?_ P8 (St.fg (St.aB (St.aB (St.le_refl _) h2) h3) hτ)
  simp only [an,RR,seval]
  simp only [cRI,mkR,List.length_map]
  exact gJ (.cons (ae _) (.cons (cw _ _ _) .nil))
def cWd (w:Wd):List AV:= [.bool w.q, .str w.t, .int .i64 (w.a:Nat)]
theorem aI (l:List Wd):(l.flatMap cWd).length=l.length*3:=a8 (f:=cWd) (fun _=>rfl) l
def lV (τ:Nat):List Wd→AV
 | []=> .nils
 | p=> .tsl τ p.length (p.flatMap cWd)
def lT (σ:St) (τ:Nat):List Wd→St
 | []=>σ
 | p=>σ.ai τ (109,3,p.length)
theorem og (σ:St) (τ:Nat) (p:List Wd):(lT σ τ p).box=σ.box:=by cases p<;>rfl
theorem oh (σ:St) (τ:Nat) (p:List Wd) (u:Nat) (c:List AV):(lT σ τ p).aa u c=lT (σ.aa u c) τ p:=by cases p<;>rfl
theorem KD {P:Program} {Y:St} {K:AV→St→Prop} {τ:Nat} {pre:List Wd} {w:Wd} {h:Hold (lT Y τ pre,K)} (hl:pre.length≤1000000) (hY:pre≠ []→Y.tip τ=none)
    (hK:∀ τ',Y.tip τ'=none→K (lV τ' (pre++ [w])) (lT Y τ' (pre++ [w]))):qC true 109 3 32 (lV τ pre) (.sl true 1 (cWd w)) (lT Y τ pre) K h:=by
  cases pre with
  | nil =>
    refine nM (n:=0) (cs:= []) rfl trivial rfl rfl rfl ?_ ?_ (fun τ' hτ'=>?_)
    · unfold maxLen;decide
    · decide
    · exact hK τ' hτ'
  | cons x p =>
    have h1:=aI (x::p)
    simp only [List.length_cons] at hl h1
    refine br rfl ?_ ?_ rfl ?_ ?_ ?_
    · simp [lT,St.ai,upd]
    · simpa using h1
    · unfold maxLen;simp;omega
    · simp;omega
    · have:=hK τ (hY Qd)
      have e1:(x::p).flatMap cWd++cWd w=((x::p)++ [w]).flatMap cWd:=Qd
      have e2:lT (lT Y τ (x::p)) τ ((x::p)++ [w])=lT Y τ ((x::p)++ [w]):=St.fp _ _ _ _
      have e3:(x::p).length+1=((x::p)++ [w]).length:=Qd
      rw [e1,e3]
      rw [←e2] at this
      exact this
theorem MP {s s':St} (h:St.le s s') (τ:Nat) (p:List Wd):St.le (lT s τ p) (lT s' τ p):=by
 cases p with
 | nil=>exact h
 | cons x p=>exact St.gU h
def vT (σ:St) (o:Except Nat (List Wd)) (r:AV) (s:St):Prop :=
 match o with
 | .error b=>r= .tup [.nils, .int .i64 (b:Nat), .bool false]∧s=σ
 | .ok ws=>∃ τ,(ws≠ []→σ.tip τ=none)∧r= .tup [lV τ ws, .int .i64 0, .bool true]∧s=lT σ τ ws
theorem _root_.Re {p:Prop} (h:p:=by (simp only [an,RR,Nat.reduceEqDiff])):p:=h
set_option maxHeartbeats 4000000 in
theorem rj (σ:St) (l:List UInt8) (hl:l.length≤1000000):AC Tryz.prog 149 [.str l] σ (vT σ (cK l)):=by
  have hc1:True:=trivial
  have q1:True:=trivial
  have q3:True:=trivial
  (refine bg I9 NL ?_;simp only [I9,↓R1,RR,Nat.reduceEqDiff,Nat.reduceAdd,Nat.reduceLeDiff,reduceCtorEq])
  repeat' ((with_reducible intro β hβ;(try simp only [RB] at hβ);(repeat (obtain ⟨⟨_,_⟩,hβ⟩:=hβ));(try (have hbis:=aj Qa hβ;obtain ⟨_,_⟩:=hbis)))<;>(try simp only [↓R1,RR,Nat.reduceEqDiff,Nat.reduceAdd,Nat.reduceLeDiff,Nat.reduceLT,reduceCtorEq,p8,hc1,q1,q3]))
  refine (AC.wk (DF (k:=0) (l:=l) (by simp only [RR];rfl) (Nat.zero_le _) hl) (ad _)).mono ?_
  rintro _ _ ⟨rfl,rfl⟩
  rw [List.drop_zero]
  simp only [↓R1,RR]
  revert hβ
  revert β
  intro u hu
  have hz:posOf l (l.dropWhile aH)≤l.length:=by simp [posOf]
  have hz2:l.drop (posOf l (l.dropWhile aH))=l.dropWhile aH:=(jj (List.dropWhile_suffix _)).1
  refine ca (α:=Nat × Nat × List Wd) (fun z=> [(2,lV z.2.1 z.2.2),(5, .ptr u 0)]) (fun z=>lT (σ.aa u [.str l, .int .i64 (z.1:Nat)]) z.2.1 z.2.2)
    (fun z=>z.1≤l.length∧(z.2.2≠ []→σ.tip z.2.1=none)∧z.2.2.length≤z.1∧(l.drop z.1).dropWhile aH=l.drop z.1∧cK l=jf z.2.2 (bQ (l.drop z.1) z.1)) (fun z=>l.length - z.1) (posOf l (l.dropWhile aH),0,[])
    (by simp [aq,slot,ae,lV]) (by simp only [RR];exact St.le_refl _) ⟨hz,(fun h=>absurd rfl h),Nat.zero_le _,(by rw [hz2,fZ]),(by rw [sZ,hz2,cK,gz,Nat.zero_add];rfl)⟩ ?_
  rintro ⟨i,τ,pre⟩ ⟨hi,hτ,hlen,hdw,hI⟩
  simp only at hi hτ hlen hdw hI
  have hbS:∀ (i:Nat) τ pre,(lT (σ.aa u [.str l, .int .i64 i]) τ pre).box u=some [.str l, .int .i64 i]:=fun i τ pre=>by rw [og];simp only [RR]
  have hset:∀ (i j:Nat) τ pre,(lT (σ.aa u [.str l, .int .i64 i]) τ pre).aa u [.str l, .int .i64 j]=lT (σ.aa u [.str l, .int .i64 j]) τ pre:=fun i j τ pre=>by rw [oh];simp only [RR]
  have fin:∀ (i:Nat),cK l= .ok pre→vT σ (cK l) (.tup [lV τ pre, .int .i64 0, .bool true]) (lT σ τ pre):=fun i h=>by rw [h];exact ⟨τ,hτ,rfl,rfl⟩
  have hle:∀ (i:Nat),St.le (lT σ τ pre) (lT (σ.aa u [.str l, .int .i64 i]) τ pre):=fun i=>by
    rw [←oh];exact St.aB (St.le_refl _) (by rw [og];exact hu)
  have hle0:∀ (i:Nat),St.le σ (lT (σ.aa u [.str l, .int .i64 i]) τ pre):=fun i=>by
    have h1:St.le σ (σ.aa u [.str l, .int .i64 i]):=St.aB (St.le_refl _) hu
    cases pre with
    | nil=>exact h1
    | cons x p=>exact St.fg h1 (hτ Qd)
  simp only [↓R1,RR,Nat.reduceEqDiff]
  have a1:=ej (hbS i τ pre)
  have q3:=hbS i τ pre
  rcases fl l i hi with ⟨hd,he⟩|⟨c,r,hd,hlt⟩
  · have hc1:decide ((i:Int)<(l.length:Int))=false:=by simp;omega
    have hok:cK l= .ok pre:=by rw [hI,hd,cU];simp [jf]
    repeat' (((refine AC.mono (AC.wk (a1) (ad _)) ?_;(rintro _ _ ⟨rfl,rfl⟩)))<;>(try simp only [↓R1,RR,Nat.reduceEqDiff,reduceCtorEq,hc1]))
    exact aN Qd Qp (ag Re) (hle i) (fin i hok)
  · have hc1:decide ((i:Int)<(l.length:Int))=true:=by simpa using hlt
    have a2:=fk (hbS i τ pre) hd
    rw [cU,hdw,hd] at hI
    simp only at hI
    by_cases h35:c=35
    · have q1:((c.toNat:Int) != 35)=false:=by rw [bne,p8];simpa using h35
      have hok:cK l= .ok pre:=by rw [hI,if_pos h35];simp [jf]
      repeat' ((first|((refine AC.mono (AC.wk (a1) (ad _)) ?_;(rintro _ _ ⟨rfl,rfl⟩)))|((refine AC.mono (AC.wk (a2) (ad _)) ?_;(rintro _ _ ⟨rfl,rfl⟩))))<;>(try simp only [↓R1,RR,Nat.reduceEqDiff,reduceCtorEq,hc1,q1]))
      exact aN Qd Qp (ag Re) (hle i) (fin i hok)
    · have q1:((c.toNat:Int) != 35)=true:=by rw [bne,p8];simpa using h35
      rw [if_neg h35] at hI
      have hlr:(l.drop i).length - (c::r).length=0:=by rw [hd];omega
      have a3:=Ky (hbS i τ pre) hd hl
      cases hw0:cD (c::r) with
      | none =>
        rw [hw0] at a3 hI
        repeat' ((first|((refine AC.mono (AC.wk (a1) (ad _)) ?_;(rintro _ _ ⟨rfl,rfl⟩)))|((refine AC.mono (AC.wk (a2) (ad _)) ?_;(rintro _ _ ⟨rfl,rfl⟩))))<;>(try simp only [↓R1,RR,Nat.reduceEqDiff,Nat.reduceAdd,Nat.reduceLT,reduceCtorEq,hc1,q1,q3]))
        refine (AC.wk a3 (ad _)).mono ?_
        rintro _ _ ⟨p,j,rfl,rfl⟩
        rw [hset]
        simp only [wdV,↓R1,RR,Nat.reduceEqDiff,Nat.reduceAdd,Nat.reduceLT]
        repeat' (first|(with_reducible rw [ah])|((with_reducible intro β hβ;(try simp only [RB] at hβ);(repeat (obtain ⟨⟨_,_⟩,hβ⟩:=hβ));(try (have hbis:=aj Qa hβ;obtain ⟨_,_⟩:=hbis)))<;>(try simp only [↓R1,RR,Nat.reduceEqDiff,Nat.reduceAdd,Nat.reduceLeDiff])))
        rw [og,St.bq] at hβ
        obtain ⟨⟨_,_⟩,hβ⟩:=hβ
        refine aN (r:= .tup [.nils, .int .i64 (i:Nat), .bool false]) Qd Qp (ag Re) (St.aD (hle0 j) Qa) ?_
        rw [hI]
        simp only [jf,vT,Nat.sub_self,Nat.add_zero,true_and]
      | some q =>
        obtain ⟨q,t,m⟩:=q
        rw [hw0] at a3 hI
        obtain ⟨hdm,hml⟩:=jj ((lR hw0).trans (by rw [←hd];exact kT l i))
        have hmlen:=dW hw0
        have hpm:posOf l m=l.length - m.length:=rfl
        have hcl:(c::r).length=l.length - i:=by rw [←hd];simp
        repeat' ((first|((refine AC.mono (AC.wk (a1) (ad _)) ?_;(rintro _ _ ⟨rfl,rfl⟩)))|((refine AC.mono (AC.wk (a2) (ad _)) ?_;(rintro _ _ ⟨rfl,rfl⟩))))<;>(try simp only [↓R1,RR,Nat.reduceEqDiff,Nat.reduceAdd,Nat.reduceLT,reduceCtorEq,hc1,q1,q3]))
        refine (AC.wk a3 (ad _)).mono ?_
        rintro _ _ ⟨rfl,rfl⟩
        rw [hset]
        simp only [wdV,↓R1,RR,Nat.reduceEqDiff,Nat.reduceAdd,Nat.reduceLT]
        repeat' (first|(with_reducible rw [ah])|((with_reducible intro β hβ;(try simp only [RB] at hβ);(repeat (obtain ⟨⟨_,_⟩,hβ⟩:=hβ));(try (have hbis:=aj Qa hβ;obtain ⟨_,_⟩:=hbis)))<;>(try simp only [↓R1,RR,Nat.reduceEqDiff,Nat.reduceAdd,Nat.reduceLeDiff])))
        rw [og,St.bq] at hβ
        obtain ⟨⟨_,_⟩,hβ⟩:=hβ
        rw [oh,oh]
        refine KD (P:=Tryz.prog) (w:=⟨q,t,i⟩) P6 hτ (fun τ' hτ'=>?_)
        simp only [↓R1,RR,Nat.reduceEqDiff]
        have hbu:∀ p,(lT (((σ.aa u [.str l, .int .i64 (posOf l m:Nat)]).aa β [.bool false, .str [], .int .i64 0]).aa β [.bool q, .str t, .int .i64 (i:Nat)]) τ' p).box u=some [.str l, .int .i64 (posOf l m:Nat)]:=fun p=>by
          rw [og];simp only [RR]
        refine (AC.wk (DF (hbu _) hml hl) (ad _)).mono ?_
        rintro _ _ ⟨rfl,rfl⟩
        rw [hdm,oh]
        simp only [↓R1,RR]
        have hsuf:m.dropWhile aH <:+ l:=(List.dropWhile_suffix _).trans ((lR hw0).trans (by rw [←hd];exact kT l i))
        obtain ⟨hd4,hl4⟩:=jj hsuf
        have hp4:posOf l (m.dropWhile aH)=l.length - (m.dropWhile aH).length:=rfl
        have hl5:=cn aH m
        refine ⟨(posOf l (m.dropWhile aH),τ',pre++ [⟨q,t,i⟩]),⟨hl4,fun _=>hτ',?_,?_,?_⟩,by simp [aq,slot,ae],MP (St.aB (St.le_refl _) (by rw [St.bq];exact ⟨⟨by assumption,by assumption⟩,hβ⟩)) _ _,?_⟩
        · simp only [List.length_append,List.length_cons,List.length_nil];omega
        · rw [hd4,fZ]
        · rw [hI,hd4]
          simp only
          rw [zM,CY,gz m]
          rw [show i+((c::r).length - m.length)+(m.length - (m.dropWhile aH).length)=posOf l (m.dropWhile aH) by omega]
          simp only [Nat.sub_self,Nat.add_zero]
        · simp only;omega
theorem Pq (s:List UInt8) (c:UInt8):Pu Tryz.prog 244 [.str s, .str [c]] (.int .i64 (Lib.indexByte s c)):=by
 intro σ
 refine AC.gV (Go.Proofs.enters_of Tryz.func244 P7 rfl) ?_
 intro g w vs hI hv
 obtain ⟨v1,vs,rfl,r1,hv⟩:=hv.cons_inv
 obtain ⟨v2,vs,rfl,r2,hv⟩:=hv.cons_inv
 rw [hv.cG,r1.dI,r2.dI]
 refine (Tryz.strings_Index_one ⟨s.toArray⟩ c w).mono ?_
 rintro e w' ⟨rfl,rfl⟩
 exact ⟨_,rfl,Go.RowKit.Below.refl _ _,fun g' _=> .int _ _⟩
theorem GR (σ:St) (l:List UInt8):AC Tryz.prog 147 [.str l, .str [10]] σ (fun r s=>∃ β0 β1 β2,σ.box β0=none∧σ.box β1=none∧σ.box β2=none∧(Apart β1 β0∧Apart β0 β1)∧(Apart β2 β0∧Apart β0 β2)∧(Apart β2 β1∧Apart β1 β2) ∧
  r= .fn 242 [.ptr β1 0, .ptr β0 0, .ptr β2 0]∧s=((σ.aa β0 [.str l]).aa β1 [.str [10]]).aa β2 [.int .i64 1]):=by
 have h:∀ σ:St,AC Tryz.prog 196 [.str l, .str [10], .int .i64 1] σ (fun r s=>∃ β0 β1 β2,σ.box β0=none∧σ.box β1=none∧σ.box β2=none∧(Apart β1 β0∧Apart β0 β1)∧(Apart β2 β0∧Apart β0 β2)∧(Apart β2 β1∧Apart β1 β2) ∧
   r= .fn 242 [.ptr β1 0, .ptr β0 0, .ptr β2 0]∧s=((σ.aa β0 [.str l]).aa β1 [.str [10]]).aa β2 [.int .i64 1]):=fun σ=>by
  (refine bg Jn NZ ?_;simp only [Jn,↓R1,RR,seval])
  intro β0 h0 β1 h1 β2 h2
  simp only [St.bq] at h1 h2
  refine cb ?_
  exact ⟨β0,β1,β2,h0,h1.2,h2.2.2,h1.1,h2.2.1,h2.1,rfl,rfl⟩
 (refine bg I7 NJ ?_;simp only [I7,↓R1,RR,seval])
 refine (AC.wk (h σ) (ad _)).mono ?_
 rintro _ _ ⟨β0,β1,β2,h0,h1,h2,h3,h4,h5,rfl,rfl⟩
 simp only [↓R1,RR,seval]
 refine cb ?_
 exact ⟨β0,β1,β2,h0,h1,h2,h3,h4,h5,rfl,rfl⟩
theorem kX {l:List UInt8} (h:bW l= []):cut l=(l,none):=by simp only [cut,h]
theorem kY {l r:List UInt8} {c:UInt8} (h:bW l=c::r):cut l=(aQ l++ [10],some r)∧l.take ((aQ l).length+1)=aQ l++ [10]∧l.drop ((aQ l).length+1)=r∧(aQ l).length+1≤l.length:=by
 have h1:=fi l
 rw [h] at h1
 have hc:=vE h
 subst hc
 have h2:l=(aQ l++ [10])++r:=by rw [List.append_assoc];exact h1.symm
 have hn:(aQ l++ [10]).length=(aQ l).length+1:=Qd
 refine ⟨by simp only [cut,h],?_,?_,?_⟩
 ·exact (congrArg (List.take _) h2).trans (List.take_left' hn)
 ·exact (congrArg (List.drop _) h2).trans (List.drop_left' hn)
 ·have:=congrArg List.length h2
  rw [List.length_append,hn] at this;omega
set_option maxHeartbeats 2000000 in
theorem DK {γ:Type} {prs:List Nat} {asg body:CC} {fr:Fr} {Q:Exit→Fr→St→Prop} {β0 β1 β2:Nat} (T:γ→List UInt8→St) (I:γ→List UInt8→Prop) (J:γ→Prop) (hps:prs.length=1) (g0:γ) (l0:List UInt8) (h0:I g0 l0)
    (hb0:∀ g r,(T g r).box β0=some [.str r]) (hb1:∀ g r,(T g r).box β1=some [.str [10]]) (hb2:∀ g r,(T g r).box β2=some [.int .i64 1])
    (hs:∀ g r r',(T g r).aa β0 [.str r']=T g r') (hl:∀ g r L,(T g r).lp L=(T g0 l0).lp L) (hlen:∀ g r,I g r→r.length≤1000000)
    (hround:∀ L (r:Loop) g rest,(T g0 l0).lp L=none→I g rest→aC Tryz.prog asg (jL prs [.str (cut rest).1] fr) ((T g rest).au L (r,fr)) (fun e fr1 σ2=>e= .normal∧σ2.lp L=some (.loop r,fr)∧aC Tryz.prog body fr1 (σ2.au L (busy r,fr)) (fun e _ σ3=>σ3.lp L=some (.loop (busy r),fr)∧match e with
        | .normal=>∃ g',St.le ((T g' rest).au L (r,fr)) (σ3.au L (r,fr))∧(match (cut rest).2 with|none=>J g'|some r'=>I g' r')
        | .ret=>Q .ret fr ((σ3.au L (left r .ret,fr)).dropLp L)
        | _=>False)))
    (hend:∀ g r,J g→Q .normal fr (T g r)):RF Tryz.prog 242 [.ptr β1 0, .ptr β0 0, .ptr β2 0] prs asg body fr (T g0 l0) Q:=by
  refine ⟨by kernel_rfl,fun L r hL hr1 hr2 hY=>?_⟩
  have hY':∀ g rest,I g rest→YC Tryz.prog L [.str (cut rest).1] ((T g rest).au L (r,fr)) (fun v s'=>(v= .bool true∧∃ g',(match (cut rest).2 with|none=>J g'|some r'=>I g' r')∧s'=(T g' rest).au L (r,fr))∨(v= .bool false∧s'.lp L=some (.loop (left r .ret),fr)∧Q .ret fr (s'.dropLp L))):=fun g rest hI=>by
    refine YC.weaken (hY [.str (cut rest).1] ((T g rest).au L (r,fr)) (fun v s=>(v= .bool true∧∃ g',St.le ((T g' rest).au L (r,fr)) s∧(match (cut rest).2 with|none=>J g'|some r'=>I g' r'))∨(v= .bool false∧s.lp L=some (.loop (left r .ret),fr)∧Q .ret fr (s.dropLp L))) (by simpa using hps.symm) (St.bf _ _ _) ?_) ?_
    · refine cR _ _ _ (hround L r g rest hL hI) (fun e fr1 σ2 h=>?_)
      obtain ⟨h1,h2,h3⟩:=h
      refine ⟨h1,h2,cR _ _ _ h3 (fun e2 fr2 σ3 h4=>?_)⟩
      obtain ⟨h5,h6⟩:=h4
      refine ⟨h5,?_⟩
      cases e2 with
      | normal=>obtain ⟨g',k1,k2⟩:=h6;exact .inl ⟨rfl,g',k1,k2⟩
      | ret=>exact .inr ⟨rfl,St.bf _ _ _,h6⟩
      | _=>exact h6.elim
    · rintro v s (⟨rfl,g',k1,k2⟩|⟨rfl,k1,k2⟩)
      · exact ⟨_,_,ae _,k1, .inl ⟨rfl,g',k2,rfl⟩⟩
      · exact ⟨_,_,ae _,St.le_refl _, .inr ⟨rfl,k1,k2⟩⟩
  have hb0':∀ g rest,((T g rest).au L (r,fr)).box β0=some [.str rest]:=fun g rest=>hb0 g rest
  have hb1':∀ g rest,((T g rest).au L (r,fr)).box β1=some [.str [10]]:=fun g rest=>hb1 g rest
  have hb2':∀ g rest,((T g rest).au L (r,fr)).box β2=some [.int .i64 1]:=fun g rest=>hb2 g rest
  have hs':∀ g rest r',((T g rest).au L (r,fr)).aa β0 [.str r']=(T g r').au L (r,fr):=fun g rest r'=>by rw [←St.eU,hs]
  have q1:(((1:Nat):Int) == 0)=false:=rfl
  have q2:True:=trivial
  have q3:True:=trivial
  have q4:True:=trivial
  have q5:True:=trivial
  have q6:True:=trivial
  refine bg JA Ob ?_
  simp only [JA,List.length_cons,List.length_nil,Nat.zero_add,↓R1,RR,seval,hb1']
  refine ca (α:=γ × List UInt8) (fun _=> [(0, .yld L),(1, .ptr β1 0),(2, .ptr β0 0),(3, .ptr β2 0)]) (fun z=>(T z.1 z.2).au L (r,fr)) (fun z=>I z.1 z.2) (fun z=>z.2.length) (g0,l0) Qi (St.le_refl _) h0 ?_
  rintro ⟨g,rest⟩ hI
  simp only at hI
  have hn:=hlen g rest hI
  have hy:=hY' g rest hI
  have hix:=Pq rest 10
  simp only [↓R1,RR,seval,hb0',hb1']
  rw [vF] at hix
  cases ha:bW rest with
  | nil =>
    rw [ha] at hix
    rw [kX ha] at hy
    simp only at hix
    have q2:decide ((-1:Int)<0)=true:=rfl
    repeat' ((refine Pt (hix) ?_)<;>(try simp only [↓R1,RR,seval,hb0']))
    refine YC.mono hy ?_
    rintro v s' (⟨rfl,g',hJ,rfl⟩|⟨rfl,h1,h2⟩)
    · simp only [↓R1,RR,seval]
      refine cb (.inl ⟨St.bf _ _ _,?_⟩) QP
      rw [St.drop_set (by rw [hl,hL])]
      exact hend g' rest hJ
    · simp only [↓R1,RR,seval]
      exact cb (.inr (.inl ⟨h1,h2⟩)) QP
  | cons c r' =>
    rw [ha] at hix
    simp only at hix
    obtain ⟨k1,k2,k3,k4⟩:=kY ha
    rw [k1] at hy
    have q2:decide (((aQ rest).length:Int)<0)=false:=Qd
    have q3:IntKind.i64.wrap (((aQ rest).length:Int)+1)=(((aQ rest).length+1:Nat):Int):=P9
    have q6:IntKind.i64.wrap (((aQ rest).length:Int)+((1:Nat):Int))=(((aQ rest).length+1:Nat):Int):=q3
    have q4:=k2
    have q5:=List.take_of_length_le (l:=rest.drop ((aQ rest).length+1)) (i:=rest.length - ((aQ rest).length+1)) Qd
    repeat' (first|(with_reducible refine And.intro ?_ ?_;exact af)|((refine Pt (hix) ?_)<;>(try simp only [↓R1,RR,seval,hb0',hb2',q2,q3,q4])))
    all_goals first|omega|skip
    refine YC.mono hy ?_
    rintro v s' (⟨rfl,g',hJ,rfl⟩|⟨rfl,h1,h2⟩)
    · simp only [↓R1,RR,seval,hb0',hb1',q3,q5]
      repeat' (with_reducible refine And.intro ?_ ?_;exact af)
      all_goals first|omega|skip
      rw [hs',k3]
      refine ⟨(g',r'),hJ,by simp [aq,slot,ae],St.le_refl _,?_⟩
      have:=congrArg List.length k3
      simp only [List.length_drop] at this
      simp only;omega
    · simp only [↓R1,RR,seval]
      exact cb (.inr (.inl ⟨h1,h2⟩)) QP
def kZ (l:List UInt8):List UInt8:=if 1≤l.length∧l.drop (l.length - 1)= [10] then l.take (l.length - 1) else l
theorem Pr (l:List UInt8) (hl:l.length≤1000000):Pu Tryz.prog 245 [.str l, .str [10]] (.bool (decide (1≤l.length∧l.drop (l.length - 1)= [10]))):=by
 have q1:True:=trivial
 have hw:True:=trivial
 by_cases h:1≤l.length
 ·have q1:decide ((((1:Nat):Int))≤(l.length:Int))=true:=by simp;omega
  have hw:IntKind.i64.wrap ((l.length:Int) - ((1:Nat):Int))=((l.length - 1:Nat):Int):=P9
  (refine al C0 Mk fun σ=>?_;simp only [C0,↓R1,RR,Nat.reduceEqDiff,reduceCtorEq,hw,q1])
  repeat' (with_reducible refine And.intro ?_ ?_;focus (intros;(repeat' (with_reducible apply And.intro))<;>first|omega|(simp only [RZ,aI];omega)))
  all_goals first|omega|skip
  (refine ak (ag ?_))
  (simp only [an,RR,Nat.reduceEqDiff,reduceCtorEq])
  have e:(l.drop (l.length - 1)).take (l.length - (l.length - 1))=l.drop (l.length - 1):=List.take_of_length_le Qd
  rw [e]
  by_cases h2:l.drop (l.length - 1)= [10]<;>simp [h,h2]
 ·have q1:decide ((((1:Nat):Int))≤(l.length:Int))=false:=by simp;omega
  (refine al C0 Mk fun σ=>?_;simp only [C0,↓R1,RR,Nat.reduceEqDiff,reduceCtorEq,q1])
  skip
  (refine ak (ag ?_))
  (simp only [an,RR,Nat.reduceEqDiff,reduceCtorEq])
  simp [h]
theorem Ps (l:List UInt8) (hl:l.length≤1000000):Pu Tryz.prog 197 [.str l, .str [10]] (.str (kZ l)):=by
 have hw:True:=trivial
 have hp:=Pr l hl
 by_cases h:1≤l.length∧l.drop (l.length - 1)= [10]
 ·have hw:IntKind.i64.wrap ((l.length:Int) - ((1:Nat):Int))=((l.length - 1:Nat):Int):=by rw [wrap64 P6 P6];omega
  rw [decide_eq_true h] at hp
  (refine al CZ Mj fun σ=>?_;simp only [CZ,↓R1,RR,Nat.reduceEqDiff,reduceCtorEq])
  repeat' (first|(with_reducible refine And.intro ?_ ?_;focus (intros;(repeat' (with_reducible apply And.intro))<;>first|omega|(simp only [RZ,aI];omega)))|((refine Pt (hp) ?_)<;>(try simp only [↓R1,RR,Nat.reduceEqDiff,reduceCtorEq,hw])))
  skip
  all_goals first|omega|skip
  (refine ak (ag ?_))
  (simp only [an,RR,Nat.reduceEqDiff,reduceCtorEq])
  simp [kZ,h]
 ·rw [decide_eq_false h] at hp
  (refine al CZ Mj fun σ=>?_;simp only [CZ,↓R1,RR,Nat.reduceEqDiff,reduceCtorEq])
  repeat' ((refine Pt (hp) ?_)<;>(try simp only [↓R1,RR,Nat.reduceEqDiff,reduceCtorEq]))
  (refine ak (ag ?_))
  (simp only [an,RR,Nat.reduceEqDiff,reduceCtorEq])
  simp [kZ,h]
theorem Pv (l:List UInt8) (hl:l.length≤1000000):Pu Tryz.prog 148 [.str l, .str [10]] (.str (kZ l)):=by
 (refine al I8 NK fun σ=>?_;simp only [I8,↓R1,RR,Nat.reduceEqDiff,reduceCtorEq])
 repeat' ((refine Pt (Ps l hl) ?_)<;>(try simp only [↓R1,RR,Nat.reduceEqDiff,reduceCtorEq]))
 (refine ak (ag ?_))
 (simp only [an,RR,Nat.reduceEqDiff,reduceCtorEq])
theorem zV (x:List UInt8):kZ (x++ [10])=x:=by
 have h1:(x++ [10]:List UInt8).length - 1=x.length:=Qd
 unfold kZ
 rw [h1,List.drop_left,if_pos ⟨by simp,rfl⟩,List.take_left]
theorem zW {l:List UInt8} (h:bW l= []):kZ l=l:=by
  unfold kZ
  rw [if_neg]
  rintro ⟨h1,h2⟩
  have hl:=fi l
  rw [h,List.append_nil] at hl
  have hm:(10:UInt8)∈aQ l:=by
    rw [hl]
    exact List.mem_of_mem_drop (i:=l.length - 1) (by rw [h2];simp)
  have:∀ m:List UInt8,(10:UInt8)∈aQ m→False:=by
    intro m
    induction m with
    | nil=>intro h;simp [aQ] at h
    | cons c m ih =>
      intro h
      simp only [aQ,List.takeWhile_cons] at h
      split at h
      · rename_i hc
        rcases List.mem_cons.1 h with e|h
        · subst e;simp at hc
        · exact ih h
      · simp at h
  exact this l hm
def cRw (r:Rw):List AV:= [.int .i64 (r.a:Nat), .sl false r.ws.length (r.ws.flatMap cWd)]
theorem bw (l:List Rw):(l.flatMap cRw).length=l.length*2:=a8 (f:=cRw) (fun _=>rfl) l
def dP (e a:Nat):AV:= .agg [.int .i64 (e:Nat), .int .i64 (a:Nat)]
def fC:Except (Nat × Nat) (List Rw)→AV
 | .error (e,a)=> .tup [.sl false 0 [],dP e a]
 | .ok rs=> .tup [.sl false rs.length (rs.flatMap cRw),dP 0 0]
theorem nf (σ:St) {β γ:Nat} [h:Apart γ β] (a b:List AV):(σ.aa β a).aa γ b=(σ.aa γ b).aa β a:=by
 simp only [St.aa,St.mk.injEq,and_true]
 funext j
 simp only [upd]
 by_cases h1:j=γ
 ·subst h1;rw [if_pos rfl,if_neg h.ne,if_pos rfl]
 ·rw [if_neg h1,if_neg h1]
theorem zX (σ:St) {β γ δ ε ζ:Nat} [Apart β γ] [Apart β δ] [Apart β ε] [Apart β ζ] (a b d e f c:List AV):(((((σ.aa β a).aa γ b).aa δ d).aa ε e).aa ζ f).aa β c=((((σ.aa β c).aa γ b).aa δ d).aa ε e).aa ζ f:=by
 rw [nf _ (β:=ζ) (γ:=β),nf _ (β:=ε) (γ:=β),nf _ (β:=δ) (γ:=β),nf _ (β:=γ) (γ:=β),St.set_set]
structure RG where
 a:Nat
 rs:List Rw
def TR (σ:St) (b2 b3 b4 b5 β0 β1 β2 τ:Nat) (g:RG) (rest:List UInt8):St :=
 (((((((((σ.aa b2 [AV.nils]).aa b3 [AV.int IntKind.i64 0,AV.int IntKind.i64 0]).aa b4 [AV.nils]).aa b5 [AV.int IntKind.i64 (g.a:Nat)]).aa β0 [AV.str rest]).aa β1 [AV.str [10]]).aa β2 [AV.int IntKind.i64 1]).aa b4 [AV.tsl τ g.rs.length (g.rs.flatMap cRw)]).ai τ (80,2,g.rs.length))
theorem tO {x:List UInt8} {a b:Nat} (h:¬ 1000<x.length) (hw:cK x= .error b):bV x a= .error (3,a+b):=by
 simp only [bV,if_neg h,hw]
theorem tP {x:List UInt8} {a:Nat} (h:¬ 1000<x.length) (hw:cK x= .ok []):bV x a= .ok []:=by
 simp only [bV,if_neg h,hw]
theorem rl {x:List UInt8} {a:Nat} {ws:List Wd} (h:¬ 1000<x.length) (hw:cK x= .ok ws) (hn:ws≠ []):bV x a= .ok [⟨a,ws.map (dx a)⟩]:=by
 cases ws with
 | nil=>exact (hn rfl).elim
 | cons w ws=>simp only [bV,if_neg h,hw]
theorem tQ (σ:St) {x:List UInt8} {ws:List Wd} (hl:x.length≤1000000) (hw:cK x= .ok ws) (hn:ws≠ []) :
  AC Tryz.prog 149 [.str x] σ (fun r s=>∃ β k,σ.box β=none∧r= .tup (.psl β 0 ws.length:: [.int .i64 0, .bool true])∧s=σ.aa β (ws.flatMap cWd++List.replicate k .junk)):=by
 refine AC.owned (e:=109) (es:=3) (enters_of Tryz.func149 P7 rfl) (by simp [gnd]) (by simp [gnd]) ?_ (by simpa using hn) ?_
 ·intro a ha
  simp only [List.mem_flatMap,cWd] at ha
  obtain ⟨w,_,hw⟩:=ha
  simp at hw
  rcases hw with rfl|rfl|rfl<;>rfl
 ·have h:=rj (s0 fun _=>none) x hl
  rw [hw] at h
  refine h.mono ?_
  rintro r s ⟨τ,_,rfl,rfl⟩
  cases ws with
  | nil=>exact (hn rfl).elim
  | cons w ws=>exact ⟨τ,rfl,rfl⟩
theorem oi {s s':St} {L:Nat} {x:LO × Fr} (h:St.le s s') (hn:s.lp L=none):St.le s ((s'.au L x).dropLp L):=by
 refine ⟨h.1,h.2.1,h.2.2.1,fun l r hr=>?_,h.2.2.2.2⟩
 have hne:l≠L:=by rintro rfl;rw [hn] at hr;cases hr
 simp only [St.dropLp,St.au,upd,if_neg hne]
 exact h.2.2.2.1 _ _ hr
theorem ke (l:List UInt8):lines l=aQ l::(match (cut l).2 with|none=> []|some r'=>lines r'):=by
  rw [nV]
  cases ha:bW l with
  | nil =>
    have h1:=fi l
    rw [ha,List.append_nil] at h1
    rw [kX ha,h1]
  | cons c r=>rw [(kY ha).1]
theorem DL {σ:St} {γ:Nat} {c:List AV} (h:σ.box γ=none):(σ.aa γ c).cm γ=σ:=by
 simp only [St.cm,St.aa]
 have:(fun j=>if j=γ then none else upd σ.box γ c j)=σ.box:=by
  funext j
  simp only [upd]
  split
  ·rename_i e;subst e;exact h.symm
  ·rfl
 rw [this]
def shG (a:Nat) (ws:List Wd) (k:Nat) (j:List AV):List AV:=((ws.take k).map (dx a)++ws.drop k).flatMap cWd++j
theorem DM (a:Nat) (ws:List Wd) (j:List AV):shG a ws 0 j=ws.flatMap cWd++j:=by simp [shG]
theorem GS (a:Nat) (ws:List Wd) (j:List AV):(shG a ws ws.length j).take (ws.length*3)=(ws.map (dx a)).flatMap cWd:=by
 have h:=aI (ws.map (dx a))
 simp only [shG,List.take_length,List.drop_length,List.append_nil]
 rw [List.take_append_of_le_length (by rw [h];simp)]
 rw [List.take_of_length_le (by rw [h];simp)]
theorem GU (a:Nat) (ws:List Wd) (k:Nat) (hk:k≤ws.length) (j:List AV):(shG a ws k j).length=ws.length*3+j.length:=by
 simp only [shG,List.length_append,aI,List.length_map,List.length_take,List.length_drop]
 omega
theorem KE (a:Nat) (ws:List Wd) {k:Nat} (hk:k<ws.length) (j:List AV) :
  (shG a ws k j)[k*3+2]? =some (.int .i64 (ws[k].a:Nat))∧(shG a ws k j).take (k*3+2)++ [AV.int .i64 ((ws[k].a+a:Nat):Int)]++(shG a ws k j).drop (k*3+2+1)=shG a ws (k+1) j:=by
 obtain ⟨p,hp⟩:∃ p,((ws.take k).map (dx a)).flatMap cWd=p:=⟨_,rfl⟩
 have hpl:p.length=k*3:=by rw [←hp,aI];simp;omega
 obtain ⟨s,hs⟩:∃ s,(ws.drop (k+1)).flatMap cWd++j=s:=⟨_,rfl⟩
 have e1:shG a ws k j=(p++ [AV.bool ws[k].q,AV.str ws[k].t])++(AV.int .i64 (ws[k].a:Nat)::s):=by
  rw [shG,List.drop_eq_getElem_cons hk,List.flatMap_append,hp,List.flatMap_cons,←hs]
  simp [cWd]
 have e2:shG a ws (k+1) j=(p++ [AV.bool ws[k].q,AV.str ws[k].t])++(AV.int .i64 ((ws[k].a+a:Nat):Int)::s):=by
  rw [shG,←List.take_append_getElem hk,List.map_append,List.flatMap_append,List.flatMap_append,hp,←hs]
  simp [cWd,dx]
 have hl:(p++ [AV.bool ws[k].q,AV.str ws[k].t]).length=k*3+2:=by simp [hpl]
 rw [e1,e2]
 refine ⟨?_,?_⟩
 ·rw [List.getElem?_append_right P6,hl,Nat.sub_self];rfl
 ·rw [List.take_left' hl,List.drop_append,List.drop_of_length_le P6,hl]
  simp
set_option maxHeartbeats 4000000 in
theorem p87 (l:List UInt8) (hl:l.length≤1000000):Pu Tryz.prog 87 [.str l] (fC (dE l)):=by
  have q1:True:=trivial
  have q2:True:=trivial
  have q3:True:=trivial
  have q4:True:=trivial
  have q5:True:=trivial
  have hw:True:=trivial
  have t2:True:=trivial
  have t3:True:=trivial
  have t4:True:=trivial
  have t5:True:=trivial
  have ttip:True:=trivial
  have s5:True:=trivial
  have tl:True:=trivial
  by_cases hlong:20000<l.length
  · have q1:decide ((20000:Int)<(l.length:Int))=true:=by rw [decide_eq_true_eq];omega
    have e:dE l= .error (4,20000):=by simp only [dE,if_pos hlong]
    rw [e]
    (refine al c87 b87 fun σ=>?_;simp only [c87,↓R1,RR,seval])
    repeat' (first|(with_reducible rw [ah])|((with_reducible intro β hβ;(try simp only [RB] at hβ);(repeat (obtain ⟨⟨_,_⟩,hβ⟩:=hβ));(try (have hbis:=aj Qa hβ;obtain ⟨_,_⟩:=hbis)))<;>(try simp only [↓R1,RR,seval,q1])))
    (refine ak ?_ P8)
    simp only [an,RR,seval]
    simp only [fC,dP]
    (all_goals exact dN)
  · have q1:decide ((20000:Int)<(l.length:Int))=false:=by rw [decide_eq_false_iff_not];omega
    have e:dE l=cE (lines l) 0:=by simp only [dE,if_neg hlong]
    rw [e]
    (refine al c87 b87 fun σ=>?_;simp only [c87,↓R1,RR,seval])
    rw [ah];intro b2 h2;simp only [↓R1,seval]
    rw [ah];intro b3 h3;rw [St.bq] at h3;obtain ⟨⟨_,_⟩,h3⟩:=h3;simp only [↓R1,RR,seval,q1]
    rw [ah];intro b4 h4;simp only [St.bq] at h4;obtain ⟨⟨_,_⟩,⟨_,_⟩,h4⟩:=h4;simp only [↓R1,RR,seval]
    rw [ah];intro b5 h5;simp only [St.bq] at h5;obtain ⟨⟨_,_⟩,⟨_,_⟩,⟨_,_⟩,h5⟩:=h5;simp only [↓R1,RR,seval]
    refine (AC.wk (GR _ l) (ad _)).mono ?_
    rintro _ _ ⟨β0,β1,β2,k0,k1,k2,⟨_,_⟩,⟨_,_⟩,⟨_,_⟩,rfl,rfl⟩
    simp only [St.bq] at k0 k1 k2
    obtain ⟨⟨_,_⟩,⟨_,_⟩,⟨_,_⟩,⟨_,_⟩,⟨_,_⟩,k0⟩:=k0
    obtain ⟨⟨_,_⟩,⟨_,_⟩,⟨_,_⟩,⟨_,_⟩,⟨_,_⟩,k1⟩:=k1
    obtain ⟨⟨_,_⟩,⟨_,_⟩,⟨_,_⟩,⟨_,_⟩,⟨_,_⟩,k2⟩:=k2
    simp only [↓R1,RR,seval]
    refine fz [(true,4,0,80,2)] ?_
    simp only [cH,List.set_cons_zero,RR,seval]
    intro τ hτ
    refine ⟨_,_,rfl,?_⟩
    obtain ⟨T,hT⟩:∃ T,T=TR σ b2 b3 b4 b5 β0 β1 β2 τ:=⟨_,rfl⟩
    have t0:∀ g r,(T g r).box β0=some [.str r]:=fun g r=>by subst hT;simp only [TR,RR,seval]
    have t1:∀ g r,(T g r).box β1=some [.str [10]]:=fun g r=>by subst hT;simp only [TR,RR,seval]
    have t22:∀ g r,(T g r).box β2=some [.int .i64 1]:=fun g r=>by subst hT;simp only [TR,RR,seval]
    have t2:∀ g r,(T g r).box b2=some [.nils]:=fun g r=>by subst hT;simp only [TR,RR,seval]
    have t3:∀ g r,(T g r).box b3=some [.int .i64 0, .int .i64 0]:=fun g r=>by subst hT;simp only [TR,RR,seval]
    have t4:∀ g r,(T g r).box b4=some [.tsl τ g.rs.length (g.rs.flatMap cRw)]:=fun g r=>by subst hT;simp only [TR,RR,seval]
    have t5:∀ g r,(T g r).box b5=some [.int .i64 (g.a:Nat)]:=fun g r=>by subst hT;simp only [TR,RR,seval]
    have ttip:∀ g r,(T g r).tip τ=some (80,2,g.rs.length):=fun g r=>by subst hT;simp only [TR,RR,seval]
    have s0:∀ g r r',(T g r).aa β0 [.str r']=T g r':=fun g r r'=>by subst hT;simp only [TR,RR,seval]
    have s5:∀ (g:RG) r (a':Nat) L x,((T g r).au L x).aa b5 [.int .i64 a']=(T ⟨a',g.rs⟩ r).au L x:=fun g r a' L x=>by
      subst hT;rw [←St.eU];simp only [TR,zX,RR,seval]
    have s4:∀ (g:RG) r rs' L x,(((T g r).au L x).aa b4 [.tsl τ rs'.length (rs'.flatMap cRw)]).ai τ (80,2,rs'.length)=(T ⟨g.a,rs'⟩ r).au L x:=fun g r rs' L x=>by
      subst hT;rw [←St.eU,←St.kI];simp only [TR,RR,seval]
    have tl:∀ g r,(T g r).lp=σ.lp:=fun g r=>by subst hT;rfl
    have tle:∀ g r,St.le σ (T g r):=fun g r=>by
      subst hT
      refine St.fg (St.aB (St.aB (St.aB (St.aB (St.aB (St.aB (St.aB (St.aB (St.le_refl σ) h2) h3) h4) h5) k0) k1) k2) h4) hτ
    have hst:((((((((((σ.aa b2 [AV.nils]).aa b3 [AV.int IntKind.i64 0,AV.int IntKind.i64 0]).aa b4 [AV.nils]).aa b5 [AV.int IntKind.i64 0]).aa β0 [AV.str l]).aa β1 [AV.str [10]]).aa β2 [AV.int IntKind.i64 1]).aa b4 [AV.tsl τ 0 []]).ai τ (80,2,0)))=T ⟨0,[]⟩ l:=by
      subst hT;rfl
    rw [hst]
    clear hst
    refine DK T (fun g rest=>rest.length≤l.length∧g.a=l.length - rest.length∧g.rs.length≤g.a∧cE (lines l) 0=dO (.ok g.rs) (cE (lines rest) g.a)) (fun g=>cE (lines l) 0= .ok g.rs∧g.rs.length≤l.length+1) rfl _ _ ⟨Nat.le_refl _,by simp,Nat.zero_le _,by rw [lS]⟩ t0 t1 t22 s0 (fun g r L=>by rw [tl,tl]) (fun g r h=>Nat.le_trans h.1 hl) ?_ ?_
    · rintro L r g rest hL ⟨i1,i2,i3,i4⟩
      have hL0:σ.lp L=none:=by rw [tl] at hL;exact hL
      have hcut:(kZ (cut rest).1=aQ rest)∧(cut rest).1.length≤rest.length∧(aQ rest).length≤(cut rest).1.length:=by
        cases ha:bW rest with
        | nil =>
          have h1:=fi rest
          rw [ha,List.append_nil] at h1
          rw [kX ha,h1]
          exact ⟨zW ha,Nat.le_refl _,Nat.le_refl _⟩
        | cons c r' =>
          obtain ⟨k1,k2,k3,k4⟩:=kY ha
          rw [k1]
          exact ⟨zV _,by simpa using k4,by simp⟩
      obtain ⟨hc1,hc2,hc3⟩:=hcut
      have hw:IntKind.i64.wrap ((g.a:Int)+((cut rest).1.length:Int))=((g.a+(cut rest).1.length:Nat):Int):=P9
      have ht:=Pv (cut rest).1 P6
      rw [hc1] at ht
      have fin:∀ nw:List Rw,bV (aQ rest) g.a= .ok nw→nw.length≤1→match (cut rest).2 with
          | none=>cE (lines l) 0= .ok (g.rs++nw)∧(g.rs++nw).length≤l.length+1
          | some r'=>r'.length≤l.length∧g.a+(cut rest).1.length=l.length - r'.length∧(g.rs++nw).length≤g.a+(cut rest).1.length∧cE (lines l) 0=dO (.ok (g.rs++nw)) (cE (lines r') (g.a+(cut rest).1.length)):=by
        intro nw h1 h2
        rw [ke rest] at i4
        simp only [cE,h1] at i4
        rw [←mo] at i4
        have hb:dO (.ok g.rs) (.ok nw)= .ok (g.rs++nw):=rfl
        rw [hb] at i4
        have hn:(g.rs++nw).length≤g.a+1:=Qr
        cases ha:bW rest with
        | nil =>
          rw [kX ha] at i4 ⊢
          simp only [cE,kL] at i4 ⊢
          exact ⟨i4,by omega⟩
        | cons c r' =>
          obtain ⟨k1,k2,k3,k4⟩:=kY ha
          rw [k1] at i4 ⊢
          have hr':r'.length=rest.length - ((aQ rest).length+1):=by rw [←k3];simp
          simp only [List.length_append,List.length_cons,List.length_nil] at i4 hn ⊢
          refine ⟨by omega,by omega,by omega,?_⟩
          rw [i4]
          congr 2
      simp only [jL,↓R1,RR,seval,hw,t5,s5]
      by_cases h1000:1000<(aQ rest).length
      · have q2:decide ((1000:Int)<((aQ rest).length:Int))=true:=by rw [decide_eq_true_eq];omega
        have hrr:cE (lines l) 0= .error (4,g.a):=by rw [i4,ke];simp only [cE,bV,if_pos h1000,dO]
        repeat' ((refine Pt (ht) ?_)<;>(try simp only [↓R1,RR,seval,q2,t2,t3,s5]))
        rw [hrr]
        refine ak ?_ P8 (St.aB (St.aB (oi (tle _ _) hL0) h2) h3)
        simp only [an,RR,seval]
        simp only [fC,dP]
        (all_goals exact dN)
      · have q2:decide ((1000:Int)<((aQ rest).length:Int))=false:=by rw [decide_eq_false_iff_not];omega
        have hll:(aQ rest).length≤1000000:=P6
        cases hws:cK (aQ rest) with
        | error b =>
          have hrr:cE (lines l) 0= .error (3,g.a+b):=by rw [i4,ke];simp only [cE,tO h1000 hws,dO]
          have ha:∀ s,AC Tryz.prog 149 [.str (aQ rest)] s (fun r s'=>r= .tup [.nils, .int .i64 (b:Nat), .bool false]∧s'=s):=fun s=>by
            have:=rj s (aQ rest) hll
            rwa [hws] at this
          have hb:b≤1000000:=by have:=zQ hws;omega
          have q3:IntKind.i64.wrap ((g.a:Int)+(b:Int))=((g.a+b:Nat):Int):=P9
          repeat' ((first|(refine Pt (ht) ?_)|((refine AC.mono (AC.wk (ha _) (ad _)) ?_;(rintro _ _ ⟨rfl,rfl⟩))))<;>(try simp only [↓R1,RR,seval,q2,q3,t2,t3,s5]))
          rw [hrr]
          refine ak ?_ P8 (St.aB (St.aB (oi (tle _ _) hL0) h2) h3)
          simp only [an,RR,seval]
          simp only [fC,dP]
          (all_goals exact dN)
        | ok ws =>
          by_cases hne:ws= []
          · subst hne
            have hrr:=tP (a:=g.a) h1000 hws
            have ha:∀ s,AC Tryz.prog 149 [.str (aQ rest)] s (fun r s'=>r= .tup [.nils, .int .i64 0, .bool true]∧s'=s):=fun s=>by
              have:=rj s (aQ rest) hll
              rw [hws] at this
              refine this.mono ?_
              rintro r s' ⟨τ',_,rfl,rfl⟩
              exact ⟨rfl,rfl⟩
            have q3:decide (((0:Int))<((0:Nat):Int))=false:=rfl
            repeat' ((first|(refine Pt (ht) ?_)|((refine AC.mono (AC.wk (ha _) (ad _)) ?_;(rintro _ _ ⟨rfl,rfl⟩))))<;>(try simp only [↓R1,RR,seval,q2,s5]))
            refine ca (α:=Unit) (fun _=> [(4, .ptr b4 0),(7, .int .i64 (g.a:Nat)),(8, .nils),(44, .int .i64 ((0:Nat):Int)),(45, .int .i64 0)]) (fun _=>_) (fun _=>True) (fun _=>0) () Qi (St.le_refl _) trivial ?_
            rintro _ _
            simp only [↓R1,RR,seval,uP,qB,pH]
            skip
            refine ⟨⟨g.a+(cut rest).1.length,g.rs⟩,St.le_refl _,?_⟩
            have hfin:=fin [] hrr Qd
            simp only [List.append_nil] at hfin
            exact hfin
          · have hrr:=rl (a:=g.a) h1000 hws hne
            obtain ⟨hwl,hwa⟩:=zR hws
            repeat' ((refine Pt (ht) ?_)<;>(try simp only [↓R1,RR,seval,q2,s5]))
            refine (AC.wk (tQ _ hll hws hne) (ad _)).mono ?_
            rintro _ _ ⟨γ,k,hγ,rfl,rfl⟩
            simp only [St.bq,St.lL] at hγ
            obtain ⟨⟨_,_⟩,hγ⟩:=hγ
            obtain ⟨_,_⟩:=aj (σ:=T g rest) (β:=b4) (γ:=γ) ⟨t4 g rest⟩ hγ
            simp only [↓R1,RR,seval,s5]
            refine aS ws.length (fun i=> [(4, .ptr b4 0),(7, .int .i64 (g.a:Nat)),(8, .psl γ 0 ws.length),(44, .int .i64 (ws.length:Nat)),(45, .int .i64 (i:Nat))]) (fun i=>((T ⟨g.a+(cut rest).1.length,g.rs⟩ rest).au L (busy r,_)).aa γ (shG g.a ws i (List.replicate k .junk))) (fun _=>True) Qi (by rw [DM];exact St.le_refl _) trivial (fun i hi _=>?_)
            have hsl:=GU g.a ws i hi (List.replicate k .junk)
            simp only [↓R1,RR,seval]
            by_cases hin:i<ws.length
            · have q3:decide ((i:Int)<(ws.length:Int))=true:=by rw [decide_eq_true_eq];omega
              obtain ⟨g1,g2⟩:=KE g.a ws hin (List.replicate k .junk)
              have hwk:=hwa ws[i] (List.getElem_mem hin)
              have q4:=g1
              have hw2:IntKind.i64.wrap ((ws[i].a:Int)+(g.a:Int))=((ws[i].a+g.a:Nat):Int):=P9
              have q5:=hw2
              simp only [↓R1,RR,seval,q3,q4,q5]
              repeat' (first|(with_reducible refine And.intro ?_ ?_;focus (intros;(repeat' (with_reducible apply And.intro))<;>first|omega|(simp only [RZ,aI,bw];omega)))|(with_reducible apply And.intro))
              · (simp only [aq,slot,ae,RR,seval];all_goals exact bz)
              · rw [g2];exact St.le_refl _
            · have q3:decide ((i:Int)<(ws.length:Int))=false:=by rw [decide_eq_false_iff_not];omega
              have hie:i=ws.length:=P6
              subst hie
              have q4:(ws.length*3).ble (shG g.a ws ws.length (List.replicate k AV.junk)).length=true:=Nat.ble_eq_true_of_le (by rw [hsl];omega)
              have hwp:0<ws.length:=List.length_pos_iff.2 hne
              simp only [↓R1,RR,seval,uP,qB,pG,q3,q4]
              have hγ2:(T ⟨g.a+(cut rest).1.length,g.rs⟩ rest).box γ=none:=by
                have h:(((T g rest).au L (r,[])).aa b5 [.int .i64 ((g.a+(cut rest).1.length:Nat):Int)]).box γ=none:=by
                  rw [St.bq];exact ⟨⟨by assumption,by assumption⟩,hγ⟩
                rw [s5] at h
                exact h
              rw [GS,DL (σ:=(T ⟨g.a+(cut rest).1.length,g.rs⟩ rest).au L _) hγ2]
              have q3:decide ((0:Int)<(ws.length:Int))=true:=Qf
              simp only [↓R1,RR,seval,q3,t4]
              repeat' (((first|(refine bI (.inr rfl) rfl ?_ ?_ ?_ ?_ ?_ ?_;(first|rfl|exact St.bn _ _ _|(simp only [↓R1,RR,seval,uP,qB,pH,pG,q1,q2,q3,q4,q5,hw,t2,t3,t4,t5,ttip,s5,tl]));(first|omega|(simp only [RZ,aI,bw,List.length_nil,List.length_cons];omega)|(simp only [RZ,aI,bw,List.length_nil,List.length_cons]));(first|rfl|first|omega|(simp only [RZ,aI,bw,List.length_nil,List.length_cons];omega)|(simp only [RZ,aI,bw,List.length_nil,List.length_cons])))|(refine br rfl ?_ ?_ ?_ ?_ ?_ ?_;(first|rfl|exact St.bn _ _ _|(simp only [RR,seval,ttip]));(first|omega|(simp only [bw];omega)|(simp only [bw]));(first|rfl|first|omega|(simp only [RZ,aI,bw,List.length_nil,List.length_cons];omega)|(simp only [RZ,aI,bw,List.length_nil,List.length_cons])))|(refine appV_own ?_ ?_ ?_ ?_;exact a8 QB _)|(refine appD_own ?_ ?_ ?_ ?_ ?_;omega;exact a8 QB _)|(refine appV_fresh rfl trivial rfl ?_ ?_ ?_ ?_ ?_;(first|rfl|first|omega|(simp only [RZ,aI,bw,List.length_nil,List.length_cons];omega)|(simp only [RZ,aI,bw,List.length_nil,List.length_cons]));(first|rfl|first|omega|(simp only [RZ,aI,bw,List.length_nil,List.length_cons];omega)|(simp only [RZ,aI,bw,List.length_nil,List.length_cons])))|(refine appD_fresh rfl trivial rfl ?_ ?_ ?_ ?_ ?_ ?_;omega;(first|rfl|first|omega|(simp only [RZ,aI,bw,List.length_nil,List.length_cons];omega)|(simp only [RZ,aI,bw,List.length_nil,List.length_cons]));(first|rfl|first|omega|(simp only [RZ,aI,bw,List.length_nil,List.length_cons];omega)|(simp only [RZ,aI,bw,List.length_nil,List.length_cons]))));(unfold maxLen;omega);omega)<;>(try simp only [↓R1,RR,seval,t4]))
              have e1:([AV.tsl τ (g.rs.length+1) (g.rs.flatMap cRw++ [AV.int .i64 (g.a:Nat),AV.sl false ws.length ((ws.map (dx g.a)).flatMap cWd)])]:List AV)= [AV.tsl τ (g.rs++ [(⟨g.a,ws.map (dx g.a)⟩:Rw)]).length ((g.rs++ [(⟨g.a,ws.map (dx g.a)⟩:Rw)]).flatMap cRw)]:=by
                simp [cRw]
              have e2:g.rs.length+1=(g.rs++ [(⟨g.a,ws.map (dx g.a)⟩:Rw)]).length:=Qd
              rw [e1,e2,s4]
              exact ⟨⟨g.a+(cut rest).1.length,g.rs++ [⟨g.a,ws.map (dx g.a)⟩]⟩,St.le_refl _,fin _ hrr Qd⟩
    · rintro g r ⟨j1,j2⟩
      rw [j1]
      simp only [↓R1,RR,seval,t2,t3,t4]
      have hl2:St.le σ (((T g r).aa b2 [AV.tsl τ g.rs.length (g.rs.flatMap cRw)]).aa b3 [AV.int IntKind.i64 0,AV.int IntKind.i64 0]):=St.aB (St.aB (tle g r) h2) h3
      refine ak ?_ P8 hl2
      simp only [an,RR,seval]
      simp only [fC,dP]
      (all_goals exact dN)
end Go.Proofs.YtgephffbfiemeaaGreatDoor
