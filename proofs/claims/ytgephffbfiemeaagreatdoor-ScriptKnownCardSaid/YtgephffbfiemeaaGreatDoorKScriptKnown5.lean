/- Part 5 of the proof of ScriptKnown: an abstract semantics that is proved sound for the model, contracts of functions in it, and plain facts (Abs7 Abs8 Abs8r). No condition. -/
import Derived.Test.YtgephffbfiemeaaGreatDoorKScriptKnown4
import Derived.RangeFuncRecord
import Derived.RangeFuncSeq
import Derived.RangeFuncCalls
import Derived.OwnWalkIn
set_option linter.all false
namespace Go.Abs
def CP (g:Gh) (w:World) (R:AV→St→Prop):Ending→World→Prop:=fun e w' =>
 ∃ v r σ' g',e= .returned v∧R r σ'∧Inv g' σ' w'∧Ext g w g' w'∧Rel g' w' r v
def AC (P:Program) (f:Nat) (as:List AV) (σ:St) (R:AV→St→Prop):Prop :=
  ∀ g w (vs : List Value), Inv g σ w → bQ   g w as vs →
    ((callFunc f vs.toArray).run P w= .ok (.enter f vs.toArray) w∧Calls P f vs.toArray w (CP g w R)) ∨
    ∃ v w',(callFunc f vs.toArray).run P w= .ok (.value v) w'∧CP g w R (.returned v) w'
theorem AC.mono {P:Program} {f:Nat} {as:List AV} {σ:St} {R R':AV→St→Prop} (h:AC P f as σ R) (hr:∀ r s,R r s→R' r s):AC P f as σ R':=by
 have hcp:∀ g w e w',CP g w R e w'→CP g w R' e w':=fun g w e w' ⟨v,r,σ',g',h1,h2,h3⟩=>⟨v,r,σ',g',h1,hr _ _ h2,h3⟩
 intro g w vs hI hv
 rcases h g w vs hI hv with ⟨h1,h2⟩|⟨v,w',h1,h2⟩
 ·exact .inl ⟨h1,h2.mono fun e w'=>hcp g w e w'⟩
 ·exact .inr ⟨v,w',h1,hcp _ _ _ _ h2⟩
def YC (P:Program) (l:Nat) (as:List AV) (σ:St) (R:AV→St→Prop):Prop :=
 ∀ g w (vs:List Value),Inv g σ w→bQ g w as vs→YieldAt Fence.wide 0 P l vs.toArray w (CP g w R)
theorem CP.mono {g:Gh} {w:World} {R R':AV→St→Prop} (hr:∀ r s,R r s→R' r s) {e:Ending} {w':World} (h:CP g w R e w'):CP g w R' e w' :=
 let ⟨v,r,σ',g',h1,h2,h3⟩:=h;⟨v,r,σ',g',h1,hr _ _ h2,h3⟩
theorem YC.mono {P:Program} {l:Nat} {as:List AV} {σ:St} {R R':AV→St→Prop} (h:YC P l as σ R) (hr:∀ r s,R r s→R' r s):YC P l as σ R':=fun g w vs hI hv=>by
 obtain ⟨fn,tmps,assign,body,h1,h2⟩:=h g w vs hI hv
 exact ⟨fn,tmps,assign,body,h1,h2.mono fun e w' hc=>hc.mono hr⟩
def St.ad (σ:St) (β:Nat) (cs:List AV):St:={ σ with box:=upd σ.box β cs }
def St.bZ (σ:St) (β T:Nat):St:={ σ with bt:=upd σ.bt β T }
def St.ai (σ:St) (τ:Nat) (x:Nat × Nat × Nat):St:={ σ with tip:=upd σ.tip τ x }
def fy (kind:Nat) (a:AV) (b:Bool):Prop :=
 match kind,a with
 | 0, .nils=>b=true
 | 0, .sl _ n _=>n≠0→b=false
 | 0, .tsl _ n _=>n≠0→b=false
 | 1, .nilp=>b=true
 | 1, .ptr _ _=>b=false
 | 1, .el _=>b=false
 | 2, .nilf=>b=true
 | 2, .fn _ _=>b=false
 | 3, .nili=>b=true
 | 3, .ifc _ _=>b=false
 | _,_=>False
def dx (kind:Nat) (a:AV):Bool :=
 match kind,a with
 | 0, .nils|0, .sl _ _ _|0, .tsl _ _ _|1, .nilp|1, .ptr _ _|1, .el _|2, .nilf|2, .fn _ _|3, .nili|3, .ifc _ _=>true
 | _,_=>false
def vf (e bytes:Nat) (a b:AV) (σ:St) (K:AV→St→Prop):Prop:=match a,b with
 | .tsl τ n cs, .str l=>l≠ []∧σ.tip τ=some (e,1,n)∧cs.length=n*1∧n+l.length≤maxLen∧(n+l.length)*bytes≤140737488355328∧K (.tsl τ (n+l.length) (cs++l.map fun b=> .int .u8 b.toNat)) (σ.ai τ (e,1,n+l.length))
 | .nils, .str l=>l≠ []∧l.length≤maxLen∧l.length*bytes≤140737488355328∧∀ τ,σ.tip τ=none→K (.tsl τ l.length (l.map fun b=> .int .u8 b.toNat)) (σ.ai τ (e,1,l.length))
 | _,_=>False
def St.bN (σ:St) (β:Nat):St:={ σ with box:=fun j=>if j=β then none else σ.box j }
def vg (e es bytes:Nat) (a b:AV) (σ:St) (K:AV→St→Prop):Prop:=match slv b with
  | some (m, ds) => match a with
    | .nils=>m≠0∧ds.length=m*es∧m≤maxLen∧m*bytes≤140737488355328∧∀ β j,σ.box β=none→K (.row β e es m) (σ.ad β (ds++List.replicate j .junk))
    | .row β e' es' n => e' = e ∧ es' = es ∧ match σ.box β with
      | some cs=>m≠0∧n*es≤cs.length∧ds.length=m*es∧n+m≤maxLen∧(n+m)*bytes≤140737488355328 ∧
          ∀ γ j,(σ.bN β).box γ=none→K (.row γ e es (n+m)) ((σ.bN β).ad γ (cs.take (n*es)++ds++List.replicate j .junk))
      | none=>False
    | _=>False
  | none=>False
def aOp (P:Program) (ρ:Od→AV) (σ:St) (K:AV→St→Prop):CO→Prop
  | .isnil kind neg x=>dx kind (ρ x)=true∧∀ b,fy kind (ρ x) b→K (.bool (bif neg then !b else b)) σ
  | .alloc cells=>∀ β,σ.box β=none→K (.ptr β 0) (σ.ad β cells)
  | .appS e bytes x y=>vf e bytes (ρ x) (ρ y) σ K
  | .appR e es bytes x y=>vg e es bytes (ρ x) (ρ y) σ K
  | .mkT e es n z ps=>ed ρ z.length ps∧z.length=n*es∧∀ τ,σ.tip τ=none→K (.tsl τ n (bm ρ z ps)) (σ.ai τ (e,es,n))
  | .allocT T cells=>∀ β,σ.box β=none→σ.bt β=none→K (.ptr β 0) ((σ.ad β cells).bZ β T)
  | .mkM=>∀ L,σ.lp L=none→K (.mpv L) (σ.au L (.map [] 0,[]))
  | .mgt x k => match ρ x, ρ k with
    | .mpv L, .int .u64 n => match σ.lp L with
      | some (.map l _,_)=>K (.bool (iI l n)) σ
      | _=>False
    | _,_=>False
  | .mst x k v => match ρ x, ρ k, ρ v with
    | .mpv L, .int .u64 n, .bool b => match σ.lp L with
      | some (.map l c,_)=>K .junk (σ.au L (.map (iJ l c n b).1 (iJ l c n b).2,[]))
      | _=>False
    | _,_,_=>False
  | .mkP _ bytes z x=>cN (ρ x)∧0≤aI (ρ x)∧aI (ρ x)≤9223372036854775807∧(aI (ρ x)).toNat*bytes≤140737488355328∧∀ β,σ.box β=none→K (.psl β 0 (aI (ρ x)).toNat) (σ.ad β (List.replicate (aI (ρ x)).toNat z).flatten)
  | .box n x=>(ρ x).fits=true∧(ρ x).cells.length=n∧∀ β,σ.box β=none→K (.ptr β 0) (σ.ad β (ρ x).cells)
  | .st n p x => match ρ p with
    | .ptr β off => match σ.box β with
      | some cs=>(ρ x).fits=true∧(ρ x).cells.length=n∧off+n≤cs.length∧K .junk (σ.ad β (cs.take off++(ρ x).cells++cs.drop (off+n)))
      | none=>False
    | _=>False
  | .call f args=>AC P f (args.map ρ) σ K
  | .callv x args => match ρ x with
    | .fn f cap=>AC P f (args.map ρ++cap) σ K
    | .yld l=>YC P l (args.map ρ) σ K
    | _=>False
  | .invk tbl x args => match ρ x with
    | .ifc t v => match kO    t tbl with
      | some f=>AC P f (v::args.map ρ) σ K
      | none=>False
    | _=>False
  | .app tp e es bytes x y => match ρ x with
    | .tsl τ n cs => match slv (ρ y) with
      | some (m,ds)=>σ.tip τ=some (e,es,n)∧cs.length=n*es∧ds.length=m*es∧n+m≤maxLen∧(n+m)*bytes≤140737488355328∧K (.tsl τ (n+m) (cs++ds)) (σ.ai τ (e,es,n+m))
      | none=>False
    | a => bif tp then
        match slv a,slv (ρ y) with
        | some (n,cs),some (m,ds)=>fresh a∧cs.length=n*es∧ds.length=m*es∧n+m≤maxLen∧(n+m)*bytes≤140737488355328∧∀ τ,σ.tip τ=none→K (.tsl τ (n+m) (cs++ds)) (σ.ai τ (e,es,n+m))
        | _,_=>False
      else ps σ ρ (.app tp e es bytes x y)∧K (pf σ ρ (.app tp e es bytes x y)) σ
  | co=>ps σ ρ co∧K (pf σ ρ co) σ
def fR:Operand→Nat→Bool
 | .const (.slice none 0 0),0=>true
 | .const (.pointer none),1=>true
 | .const .nilFunc,2=>true
 | .const .nilIface,3=>true
 | _,_=>false
def GO (P:Program) (t:TypeId) (kind:Nat):Bool :=
 match P.underlying t,kind with
 | some (.slice _),0|some (.pointer _),1|some (.func ..),2|some (.interface _),3=>true
 | _,_=>false
def qq (P:Program) (t:TypeId):Bool:=match P.underlying t with
  | some (.map kt et) => (match P.underlying kt with | some (.int .u64) => true | _ => false) && (match P.info? et with
    | some i=>(match i.zero with|some (.bool false)=>true|_=>false)
    | none=>false)
  | _=>false
def lk2 (P:Program) (op:Op):CO→Bool
  | .isnil kind neg x => match op with
    | .binOp b t x' y' _=>b == (if neg then .neq else .eql)&&GO P t kind&&odB x' x&&fR y' kind
    | _=>false
  | .alloc cells => match op with
    | .alloc t => (match P.info? t with
      | some i => match i.zero with
        | some z=>cBL z.cells.toList cells
        | none=>false
      | none=>false)
    | _=>false
  | .appS e bytes x y => match op with
    | .call ⟨.builtin .append,⟨[x',y']⟩,⟨[t,u]⟩⟩=>ny P t e 1 bytes&&di P u&&odB x' x&&odB y' y
    | _=>false
  | .appR e es bytes x y => match op with
    | .call ⟨.builtin .append,⟨[x',y']⟩,⟨[t,u]⟩⟩=>t == u&&ny P t e es bytes&&odB x' x&&odB y' y
    | _=>false
  | .mkT e es n z ps => match op with
    | .buildSlice t n' parts=>n' == n&&Nat.ble n 16777216&&nV P t n es parts.toList z ps&&(match P.underlying t with|some (.slice e')=>e' == e|_=>false)
    | _=>false
  | .allocT T cells => match op with
    | .alloc t => t == T && (match P.info? t with
      | some i => match i.zero with
        | some z=>cBL z.cells.toList cells
        | none=>false
      | none=>false)
    | _=>false
  | .mkM => match op with
    | .makeMap _ none=>true
    | _=>false
  | .mgt y z => match op with
    | .lookup t x k false=>qq P t&&odB x y&&odB k z
    | _=>false
  | .mst y z u => match op with
    | .mapUpdate t x k v=>qq P t&&odB x y&&odB k z&&odB v u
    | .insert t x k v=>qq P t&&odB x y&&odB k z&&odB v u
    | _=>false
  | .mkP es bytes z y => match op with
    | .makeSlice t x x' => odB x y && odB x' y && (match P.underlying t with
      | some (.slice e) => match P.info? e with
        | some i => i.size == es && i.bytes == bytes && z.length == es && (match i.zero with
          | some zv=>cBL zv.cells.toList z
          | none=>false)
        | none=>false
      | _=>false)
    | _=>false
  | .box _ y => match op with
    | .box _ x=>odB x y
    | _=>false
  | .st n p x => match op with
    | .store t p' x'=>(match P.info? t with|some i=>i.size == n|none=>false)&&odB p' p&&odB x' x
    | _=>false
  | .call f args => match op with
    | .call ⟨.value (.func f'),⟨as⟩,_⟩=>f' == f&&ke as args
    | _=>false
  | .callv x args => match op with
    | .call ⟨.value x',⟨as⟩,_⟩=>odB x' x&&ke as args
    | _=>false
  | .invk tbl x args => match op with
    | .call ⟨.invoke r name,⟨as⟩,_⟩=>tbl.all (fun q=>y6 P q.1 name q.2)&&odB r x&&ke as args
    | _=>false
  | co=>lkB P op co
section
variable {P:Program} {g:Gh} {σ:St} {w:World} {a:Act} {o:Oper} {ρ:Od→AV}
theorem dR (hI:Inv g σ w):σ.box g.nb=none:=by
  cases h:σ.box g.nb with
  | none=>rfl
  | some cs =>
    obtain ⟨b,_,_,h1,_⟩:=hI.box _ _ h
    rw [hI.boxfresh _ (Nat.le_refl _)] at h1
    cases h1
theorem y8 (hI:Inv g σ w):σ.bt g.nb=none:=by
  cases h:σ.bt g.nb with
  | none=>rfl
  | some T =>
    obtain ⟨b,_,h1,_⟩:=hI.bty _ _ h
    rw [hI.boxfresh _ (Nat.le_refl _)] at h1
    cases h1
def Gh.bc (g:Gh) (w:World):Gh :=
 { g with box:=fun β=>if β=g.nb then some w.heap.size else g.box β,cl:=fun b=>if b=w.heap.size then some 0 else g.cl b,nb:=g.nb+1 }
theorem Ext.bc (hI:Inv g σ w) (ob:Obj):Ext g w (g.bc w) (w.alloc ob):=by
 refine ⟨rfl,rfl,rfl,by simp,fun β b hb=>?_,fun β hβ=>?_,Nat.le_succ _,Nat.le_refl _,fun _ _ _ h=>h,fun b hb hc=>⟨?_,RowKit.Below.heap_alloc w _ b hb⟩,fun b F' hb hc=>⟨F',?_,Nat.le_refl _,fun i _=>World.cell?_alloc_lt w _ _ hb⟩,fun _ _ h=>h,fun b us _ _ h=>⟨us,by rw [RowKit.Below.heap_alloc w _ b (Array.getElem?_eq_some_iff.1 h).1];exact h,rfl⟩⟩
 ·simp only [Gh.bc]
  rw [if_neg]
  ·exact hb
  ·rintro rfl;rw [hI.boxfresh _ (Nat.le_refl _)] at hb;cases hb
 ·simp only [Gh.bc,if_neg (Nat.ne_of_lt hβ)]
 ·simp only [Gh.bc,if_neg (Nat.ne_of_lt hb)];exact hc
 ·simp only [Gh.bc,if_neg (Nat.ne_of_lt hb)];exact hc
theorem _root_.PU {p:Prop} (h:p:=by simpa [St.ad,upd,hβ] using hl):p:=h
theorem Inv.bc (hI:Inv g σ w) {cs:List AV} {vs:Array Value} {T:TypeId} (hr:RelC g w cs vs.toList):Inv (g.bc w) (σ.ad g.nb cs) (w.alloc (.cells vs T)):=by
 have he:=Ext.bc hI (.cells vs T)
 refine ⟨fun β cs' hb=>?_,fun β b hb=>?_,fun β β' b h1 h2=>?_,fun β hβ=>?_,fun τ e s n ht=>?_,hI.tipinj,hI.tipfresh,fun k cs hk=>(hI.glob k cs hk).mono he,fun l r hl=>?_,fun β T hb=>by
  obtain ⟨b,us,h1,h2⟩:=hI.bty β T hb
  have hβ:β≠g.nb:=by rintro rfl;rw [hI.boxfresh _ (Nat.le_refl _)] at h1;cases h1
  exact ⟨b,us,by simp only [Gh.bc,if_neg hβ];exact h1,by rw [RowKit.Below.heap_alloc w _ b (hI.boxcl β b h1).1];exact h2⟩⟩
 ·simp only [St.ad,upd] at hb
  by_cases hβ:β=g.nb
  ·subst hβ
   simp at hb;subst hb
   exact ⟨w.heap.size,vs,T,by simp [Gh.bc],heap_alloc_new w _,hr.mono he⟩
  ·rw [if_neg hβ] at hb
   obtain ⟨b,us,T',h1,h2,h3⟩:=hI.box β cs' hb
   exact ⟨b,us,T',by simp only [Gh.bc,if_neg hβ];exact h1,by rw [RowKit.Below.heap_alloc w _ b (hI.boxcl β b h1).1];exact h2,h3.mono he⟩
 ·simp only [Gh.bc] at hb ⊢
  by_cases hβ:β=g.nb
  ·rw [if_pos hβ] at hb;cases hb;exact ⟨by simp,fun _=>by simp⟩
  ·rw [if_neg hβ] at hb
   obtain ⟨h1,h2⟩:=hI.boxcl β b hb
   exact ⟨by simp;omega,fun hl=>by rw [if_neg (Nat.ne_of_lt h1)];exact h2 PU⟩
 ·simp only [Gh.bc] at h1 h2
  by_cases hβ:β=g.nb<;>by_cases hβ':β'=g.nb
  ·rw [hβ,hβ']
  ·rw [if_pos hβ] at h1;rw [if_neg hβ'] at h2;cases h1;have:=(hI.boxcl β' _ h2).1;omega
  ·rw [if_neg hβ] at h1;rw [if_pos hβ'] at h2;cases h2;have:=(hI.boxcl β _ h1).1;omega
  ·rw [if_neg hβ] at h1;rw [if_neg hβ'] at h2;exact hI.boxinj _ _ _ h1 h2
 ·simp only [Gh.bc] at hβ ⊢
  rw [if_neg Oz]
  exact hI.boxfresh β Oz
 ·obtain ⟨v,h1,h2,h4⟩:=hI.tip τ e s n ht
  refine ⟨v,h1,fun hs=>?_,h4⟩
  obtain ⟨xs,h2,h3⟩:=h2 hs
  refine ⟨xs,h2.alloc _,fun b hb=>?_⟩
  have hlt:=(h2.lt b hb).2
  obtain ⟨h5,h6⟩:=h3 b hb
  refine ⟨by simp only [Gh.bc,if_neg (Nat.ne_of_lt hlt)];exact h5,fun β=>?_,h6.2.same (RowKit.Below.heap_alloc w _ b hlt)⟩
  simp only [Gh.bc]
  split
  ·intro e';cases e';omega
  ·exact h6.1 β
 ·obtain ⟨h1,h2,h3⟩:=hI.lp l r hl
  have hlt:=(Array.getElem?_eq_some_iff.1 h1).1
  exact ⟨by rw [RowKit.Below.heap_alloc w _ l hlt];exact h1,by simp only [Gh.bc,if_neg (Nat.ne_of_lt hlt)];exact h2,fun t=>(h3 t).mono he⟩
theorem Inv.bZ {g:Gh} {σ:St} {w:World} (hI:Inv g σ w) {β b T:Nat} {vs:Array Value} (h1:g.box β=some b) (h2:w.heap[b]? =some (.cells vs T (0,0))):Inv g (σ.bZ β T) w :=
 ⟨hI.box,hI.boxcl,hI.boxinj,hI.boxfresh,hI.tip,hI.tipinj,hI.tipfresh,hI.glob,hI.lp,fun β' T' h=>by
  simp only [St.bZ,upd] at h
  split at h
  ·rename_i e;subst e;cases h;exact ⟨b,vs,h1,h2⟩
  ·exact hI.bty β' T' h⟩
theorem gY (hI:Inv g σ w) {β:Nat} {cs:List AV} {off:Nat} {us:List Value} {cs':List AV} {b:Nat} (hb:σ.box β=some cs) (hg:g.box β=some b) (hr:RelC g w cs' us) (hle:off+us.length≤cs.length) :
  ∃ w',(storeCells ⟨b,off,none⟩ us).run P w= .ok () w'∧Inv g (σ.ad β (cs.take off++cs'++cs.drop (off+us.length))) w'∧Ext g w g w':=by
 obtain ⟨b',vs,T,h1,h2,h3⟩:=hI.box β cs hb
 rw [hg] at h1;cases h1
 have hsz:vs.size=cs.length:=by have:=h3.1.1;simpa using this
 have hrun:=run_storeCells_at P b off T us 0 vs w h2 OS hr.2
 simp only [Nat.add_zero] at hrun
 refine ⟨_,hrun,?_⟩
 have hblt:=(hI.boxcl β b hg).1
 have hcl:=(hI.boxcl β b hg).2 (by rw [hb];simp)
 have hother:∀ k,k≠b→(w.setRow b (vs.toList.take off++us++vs.toList.drop (off+us.length)).toArray).heap[k]? =w.heap[k]? :=fun k hk=>setRow_other w b k _ hk
 have he:Ext g w g (w.setRow b (vs.toList.take off++us++vs.toList.drop (off+us.length)).toArray):=by
  refine ⟨rfl,rfl,rfl,by simp,fun _ _ h=>h,fun _ _=>rfl,Nat.le_refl _,Nat.le_refl _,fun _ _ _ h=>h,fun k hk hc=>⟨hc,hother k ?_⟩,fun k F hk hc=>⟨F,hc,Nat.le_refl _,fun i hi=>?_⟩,fun _ _ h=>h,fun k us T' _ hk=>by
   by_cases hkb:k=b
   ·subst hkb
    rw [h2] at hk;cases hk
    refine ⟨_,setRow_heap w k vs _ T _ h2,?_⟩
    have:=hr.1.1
    have:=h3.1.1
    simp;omega
   ·exact ⟨us,by rw [hother k hkb];exact hk,rfl⟩⟩
  ·rintro rfl;rw [hcl] at hc;cases hc
  ·by_cases hkb:k=b
   ·subst hkb;rw [hcl] at hc;cases hc;omega
   ·exact World.cell?_of_block (hother k hkb)
 refine ⟨?_,he⟩
 refine ⟨fun β' cs2 hb2=>?_,fun β' b2 hb2=>?_,hI.boxinj,hI.boxfresh,fun τ e s n ht=>?_,hI.tipinj,hI.tipfresh,fun k cs hk=>(hI.glob k cs hk).mono he,fun l r hl=>by
  obtain ⟨q1,q2,q3⟩:=hI.lp l r hl
  exact ⟨by rw [hother l (fun e=>by subst e;rw [h2] at q1;exact r.1.gW q1)];exact q1,q2,fun t=>(q3 t).mono he⟩,fun β2 T2 hb2=>by
  obtain ⟨b2,us2,k1,k2⟩:=hI.bty β2 T2 hb2
  by_cases hbb:b2=b
  ·subst hbb;exact ⟨b2,_,k1,setRow_heap w b2 us2 _ T2 _ k2⟩
  ·exact ⟨b2,us2,k1,by rw [hother b2 hbb];exact k2⟩⟩
 ·simp only [St.ad,upd] at hb2
  by_cases hβ:β'=β
  ·subst hβ
   rw [if_pos rfl] at hb2
   cases hb2
   refine ⟨b,_,T,hg,setRow_heap w b vs _ T _ h2,?_⟩
   have hmid:=((h3.take off).append hr).append (h3.drop (off+us.length))
   exact hmid.mono he
  ·rw [if_neg hβ] at hb2
   obtain ⟨b2,us2,T2,k1,k2,k3⟩:=hI.box β' cs2 hb2
   refine ⟨b2,us2,T2,k1,?_,k3.mono he⟩
   rw [hother b2 (fun e=>hβ (hI.boxinj _ _ _ (e ▸ k1) hg))]
   exact k2
 ·obtain ⟨k1,k2⟩:=hI.boxcl β' b2 hb2
  refine ⟨by simpa using k1,fun hl=>k2 (fun hn=>hl ?_)⟩
  by_cases hβ:β'=β
  ·subst hβ;rw [hb] at hn;cases hn
  ·simpa [St.ad,upd,hβ] using hn
 ·obtain ⟨v,k1,k2,k4⟩:=hI.tip τ e s n ht
  refine ⟨v,k1,fun hs=>?_,k4⟩
  obtain ⟨xs,k2,k3⟩:=k2 hs
  refine ⟨xs,?_,fun k hk=>⟨(k3 k hk).1,(k3 k hk).2.1,(k3 k hk).2.2.same (hother k (fun e=>(k3 k hk).2.1 β (e ▸ hg)))⟩⟩
  refine k2.kept (row:=some b) ⟨rfl,rfl,rfl,by simp,fun k _ hk=>hother k (fun e=>hk (by rw [e]))⟩ ?_
  right
  intro hv
  exact (k3 b hv).2.1 β hg
end
section
variable {P:Program} {g:Gh} {σ:St} {w:World} {a:Act} {o:Oper} {ρ:Od→AV}
def Gh.bA (g:Gh) (τ n:Nat) (v:Value):Gh:={ g with tip:=fun τ' n'=>if τ'=τ∧n'=n then some v else g.tip τ' n' }
theorem Rel.qs {a:AV} {v:Value} (h:Rel g w a v) (k l:Nat):Rel { g with nb:=k,nt:=l } w a v:=by
 induction h with
 | junk v=>exact .junk v
 | bool b=>exact .bool b
 | int k n=>exact .int k n
 | str l=>exact .str l
 | nils=>exact .nils
 | sl0 f x=>exact .sl0 f x
 | sl f n cs b off cap u h1 h2 h3 h4 h5 _ ih=>exact .sl f n cs b off cap u h1 h2 h3 h4 h5 ih
 | tsl0 τ x h=>exact .tsl0 τ x h
 | tsl τ n cs b off cap u h1 h2 h3 h4 h5 _ ih=>exact .tsl τ n cs b off cap u h1 h2 h3 h4 h5 ih
 | agg cs vs h1 h2 _ ih=>exact .agg cs vs h1 h2 ih
 | tup cs vs h1 _ ih=>exact .tup cs vs h1 ih
 | ptr β off b h=>exact .ptr β off b h
 | nilp=>exact .nilp
 | el cs b off u h1 h2 h3 _ ih=>exact .el cs b off u h1 h2 h3 ih
 | ifc t v u _ ih=>exact .ifc t v u ih
 | nili=>exact .nili
 | fn f cap vs h1 _ ih=>exact .fn f cap vs h1 ih
 | nilf=>exact .nilf
 | opt c v u _ h2 ih=>exact .opt c v u ih h2
 | yld l=>exact .yld l
 | mpv m=>exact .mpv m
 | psl β off n b cap h h1=>exact .psl β off n b cap h h1
 | row β e es n b cap vs h h1 h2 h3 h4=>exact .row β e es n b cap vs h h1 h2 h3 h4
theorem cO {τ n:Nat} {v:Value} (hn:g.tip τ n=none) (ho:g.nt≤τ∨∃ n',g.tip τ n'≠none):Ext g w (g.bA τ n v) w:=by
 refine ⟨rfl,rfl,rfl,Nat.le_refl _,fun _ _ h=>h,fun _ _=>rfl,Nat.le_refl _,Nat.le_refl _,fun m k u hu=>?_,fun b _ h=>⟨h,rfl⟩,fun b F _ h=>⟨F,h,Nat.le_refl _,fun _ _=>rfl⟩,fun m hm h0 k=>?_,fun _ us _ _ h=>⟨us,h,rfl⟩⟩
 ·simp only [Gh.bA]
  rw [if_neg]
  ·exact hu
  ·rintro ⟨rfl,rfl⟩;rw [hn] at hu;cases hu
 ·simp only [Gh.bA]
  rw [if_neg]
  ·exact h0 k
  ·rintro ⟨rfl,_⟩
   rcases ho with h|⟨n',h⟩
   ·omega
   ·exact h (h0 n')
theorem ma {τ n k l:Nat} {v:Value} (hn:g.tip τ n=none) (hl:l≤τ):Ext { g with nb:=k,nt:=l } w { g.bA τ n v with nb:=k,nt:=l } w :=
 cO (g:={ g with nb:=k,nt:=l }) hn (.inl hl)
theorem gu {τ n:Nat} {v:Value} (hn:g.tip τ n=none) {c:AV} {u:Value} (h:Rel g w c u):Rel (g.bA τ n v) w c u :=
 ((h.qs g.nb 0).mono (ma (k:=g.nb) hn (Nat.zero_le _))).qs g.nb g.nt
theorem kQ {τ n:Nat} {v:Value} (hn:g.tip τ n=none) {c:List AV} {u:List Value} (h:RelC g w c u):RelC (g.bA τ n v) w c u :=
 ⟨⟨h.1.1,fun i c v h1 h2=>gu hn (h.1.2 i c v h1 h2)⟩,h.2⟩
theorem nW (hI:Inv g σ w) {τ e s n:Nat} {v:Value} (hfree:∀ n',n≤n'→g.tip τ n'=none) (hτ:τ<g.nt) (hv:TipOk g w e s n v)
  (hdis:∀ τ' x' v' b,τ'≠τ→σ.tip τ'=some x'→g.tip τ' x'.2.2=some v'→Held n v→Held x'.2.2 v'→v.ownBlock=some b→v'.ownBlock≠some b) :
  Inv (g.bA τ n v) (σ.ai τ (e,s,n)) w:=by
 have h0:=hfree n (Nat.le_refl _)
 refine ⟨fun β cs hb=>?_,hI.boxcl,hI.boxinj,hI.boxfresh,fun τ2 e2 s2 n2 ht2=>?_,fun τ1 τ2 x1 x2 v1 v2 b ht1 ht2 hne hv1 hv2 sp1 sp2 hb1=>?_,fun τ2 k hk=>?_,fun k cs hk=>⟨gu h0 (hI.glob k cs hk).rel,(hI.glob k cs hk).cl,(hI.glob k cs hk).row⟩,fun l r hl=>⟨(hI.lp l r hl).1,(hI.lp l r hl).2.1,fun t=>gu h0 ((hI.lp l r hl).2.2 t)⟩,hI.bty⟩
 ·obtain ⟨b,vs,T,k1,k2,k3⟩:=hI.box β cs hb
  exact ⟨b,vs,T,k1,k2,kQ h0 k3⟩
 ·simp only [St.ai,upd] at ht2
  by_cases h:τ2=τ
  ·subst h
   rw [if_pos rfl] at ht2;cases ht2
   refine ⟨v,by simp [Gh.bA],hv,fun n' hn'=>?_⟩
   simp only [Gh.bA]
   rw [if_neg Oz]
   exact hfree n' Oz
  ·rw [if_neg h] at ht2
   obtain ⟨u,k1,k2,k4⟩:=hI.tip τ2 e2 s2 n2 ht2
   exact ⟨u,by simp only [Gh.bA];rw [if_neg (fun q=>h q.1)];exact k1,k2,fun n' hn'=>by simp only [Gh.bA];rw [if_neg (fun q=>h q.1)];exact k4 n' hn'⟩
 ·simp only [St.ai,upd] at ht1 ht2
  simp only [Gh.bA] at hv1 hv2
  by_cases h1:τ1=τ
  ·have h2:τ2≠τ:=fun h=>hne (h1.trans h.symm)
   rw [if_pos h1] at ht1;cases ht1
   rw [if_pos ⟨h1,rfl⟩] at hv1;cases hv1
   rw [if_neg h2] at ht2
   rw [if_neg (fun q=>h2 q.1)] at hv2
   exact hdis τ2 x2 v2 b h2 ht2 hv2 sp1 sp2 hb1
  ·rw [if_neg h1] at ht1
   rw [if_neg (fun q=>h1 q.1)] at hv1
   by_cases h2:τ2=τ
   ·rw [if_pos h2] at ht2;cases ht2
    rw [if_pos ⟨h2,rfl⟩] at hv2;cases hv2
    intro hb2
    exact hdis τ1 x1 v1 b h1 ht1 hv1 sp2 sp1 hb2 hb1
   ·rw [if_neg h2] at ht2
    rw [if_neg (fun q=>h2 q.1)] at hv2
    exact hI.tipinj τ1 τ2 _ _ v1 v2 b ht1 ht2 hne hv1 hv2 sp1 sp2 hb1
 ·simp only [Gh.bA] at hk ⊢
  rw [if_neg (by rintro ⟨rfl,_⟩;omega)]
  exact hI.tipfresh τ2 k hk
theorem nz {x:Option Addr}:¬ vb (.slice x 0 0):=by rintro ⟨a,n,cap,h,hlt⟩;cases h;omega
theorem mb {b:Option Addr} {n:Nat}:¬ vb (.slice b n n):=by rintro ⟨a,n',cap,h,hlt⟩;cases h;omega
theorem fS (hI:Inv g σ w):σ.tip g.nt=none:=by
  cases h:σ.tip g.nt with
  | none=>rfl
  | some x =>
    obtain ⟨e,s,n⟩:=x
    obtain ⟨v,h1,_⟩:=hI.tip _ _ _ _ h
    rw [hI.tipfresh _ _ (Nat.le_refl _)] at h1;cases h1
theorem nX (hI:Inv g σ w):Inv { g with nt:=g.nt+1 } σ w∧Ext g w { g with nt:=g.nt+1 } w:=by
 have he:Ext g w { g with nt:=g.nt+1 } w:=⟨rfl,rfl,rfl,Nat.le_refl _,fun _ _ h=>h,fun _ _=>rfl,Nat.le_refl _,Nat.le_succ _,fun _ _ _ h=>h,fun b _ h=>⟨h,rfl⟩,fun b F _ h=>⟨F,h,Nat.le_refl _,fun _ _=>rfl⟩,fun _ _ h=>h,fun _ us _ _ h=>⟨us,h,rfl⟩⟩
 refine ⟨⟨fun β cs hb=>?_,hI.boxcl,hI.boxinj,hI.boxfresh,hI.tip,hI.tipinj,fun τ n h=>hI.tipfresh τ n (by simp only at h;omega),fun k cs hk=>(hI.glob k cs hk).mono he,fun l r hl=>⟨(hI.lp l r hl).1,(hI.lp l r hl).2.1,fun t=>((hI.lp l r hl).2.2 t).mono he⟩,hI.bty⟩,he⟩
 obtain ⟨b,vs,T,k1,k2,k3⟩:=hI.box β cs hb
 exact ⟨b,vs,T,k1,k2,k3.mono he⟩
theorem _root_.PJ {p:Prop} (h:p:=by simp [Gh.bA]):p:=h
theorem y9 (hI:Inv g σ w) (e s:Nat) {τ:Nat} (h0:∀ n,g.tip τ n=none) (hlt:τ<g.nt) {x:AV} {v:Value} {n:Nat} {cs:List AV} (hx:Rel g w x v) (hf:fresh x) (hs:slv x=some (n,cs)) :
  Inv (g.bA τ n v) (σ.ai τ (e,s,n)) w∧Rel (g.bA τ n v) w (.tsl τ n cs) v:=by
 have hn0:n=0∧¬ vb v:=by
  rcases hx.bL hs with ⟨_,rfl,h,_⟩|⟨b,off,cap,us,rfl,hnc,hl⟩
  ·exact ⟨h,nz⟩
  ·rcases nS hf with rfl|rfl
   ·cases hx
   ·simp only [slv,Option.some.injEq,Prod.mk.injEq] at hs
    obtain ⟨rfl,_⟩:=hs
    have:=hx.qm
    subst this
    exact ⟨rfl,mb⟩
 have hns:¬ Held n v:=fun h=>h.elim hn0.2 (fun h=>h hn0.1)
 refine ⟨nW (τ:=τ) (e:=e) (s:=s) (v:=v) hI (fun n' _=>h0 n') hlt (fun h=>(hns h).elim) (fun _ _ _ _ _ _ _ h=>(hns h).elim),?_⟩
 have htip:(g.bA τ n v).tip τ n=some v:=PJ
 rcases hx.bL hs with ⟨_,rfl,rfl,rfl⟩|⟨b,off,cap,us,rfl,hnc,hl⟩
 ·exact .tsl0 _ _ htip
 ·exact .kd hnc htip ⟨hl.claim,kQ (h0 n) hl.rel,hl.cell⟩
theorem iw (hI:Inv g σ w) (e s:Nat) {x:AV} {v:Value} {n:Nat} {cs:List AV} (hx:Rel g w x v) (hf:fresh x) (hs:slv x=some (n,cs)) :
  ∃ g',Inv g' (σ.ai g.nt (e,s,n)) w∧Ext g w g' w∧Rel g' w (.tsl g.nt n cs) v:=by
 obtain ⟨h1,e1⟩:=nX hI
 have hn:∀ n',g.tip g.nt n'=none:=fun n'=>hI.tipfresh _ _ (Nat.le_refl _)
 obtain ⟨h2,h3⟩:=y9 h1 e s hn OF (hx.mono e1) hf hs
 have ea:Ext g w (g.bA g.nt n v) w:=cO (hn n) (.inl (Nat.le_refl _))
 have eb:Ext (g.bA g.nt n v) w (({ g with nt:=g.nt+1 }:Gh).bA g.nt n v) w:=⟨rfl,rfl,rfl,Nat.le_refl _,fun _ _ h=>h,fun _ _=>rfl,Nat.le_refl _,Nat.le_succ _,fun _ _ _ h=>h,fun b _ h=>⟨h,rfl⟩,fun b F _ h=>⟨F,h,Nat.le_refl _,fun _ _=>rfl⟩,fun _ _ h=>h,fun _ us _ _ h=>⟨us,h,rfl⟩⟩
 exact ⟨_,h2,ea.trans eb,h3⟩
theorem raise (hI:Inv g σ w) {b F F':Nat} {cur cur':Array Value} {T:TypeId} (hb:w.heap[b]? =some (.cells cur T (0,0))) (hcl:g.cl b=some F) (hF:F≤F') (hbox:∀ β,g.box β≠some b)
  (htip:∀ τ x v,σ.tip τ=some x→g.tip τ x.2.2=some v→Held x.2.2 v→v.ownBlock≠some b) (hcur:∀ i,i<F→cur'[i]? =cur[i]?) (hcsz:cur'.size=cur.size) :
  Inv { g with cl:=fun k=>if k=b then some F' else g.cl k } σ (w.setRow b cur')∧Ext g w { g with cl:=fun k=>if k=b then some F' else g.cl k } (w.setRow b cur'):=by
 have hother:∀ k,k≠b→(w.setRow b cur').heap[k]? =w.heap[k]? :=fun k hk=>setRow_other w b k _ hk
 have hblt:b<w.heap.size:=(Array.getElem?_eq_some_iff.1 hb).1
 have hnew:(w.setRow b cur').heap[b]? =some (.cells cur' T (0,0)):=setRow_heap w b cur _ T _ hb
 have he:Ext g w { g with cl:=fun k=>if k=b then some F' else g.cl k } (w.setRow b cur'):=by
  refine ⟨rfl,rfl,rfl,by simp,fun _ _ h=>h,fun _ _=>rfl,Nat.le_refl _,Nat.le_refl _,fun _ _ _ h=>h,fun k hk hc=>?_,fun k G hk hc=>?_,fun _ _ h=>h,fun k us T' _ hk=>by
   by_cases hkb:k=b
   ·subst hkb
    rw [hb] at hk;cases hk
    exact ⟨_,hnew,hcsz⟩
   ·exact ⟨us,by rw [hother k hkb];exact hk,rfl⟩⟩
  ·have hkb:k≠b:=by rintro rfl;rw [hcl] at hc;cases hc
   exact ⟨by simp only [if_neg hkb];exact hc,hother k hkb⟩
  ·by_cases hkb:k=b
   ·subst hkb
    rw [hcl] at hc;cases hc
    refine ⟨F',by simp,hF,fun i hi=>?_⟩
    rw [cell_of_row _ k i cur' T _ hnew,cell_of_row _ k i cur T _ hb]
    exact hcur i hi
   ·exact ⟨G,by simp only [if_neg hkb];exact hc,Nat.le_refl _,fun i _=>World.cell?_of_block (hother k hkb)⟩
 refine ⟨⟨fun β cs hβ=>?_,fun β k hβ=>?_,hI.boxinj,hI.boxfresh,fun τ e s n ht=>?_,hI.tipinj,hI.tipfresh,fun k cs hk=>(hI.glob k cs hk).mono he,fun l r hl=>by
  obtain ⟨q1,q2,q3⟩:=hI.lp l r hl
  have hlb:l≠b:=fun e=>by subst e;rw [hb] at q1;exact r.1.gW q1
  exact ⟨by rw [hother l hlb];exact q1,by simp only [if_neg hlb];exact q2,fun t=>(q3 t).mono he⟩,fun β T2 hβ=>by
  obtain ⟨k,vs,k1,k2⟩:=hI.bty β T2 hβ
  exact ⟨k,vs,k1,by rw [hother k (fun e=>hbox β (e ▸ k1))];exact k2⟩⟩,he⟩
 ·obtain ⟨k,vs,T2,k1,k2,k3⟩:=hI.box β cs hβ
  exact ⟨k,vs,T2,k1,by rw [hother k (fun e=>hbox β (e ▸ k1))];exact k2,k3.mono he⟩
 ·obtain ⟨k1,k2⟩:=hI.boxcl β k hβ
  exact ⟨by simpa using k1,fun hl=>by simp only [if_neg (fun e:k=b=>hbox β (e ▸ hβ))];exact k2 hl⟩
 ·obtain ⟨v,k1,k2,k4⟩:=hI.tip τ e s n ht
  refine ⟨v,k1,fun hs=>?_,k4⟩
  obtain ⟨xs,k2,k3⟩:=k2 hs
  have hvb:=htip τ _ v ht k1 hs
  refine ⟨xs,k2.kept (row:=some b) ⟨rfl,rfl,rfl,by simp,fun k _ hk=>hother k (fun e=>hk (by rw [e]))⟩ (.inr hvb),fun k hk=>?_⟩
  obtain ⟨k5,k6⟩:=k3 k hk
  exact ⟨by simp only [if_neg (fun e:k=b=>hvb (e ▸ hk))];exact k5,k6.1,k6.2.same (hother k (fun e=>hvb (e ▸ hk)))⟩
def St.dv (σ:St) (τ:Nat):St:={ σ with tip:=fun j=>if j=τ then none else σ.tip j }
theorem eU (hI:Inv g σ w) (τ:Nat):Inv g (σ.dv τ) w:=by
 have aux:∀ j x,(σ.dv τ).tip j=some x→j≠τ∧σ.tip j=some x:=by
  intro j x h
  simp only [St.dv] at h
  split at h
  ·cases h
  ·rename_i hne;exact ⟨hne,h⟩
 exact ⟨hI.box,hI.boxcl,hI.boxinj,hI.boxfresh,fun τ2 e s n h=>hI.tip τ2 e s n (aux _ _ h).2,fun τ1 τ2 x1 x2 v1 v2 b h1 h2=>hI.tipinj τ1 τ2 x1 x2 v1 v2 b (aux _ _ h1).2 (aux _ _ h2).2,hI.tipfresh,hI.glob,hI.lp,hI.bty⟩
theorem ee (τ:Nat) (x:Nat × Nat × Nat):(σ.dv τ).ai τ x=σ.ai τ x:=by
 cases σ
 simp only [St.ai,St.dv,St.mk.injEq,true_and,and_true]
 funext j
 simp only [upd]
 split<;>rfl
theorem gZ {W:World} {e s n cap:Nat} {us:List Value} {rest:Array Value} (hl:us.length=n*s) (hc:n≤cap) (hm:cap≤maxLen) (hr:(us.toArray++rest).size=cap*s) :
  (W.alloc (.cells (us.toArray++rest) e)).ownsRow 0 e s (.slice (some ⟨W.heap.size,0,none⟩) n cap) n us:=by
 refine ⟨hl, .inr ⟨W.heap.size,cap,us.toArray++rest,rfl,Nat.zero_le _,heap_alloc_new W _,hc,hm,hr,?_⟩⟩
 rw [Array.toList_append,←hl]
 exact List.take_left
theorem jF {zs:Array Value} {es k:Nat} (hpos:0<es) (hs:zs.size=es) (h:∀ v∈zs.toList,v.oneCell'=true):∀ v∈(Builtin.zeroCells zs k).toList,v.oneCell'=true:=by
 intro v hv
 simp only [Builtin.zeroCells,Array.toList_map,List.mem_map] at hv
 obtain ⟨i,_,rfl⟩:=hv
 have hlt:i % zs.size<zs.size:=Nat.mod_lt _ Oz
 rw [getElem!_pos zs _ hlt]
 exact h _ OF
theorem _root_.OX {p:Prop} (h:p:=by simpa [Value.ownBlock] using hb'.symm):p:=h
theorem je (hI:Inv g σ w) {t:TypeId} {e es bytes:Nat} {x y:Operand} {vy:AV} {τ n m:Nat} {cs ds:List AV} (ho:o.op= .call { callee:= .builtin .append,args:= #[x,y],argTypes:= #[t,t] }) (hb:ny P t e es bytes=true)
    (hx:Rel g w (.tsl τ n cs) (a.eval x)) (hy:Rel g w vy (a.eval y)) (hvy:slv vy=some (m,ds)) (ht:σ.tip τ=some (e,es,n)) (h1:cs.length=n*es) (h2:ds.length=m*es) (h3:n+m≤maxLen) (h4:(n+m)*bytes≤140737488355328) :
    Yields ((execOp a.eval o).run P w) g w (.tsl τ (n+m) (cs++ds)) (σ.ai τ (e,es,n+m)):=by
  obtain ⟨i,z,hu,hi,hz,hsz,hby,hzs,hpos,hz1⟩:=fQ hb
  have hexec:∀ r w',(Builtin.append_ #[t,t] o.type #[a.eval x,a.eval y]).run P w= .ok r w'→(execOp a.eval o).run P w= .ok (.value r) w':=by
    intro r w' h
    simp [execOp,ho,resolve,invoke,builtin,h]
  have hmax:maxLen≤9223372036854775807:=O9
  have hvx:=hx.lL
  obtain ⟨v,k1,k2,k4⟩:=hI.tip τ e es n ht
  rw [hvx] at k1;cases k1
  have hslv:slv (.tsl τ n cs)=some (n,cs):=rfl
  have hτ:τ<g.nt:=by
    rcases Nat.lt_or_ge τ g.nt with h|h
    · exact h
    · rw [hI.tipfresh τ n h] at hvx;cases hvx
  by_cases hm0:m=0
  · subst hm0
    have hds:ds= []:=List.eq_nil_of_length_eq_zero PT
    subst hds
    have hσ:σ.ai τ (e,es,n+0)=σ:=by
      cases σ
      simp only [St.ai,St.mk.injEq,true_and,and_true]
      funext j
      simp only [upd]
      split
      · rename_i hj;subst hj;exact ht.symm
      · rfl
    rw [hσ]
    have hrel:Rel g w (.tsl τ (n+0) (cs++ [])) (a.eval x):=by simpa using hx
    have hyy:∃ B c,a.eval y= .slice B 0 c:=by
      rcases hy.bL hvy with ⟨_,ey,_⟩|⟨b2,off2,cap2,us2,ey,_⟩<;>exact ⟨_,_,ey⟩
    obtain ⟨B,c,ey⟩:=hyy
    rcases hx.bL hslv with ⟨x0,ex,rfl,_⟩|⟨b,off,cap,us,ex,hnc,_⟩
    · exact .same hI (hexec _ _ (by rw [ex,ey];exact du (P:=P) (w:=w) t o.type e i hu hi x0 B 0 0 c (Nat.le_refl _))) (by rw [ex] at hrel;exact hrel)
    · exact .same hI (hexec _ _ (by rw [ex,ey];exact du (P:=P) (w:=w) t o.type e i hu hi _ B n cap c hnc)) (by rw [ex] at hrel;exact hrel)
  · rcases hy.bL hvy with ⟨_,_,h,_⟩|⟨b2,off2,cap2,us2,ey,hnc2,hl2⟩
    · exact (hm0 h).elim
    have hm2:us2.length=m*es:=by rw [hl2.rel.1.1,h2]
    have hcell2:∀ j u,us2[j]? =some u→w.cell? ((⟨b2,off2,none⟩:Addr).add j)=some u:=fun j u hu'=>by rw [bE];exact hl2.cell j u hu'
    have moved:∀ (us:List Value) (old:Nat),RelC g w cs us→old<n+m→(Builtin.append_ #[t,t] o.type #[a.eval x,a.eval y]).run P w= .ok (.slice (some ⟨w.heap.size,0,none⟩) (n+m) (grownCap w (n+m) old e)) (w.drew.alloc (.cells (us.toArray++us2.toArray++Builtin.zeroCells z.cells (grownCap w (n+m) old e - (n+m))) e)) →
        Yields ((execOp a.eval o).run P w) g w (.tsl τ (n+m) (cs++ds)) (σ.ai τ (e,es,n+m)):=by
      intro us old hr hold hrun
      have hId:=iv hI
      have hrr:RelC g w.drew (cs++ds) (us++us2):=(hr.append hl2.rel).mono eN
      have hlen:(us++us2).length=(n+m)*es:=by rw [List.length_append,hr.1.1,h1,hm2,Nat.add_mul]
      have hge:=grownCap_ge w (n+m) old e
      have hle:=grownCap_le_maxLen w (n+m) old e h3
      have hcl:(cs++ds).length=(n+m)*es:=by rw [List.length_append,h1,h2,Nat.add_mul]
      have hal:=hId.alloc (ob:= .cells (us.toArray++us2.toArray++Builtin.zeroCells z.cells (grownCap w (n+m) old e - (n+m))) e) (cs++ds).length
      have hlies:=Lies.new (T:=e) (rest:=Builtin.zeroCells z.cells (grownCap w (n+m) old e - (n+m))) hId hrr
      have hown:=gZ (W:=w.drew) (e:=e) (s:=es) (n:=n+m) (cap:=grownCap w (n+m) old e) (us:=us++us2) (rest:=Builtin.zeroCells z.cells (grownCap w (n+m) old e - (n+m))) hlen hge hle (by
        simp only [Array.size_append,List.size_toArray,size_zeroCells,hzs,hlen,←Nat.add_mul]
        congr 1
        omega)
      rw [show (us++us2).toArray=us.toArray++us2.toArray by simp] at hlies hown
      have e1:=eN.trans (Ext.alloc (ob:= .cells (us.toArray++us2.toArray++Builtin.zeroCells z.cells (grownCap w (n+m) old e - (n+m))) e) hId (cs++ds).length)
      have hdrop:=eU hal τ
      have hnb:∀ τ' x' v',τ'≠τ→σ.tip τ'=some x'→g.tip τ' x'.2.2=some v'→Held x'.2.2 v'→v'.ownBlock≠some w.heap.size:=by
        intro τ' x' v' hne ht' hv' hs' hb'
        obtain ⟨e',s',n'⟩:=x'
        obtain ⟨u,q1,q2,_⟩:=hI.tip τ' e' s' n' ht'
        rw [hv'] at q1;cases q1
        obtain ⟨xs,q3,_⟩:=q2 hs'
        have:=(q3.lt _ hb').2
        omega
      have hre:=nW (τ:=τ) (e:=e) (s:=es) (n:=n+m) (v:= .slice (some ⟨w.heap.size,0,none⟩) (n+m) (grownCap w (n+m) old e)) hdrop (fun n' hn'=>k4 n' Oz) hτ
        (fun _=>⟨us++us2,hown,fun b hb'=>by
          have:b=w.heap.size:=OX
          subst this
          refine ⟨by simp [hcl],fun β hβ=>?_,fun cur T q hh v hv=>?_⟩
          · have:=(hI.boxcl β _ hβ).1
            omega
          · have hn2:(w.drew.alloc (.cells (us.toArray++us2.toArray++Builtin.zeroCells z.cells (grownCap w (n+m) old e - (n+m))) e)).heap[w.heap.size]? =some (.cells (us.toArray++us2.toArray++Builtin.zeroCells z.cells (grownCap w (n+m) old e - (n+m))) e (0,0)):=heap_alloc_new w.drew _
            rw [hn2] at hh
            cases hh
            simp only [Array.toList_append,List.mem_append] at hv
            rcases hv with (hv|hv)|hv
            · exact hr.2 v hv
            · exact hl2.rel.2 v hv
            · exact jF hpos hzs hz1 v hv⟩)
        (fun τ' x' v' b hne ht' hv' _ hs' hb'=>by
          have:b=w.heap.size:=OX
          subst this
          simp only [St.dv,if_neg hne] at ht'
          exact hnb τ' x' v' hne ht' hv' hs')
      rw [ee] at hre
      have e2:=e1.trans (cO (v:= .slice (some ⟨w.heap.size,0,none⟩) (n+m) (grownCap w (n+m) old e)) (τ:=τ) (n:=n+m) (k4 (n+m) Oz) (.inr ⟨n,by simp only;rw [hvx];simp⟩))
      refine ⟨_,_,_,hexec _ _ hrun,hre,e2, .kd hge PJ (hlies.mono (cO (k4 (n+m) Oz) (.inr ⟨n,by simp only;rw [hvx];simp⟩)))⟩
    rcases hx.bL hslv with ⟨x0,ex,rfl,rfl⟩|⟨b,off,cap,us,ex,hnc,hl⟩
    · cases x0 with
      | some x1 =>
        have hr:=run_append_grow (P:=P) w t o.type e i z hu hi hz x1 0 0 [] OF OF ⟨b2,off2,none⟩ m cap2 us2 Pc hcell2 Oz Oz Pd
        refine moved [] 0 .nil Oz ?_
        rw [ex,ey]
        exact hr
      | none =>
      have hr:=run_append_nil (P:=P) w t o.type e i z hu hi hz ⟨b2,off2,none⟩ m cap2 us2 Pc hcell2 Oz Oz (by rw [hby];simp only [Nat.zero_add] at h4;omega)
      refine moved [] 0 .nil Oz ?_
      rw [ex,ey]
      simp only [Nat.zero_add,Array.empty_append]
      exact hr
    · have hus:us.length=n*es:=by rw [hl.rel.1.1,h1]
      by_cases hroom:n+m≤cap
      ·
        have hsp:Held n (a.eval x):= .inl ⟨_,_,_,ex,by omega⟩
        obtain ⟨xs,q1,q2⟩:=k2 hsp
        rcases q1.2 with ⟨hn,_⟩|⟨q,cp,cur,hq,_,hheap,hncp,hcpm,hcs,htk⟩
        · rw [ex] at hn;cases hn
        rw [ex] at hq;cases hq
        have hob:(a.eval x).ownBlock=some b:=by rw [ex];rfl
        obtain ⟨hclb,hboxb,honeb⟩:=q2 b hob
        have hr:=run_append_room (P:=P) w t o.type e i hu hi b n cap cur hheap ⟨b2,off2,none⟩ m cap2 us2 Pc hcell2 hl2.rel.2 hroom (by rw [hsz,hm2,hcs,←Nat.add_mul];exact Nat.mul_le_mul_right _ hroom)
        rw [hsz] at hr
        have hn0:n*es≤cur.size:=by rw [hcs];exact Nat.mul_le_mul_right _ hnc
        have hlxs:xs=us:=by
          have hc:=q1.cells hob
          apply List.ext_getElem?
          intro j
          by_cases hj:j<us.length
          · have hj2:j<xs.length:=by rw [q1.1];omega
            have e1:=hl.cell j _ (List.getElem?_eq_getElem hj)
            have e2:=hc j _ (List.getElem?_eq_getElem hj2)
            rw [bE] at e2
            rw [e1] at e2
            rw [List.getElem?_eq_getElem hj,List.getElem?_eq_getElem hj2]
            exact e2.symm
          · have hj2:¬ j<xs.length:=by rw [q1.1];omega
            rw [List.getElem?_eq_none Oz,List.getElem?_eq_none Oz]
        have hdrop:=eU hI τ
        obtain ⟨hra,era⟩:=raise (F:=n*es) (F':=(n+m)*es) (cur':=(cur.toList.take (n*es)++us2++cur.toList.drop (n*es+us2.length)).toArray) hdrop hheap hclb (Nat.mul_le_mul_right _ Oz) hboxb
          (fun τ' x' v' ht' hv' hs' hb'=>by
            simp only [St.dv] at ht'
            split at ht'
            · cases ht'
            · rename_i hne
              exact hI.tipinj τ τ' _ _ _ v' b ht ht' (fun h=>hne h.symm) hvx hv' hsp hs' hob hb')
          (fun j hj=>by
            simp only [List.getElem?_toArray,List.append_assoc]
            rw [List.getElem?_append_left OS,List.getElem?_take,if_pos hj,Array.getElem?_toList])
          (by
            have h1:(n+m)*es≤cap*es:=Nat.mul_le_mul_right _ hroom
            rw [Nat.add_mul] at h1
            simp only [List.size_toArray,List.length_append,List.length_take,List.length_drop,Array.length_toList]
            omega)
        have hlen2:(us++us2).length=(n+m)*es:=by rw [List.length_append,hus,hm2,Nat.add_mul]
        have htake:(cur.toList.take (n*es)++us2++cur.toList.drop (n*es+us2.length)).take ((n+m)*es)=us++us2:=by
          rw [htk,hlxs,←hlen2]
          exact List.take_left
        have hcur':(w.setRow b (cur.toList.take (n*es)++us2++cur.toList.drop (n*es+us2.length)).toArray).heap[b]? =some (.cells (cur.toList.take (n*es)++us2++cur.toList.drop (n*es+us2.length)).toArray e (0,0)):=setRow_heap w b cur _ e _ hheap
        have hown:(w.setRow b (cur.toList.take (n*es)++us2++cur.toList.drop (n*es+us2.length)).toArray).ownsRow 0 e es (.slice (some ⟨b,0,none⟩) (n+m) cap) (n+m) (us++us2):=by
          refine ⟨hlen2, .inr ⟨b,cap,_,rfl,Nat.zero_le _,hcur',hroom,hcpm,?_,by simpa using htake⟩⟩
          have:(n+m)*es≤cap*es:=Nat.mul_le_mul_right _ hroom
          rw [Nat.add_mul] at this
          simp only [List.size_toArray,List.length_append,List.length_take,List.length_drop,Array.length_toList]
          omega
        have hre:=nW (τ:=τ) (e:=e) (s:=es) (n:=n+m) (v:= .slice (some ⟨b,0,none⟩) (n+m) cap) hra (fun n' hn'=>k4 n' Oz) hτ
          (fun _=>⟨us++us2,hown,fun b' hb'=>by
            have:b'=b:=OX
            subst this
            refine ⟨by simp,hboxb,fun cur2 T q hh v hv=>?_⟩
            rw [hcur'] at hh
            cases hh
            simp only [List.mem_append] at hv
            rcases hv with (hv|hv)|hv
            · exact honeb _ _ _ hheap v (List.mem_of_mem_take hv)
            · exact hl2.rel.2 v hv
            · exact honeb _ _ _ hheap v (List.mem_of_mem_drop hv)⟩)
          (fun τ' x' v' b' hne ht' hv' _ hs' hb'=>by
            have:b'=b:=OX
            subst this
            simp only [St.dv,if_neg hne] at ht'
            exact hI.tipinj τ τ' _ _ _ v' b' ht ht' (fun h=>hne h.symm) hvx hv' hsp hs' hob)
        rw [ee] at hre
        have e2:=era.trans (cO (v:= .slice (some ⟨b,0,none⟩) (n+m) cap) (τ:=τ) (n:=n+m) (k4 (n+m) Oz) (.inr ⟨n,by simp only;rw [hvx];simp⟩))
        refine ⟨_,_,_,hexec _ _ Pb,hre,e2, .kd hroom PJ (u:=us++us2) ⟨⟨(Array.getElem?_eq_some_iff.1 hcur').1, .inr ⟨(n+m)*es,by simp [Gh.bA],?_⟩⟩,(hl.rel.append hl2.rel).mono e2,fun j u hu'=>?_⟩⟩
        · simp only [List.length_append];rw [h1,h2,←Nat.add_mul];omega
        · have:=hown.cells (g:=b) rfl j u hu'
          rw [bE] at this
          exact this
      · have hcell1:∀ j u,us[j]? =some u→w.cell? ((⟨b,off,none⟩:Addr).add j)=some u:=fun j u hu'=>by rw [bE];exact hl.cell j u hu'
        have hr:=run_append_grow (P:=P) w t o.type e i z hu hi hz ⟨b,off,none⟩ n cap us (by rw [hsz];exact hus) hcell1 ⟨b2,off2,none⟩ m cap2 us2 Pc hcell2 Oz Oz Pd
        exact moved us cap hl.rel Oz Pb
end
section
variable {P:Program} {g:Gh} {σ:St} {w:World} {a:Act} {o:Oper} {ρ:Od→AV}
theorem qt (hI:Inv g σ w) (β:Nat):Inv g (σ.bN β) w:=by
 have aux:∀ β' c,(σ.bN β).box β'=some c→σ.box β'=some c:=by
  intro β' c h
  simp only [St.bN] at h
  split at h
  ·cases h
  ·exact h
 refine ⟨fun β' cs h=>hI.box β' cs (aux _ _ h),fun β' b h=>⟨(hI.boxcl β' b h).1,fun hn=>(hI.boxcl β' b h).2 (fun hs=>hn ?_)⟩,hI.boxinj,hI.boxfresh,hI.tip,hI.tipinj,hI.tipfresh,hI.glob,hI.lp,hI.bty⟩
 simp only [St.bN]
 split
 ·rfl
 ·exact hs
theorem Inv.Dz {β:Nat} {c c':List AV} (hI:Inv g (σ.ad β c) w) (hw:∀ vs,RelC g w c vs→RelC g w c' vs):Inv g (σ.ad β c') w:=by
 have hb:(σ.ad β c).box β=some c:=by simp [St.ad,upd]
 refine ⟨fun β' cs h=>?_,fun β' b h=>⟨(hI.boxcl β' b h).1,fun hn=>(hI.boxcl β' b h).2 (fun hs=>hn ?_)⟩,hI.boxinj,hI.boxfresh,hI.tip,hI.tipinj,hI.tipfresh,hI.glob,hI.lp,hI.bty⟩
 ·by_cases e:β'=β
  ·subst e
   have:cs=c':=by simpa [St.ad,upd] using h.symm
   subst this
   obtain ⟨b,vs,T,k1,k2,k3⟩:=hI.box _ c hb
   exact ⟨b,vs,T,k1,k2,hw _ k3⟩
  ·exact hI.box β' cs (by simpa [St.ad,upd,e] using h)
 ·by_cases e:β'=β
  ·subst e;rw [hb] at hs;cases hs
  ·simpa [St.ad,upd,e] using hs
theorem we {cs:List AV}:∀ {vs:List Value},RelC g w cs vs→RelC g w (List.replicate cs.length .junk) vs:=by
 intro vs h
 refine ⟨⟨by simp [h.1.1],fun i c v hc hv=>?_⟩,h.2⟩
 rw [List.getElem?_replicate] at hc
 split at hc
 ·cases hc;exact .junk _
 ·cases hc
theorem wg {cs ds:List AV} {vs:List Value} (h:RelC g w (cs++ds) vs):RelC g w (cs++List.replicate ds.length .junk) vs:=by
 have h1:=h.take cs.length
 have h2:=h.drop cs.length
 rw [List.take_left] at h1
 rw [List.drop_left] at h2
 have:=h1.append (we h2)
 rwa [List.take_append_drop] at this
theorem s7 {vs:List Value} (h:∀ v∈vs,v.oneCell'=true):RelC g w (List.replicate vs.length .junk) vs :=
  ⟨⟨by simp, fun i c v hc hv => by
    rw [List.getElem?_replicate] at hc
    split at hc
    · cases hc;exact .junk _
    · cases hc⟩,h⟩
theorem _root_.PA {p:Prop} (h:p:=by simp [Gh.bc]):p:=h
theorem vh (hI:Inv g σ w) {β0:Nat} {e es n cap:Nat} {cs:List AV} {us:List Value} {rest:Array Value} (hr:RelC g w cs us) (hrest:∀ v∈rest.toList,v.oneCell'=true) (hnc:n≤cap) (hcm:cap≤maxLen) (hsz:(us.toArray++rest).size=cap*es) :
  Inv (g.bc w.drew) (σ.ad g.nb (cs++List.replicate rest.size .junk)) (w.drew.alloc (.cells (us.toArray++rest) e))∧Ext g w (g.bc w.drew) (w.drew.alloc (.cells (us.toArray++rest) e)) ∧
  Rel (g.bc w.drew) (w.drew.alloc (.cells (us.toArray++rest) e)) (.row g.nb e es n) (.slice (some ⟨w.heap.size,0,none⟩) n cap):=by
 have hId:=iv hI
 have hrr:RelC g w.drew (cs++List.replicate rest.size .junk) (us.toArray++rest).toList:=by
  have h1:=(hr.mono eN).append (s7 (g:=g) (w:=w.drew) hrest)
  simpa using h1
 refine ⟨hId.bc hrr,eN.trans (Ext.bc hId _),?_⟩
 exact .row _ _ _ _ w.heap.size cap _ PA hnc hcm (heap_alloc_new w.drew _) hsz
theorem zb (hI:Inv g σ w) {t:TypeId} {e es bytes:Nat} {x y:Operand} {vy:AV} {m:Nat} {ds:List AV} (ho:o.op= .call { callee:= .builtin .append,args:= #[x,y],argTypes:= #[t,t] }) (hb:ny P t e es bytes=true)
  (hx:Rel g w .nils (a.eval x)) (hy:Rel g w vy (a.eval y)) (hvy:slv vy=some (m,ds)) (hm:m≠0) (h2:ds.length=m*es) (h3:m≤maxLen) (h4:m*bytes≤140737488355328) :
  ∃ β j u w' g',σ.box β=none∧(execOp a.eval o).run P w= .ok (.value u) w'∧Inv g' (σ.ad β (ds++List.replicate j .junk)) w'∧Ext g w g' w'∧Rel g' w' (.row β e es m) u:=by
 obtain ⟨i,z,hu,hi,hz,hsz,hby,hzs,hpos,hz1⟩:=fQ hb
 have hexec:∀ r w',(Builtin.append_ #[t,t] o.type #[a.eval x,a.eval y]).run P w= .ok r w'→(execOp a.eval o).run P w= .ok (.value r) w':=by
  intro r w' h
  simp [execOp,ho,resolve,invoke,builtin,h]
 have hmax:maxLen≤9223372036854775807:=O9
 have ex:a.eval x= .slice none 0 0:=by cases hxx:a.eval x<;>rw [hxx] at hx<;>cases hx;rfl
 rcases hy.bL hvy with ⟨_,_,h,_⟩|⟨b2,off2,cap2,us2,ey,hnc2,hl2⟩
 ·exact (hm h).elim
 have hm2:us2.length=m*es:=by rw [hl2.rel.1.1,h2]
 have hcell2:∀ j u,us2[j]? =some u→w.cell? ((⟨b2,off2,none⟩:Addr).add j)=some u:=fun j u hu'=>by rw [bE];exact hl2.cell j u hu'
 have hr:=run_append_nil (P:=P) w t o.type e i z hu hi hz ⟨b2,off2,none⟩ m cap2 us2 Pc hcell2 Oz Oz (by rw [hby];omega)
 have hge:=grownCap_ge w m 0 e
 have hle:=grownCap_le_maxLen w m 0 e h3
 obtain ⟨k1,k2,k3⟩:=vh (β0:=0) (e:=e) (es:=es) (n:=m) (cap:=grownCap w m 0 e) (rest:=Builtin.zeroCells z.cells (grownCap w m 0 e - m)) hI hl2.rel (jF hpos hzs hz1) hge hle (by
  simp only [Array.size_append,List.size_toArray,size_zeroCells,hzs,hm2,←Nat.add_mul]
  congr 1
  omega)
 exact ⟨g.nb,_,_,_,_,dR hI,hexec _ _ Pb,k1,k2,k3⟩
theorem ze (hI:Inv g σ w) {t:TypeId} {e es bytes:Nat} {x y:Operand} {vy:AV} {β n m:Nat} {cs ds:List AV} (ho:o.op= .call { callee:= .builtin .append,args:= #[x,y],argTypes:= #[t,t] }) (hb:ny P t e es bytes=true)
  (hx:Rel g w (.row β e es n) (a.eval x)) (hy:Rel g w vy (a.eval y)) (hvy:slv vy=some (m,ds)) (hbx:σ.box β=some cs) (hm:m≠0) (h1:n*es≤cs.length) (h2:ds.length=m*es) (h3:n+m≤maxLen) (h4:(n+m)*bytes≤140737488355328) :
  ∃ γ j u w' g',(σ.bN β).box γ=none∧(execOp a.eval o).run P w= .ok (.value u) w'∧Inv g' ((σ.bN β).ad γ (cs.take (n*es)++ds++List.replicate j .junk)) w'∧Ext g w g' w'∧Rel g' w' (.row γ e es (n+m)) u:=by
 obtain ⟨i,z,hu,hi,hz,hsz,hby,hzs,hpos,hz1⟩:=fQ hb
 have hexec:∀ r w',(Builtin.append_ #[t,t] o.type #[a.eval x,a.eval y]).run P w= .ok r w'→(execOp a.eval o).run P w= .ok (.value r) w':=by
  intro r w' h
  simp [execOp,ho,resolve,invoke,builtin,h]
 have hmax:maxLen≤9223372036854775807:=O9
 obtain ⟨b,cap,vs,ex,hg,hnc,hcm,hh,hvs⟩:=hx.lK
 obtain ⟨b',vs',T,k1,k2,k3⟩:=hI.box β cs hbx
 rw [hg] at k1;cases k1
 rw [hh] at k2;cases k2
 have hlen:vs.size=cs.length:=by have:=k3.1.1;simpa using this
 rcases hy.bL hvy with ⟨_,_,h,_⟩|⟨b2,off2,cap2,us2,ey,hnc2,hl2⟩
 ·exact (hm h).elim
 have hm2:us2.length=m*es:=by rw [hl2.rel.1.1,h2]
 have hcell2:∀ j u,us2[j]? =some u→w.cell? ((⟨b2,off2,none⟩:Addr).add j)=some u:=fun j u hu'=>by rw [bE];exact hl2.cell j u hu'
 by_cases hroom:n+m≤cap
 ·have hfit:n*es+us2.length≤vs.size:=by rw [hm2,hvs,←Nat.add_mul];exact Nat.mul_le_mul_right _ hroom
  have hr:=run_append_room (P:=P) w t o.type e i hu hi b n cap vs hh ⟨b2,off2,none⟩ m cap2 us2 Pc hcell2 hl2.rel.2 hroom (by rw [hsz];exact hfit)
  rw [hsz] at hr
  obtain ⟨w',q1,q2,q3⟩:=gY (P:=P) hI hbx hg hl2.rel (off:=n*es) (by rw [←hlen];exact hfit)
  have q4:=run_storeCells_at P b (n*es) e us2 0 vs w hh (by simpa using hfit) hl2.rel.2
  simp only [Nat.add_zero] at q4
  rw [q1] at q4
  have hw':w'=w.setRow b (vs.toList.take (n*es)++us2++vs.toList.drop (n*es+us2.length)).toArray:=by
   simpa using q4
  subst hw'
  have hset:∀ c,(σ.bN β).ad β c=σ.ad β c:=by
   intro c
   cases σ
   simp only [St.bN,St.ad,St.mk.injEq,and_true]
   funext j
   simp only [upd]
   split<;>rfl
  refine ⟨β,(cs.drop (n*es+us2.length)).length,_,_,g,by simp [St.bN],hexec _ _ Pb,?_,q3,?_⟩
  ·rw [hset]
   exact q2.Dz fun us h=>wg h
  ·refine .row _ _ _ _ b cap _ hg hroom hcm (setRow_heap w b vs _ e _ hh) ?_
   simp only [List.size_toArray,List.length_append,List.length_take,List.length_drop,Array.length_toList]
   omega
 ·have hold:RelC g w (cs.take (n*es)) (vs.toList.take (n*es)):=k3.take _
  have hlo:(vs.toList.take (n*es)).length=n*es:=OS
  have hcell1:∀ j u,(vs.toList.take (n*es))[j]? =some u→w.cell? ((⟨b,0,none⟩:Addr).add j)=some u:=fun j u hu'=>by
   rw [bE]
   rw [List.getElem?_take] at hu'
   split at hu'
   ·simp only [World.cell?,hh,Nat.zero_add]
    simpa using hu'
   ·cases hu'
  have hr:=run_append_grow (P:=P) w t o.type e i z hu hi hz ⟨b,0,none⟩ n cap (vs.toList.take (n*es)) (by rw [hsz];exact hlo) hcell1 ⟨b2,off2,none⟩ m cap2 us2 Pc hcell2 Oz Oz Pd
  have hge:=grownCap_ge w (n+m) cap e
  have hle:=grownCap_le_maxLen w (n+m) cap e h3
  have hlen2:(vs.toList.take (n*es)++us2).length=(n+m)*es:=by rw [List.length_append,hlo,hm2,Nat.add_mul]
  obtain ⟨q1,q2,q3⟩:=vh (β0:=0) (e:=e) (es:=es) (n:=n+m) (cap:=grownCap w (n+m) cap e) (us:=vs.toList.take (n*es)++us2) (rest:=Builtin.zeroCells z.cells (grownCap w (n+m) cap e - (n+m))) (qt hI β) (hold.append hl2.rel) (jF hpos hzs hz1) hge hle (by
   simp only [Array.size_append,List.size_toArray,size_zeroCells,hzs,hlen2,←Nat.add_mul]
   congr 1
   omega)
  rw [show (vs.toList.take (n*es)++us2).toArray=(vs.toList.take (n*es)).toArray++us2.toArray by simp] at q1 q2 q3
  refine ⟨g.nb,_,_,_,_,?_,hexec _ _ Pb,q1,q2,q3⟩
  simp only [St.bN]
  split
  ·rfl
  ·exact dR hI
theorem _root_.PE {p:Prop} (h:p:=by simpa using h0):p:=h
theorem wh (hI:Inv g σ w) {ρ:Od→AV} {t:TypeId} {e n es:Nat} {parts:Array (Nat × Operand)} {z:List AV} {ps:List (Nat × Nat × Od)} (ho:o.op= .buildSlice t n parts) (hb:nV P t n es parts.toList z ps=true)
  (hu:P.underlying t=some (.slice e)) (hn:n≤16777216) (h:ed ρ z.length ps) (hρ:∀ x y,y∈ps.map (·.2.2)→odB x y=true→Rel g w (ρ y) (a.eval x)) (hz:z.length=n*es) :
  Yields ((execOp a.eval o).run P w) g w (.tsl g.nt n (bm ρ z ps)) (σ.ai g.nt (e,es,n)):=by
 unfold nV at hb
 rw [hu] at hb
 simp only at hb
 split at hb
 ·rename_i ie hie
  simp only [Bool.and_eq_true,beq_iff_eq,decide_eq_true_eq] at hb
  obtain ⟨⟨hsz,hsm⟩,hb⟩:=hb
  split at hb
  ·rename_i zv hzv
   simp only [Bool.and_eq_true] at hb
   obtain ⟨hz1,hps⟩:=hb
   have hlenps:(bm ρ z ps).length=n*es:=by rw [gq _ _ _ h,hz]
   have main:∀ cells0:Array Value,RelC g w z cells0.toList→(Instr.buildSlice t n (parts.map fun x=>(x.1,a.eval x.2))).run P w=(match Instr.fill (fun i=>some (i*es,es)) cells0 (parts.toList.map fun x=>(x.1,a.eval x.2)) with
      | some cells=>Result.ok (.slice (some ⟨w.heap.size,0,none⟩) n n) (w.alloc (.cells cells e))
      | none=> .halt (.stuck "buildSlice: a part of the wrong size") w)→Yields ((execOp a.eval o).run P w) g w (.tsl g.nt n (bm ρ z ps)) (σ.ai g.nt (e,es,n)):=by
    intro cells0 hr hrun
    obtain ⟨cells',h1,h2⟩:=jD (fun i=>some (i*es,es)) parts.toList ps z cells0 hps hr h hρ
    rw [h1] at hrun
    have hl:=Lies.new (T:=e) (rest:= #[]) hI h2
    have hcells:cells'.toList.toArray++ #[]=cells':=OF
    rw [hcells] at hl
    have hlen:cells'.toList.length=n*es:=by rw [h2.1.1,hlenps]
    have hal:=hI.alloc (ob:= .cells cells' e) (bm ρ z ps).length
    obtain ⟨hm1,hm2⟩:=nX hal
    have hfr:∀ n',({ g with cl:=fun b=>if b=w.heap.size then some (bm ρ z ps).length else g.cl b,nt:=g.nt+1 }:Gh).tip g.nt n'=none:=fun n'=>hI.tipfresh _ _ (Nat.le_refl _)
    have hown:=gZ (W:=w) (e:=e) (s:=es) (n:=n) (cap:=n) (us:=cells'.toList) (rest:= #[]) hlen (Nat.le_refl _) O9 (by simpa using hlen)
    rw [hcells] at hown
    have hre:=nW (τ:=g.nt) (e:=e) (s:=es) (n:=n) (v:= .slice (some ⟨w.heap.size,0,none⟩) n n) hm1 (fun n' _=>hfr n') OF
     (fun _=>⟨cells'.toList,hown,fun b hb'=>by
      have:b=w.heap.size:=OX
      subst this
      refine ⟨by simp [hlenps],fun β hβ=>?_,fun cur T q hh v hv=>?_⟩
      ·have:=(hI.boxcl β _ hβ).1
       omega
      ·have hn2:(w.alloc (.cells cells' e)).heap[w.heap.size]? =some (.cells cells' e (0,0)):=heap_alloc_new w _
       rw [hn2] at hh
       cases hh
       exact h2.2 v hv⟩)
     (fun τ' x' v' b hne ht' hv' _ hs' hb'=>by
      have:b=w.heap.size:=OX
      subst this
      obtain ⟨e',s',n'⟩:=x'
      obtain ⟨u,q1,q2,_⟩:=hI.tip τ' e' s' n' ht'
      intro hbb
      rw [show g.tip τ' n'=some v' from hv'] at q1;cases q1
      obtain ⟨xs,q3,_⟩:=q2 hs'
      have:=(q3.lt _ hbb).2
      omega)
    have ea:Ext ({ g with cl:=fun b=>if b=w.heap.size then some (bm ρ z ps).length else g.cl b }:Gh) (w.alloc (.cells cells' e)) (({ g with cl:=fun b=>if b=w.heap.size then some (bm ρ z ps).length else g.cl b }:Gh).bA g.nt n (.slice (some ⟨w.heap.size,0,none⟩) n n)) (w.alloc (.cells cells' e)):=cO (hI.tipfresh _ _ (Nat.le_refl _)) (.inl (Nat.le_refl _))
    have eb:Ext (({ g with cl:=fun b=>if b=w.heap.size then some (bm ρ z ps).length else g.cl b }:Gh).bA g.nt n (.slice (some ⟨w.heap.size,0,none⟩) n n)) (w.alloc (.cells cells' e)) (({ ({ g with cl:=fun b=>if b=w.heap.size then some (bm ρ z ps).length else g.cl b }:Gh) with nt:=g.nt+1 }:Gh).bA g.nt n (.slice (some ⟨w.heap.size,0,none⟩) n n)) (w.alloc (.cells cells' e)):=⟨rfl,rfl,rfl,Nat.le_refl _,fun _ _ h=>h,fun _ _=>rfl,Nat.le_refl _,Nat.le_succ _,fun _ _ _ h=>h,fun b _ h=>⟨h,rfl⟩,fun b F _ h=>⟨F,h,Nat.le_refl _,fun _ _=>rfl⟩,fun _ _ h=>h,fun _ us _ _ h=>⟨us,h,rfl⟩⟩
    refine ⟨.slice (some ⟨w.heap.size,0,none⟩) n n,w.alloc (.cells cells' e),_,by simp [execOp,ho,hrun],hre,?_,?_⟩
    ·exact ((Ext.alloc hI _).trans ea).trans eb
    ·exact .kd (Nat.le_refl _) PJ ((hl.mono ea).mono eb)
   by_cases h0:n*es=0
   ·rw [if_pos PE] at hz1
    have hz0:z= []:=by simpa using hz1
    subst hz0
    refine main #[] .nil ?_
    simp only [Instr.buildSlice,Sem.run_bind,run_underlying hu,Result.andThen_ok,sizeOf,typeInfo,run_program,hie,Sem.run_pure,hsz,h0]
    simp [Array.range_zero']
    cases Instr.fill (fun i=>some (i*es,es)) #[] (List.map (fun x=>(x.1,a.eval x.2)) parts.toList)<;>first|rfl|simp [newRow]
   ·rw [if_neg PE] at hz1
    have hz2:=fb g w _ _ hz1
    refine main ((Array.range (n*es)).map fun i=>zv.cells[i % zv.cells.size]!) (by simpa using hz2) ?_
    have hsm2:¬ 16777216<n*es:=Oz
    simp [Instr.buildSlice,run_underlying hu,sizeOf,typeInfo,hie,hsz,zeroValue,hzv,h0,hsm2]
    cases Instr.fill (fun i=>some (i*es,es)) ((Array.range (n*es)).map fun i=>zv.cells[i % zv.cells.size]!) (List.map (fun x=>(x.1,a.eval x.2)) parts.toList)<;>first|rfl|simp [newRow]
  ·cases hb
 ·cases hb
end
end Go.Abs
