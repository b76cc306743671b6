/- Part 3 of the proof of ScriptKnown: an abstract semantics that is proved sound for the model, contracts of functions in it, and plain facts (Abs5). No condition. -/
import Derived.Test.YtgephffbfiemeaaGreatDoorKScriptKnown2
import Derived.Great.FillDense
import Derived.Great.BuildSlice
set_option linter.all false
namespace Go.Abs
def l9 (place:Nat→Option (Nat × Nat)):List (Nat × Operand)→List (Nat × Nat × Od)→Bool
 | [],[]=>true
 | (i,x)::r,(o,s,y)::r'=>(match place i with|some (o',s')=>o' == o&&s' == s|none=>false)&&odB x y&&l9 place r r'
 | _,_=>false
section
variable {P:Program} {g:Gh} {σ:St} {w:World} {a:Act} {o:Oper}
theorem gq (ρ:Od→AV):∀ (ps:List (Nat × Nat × Od)) (z:List AV),ed ρ z.length ps→(bm ρ z ps).length=z.length
  | [],z,_=>rfl
  | (o, s, x) :: r, z, h => by
    simp only [ed] at h
    obtain ⟨h1,h2,h3,h4⟩:=h
    have hl:(z.take o++(ρ x).cells++z.drop (o+(ρ x).cells.length)).length=z.length:=by
      simp only [List.length_append,List.length_take,List.length_drop];omega
    rw [bm,gq ρ r _ (by rw [hl];exact h4),hl]
theorem _root_.OS {p:Prop} (h:p:=by simp;omega):p:=h
theorem wa (cells:Array Value) (off:Nat) (v:List Value) (h:off+v.length≤cells.size) :
  ((v.zipIdx 0).foldl (fun cs (x:Value × Nat)=>cs.setIfInBounds (off+x.2) x.1) cells).toList=cells.toList.take off++v++cells.toList.drop (off+v.length):=by
 obtain ⟨h1,h2⟩:=Great.foldl_set off v 0 cells
 apply List.ext_getElem?
 intro k
 rw [Array.getElem?_toList,h2 k]
 simp only [Nat.add_zero]
 by_cases hk:k<off
 ·rw [if_neg Oz,List.append_assoc,List.getElem?_append_left OS,List.getElem?_take,if_pos hk,Array.getElem?_toList]
 ·by_cases hk2:k<off+v.length
  ·rw [if_pos Oz,List.append_assoc,List.getElem?_append_right OS,List.getElem?_append_left OS]
   congr 1
   simp;omega
  ·rw [if_neg Oz,List.getElem?_append_right OS,List.getElem?_drop,Array.getElem?_toList]
   congr 1
   simp;omega
theorem jD {ρ:Od→AV} (place:Nat→Option (Nat × Nat)):∀ (ops:List (Nat × Operand)) (ps:List (Nat × Nat × Od)) (z:List AV) (cells:Array Value),l9 place ops ps=true→RelC g w z cells.toList→ed ρ z.length ps→(∀ x y,y∈ps.map (·.2.2)→odB x y=true→Rel g w (ρ y) (a.eval x)) →
    ∃ cells',Instr.fill place cells (ops.map fun x=>(x.1,a.eval x.2))=some cells'∧RelC g w (bm ρ z ps) cells'.toList
  | [],[],z,cells,_,hr,_,_=>⟨cells,rfl,hr⟩
  | (i, x) :: ops, (o, s, y) :: ps, z, cells, hb, hr, hs, hρ => by
    simp only [l9,Bool.and_eq_true] at hb
    obtain ⟨⟨h1,h2⟩,h3⟩:=hb
    simp only [ed] at hs
    obtain ⟨h4,h5,h6,h7⟩:=hs
    have hp:place i=some (o,s):=by
      cases hpi:place i with
      | none=>simp [hpi] at h1
      | some q=>simp [hpi] at h1;obtain ⟨e1,e2⟩:=h1;rw [←e1,←e2]
    have hv:=hρ x y OF h2
    have hc:=hv.cells h4
    have hcs:(a.eval x).cells.size=s:=by have:=hc.1.1;simp at this;omega
    have hsz:cells.size=z.length:=by have:=hr.1.1;simpa using this
    have hput:=wa cells o (a.eval x).cells.toList OS
    have e1:((a.eval x).cells.zipIdx.foldl (fun cs (x:Value × Nat)=>match x with|(c,j)=>cs.setIfInBounds (o+j) c) cells)=(((a.eval x).cells.toList.zipIdx 0).foldl (fun cs (x:Value × Nat)=>cs.setIfInBounds (o+x.2) x.1) cells):=by
      rw [←Array.foldl_toList]
      simp
    have hlen:(z.take o++(ρ y).cells++z.drop (o+(ρ y).cells.length)).length=z.length:=by
      simp only [List.length_append,List.length_take,List.length_drop];omega
    obtain ⟨cells',h8,h9⟩:=jD place ops ps (z.take o++(ρ y).cells++z.drop (o+(ρ y).cells.length)) ((((a.eval x).cells.toList.zipIdx 0).foldl (fun cs (x:Value × Nat)=>cs.setIfInBounds (o+x.2) x.1) cells)) h3
      (by
        rw [hput]
        have hl2:(a.eval x).cells.toList.length=(ρ y).cells.length:=hc.1.1
        rw [hl2]
        exact ((hr.take o).append hc).append (hr.drop _)) (by rw [hlen];exact h7) (fun x' y' hy' hb'=>hρ x' y' (List.mem_cons_of_mem _ hy') hb')
    refine ⟨cells',?_,h9⟩
    simp only [List.map_cons,Instr.fill,hp,hcs]
    rw [if_neg OS]
    rw [←h8]
    congr 1
def plc (P:Program) (t:TypeId):Option (List Value × (Nat→Option (Nat × Nat))) :=
  match P.info? t,P.underlying t with
  | some it, some (.array _ e) => match it.zero, P.info? e with
    | some z,some ie=>some (z.cells.toList,fun i=>some (i*ie.size,ie.size))
    | _,_=>none
  | some it, some (.struct fields) => match it.zero, fields.toList.mapM (fun f => (P.info? f.type).map fun i => (f.offset, i.size)) with
    | some z,some places=>some (z.cells.toList,fun i=>places.toArray[i]?)
    | _,_=>none
  | _,_=>none
theorem wb {t:TypeId} {z:List Value} {f:Nat→Option (Nat × Nat)} (h:plc P t=some (z,f)) (parts:List (Nat × Value)):P.built t parts=Instr.fill f z.toArray parts:=by
 unfold plc at h
 unfold Program.built
 split at h
 ·split at h
  ·rename_i h1 h2
   cases h
   simp [*]
  ·cases h
 ·split at h
  ·cases h
   simp [*]
  ·cases h
 ·cases h
def GK (P:Program) (t:TypeId) (ops:List (Nat × Operand)) (z:List AV) (ps:List (Nat × Nat × Od)):Bool :=
 match plc P t with
 | some (zv,f)=>cBL zv z&&l9 f ops ps
 | none=>false
theorem Ka (hI:Inv g σ w) {ρ:Od→AV} {t:TypeId} {parts:Array (Nat × Operand)} {z:List AV} {ps:List (Nat × Nat × Od)} (ho:o.op= .build t parts) (hb:GK P t parts.toList z ps=true) (h:ed ρ z.length ps) (hρ:∀ x y,y∈ps.map (·.2.2)→odB x y=true→Rel g w (ρ y) (a.eval x)) :
  Yields ((execOp a.eval o).run P w) g w (.agg (bm ρ z ps)) σ:=by
 unfold GK at hb
 split at hb
 ·rename_i zv f hp
  simp only [Bool.and_eq_true] at hb
  have hz:=fb g w _ _ hb.1
  obtain ⟨cells',h1,h2⟩:=jD f parts.toList ps z zv.toArray hb.2 (by simpa using hz) h hρ
  have hrun:=run_build (P:=P) w t (parts.map fun x=>(x.1,a.eval x.2)) cells' (by rw [wb hp];simpa using h1)
  refine .same hI (u:= .agg cells') (by simp [execOp,ho,hrun]) ?_
  have:=Rel.gV h2
  simpa using this
 ·cases hb
def nV (P:Program) (t:TypeId) (n es:Nat) (ops:List (Nat × Operand)) (z:List AV) (ps:List (Nat × Nat × Od)):Bool :=
  match P.underlying t with
  | some (.slice e) => match P.info? e with
    | some ie => ie.size == es && decide (n * es ≤ 2 ^ 24) && (match ie.zero with
      | some zv=>(if n*es == 0 then z.isEmpty else cBL ((List.range (n*es)).map fun i=>zv.cells[i % zv.cells.size]!) z)&&l9 (fun i=>some (i*es,es)) ops ps
      | none=>false)
    | none=>false
  | _=>false
theorem GL (hI:Inv g σ w) {ρ:Od→AV} {t:TypeId} {n es:Nat} {parts:Array (Nat × Operand)} {z:List AV} {ps:List (Nat × Nat × Od)} (ho:o.op= .buildSlice t n parts) (hb:nV P t n es parts.toList z ps=true)
  (h:ed ρ z.length ps) (hρ:∀ x y,y∈ps.map (·.2.2)→odB x y=true→Rel g w (ρ y) (a.eval x)) (hz:z.length=n*es):Yields ((execOp a.eval o).run P w) g w (.sl true n (bm ρ z ps)) σ:=by
 unfold nV at hb
 split at hb
 ·rename_i e hu
  split at hb
  ·rename_i ie hie
   simp only [Bool.and_eq_true,beq_iff_eq,decide_eq_true_eq] at hb
   obtain ⟨⟨hsz,hsm⟩,hb⟩:=hb
   split at hb
   ·rename_i zv hzv
    simp only [Bool.and_eq_true] at hb
    obtain ⟨hz1,hps⟩:=hb
    have hlenps:(bm ρ z ps).length=n*es:=by rw [gq _ _ _ h,hz]
    have main:∀ cells0:Array Value,RelC g w z cells0.toList→(Instr.buildSlice t n (parts.map fun x=>(x.1,a.eval x.2))).run P w=(match Instr.fill (fun i=>some (i*es,es)) cells0 (parts.toList.map fun x=>(x.1,a.eval x.2)) with
       | some cells=>Result.ok (.slice (some ⟨w.heap.size,0,none⟩) n n) (w.alloc (.cells cells e))
       | none=> .halt (.stuck "buildSlice: a part of the wrong size") w)→Yields ((execOp a.eval o).run P w) g w (.sl true n (bm ρ z ps)) σ:=by
     intro cells0 hr hrun
     obtain ⟨cells',h1,h2⟩:=jD (fun i=>some (i*es,es)) parts.toList ps z cells0 hps hr h hρ
     rw [h1] at hrun
     have hl:=Lies.new (T:=e) (rest:= #[]) hI h2
     have hcells:cells'.toList.toArray++ #[]=cells':=OF
     rw [hcells] at hl
     refine ⟨.slice (some ⟨w.heap.size,0,none⟩) n n,w.alloc (.cells cells' e),_,by simp [execOp,ho,hrun],hI.alloc (ob:= .cells cells' e) (bm ρ z ps).length,Ext.alloc hI _, .gU (Nat.le_refl _) OF hl⟩
    by_cases h0:n*es=0
    ·rw [if_pos h0] at hz1
     have hz0:z= []:=by simpa using hz1
     subst hz0
     refine main #[] .nil ?_
     simp only [Instr.buildSlice,Sem.run_bind,run_underlying hu,Result.andThen_ok,sizeOf,typeInfo,run_program,hie,Sem.run_pure,hsz,h0]
     simp [Array.range_zero']
     cases Instr.fill (fun i=>some (i*es,es)) #[] (List.map (fun x=>(x.1,a.eval x.2)) parts.toList)<;>first|rfl|simp [newRow]
    ·rw [if_neg h0] at hz1
     have hz2:=fb g w _ _ hz1
     refine main ((Array.range (n*es)).map fun i=>zv.cells[i % zv.cells.size]!) (by simpa using hz2) ?_
     have hsm2:¬ 16777216<n*es:=Oz
     simp [Instr.buildSlice,run_underlying hu,sizeOf,typeInfo,hie,hsz,zeroValue,hzv,h0,hsm2]
     cases Instr.fill (fun i=>some (i*es,es)) ((Array.range (n*es)).map fun i=>zv.cells[i % zv.cells.size]!) (List.map (fun x=>(x.1,a.eval x.2)) parts.toList)<;>first|rfl|simp [newRow]
   ·cases hb
  ·cases hb
 ·cases hb
end
end Go.Abs
