/- Part 7 of the proof of ScriptKnown: an abstract semantics that is proved sound for the model, contracts of functions in it, and plain facts (Abs8m). No condition. -/
import Derived.Test.YtgephffbfiemeaaGreatDoorKScriptKnown6
import Derived.MapKept
import Derived.Carry
import Derived.RangeFuncRecord
set_option linter.all false
namespace Go.Abs
open Go.MapKept
theorem LO.nY (x:LO):x.obj.isCells=false:=by cases x<;>rfl
section
variable {P:Program} {g:Gh} {σ:St} {w:World} {a:Act} {fr:Fr} {N:Nat}
theorem Rel.gL {w:World} {D:Nat} {o o':Obj} (hD:w.heap[D]? =some o) (ho:o.isCells=false) {c:AV} {u:Value} (h:Rel g w c u):Rel g (w.putObj D o') c u:=by
 have hc:∀ (b i:Nat) (v:Value),w.cell? ⟨b,i,none⟩=some v→(w.putObj D o').cell? ⟨b,i,none⟩=some v:=by
  intro b i v hv
  by_cases hb:b=D
  ·subst hb
   rw [World.cell?,hD] at hv
   cases o<;>simp_all [Obj.isCells]
  ·rw [World.cell?_of_block (World.putObj_heap_other hb)];exact hv
 have hcl:∀ b k,Claim g w b k→Claim g (w.putObj D o') b k:=fun b k ⟨h1,h2⟩=>⟨by simpa using h1,h2⟩
 induction h with
 | junk v=>exact .junk v
 | bool b=>exact .bool b
 | int k n=>exact .int k n
 | str l=>exact .str l
 | nils=>exact .nils
 | sl0 f x=>exact .sl0 f x
 | sl f n cs b off cap u h1 h2 h4 h5 h6 h7 ih=>exact .sl f n cs b off cap u h1 h2 (hcl _ _ h4) h5 (fun i v hv=>⟨hc _ _ _ (h6 i v hv).1,(h6 i v hv).2⟩) ih
 | tsl0 τ x h=>exact .tsl0 τ x h
 | tsl τ n cs b off cap u h1 h2 h4 h5 h6 h7 ih=>exact .tsl τ n cs b off cap u h1 h2 (hcl _ _ h4) h5 (fun i v hv=>⟨hc _ _ _ (h6 i v hv).1,(h6 i v hv).2⟩) ih
 | agg cs vs h1 h0 h2 ih=>exact .agg cs vs h1 h0 ih
 | tup cs vs h1 h2 ih=>exact .tup cs vs h1 ih
 | ptr β off b h=>exact .ptr β off b h
 | nilp=>exact .nilp
 | el cs b off u h4 h5 h6 h7 ih=>exact .el cs b off u (hcl _ _ h4) h5 (fun i v hv=>⟨hc _ _ _ (h6 i v hv).1,(h6 i v hv).2⟩) ih
 | ifc t v u h ih=>exact .ifc t v u ih
 | nili=>exact .nili
 | fn f cap vs h1 h2 ih=>exact .fn f cap vs h1 ih
 | nilf=>exact .nilf
 | opt c v u h h0 ih=>exact .opt c v u ih h0
 | yld l=>exact .yld l
 | mpv m=>exact .mpv m
 | psl β off n b cap h h1=>exact .psl β off n b cap h h1
 | row β e es n b cap vs h h1 h2 h3 h4=>exact .row β e es n b cap vs h h1 h2 (by rw [World.putObj_heap_other (fun e=>by subst e;rw [hD] at h3;cases h3;cases ho)];exact h3) h4
theorem GlobOk.gL {w:World} {D k:Nat} {o o':Obj} {cs:List AV} (hD:w.heap[D]? =some o) (ho:o.isCells=false) (h:GlobOk g w k cs):GlobOk g (w.putObj D o') k cs:=by
 obtain ⟨vs,T,q,hv,hl⟩:=h.row
 refine ⟨h.rel.gL hD ho,h.cl,vs,T,q,?_,hl⟩
 rw [World.putObj_heap_other (fun e=>by subst e;rw [hD] at hv;cases hv;cases ho)]
 exact hv
theorem Inv.gL {w:World} {D:Nat} {o o':Obj} (hI:Inv g σ w) (hD:w.heap[D]? =some o) (ho:o.isCells=false) {lp':Nat→Option (LO × Fr)}
  (hlp:∀ l r,lp' l=some r→(w.putObj D o').heap[l]? =some r.1.obj∧g.cl l=some 0∧∀ t,Rel g w (slot t r.2) (r.1.tmps.getD t undef)):Inv g { σ with lp:=lp' } (w.putObj D o'):=by
 refine ⟨fun β cs hb=>?_,fun β b hb=>?_,hI.boxinj,hI.boxfresh,fun τ e s n ht=>?_,hI.tipinj,hI.tipfresh,fun k cs hk=>(hI.glob k cs hk).gL hD ho,fun l r hl=>?_,fun β T hb=>by
  obtain ⟨b,vs,h1,h2⟩:=hI.bty β T hb
  refine ⟨b,vs,h1,?_⟩
  rw [World.putObj_heap_other (fun e=>by subst e;rw [hD] at h2;cases h2;cases ho)]
  exact h2⟩
 ·obtain ⟨b,vs,T,h1,h2,h3⟩:=hI.box β cs hb
  refine ⟨b,vs,T,h1,?_,⟨h3.1.1,fun i c v hc hv=>(h3.1.2 i c v hc hv).gL hD ho⟩,h3.2⟩
  rw [World.putObj_heap_other (fun e=>by subst e;rw [hD] at h2;cases h2;cases ho)]
  exact h2
 ·obtain ⟨h1,h2⟩:=hI.boxcl β b hb
  exact ⟨by simpa using h1,h2⟩
 ·obtain ⟨v,k1,k2,k4⟩:=hI.tip τ e s n ht
  refine ⟨v,k1,fun hs=>?_,k4⟩
  obtain ⟨xs,k2,k3⟩:=k2 hs
  have hne:v.ownBlock=none∨v.ownBlock≠some D:=by
   rcases k2.2 with ⟨rfl,_⟩|⟨gg,cap,cur,rfl,_,hb,_⟩
   ·exact .inl rfl
   ·refine .inr (fun e=>?_)
    simp only [Value.ownBlock,Option.some.injEq] at e
    subst e
    rw [hD] at hb;cases hb;cases ho
  exact ⟨xs,k2.kept (row:=some D) ⟨rfl,rfl,rfl,by simp,fun k _ hk=>World.putObj_heap_other (fun e=>hk (by rw [e]))⟩ hne,fun k hk=>⟨(k3 k hk).1,(k3 k hk).2.1,(k3 k hk).2.2.same (World.putObj_heap_other (fun e=>by
   rcases hne with h|h
   ·rw [h] at hk;cases hk
   ·exact h (e ▸ hk)))⟩⟩
 ·obtain ⟨h1,h2,h3⟩:=hlp l r hl
  exact ⟨h1,h2,fun t=>(h3 t).gL hD ho⟩
theorem ix {w:World} {L:Nat} (o':Obj) (hc:g.cl L=some 0) (hnc:∀ vs T q,w.heap[L]? ≠some (.cells vs T q)):Ext g w g (w.putObj L o'):=by
 refine ⟨rfl,rfl,rfl,by simp,fun _ _ h=>h,fun _ _=>rfl,Nat.le_refl _,Nat.le_refl _,fun _ _ _ h=>h,fun b _ hb=>⟨hb,?_⟩,fun b F _ hb=>⟨F,hb,Nat.le_refl _,fun i hi=>?_⟩,fun _ _ h=>h,fun b us T' _ h=>⟨us,by rw [World.putObj_heap_other (fun e=>hnc us T' _ (e ▸ h))];exact h,rfl⟩⟩
 ·rw [World.putObj_heap_other (fun e=>by subst e;rw [hc] at hb;cases hb)]
 ·by_cases e:b=L
  ·subst e;rw [hc] at hb;cases hb;omega
  ·exact World.cell?_of_block (World.putObj_heap_other e)
theorem Inv.Gc {w:World} {L:Nat} {r r':LO} {fr fr':Fr} (hI:Inv g σ w) (hl:σ.lp L=some (r,fr)) (ht:∀ t,Rel g w (slot t fr') (r'.tmps.getD t undef)):Inv g (σ.au L (r',fr')) (w.putObj L r'.obj):=by
 obtain ⟨h1,h2,h3⟩:=hI.lp L _ hl
 have hlt:=(Array.getElem?_eq_some_iff.1 h1).1
 refine hI.gL h1 r.nY (fun l x hx=>?_)
 simp only [upd] at hx
 split at hx
 ·rename_i e;subst e;cases hx
  exact ⟨World.putObj_heap_same hlt,h2,fun t=>ht t⟩
 ·rename_i e
  obtain ⟨q1,q2,q3⟩:=hI.lp l x hx
  exact ⟨by rw [World.putObj_heap_other e];exact q1,q2,q3⟩
theorem Inv.au {w:World} {L:Nat} {r r':Loop} {fr:Fr} (hI:Inv g σ w) (hl:σ.lp L=some (.loop r,fr)) (ht:r'.tmps=r.tmps):Inv g (σ.au L (r',fr)) (w.putObj L (.loop r')) :=
 hI.Gc (r':= .loop r') hl fun t=>by show Rel g w (slot t fr) (r'.tmps.getD t undef);rw [ht];exact (hI.lp L _ hl).2.2 t
theorem Inv.dropLp {w:World} {L:Nat} {r:Loop} {fr:Fr} {o':Obj} (hI:Inv g σ w) (hl:σ.lp L=some (.loop r,fr)):Inv g (σ.dropLp L) (w.putObj L o'):=by
 obtain ⟨h1,h2,h3⟩:=hI.lp L _ hl
 refine hI.gL h1 (LO.nY _) (fun l x hx=>?_)
 split at hx
 ·cases hx
 ·rename_i e
  obtain ⟨q1,q2,q3⟩:=hI.lp l x hx
  exact ⟨by rw [World.putObj_heap_other e];exact q1,q2,q3⟩
def Gh.gM (g:Gh) (w:World):Gh:={ g with cl:=fun b=>if b=w.heap.size then some 0 else g.cl b }
theorem Ext.gM (o:Obj):Ext g w (g.gM w) (w.alloc o):=by
 have hc:∀ b,b<w.heap.size→(g.gM w).cl b=g.cl b:=fun b hb=>by simp only [Gh.gM];rw [if_neg Oz]
 refine ⟨rfl,rfl,rfl,by simp,fun _ _ h=>h,fun _ _=>rfl,Nat.le_refl _,Nat.le_refl _,fun _ _ _ h=>h,fun b hb h=>⟨by rw [hc b hb];exact h,RowKit.Below.heap_alloc w o b hb⟩,fun b F hb h=>⟨F,by rw [hc b hb];exact h,Nat.le_refl _,fun i _=>World.cell?_of_block (RowKit.Below.heap_alloc w o b hb)⟩,fun _ _ h=>h,fun b us T' _ h=>⟨us,by rw [RowKit.Below.heap_alloc w o b (Array.getElem?_eq_some_iff.1 h).1];exact h,rfl⟩⟩
theorem Inv.gM (hI:Inv g σ w) (x:LO) (hx:x.tmps= #[]):Inv (g.gM w) (σ.au w.heap.size (x,[])) (w.alloc x.obj):=by
 have he:=Ext.gM (g:=g) (w:=w) x.obj
 have hc:∀ b,b<w.heap.size→(g.gM w).cl b=g.cl b:=fun b hb=>by simp only [Gh.gM];rw [if_neg Oz]
 refine ⟨fun β cs hb=>?_,fun β b hb=>?_,hI.boxinj,hI.boxfresh,fun τ e s n ht=>?_,hI.tipinj,hI.tipfresh,fun k cs hk=>(hI.glob k cs hk).mono he,fun l y hl=>?_,fun β T hb=>by
  obtain ⟨b,vs,h1,h2⟩:=hI.bty β T hb
  exact ⟨b,vs,h1,by rw [RowKit.Below.heap_alloc w _ b (hI.boxcl β b h1).1];exact h2⟩⟩
 ·obtain ⟨b,vs,T,h1,h2,h3⟩:=hI.box β cs hb
  exact ⟨b,vs,T,h1,by rw [RowKit.Below.heap_alloc w _ b (hI.boxcl β b h1).1];exact h2,h3.mono he⟩
 ·obtain ⟨h1,h2⟩:=hI.boxcl β b hb
  exact ⟨by simp;omega,fun hl=>by rw [hc b h1];exact h2 hl⟩
 ·obtain ⟨v,h1,h2,h4⟩:=hI.tip τ e s n ht
  refine ⟨v,h1,fun hs=>?_,h4⟩
  obtain ⟨xs,h2,h3⟩:=h2 hs
  refine ⟨xs,h2.alloc _,fun b hb=>?_⟩
  obtain ⟨h5,h6⟩:=h3 b hb
  exact ⟨by rw [hc b (h2.lt b hb).2];exact h5,h6.1,h6.2.same (RowKit.Below.heap_alloc w _ b (h2.lt b hb).2)⟩
 ·simp only [St.au,upd] at hl
  split at hl
  ·rename_i e;subst e;cases hl
   exact ⟨World.alloc_heap_new w _,by simp [Gh.gM],fun t=> .junk _⟩
  ·obtain ⟨q1,q2,q3⟩:=hI.lp l y hl
   have hlt:=(Array.getElem?_eq_some_iff.1 q1).1
   exact ⟨by rw [RowKit.Below.heap_alloc w _ l hlt];exact q1,by rw [hc l hlt];exact q2,fun t=>(q3 t).mono he⟩
theorem zf (hI:Inv g σ w):σ.lp w.heap.size=none:=by
 cases hq:σ.lp w.heap.size with
 | none=>rfl
 | some y=>have:=(Array.getElem?_eq_some_iff.1 (hI.lp _ _ hq).1).1;omega
theorem wi (t:TypeId):(Instr.makeMap t none).run P w= .ok (.map (some w.heap.size)) (w.alloc (LO.map [] 0).obj):=rfl
theorem hG (n:Int):∀ (l:List (Int × Bool × Nat)) (i:Nat),Instr.findNow (.int .u64) (.int .u64 n) (l.map fun e=>{ key:= .int .u64 e.1,val:= .bool e.2.1,born:=e.2.2:MapEntry }) i=some ((dZ n l i).map fun p=>(p.1, .bool p.2))
  | [],_=>rfl
  | e :: r, i => by
    simp only [List.map_cons,Instr.findNow,Instr.sameNow,dZ,if_true]
    by_cases h:n=e.1
    · subst h;simp
    · simp only [beq_eq_false_iff_ne.2 h,if_neg (Ne.symm h)]
      exact hG n r (i+1)
theorem me {t:TypeId} (ht:qq P t=true) {L:Nat} {l:List (Int × Bool × Nat)} {c:Nat} {n:Int} (hb:w.heap[L]? =some (LO.map l c).obj):(Instr.lookup t (.map (some L)) (.int .u64 n) false).run P w= .ok (.bool (iI l n)) w:=by
  unfold qq at ht
  split at ht
  · rename_i kt et hu
    simp only [Bool.and_eq_true] at ht
    obtain ⟨h1,h2⟩:=ht
    split at h1
    · rename_i hk
      split at h2
      · rename_i i hi
        split at h2
        · rename_i hz
          have hf:=run_findKey (P:=P) (w:=w) hk (hG n l 0)
          have hc:∀ e,(Instr.checkKey e 10000 kt (.int .u64 n)).run P w= .ok () w:=fun e=>run_checkKey (P:=P) (w:=w) (k:= .int .u64 n) hk (by simp [IsKey]) e 9999
          have hg:=Go.MapKept.run_getObj_map (P:=P) hb
          unfold Instr.lookup
          simp only [Sem.run_bind,run_underlying hu,Result.andThen_ok,hg,hc,Sem.run_pure]
          cases hm:dZ n l 0 with
          | none =>
            rw [hm] at hf
            simp only [Option.map_none] at hf
            simp [hf,iI,hm,zeroValue,typeInfo,hi,hz]
          | some p =>
            rw [hm] at hf
            simp only [Option.map_some] at hf
            simp [hf,iI,hm]
        · cases h2
      · cases h2
    · cases h1
  · cases ht
theorem qu (n:Int):∀ (l:List (Int × Bool × Nat)) (i j:Nat) (b:Bool),dZ n l i=some (j,b)→i≤j∧j - i<l.length∧∃ e,l[j - i]? =some e∧e.1=n
  | [],_,_,_,h=>by simp [dZ] at h
  | e :: r, i, j, b, h => by
    simp only [dZ] at h
    split at h
    · rename_i he;simp at h;obtain ⟨rfl,_⟩:=h;exact ⟨Nat.le_refl _,by simp,e,by simp,he⟩
    · obtain ⟨h1,h2,e2,h3,h4⟩:=qu n r (i+1) j b h
      refine ⟨by omega,by simp;omega,e2,?_,h4⟩
      rw [show j - i=(j - (i+1))+1 by omega]
      simpa using h3
theorem jG {t:TypeId} (ht:qq P t=true) {L:Nat} {l:List (Int × Bool × Nat)} {c:Nat} {n:Int} {v:Bool} (hb:w.heap[L]? =some (LO.map l c).obj):(Instr.mapUpdate t (.map (some L)) (.int .u64 n) (.bool v)).run P w= .ok () (w.putObj L (LO.map (iJ l c n v).1 (iJ l c n v).2).obj):=by
  unfold qq at ht
  split at ht
  · rename_i kt et hu
    simp only [Bool.and_eq_true] at ht
    obtain ⟨h1,h2⟩:=ht
    split at h1
    · rename_i hk
      have hf:=run_findKey (P:=P) (w:=w) hk (hG n l 0)
      have hc:∀ e,(Instr.checkKey e 10000 kt (.int .u64 n)).run P w= .ok () w:=fun e=>run_checkKey (P:=P) (w:=w) (k:= .int .u64 n) hk (by simp [IsKey]) e 9999
      have hg:=Go.MapKept.run_getObj_map (P:=P) hb
      have hs:=fun o=>Go.MapKept.run_setObj_map (P:=P) o hb
      cases hm:dZ n l 0 with
      | none =>
        simp only [hm,Option.map_none] at hf
        unfold Instr.mapUpdate
        simp only [Sem.run_bind,run_underlying hu,Result.andThen_ok,hg,hc,hf,hs]
        simp [iJ,hm,LO.obj,World.putObj]
      | some p =>
        obtain ⟨i,b⟩:=p
        obtain ⟨_,h3,e,h4,h5⟩:=qu n l 0 i b hm
        simp only [Nat.sub_zero] at h3 h4
        simp only [hm,Option.map_some] at hf
        have hst:(Instr.keyThatStays (.int .u64 n) (.int .u64 n)).run P w= .ok (.int .u64 n) w:=by simp [Instr.keyThatStays,Instr.sameBits]
        have hgk:(l.map fun e=>{ key:= .int .u64 e.1,val:= .bool e.2.1,born:=e.2.2:MapEntry }).toArray[i]? =some { key:= .int .u64 n,val:= .bool e.2.1,born:=e.2.2 }:=by simp [h4,h5]
        have hmod:((l.map fun e=>{ key:= .int .u64 e.1,val:= .bool e.2.1,born:=e.2.2:MapEntry }).toArray.modify i fun e=>{ e with key:= .int .u64 n,val:= .bool v })=((l.modify i fun e=>(n,v,e.2.2)).map fun e=>{ key:= .int .u64 e.1,val:= .bool e.2.1,born:=e.2.2:MapEntry }).toArray:=by
          apply Array.ext'
          simp only [Array.toList_modify]
          apply List.ext_getElem?
          intro j
          simp only [List.getElem?_modify,List.getElem?_map]
          split<;>simp [Option.map_map,Function.comp_def]
        unfold Instr.mapUpdate
        simp only [Sem.run_bind,run_underlying hu,Result.andThen_ok,hg,hc,hf,hs,hgk,Option.map_some,Option.getD_some,hst,hmod]
        simp [iJ,hm,LO.obj,World.putObj]
    · cases h1
  · cases ht
end
end Go.Abs
