/- Part 23 of the proof of ScriptConfigs: an abstract semantics that is proved sound for the model, contracts of functions in it, and plain facts (Abs20). No condition. -/
import Derived.Test.YtgephffbfiemeaaGreatDoorKScriptConfigs22
import Derived.DataReads
import Derived.ChangeArms
import Derived.OpenShut
set_option linter.all false
namespace Go.Abs
open Go.RowKit Go.ChangeShapes Go.WideShapes
variable {H:Type} {enc:TypeId × Value→H} {P:Program} {w:World}
inductive TD where
 | bool
 | int (k:IntKind)
 | str
 | sl (e:TD)
 | nil
 | cons (a r:TD)
def TD.size:TD→Nat
 | .nil=>0
 | .cons a r=>a.size+r.size
 | _=>1
def TD.chk (P:Program):Nat→TD→TypeId ⊕ (List (TypeId × Nat) × Nat)→Bool
 | 0,_,_=>false
 | _+1, .bool, .inl t=>match P.underlying t with|some .bool=>true|_=>false
 | _+1, .int k, .inl t=>match P.underlying t with|some (.int q)=>decide (q=k)|_=>false
 | _+1, .str, .inl t=>match P.underlying t with|some .string=>true|_=>false
 | n+1, .sl e, .inl t=>match P.underlying t with|some (.slice u)=>Nat.beq (P.cellsOf u) e.size&&Nat.ble 1 e.size&&TD.chk P n e (.inl u)|_=>false
 | n+1, .cons a r, .inl t=>match P.underlying t with|some (.struct fs)=>Nat.beq (P.cellsOf t) (a.size+r.size)&&TD.chk P n (.cons a r) (.inr (fs.toList.map (fun f=>(f.type,f.offset)),0))|some (.array k u)=>Nat.beq (P.cellsOf t) (a.size+r.size)&&TD.chk P n (.cons a r) (.inr ((List.range k).map (fun i=>(u,i*P.cellsOf u)),0))|_=>false
 | _+1, .nil, .inr ([],_)=>true
 | n+1, .cons a r, .inr (f::fs,o)=>Nat.beq f.2 o&&Nat.beq (P.cellsOf f.1) a.size&&TD.chk P n a (.inl f.1)&&TD.chk P n r (.inr (fs,o+a.size))
 | _,_,_=>false
def TD.Has:TD→List AV→Prop
 | .bool,l=>∃ b,l= [.bool b]
 | .int k,l=>∃ n,l= [.int k n]∧(Lit.int k n).wf=true
 | .str,l=>∃ s:List UInt8,l= [.str s]∧s.length≤maxLen
 | .sl e,l=>∃ xs:List (List AV),l= [.sl false xs.length xs.flatten]∧xs.length≤maxLen∧∀ x∈xs,TD.Has e x
 | .nil,l=>l= []
 | .cons a r,l=>∃ x y,l=x++y∧TD.Has a x∧TD.Has r y
theorem TD.Has.len:∀ {d:TD} {l:List AV},d.Has l→l.length=d.size
  | .bool,l,h=>by obtain ⟨b,rfl⟩:=h;rfl
  | .int k,l,h=>by obtain ⟨n,rfl,_⟩:=h;rfl
  | .str,l,h=>by obtain ⟨n,rfl,_⟩:=h;rfl
  | .sl e,l,h=>by obtain ⟨n,rfl,_⟩:=h;rfl
  | .nil,l,h=>by subst h;rfl
  | .cons a r, l, h => by
    obtain ⟨x,y,rfl,hx,hy⟩:=h
    simp only [List.length_append,TD.size,hx.len,hy.len]
theorem mz {α:Type} {s:Nat}:∀ (ls:List (List α)),(∀ l∈ls,l.length=s)→0<s→∀ i v,ls.flatten[i]? =some v→∃ l,ls[i / s]? =some l∧l[i % s]? =some v
  | [],_,_,i,v,h=>by simp at h
  | l :: ls, hl, hs, i, v, h => by
    have hll:l.length=s:=hl l Qd
    rw [List.flatten_cons] at h
    by_cases hi:i<s
    · rw [List.getElem?_append_left P6] at h
      rw [Nat.div_eq_of_lt hi,Nat.mod_eq_of_lt hi]
      exact ⟨l,rfl,h⟩
    · rw [List.getElem?_append_right P6,hll] at h
      obtain ⟨l',h1,h2⟩:=mz ls (fun x hx=>hl x QT) hs (i - s) v h
      have e1:i / s=(i - s) / s+1:=by rw [←Nat.sub_add_cancel (show s≤i by omega),Nat.add_div_right _ hs];simp
      have e2:i % s=(i - s) % s:=by conv=>lhs;rw [←Nat.sub_add_cancel (show s≤i by omega)];rw [Nat.add_mod_right]
      rw [e1,e2]
      exact ⟨l',by simpa using h1,h2⟩
theorem RelC.flatten {g:Gh} {w:World}:∀ {us:List (List AV)} {vs:List (List Value)},us.length=vs.length→(∀ (i:Nat) (a:List AV) (v:List Value),us[i]? =some a→vs[i]? =some v→RelC g w a v)→RelC g w us.flatten vs.flatten
  | [],[],_,_=>by simpa using RelC.nil
  | a :: us, v :: vs, hl, h => by
    rw [List.flatten_cons,List.flatten_cons]
    exact (h 0 a v rfl rfl).append (RelC.flatten (by simpa using hl) fun i a v h1 h2=>h (i+1) a v (by simpa using h1) Rs)
theorem kO {α β:Type} {Q:α→β→Prop}:∀ (l:List α),(∀ a∈l,∃ b,Q a b)→∃ m:List β,m.length=l.length∧∀ (i:Nat) (a:α) (b:β),l[i]? =some a→m[i]? =some b→Q a b
  | [],_=>⟨[],rfl,by simp⟩
  | a :: l, h => by
    obtain ⟨b,hb⟩:=h a Qd
    obtain ⟨m,hm,hq⟩:=kO l fun x hx=>h x QT
    refine ⟨b::m,by simp [hm],fun i x y hx hy=>?_⟩
    cases i with
    | zero=>simp at hx hy;subst hx;subst hy;exact hb
    | succ i=>exact hq i x y (by simpa using hx) (by simpa using hy)
theorem Dq {a:Addr} {v:Value} (h:w.cell? a=some v):a.block<w.heap.size:=by
 unfold World.cell? at h
 split at h
 ·rename_i hh;exact (Array.getElem?_eq_some_iff.1 hh).1
 ·cases h
theorem Gw {base:Nat} (n:Nat):∀ (d:TD),
    (∀ (t:TypeId) (fuel:Nat) (cs:List Value) (x:DataW H × List MemPlace),d.chk P n (.inl t)=true→DataW.trod enc P w base (fun _=>true) true fuel t cs=some x→∃ us,d.Has us∧RelC g0 w us cs) ∧
    (∀ (fs:List (TypeId × Nat)) (o:Nat) (m:Nat) (cs:List Value),d.chk P n (.inr (fs,o))=true→cs.length=o+d.size →
      (∀ (i:Nat) (f:TypeId × Nat),fs[i]? =some f→∃ y:DataW H × List MemPlace,DataW.trod enc P w base (fun _=>true) true m f.1 ((cs.drop f.2).take (P.cellsOf f.1))=some y)→∃ us,d.Has us∧RelC g0 w us (cs.drop o)):=by
  induction n with
  | zero=>exact fun d=>⟨fun t fuel cs x hc=>by simp [TD.chk] at hc,fun fs o m cs hc=>by simp [TD.chk] at hc⟩
  | succ n ih =>
  refine fun d=>⟨?_,?_⟩
  · revert d
    intro d t fuel cs x hc h
    match d,hc with
    | .bool, hc =>
      simp only [TD.chk] at hc
      split at hc
      · rename_i ht
        obtain ⟨b,rfl,_⟩:=DataW.trod_bool ht h
        exact ⟨_,⟨b,rfl⟩, .cons (.bool b) .nil,by simp [Value.oneCell']⟩
      · cases hc
    | .int k, hc =>
      simp only [TD.chk] at hc
      split at hc
      · rename_i q ht
        have:=of_decide_eq_true hc;subst this
        obtain ⟨n,rfl,_,hw⟩:=DataW.trod_int ht h
        exact ⟨_,⟨n,rfl,hw⟩, .cons (.int q n) .nil,by simp [Value.oneCell']⟩
      · cases hc
    | .str, hc =>
      simp only [TD.chk] at hc
      split at hc
      · rename_i ht
        obtain ⟨s,rfl,_,hs⟩:=DataW.trod_string ht h
        have hs':s.data.toList.length≤maxLen:=by rw [Array.length_toList];exact hs
        exact ⟨_,⟨s.data.toList,rfl,hs'⟩, .cons wY .nil,by simp [Value.oneCell']⟩
      · cases hc
    | .sl e, hc =>
      simp only [TD.chk] at hc
      split at hc
      · rename_i u ht
        simp only [Bool.and_eq_true] at hc
        obtain ⟨⟨hsz,hpos⟩,hce⟩:=hc
        have hsz:=Nat.eq_of_beq_eq_true hsz
        have hpos:=Nat.le_of_ble_eq_true hpos
        rcases DataW.trod_slice ht h with ⟨rfl,_⟩|⟨a,len,cap,elems,rest,n,_,rfl,_,_,hl,hm,hlen,hel,hsp,_⟩
        · exact ⟨_,⟨[],rfl,Nat.zero_le _,fun _ h=>by cases h⟩, .cons (.sl0 _ _) .nil,by simp [Value.oneCell']⟩
        · obtain ⟨hrl,hr⟩:=hsp rfl
          rw [hsz] at hel hr
          by_cases hcap:cap=0
          · subst hcap
            have:len=0:=P6
            subst this
            exact ⟨_,⟨[],rfl,Nat.zero_le _,fun _ h=>by cases h⟩, .cons (.sl0 _ _) .nil,by simp [Value.oneCell']⟩
          have hcell0:∃ v,w.cell? a=some v:=by
            have key:∀ y,(w.cells? base (a.add (0*e.size)) e.size).bind (DataW.trod enc P w base (fun _=>true) true n u)=some y→∃ v,w.cell? a=some v:=by
              intro y hy
              obtain ⟨c0,h1,_⟩:=Option.bind_eq_some_iff.1 hy
              obtain ⟨_,h2,h3⟩:=World.cells?_some h1
              have h4:=h3 0 P6
              rw [Nat.zero_mul] at h4
              have h0:(0:Nat)<c0.length:=P6
              rw [List.getElem?_eq_getElem h0] at h4
              refine ⟨c0[0],?_⟩
              rw [←h4]
              simp [Addr.add]
            by_cases hlen0:0<len
            · have:=hel 0 hlen0
              rw [List.getElem?_eq_getElem P6] at this
              exact key _ this
            · have h0:len=0:=by omega
              have hz:=hr 0 P6
              rw [List.getElem?_eq_getElem (show 0<rest.length by omega)] at hz
              have hq:(len+0)*e.size=0*e.size:=by rw [h0]
              rw [hq] at hz
              exact key _ hz
          obtain ⟨v0,hv0⟩:=hcell0
          have hspot:=World.cell?_spot hv0
          have hblk:=Dq hv0
          obtain ⟨b,off,spot⟩:=a
          simp only at hspot hblk
          subst hspot
          have each:∀ i∈List.range len,∃ c:List AV × List Value,e.Has c.1∧RelC g0 w c.1 c.2∧c.2.length=e.size∧∀ j v,c.2[j]? =some v→w.cell? ⟨b,off+i*e.size+j,none⟩=some v:=by
            intro i hi
            have hi:i<len:=Q8
            have hy:=hel i hi
            rw [List.getElem?_eq_getElem P6] at hy
            obtain ⟨c0,h1,h5⟩:=Option.bind_eq_some_iff.1 hy
            obtain ⟨_,h2,h3⟩:=World.cells?_some h1
            obtain ⟨us,q1,q2⟩:=(ih e).1 u _ c0 _ hce h5
            refine ⟨(us,c0),q1,q2,h2,fun j v hv=>?_⟩
            have hj:j<c0.length:=(List.getElem?_eq_some_iff.1 hv).1
            have:=h3 j P6
            rw [bM,bM] at this
            rw [this,hv]
          obtain ⟨m,hml,hmq⟩:=kO _ each
          simp only [List.length_range] at hml
          have hget:∀ i c,m[i]? =some c→e.Has c.1∧RelC g0 w c.1 c.2∧c.2.length=e.size∧∀ j v,c.2[j]? =some v→w.cell? ⟨b,off+i*e.size+j,none⟩=some v:=by
            intro i c hc'
            have hi:i<m.length:=(List.getElem?_eq_some_iff.1 hc').1
            exact hmq i i c (by rw [List.getElem?_range P6]) hc'
          have hmem:∀ c∈m,e.Has c.1∧c.2.length=e.size:=fun c hc'=>by
            obtain ⟨i,hi,rfl⟩:=List.getElem_of_mem hc'
            have:=hget i _ (List.getElem?_eq_getElem hi)
            exact ⟨this.1,this.2.2.1⟩
          have hlen1:∀ l∈m.map (·.1),l.length=e.size:=fun l hl'=>by
            obtain ⟨c,hc',rfl⟩:=List.mem_map.1 hl'
            exact (hmem c hc').1.len
          have hlen2:∀ l∈m.map (·.2),l.length=e.size:=fun l hl'=>by
            obtain ⟨c,hc',rfl⟩:=List.mem_map.1 hl'
            exact (hmem c hc').2
          have hrel:RelC g0 w (m.map (·.1)).flatten (m.map (·.2)).flatten:=by
            refine RelC.flatten Qd fun i x v h1 h2=>?_
            simp only [List.getElem?_map,Option.map_eq_some_iff] at h1 h2
            obtain ⟨c,k1,rfl⟩:=h1
            obtain ⟨c',k2,rfl⟩:=h2
            rw [k1] at k2;cases k2
            exact (hget i c k1).2.1
          have hrelS:Rel g0 w (.sl false len (m.map (·.1)).flatten) (.slice (some ⟨b,off,none⟩) len cap):=by
            refine Rel.iH (u:=(m.map (·.2)).flatten) hl Qd ⟨⟨hblk, .inl rfl⟩,hrel,fun i v hv=>?_⟩
            obtain ⟨l,h1,h2⟩:=mz _ hlen2 P6 i v hv
            simp only [List.getElem?_map,Option.map_eq_some_iff] at h1
            obtain ⟨c,k1,rfl⟩:=h1
            have:=(hget _ c k1).2.2.2 _ _ h2
            rw [Nat.add_assoc] at this
            rwa [Nat.mul_comm,Nat.div_add_mod] at this
          refine ⟨[.sl false len (m.map (·.1)).flatten],⟨m.map (·.1),by simp [hml],by simp;omega,fun x hx=>?_⟩, .cons hrelS .nil,by simp [Value.oneCell']⟩
          obtain ⟨c,hc',rfl⟩:=List.mem_map.1 hx
          exact (hmem c hc').1
      · cases hc
    | .nil,hc=>simp [TD.chk] at hc
    | .cons a r, hc =>
      simp only [TD.chk] at hc
      split at hc
      · rename_i fs ht
        simp only [Bool.and_eq_true] at hc
        have hsz:=Nat.eq_of_beq_eq_true hc.1
        obtain ⟨xs,n,_,_,hl,hxl,hf⟩:=DataW.trod_struct ht h
        have:=(ih (.cons a r)).2 _ 0 _ cs hc.2 (by simp only [TD.size];omega) (fun i f hf'=>by
          rw [List.getElem?_map] at hf'
          obtain ⟨g,hg,rfl⟩:=Option.map_eq_some_iff.1 hf'
          have hi:i<fs.size:=by simpa using (List.getElem?_eq_some_iff.1 hg).1
          have:=hf i g (by simpa using hg)
          rw [List.getElem?_eq_getElem P6] at this
          exact ⟨_,this⟩)
        simpa using this
      · rename_i k u ht
        simp only [Bool.and_eq_true] at hc
        have hsz:=Nat.eq_of_beq_eq_true hc.1
        obtain ⟨xs,n,_,_,hl,hxl,hf⟩:=DataW.trod_array ht h
        have:=(ih (.cons a r)).2 _ 0 _ cs hc.2 (by simp only [TD.size];omega) (fun i f hf'=>by
          rw [List.getElem?_map] at hf'
          obtain ⟨j,hj,rfl⟩:=Option.map_eq_some_iff.1 hf'
          obtain ⟨hj1,hj2⟩:=List.getElem?_eq_some_iff.1 hj
          rw [List.getElem_range] at hj2
          subst hj2
          have hi:i<k:=by simpa using hj1
          have:=hf i hi
          rw [List.getElem?_eq_getElem P6] at this
          exact ⟨_,this⟩)
        simpa using this
      · cases hc
  · intro fs o m cs hc hl h
    match d,fs,hc with
    | .nil,[],_=>exact ⟨[],rfl,by rw [List.drop_eq_nil_of_le (by simp only [TD.size] at hl;omega)];exact .nil⟩
    | .cons a r, f :: fs, hc =>
      simp only [TD.size] at hl
      simp only [TD.chk,Bool.and_eq_true] at hc
      obtain ⟨⟨⟨h1,h2⟩,h3⟩,h4⟩:=hc
      have h1:=Nat.eq_of_beq_eq_true h1
      have h2:=Nat.eq_of_beq_eq_true h2
      obtain ⟨y,hy⟩:=h 0 f rfl
      obtain ⟨us,q1,q2⟩:=(ih a).1 f.1 m _ y h3 hy
      obtain ⟨bs,q3,q4⟩:=(ih r).2 fs (o+a.size) m cs h4 P6 (fun i f' hf'=>h (i+1) f' (by simpa using hf'))
      refine ⟨us++bs,⟨us,bs,rfl,q1,q3⟩,?_⟩
      have:=q2.append q4
      rw [h1,h2,←List.drop_drop,List.take_append_drop] at this
      exact this
    | .nil,_::_,hc=>simp [TD.chk] at hc
    | .cons _ _,[],hc=>simp [TD.chk] at hc
    | .bool,_,hc=>simp [TD.chk] at hc
    | .int _,_,hc=>simp [TD.chk] at hc
    | .str,_,hc=>simp [TD.chk] at hc
    | .sl _,_,hc=>simp [TD.chk] at hc
def TD.Gx:TD→Bool
 | .cons _ _=>true
 | _=>false
theorem Gy {d:TD} {t:TypeId} {v:Value} {x:DataW H} {ps:List MemPlace} (hc:d.chk P 40 (.inl t)=true) (hval:Value.okWide P w .any 0 t v) (hd:DataW.Trod enc P w 0 (fun _=>true) true t v x ps) :
  ∃ us,d.Has us∧(d.Gx=true→Rel g0 w (.agg us) v)∧(d.Gx=false→∀ a,us= [a]→Rel g0 w a v):=by
 obtain ⟨fuel,hf⟩:=hd
 obtain ⟨us,h1,h2⟩:=(Gw 40 d).1 t fuel _ _ hc hf
 refine ⟨us,h1,fun hs=>?_,fun hs a ha=>?_⟩
 ·cases d<;>simp only [TD.Gx] at hs<;>try (cases hs;done)
  simp only [TD.chk] at hc
  split at hc
  ·rename_i fs ht
   simp only [Value.okWide,ht] at hval
   obtain ⟨cs,rfl,_⟩:=hval
   have:=Rel.gH h2
   simpa [Value.cells] using this
  ·rename_i k u ht
   simp only [Value.okWide,ht] at hval
   obtain ⟨cs,rfl,_⟩:=hval
   have:=Rel.gH h2
   simpa [Value.cells] using this
  ·cases hc
 ·subst ha
  have hne:∀ cs,v≠ .agg cs:=by
   rintro cs rfl
   cases d<;>simp only [TD.chk] at hc<;>simp only [TD.Gx] at hs<;>try (cases hs;done)
   all_goals first|(cases hc;done)|skip
   all_goals
    split at hc
    ·rename_i ht
     simp [Value.okWide,ht,Cell.okWide,Cell.ok] at hval
    ·cases hc
  have hv:v.cells.toList= [v]:=by
   cases v<;>first|rfl|(exact (hne _ rfl).elim)
  rw [hv] at h2
  obtain ⟨u,us,h3,h4,_⟩:=h2.1.cons_inv
  cases h3
  exact h4
theorem wZ {α:Type} {e:TD} {f:α→List AV} {p:α→Prop} (h:∀ x,e.Has x→∃ y,x=f y∧p y):∀ (xs:List (List AV)),(∀ x∈xs,e.Has x)→∃ ys:List α,xs=ys.map f∧∀ y∈ys,p y
  | [],_=>⟨[],rfl,by simp⟩
  | x :: xs, hx => by
    obtain ⟨y,rfl,hy⟩:=h x (hx x Qd)
    obtain ⟨ys,rfl,hys⟩:=wZ h xs fun x h'=>hx x (by simp [h'])
    exact ⟨y::ys,rfl,by simpa using ⟨hy,hys⟩⟩
theorem tq {α:Type} {e:TD} {f:α→List AV} {p:α→Prop} (h:∀ x,e.Has x→∃ y,x=f y∧p y) {l:List AV} (hl:(TD.sl e).Has l):∃ ys:List α,l= [sl f ys]∧ys.length≤maxLen∧∀ y∈ys,p y:=by
 obtain ⟨xs,rfl,hm,hx⟩:=hl
 obtain ⟨ys,rfl,hy⟩:=wZ h xs hx
 exact ⟨ys,by simp [sl,List.flatMap],by simpa using hm,hy⟩
end Go.Abs
