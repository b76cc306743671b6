/- Part 16 of the proof of ScriptKnown: an abstract semantics that is proved sound for the model, contracts of functions in it, and plain facts (Abs18 Abs26 Abs27 Abs34 Abs30 Abs35 RS Abs28). No condition. -/
import Derived.Test.YtgephffbfiemeaaGreatDoorKScriptKnown15
import Derived.Shelf.Strconv.Itoa4
set_option linter.all false
namespace Go.Abs
open Go.RowKit Go.Lib
def Gh.on (g:Gh) (w:World):Gh:={ g with cl:=fun b=>if b<w.heap.size then g.cl b else none }
section
variable {P:Program} {g:Gh} {σ:St} {w w':World}
theorem Ext.below (g:Gh) (hb:Below w.heap.size w w'):Ext g w (g.on w) w':=by
 refine ⟨hb.os,hb.tape,hb.output,hb.size,fun β b h=>h,fun β _=>rfl,Nat.le_refl _,Nat.le_refl _,fun m n v h=>h,fun b h hc=>⟨by simp only [Gh.on,if_pos h];exact hc,hb.block b h⟩,fun b F h hc=>⟨F,by simp only [Gh.on,if_pos h];exact hc,Nat.le_refl _,fun i _=>World.cell?_of_block (hb.block b h)⟩,fun _ _ h=>h,fun b us _ _ h=>⟨us,by rw [hb.block b (Array.getElem?_eq_some_iff.1 h).1];exact h,rfl⟩⟩
theorem Inv.below (hI:Inv g σ w) (hb:Below w.heap.size w w'):Inv (g.on w) σ w':=by
 have he:=Ext.below g hb
 refine ⟨fun β cs h=>?_,fun β b h=>?_,hI.boxinj,hI.boxfresh,fun τ e s n ht=>?_,hI.tipinj,hI.tipfresh,fun k cs hk=>(hI.glob k cs hk).mono he,fun l r hl=>by
  obtain ⟨q1,q2,q3⟩:=hI.lp l r hl
  have hlt:=(Array.getElem?_eq_some_iff.1 q1).1
  exact ⟨by rw [hb.block l hlt];exact q1,by simp only [Gh.on,if_pos hlt];exact q2,fun t=>(q3 t).mono he⟩,fun β T h=>by
  obtain ⟨b,vs,h1,h2⟩:=hI.bty β T h
  exact ⟨b,vs,h1,by rw [hb.block b (hI.boxcl β b h1).1];exact h2⟩⟩
 ·obtain ⟨b,vs,T,h1,h2,h3⟩:=hI.box β cs h
  exact ⟨b,vs,T,h1,by rw [hb.block b (hI.boxcl β b h1).1];exact h2,h3.mono he⟩
 ·obtain ⟨h1,h2⟩:=hI.boxcl β b h
  exact ⟨Nat.lt_of_lt_of_le h1 hb.size,fun hl=>by simp only [Gh.on,if_pos h1];exact h2 hl⟩
 ·obtain ⟨v,h1,h2,h4⟩:=hI.tip τ e s n ht
  refine ⟨v,h1,fun hs=>?_,h4⟩
  obtain ⟨xs,h2,h3⟩:=h2 hs
  refine ⟨xs,h2.kept (row:=none) ⟨hb.os,hb.tape,hb.output,hb.size,fun k hk _=>hb.block k hk⟩ (by cases h:v.ownBlock<;>simp),fun b hbb=>?_⟩
  have hlt:=(h2.lt b hbb).2
  obtain ⟨h5,h6⟩:=h3 b hbb
  exact ⟨by simp only [Gh.on,if_pos hlt];exact h5,h6.1,h6.2.same (hb.block b hlt)⟩
theorem AC.eX {f:Nat} {xs:List AV} {r:AV} (he:∀ args w,(callFunc f args).run P w= .ok (.enter f args) w)
  (h:∀ g w (vs:List Value),Inv g σ w→bQ g w xs vs→Calls P f vs.toArray w (fun e w'=>∃ v,e= .returned v∧Below w.heap.size w w'∧∀ g',Ext g w g' w'→Rel g' w' r v)):AC P f xs σ (fun x s=>x=r∧s=σ):=by
 intro g w vs hI hv
 refine .inl ⟨he _ _,(h g w vs hI hv).mono ?_⟩
 rintro e w' ⟨v,rfl,hb,hr⟩
 exact ⟨v,r,σ,g.on w,rfl,⟨rfl,rfl⟩,hI.below hb,Ext.below g hb,hr _ (Ext.below g hb)⟩
def Bn:List AV:=pow10Tab.map (AV.int .u64)
theorem kT {k:Nat} {name:String} {l:List Int} {kk:IntKind} (hI:Inv g σ w) (hg:P.globalNamed name=some k) (hσ:σ.glob k=some (l.map (AV.int kk))):TabIs P w name kk l:=by
 obtain ⟨hr,hc,vs,T,q,hv,hl⟩:=hI.glob k _ hσ
 obtain ⟨b,off,u,e,hL⟩:=hr.lX
 cases e
 have hu:u=l.map (Value.int kk):=by
  apply List.ext_getElem?
  intro i
  have h1:=hL.rel.1.1
  simp only [List.length_map] at h1
  rcases Nat.lt_or_ge i l.length with hi|hi
  ·have h2:(l.map (AV.int kk))[i]? =some (.int kk l[i]):=by simp [hi]
   have h3:u[i]? =some u[i]:=List.getElem?_eq_getElem Oz
   have:=hL.rel.1.2 i _ _ h2 h3
   rw [h3,this.a8]
   simp [hi]
  ·rw [List.getElem?_eq_none Oz,List.getElem?_eq_none PD]
 have:vs=u.toArray:=by
  apply Array.ext'
  apply List.ext_getElem?
  intro i
  have h1:=hL.rel.1.1
  have hl':vs.toList.length=u.length:=by simp only [Array.length_toList,hl,h1]
  rcases Nat.lt_or_ge i u.length with hi|hi
  ·have h3:u[i]? =some u[i]:=List.getElem?_eq_getElem hi
   have h4:=hL.cell i _ h3
   simp only [World.cell?,hv,Nat.zero_add] at h4
   simp only [h3]
   rw [←h4]
   simp [hi]
  ·rw [List.getElem?_eq_none Oz,List.getElem?_eq_none PD]
 unfold TabIs
 simp only [World.var?,hg,Option.bind_some,hv,this,hu]
def KK (P:Program) (f k:Nat):Prop:=∀ (n:Int) (σ:St), -9223372036854775808≤n→n≤9223372036854775807→σ.glob k=some Bn→AC P f [.int .i64 n, .int .i64 10] σ (fun x s=>x= .str (itoa n)∧s=σ)
theorem E0 {f k:Nat} (he:∀ args w,(callFunc f args).run P w= .ok (.enter f args) w) (hg:P.globalNamed "internal/strconv.uint64pow10" =some k)
  (h:∀ (n:Int), -9223372036854775808≤n→n≤9223372036854775807→∀ w,TabIs P w "internal/strconv.uint64pow10" .u64 pow10Tab→Calls P f #[.int .i64 n, .int .i64 10] w fun e w'=>e= .returned (.string ⟨(itoa n).toArray⟩)∧∃ k os,w'=Go.Sort.grow (w.drewN k) os):KK P f k:=by
 intro n σ h0 h1 hσ
 refine AC.eX he ?_
 intro g w vs hI hv
 obtain ⟨v1,vs,rfl,r1,hv⟩:=hv.cons_inv
 obtain ⟨v2,vs,rfl,r2,hv⟩:=hv.cons_inv
 rw [hv.bK,r1.a8,r2.a8]
 refine (h n h0 h1 w (kT hI hg hσ)).mono ?_
 rintro e w' ⟨rfl,k',os,rfl⟩
 refine ⟨_,rfl,⟨rfl,rfl,rfl,by simp [Go.Sort.grow,World.drewN],fun i hi=>?_⟩,fun g' _=> .str _⟩
 simp only [Go.Sort.grow,World.drewN]
 rw [Array.getElem?_append_left hi]
end
end Go.Abs
namespace Go.Abs
open Go.RowKit Go.Lib
def PuG (P:Program) (gl:List (Nat × List AV)) (f:Nat) (xs:List AV) (v:AV):Prop:=∀ σ,(∀ k cs,look k gl=some cs→σ.glob k=some cs)→AC P f xs σ (fun r s=>r=v∧s=σ)
theorem kU {P:Program} {w:World} {name:String} {kk:IntKind} {l:List Int} {k:Nat} (h:TabIs P w name kk l) (hg:P.globalNamed name=some k):GlobOk g0 w k (l.map (AV.int kk)):=by
 have hrow:∃ T q,w.heap[k]? =some (.cells (l.map (Value.int kk)).toArray T q):=by
  unfold TabIs at h
  simp only [World.var?,hg,Option.bind_some] at h
  split at h
  ·rename_i cs T q hh
   cases h
   exact ⟨T,q,hh⟩
  ·cases h
 obtain ⟨T,q,hh⟩:=hrow
 have hlt:k<w.heap.size:=(Array.getElem?_eq_some_iff.1 hh).1
 refine ⟨Rel.ql (u:=l.map (Value.int kk)) ⟨⟨hlt, .inl rfl⟩,⟨⟨by simp,fun i c v hc hv=>?_⟩,fun v hv=>?_⟩,fun i v hv=>?_⟩,rfl,_,T,q,hh,by simp⟩
 ·simp only [List.getElem?_map,Option.map_eq_some_iff] at hc hv
  obtain ⟨n,h1,rfl⟩:=hc
  obtain ⟨n',h2,rfl⟩:=hv
  rw [h1] at h2;cases h2
  exact .int _ _
 ·simp only [List.mem_map] at hv
  obtain ⟨n,_,rfl⟩:=hv
  rfl
 ·simp only [World.cell?,hh,Nat.zero_add]
  simpa using hv
theorem tY {P:Program} {gl:List (Nat × List AV)} {f:Nat} {cf:CF} {xs:List AV} {vs:List Value} {w:World} (hf:fB P f cf=true) (h:PuG P gl f xs (.bool true)) (hg:∀ k cs,look k gl=some cs→GlobOk g0 w k cs) (hv:bQ g0 w xs vs) :
  Calls P f vs.toArray w (fun e w'=>e= .returned (.bool true)∧Below w.heap.size w w'):=by
 refine (Ba (gl:=fun k=>look k gl) hf (h _ (fun k cs hk=>hk)) hg hv).mono ?_
 rintro e w' ⟨u,g',rfl,hr,hb⟩
 rw [hr.cT]
 exact ⟨rfl,hb⟩
end Go.Abs
namespace Go.Abs
theorem tZ {P:Program} {f:Nat} {fn:Func} {e:Array Value→Sem Value} {args:Array Value} {v:Value} {w:World} (hf:P.funcs[f]? =some fn) (hname:(fn.name == "runtime.NumGoroutine")=false) (hb:fn.body=none)
  (hn:Extern.findNext fn=none) (he:Extern.find fn=some e) (hr:(e args).run P w= .ok v w):(callFunc f args).run P w= .ok (.value v) w:=by
 have h1:fn.name≠ "runtime.NumGoroutine" :=by simpa using hname
 have hm:∀ (m:Mark) (w:World),Sem.run P (Sem.mark m (Sem.pure ())) w= .ok () w:=fun m w=>rfl
 simp [callFunc,hf,h1,hb,mark,hn,he,hr,hm]
theorem Bo (s:String) (a b c:Value):Extern.MathBitsCarry.three s #[a,b,c]=(do
  let c:=(←asInt c).toNat
  if c>1 then unsupported (.noEntry ("extern/math/bits." ++s++ ": a carry that is neither 0 nor 1"))
  pure ((←asInt a).toNat,(←asInt b).toNat,c)):=rfl
theorem x7 {P:Program} {w:World} (s:String) (x y c:Int) (hc:c.toNat≤1):(Extern.MathBitsCarry.three s #[.int .u64 x, .int .u64 y, .int .u64 c]).run P w= .ok (x.toNat,y.toNat,c.toNat) w:=by
 rw [Bo]
 have h1:¬ 1<c.toNat:=Oz
 simp [asInt,asIntOf]
 omega
def Gn    : Array Value → Sem Value := fun args => do
    let (x,y,c) ←Extern.MathBitsCarry.three "Add64" args
    pure (Extern.MathBitsCarry.pair ((x+y+c) % Extern.MathBitsCarry.m64) ((x+y+c) / Extern.MathBitsCarry.m64))
def pI (x y c:Int):AV:= .tup [.int .u64 (Int.ofNat ((x.toNat+y.toNat+c.toNat) % Extern.MathBitsCarry.m64)), .int .u64 (Int.ofNat ((x.toNat+y.toNat+c.toNat) / Extern.MathBitsCarry.m64))]
theorem Bp {P:Program} {f:Nat} {fn:Func} (hf:P.funcs[f]? =some fn) (hname:(fn.name == "runtime.NumGoroutine")=false) (hb:fn.body=none)
  (hn:Extern.findNext fn=none) (he:Extern.find fn=some Gn) (x y c:Int) (hc:c.toNat≤1):Pu P f [.int .u64 x, .int .u64 y, .int .u64 c] (pI x y c):=by
 intro σ g w vs hI hv
 obtain ⟨v1,vs,rfl,r1,hv⟩:=hv.cons_inv
 obtain ⟨v2,vs,rfl,r2,hv⟩:=hv.cons_inv
 obtain ⟨v3,vs,rfl,r3,hv⟩:=hv.cons_inv
 rw [hv.bK,r1.a8,r2.a8,r3.a8]
 refine .inr ⟨_,w,tZ hf hname hb hn he (v:=Extern.MathBitsCarry.pair ((x.toNat+y.toNat+c.toNat) % Extern.MathBitsCarry.m64) ((x.toNat+y.toNat+c.toNat) / Extern.MathBitsCarry.m64)) ?_,_,pI x y c,σ,g,rfl,⟨rfl,rfl⟩,hI, .refl _ _,?_⟩
 ·have h2:=x7 (P:=P) (w:=w) "Add64" x y c hc
  simp only [Gn]
  simp [h2]
 ·exact .dA (.cons (.int _ _) (.cons (.int _ _) .nil))
end Go.Abs
namespace Go.Abs
theorem St.Ho (σ:St) (β:Nat) (c:List AV):(σ.ad β c).lp=σ.lp:=rfl
theorem St.Hp (σ:St) (τ:Nat) (x:Nat × Nat × Nat):(σ.ai τ x).lp=σ.lp:=rfl
theorem St.aY (σ:St) (L:Nat) (x:LO × Fr):(σ.au L x).lp L=some x:=by simp [St.au,upd]
theorem St.cS (σ:St) (L:Nat) (x:LO × Fr):(σ.au L x).box=σ.box:=rfl
theorem St.da (σ:St) (L:Nat) (x:LO × Fr):(σ.au L x).tip=σ.tip:=rfl
theorem St.E1 (σ:St) (L:Nat) (x:LO × Fr):(σ.au L x).glob=σ.glob:=rfl
theorem St.ei (σ:St) (β L:Nat) (c:List AV) (x:LO × Fr):(σ.ad β c).au L x=(σ.au L x).ad β c:=rfl
theorem St.jO (σ:St) (τ L:Nat) (y:Nat × Nat × Nat) (x:LO × Fr):(σ.ai τ y).au L x=(σ.au L x).ai τ y:=rfl
theorem St.eY (σ:St) (L:Nat) (x y:LO × Fr):(σ.au L x).au L y=σ.au L y:=by
 simp only [St.au,St.mk.injEq,true_and,and_true]
 funext j;simp only [upd];split<;>rfl
theorem St.Bq (σ:St) (β L:Nat) (c:List AV):(σ.ad β c).dropLp L=(σ.dropLp L).ad β c:=rfl
theorem St.Br (σ:St) (τ L:Nat) (y:Nat × Nat × Nat):(σ.ai τ y).dropLp L=(σ.dropLp L).ai τ y:=rfl
theorem St.drop_set {σ:St} {L:Nat} {x:LO × Fr} (h:σ.lp L=none):(σ.au L x).dropLp L=σ:=by
 obtain ⟨b,t,g,l⟩:=σ
 simp only [St.au,St.dropLp,St.mk.injEq,true_and,and_true]
 funext j;simp only [upd]
 split
 ·rename_i e;subst e;exact h.symm
 ·rfl
def RF (P:Program) (f:Nat) (cap:List AV) (ps:List Nat) (asg body:CC) (fr:Fr) (σ:St) (Q:Exit→Fr→St→Prop):Prop :=
 DE P f=true∧∀ (L:Nat) (r:Loop),σ.lp L=none→r.state= .ready→r.pending=none →
  (∀ (xs:List AV) (σ1:St) (K:AV→St→Prop),xs.length=ps.length→σ1.lp L=some (.loop r,fr) →
   aC P asg (iL ps xs fr) σ1 (fun e fr1 σ2=>e= .normal∧σ2.lp L=some (.loop r,fr)∧aC P body fr1 (σ2.au L (busy r,fr)) (fun e _ σ3=>σ3.lp L=some (.loop (busy r),fr)∧match e with
    | .normal=>K (.bool true) (σ3.au L (r,fr))
    | .ret=>K (.bool false) (σ3.au L (left r .ret,fr))
    | .exit id=>K (.bool false) (σ3.au L (left r (.exit id),fr))
    | _=>False))→YC P L xs σ1 K) →
  AC P f (.yld L::cap) (σ.au L (r,fr)) (fun _ s=>(s.lp L=some (.loop r,fr)∧Q .normal fr (s.dropLp L))∨(s.lp L=some (.loop (left r .ret),fr)∧Q .ret fr (s.dropLp L))∨∃ id,s.lp L=some (.loop (left r (.exit id)),fr)∧Q (.exit id) fr (s.dropLp L))
section
variable {P:Program} {σ:St} {fr:Fr} {Q:Exit→Fr→St→Prop} {K:AV→St→Prop} {x:Od} {ps:List Nat} {asg body:CC} {f:Nat} {cap xs ys:List AV} {v:AV} {gl:List (Nat × List AV)}
theorem eZ {h:Hold (asg,body,fr,σ,Q)} (regs:List (Bool × Nat × Nat × Nat × Nat)) (hh:cb regs fr σ fun fr σ=>∃ f cap,ev σ fr x= .fn f cap∧RF P f cap ps asg body fr σ Q):Gg P x ps asg body fr σ Q h:=by
 refine ⟨regs,dj regs hh (fun fr σ hq=>?_)⟩
 obtain ⟨f,cap,h1,h2⟩:=hq
 rw [h1]
 exact h2
theorem Bs {L:Nat} {r:Loop} {σ1:St} (hl:σ1.lp L=none)
    (hY:∀ (xs:List AV) (σ1:St) (K:AV→St→Prop),xs.length=ps.length→σ1.lp L=some (.loop r,fr) →
      aC P asg (iL ps xs fr) σ1 (fun e fr1 σ2=>e= .normal∧σ2.lp L=some (.loop r,fr)∧aC P body fr1 (σ2.au L (busy r,fr)) (fun e _ σ3=>σ3.lp L=some (.loop (busy r),fr)∧match e with
        | .normal=>K (.bool true) (σ3.au L (r,fr))
        | .ret=>K (.bool false) (σ3.au L (left r .ret,fr))
        | .exit id=>K (.bool false) (σ3.au L (left r (.exit id),fr))
        | _=>False))→YC P L xs σ1 K) (hlen:xs.length=ps.length) {N:St→Prop} {R:St→Prop} {E:Nat→St→Prop}
    (hb : aC P asg (iL   ps xs fr) (σ1.au    L (r, fr)) (fun e fr1 σ2 => e = .normal ∧ σ2 = σ1.au    L (r, fr) ∧ aC P body fr1 (σ1.au    L (busy r, fr)) (fun e _ σ3 => match e with
        | .normal=>∃ s,σ3=s.au L (busy r,fr)∧s.lp L=none∧N s
        | .ret=>∃ s,σ3=s.au L (busy r,fr)∧s.lp L=none∧R s
        | .exit id=>∃ s,σ3=s.au L (busy r,fr)∧s.lp L=none∧E id s
        | _=>False))) :
    YC P L xs (σ1.au L (r,fr)) (fun v s'=>(v= .bool true∧∃ s,s'=s.au L (r,fr)∧s.lp L=none∧N s) ∨
      (v= .bool false∧((∃ s,s'=s.au L (left r .ret,fr)∧s.lp L=none∧R s)∨∃ id s,s'=s.au L (left r (.exit id),fr)∧s.lp L=none∧E id s))):=by
  refine hY xs _ _ hlen (St.aY _ _ _) (cg _ _ _ hb ?_)
  rintro e fr1 σ2 ⟨rfl,rfl,hb2⟩
  refine ⟨rfl,St.aY _ _ _,?_⟩
  rw [St.eY]
  refine cg _ _ _ hb2 (fun e _ σ3 hq=>?_)
  cases e<;>simp only at hq ⊢ <;>first|exact hq.elim|skip
  · obtain ⟨s,rfl,h1,h2⟩:=hq
    exact ⟨St.aY _ _ _, .inl ⟨trivial,s,St.eY _ _ _ _,h1,h2⟩⟩
  · obtain ⟨s,rfl,h1,h2⟩:=hq
    exact ⟨St.aY _ _ _, .inr ⟨trivial, .inr ⟨_,s,St.eY _ _ _ _,h1,h2⟩⟩⟩
  · obtain ⟨s,rfl,h1,h2⟩:=hq
    exact ⟨St.aY _ _ _, .inr ⟨trivial, .inl ⟨s,St.eY _ _ _ _,h1,h2⟩⟩⟩
def bw (gl:List (Nat × List AV)) (σ:St):Prop:=∀ k cs,look k gl=some cs→σ.glob k=some cs
theorem PuG.to (h:PuG P gl f ys v) (hg:bw gl σ) (hw:wkL xs ys) (hK:K v σ):AC P f xs σ K :=
 AC.mono ((h σ hg).wk hw) (fun r s ⟨e1,e2⟩=>by subst e1;subst e2;exact hK)
theorem x8 (cf:CF) (hf:fB P f cf=true) (hn:xs.length≤cf.n) (h:∀ σ,bw gl σ→aC P cf.body (dT 0 xs) σ (fL cf.res (fun r s=>r=v∧s=σ))):PuG P gl f xs v:=fun σ hσ=>jL cf hf hn (h σ hσ)
theorem PuG.all (h:PuG P gl f ys v) (hw:wkL xs ys) (hg:bw gl σ):∀ σ2,St.le σ σ2→AC P f xs σ2 (fun x s=>x=v∧s=σ2):=fun σ2 hle=>(h σ2 (fun k cs hk=>hle.2.2.1 _ _ (hg k cs hk))).wk hw
theorem aS {h:Hold (σ,K)} (hp:PuG P gl f ys v) (hg:bw gl σ) (hw:wkL xs ys) (hK:K v σ):px P f xs σ K h:=⟨v,hp.all hw hg,hK⟩
def Bx (P:Program) (f:Nat) (xs:List AV) (cs:List AV):Prop:=∀ σ,AC P f xs σ (fun r s=>∃ β,σ.box β=none∧r= .ptr β 0∧s=σ.ad β cs)
theorem Bx.to {cs:List AV} (h:Bx P f ys cs) (hw:wkL xs ys) (hK:∀ β,σ.box β=none→K (.ptr β 0) (σ.ad β cs)):AC P f xs σ K :=
 ((h σ).wk hw).mono fun r s ⟨β,h1,h2,h3⟩=>by rw [h2,h3];exact hK β h1
end
section
variable {P:Program} {σ:St} {ρ:Od→AV} {K:AV→St→Prop}
def Bu (e bytes:Nat) (a b:AV) (σ:St) (K:AV→St→Prop) (_:Hold (σ,K)):Prop:=vf e bytes a b σ K
def vq (T:Nat) (cs:List AV) (σ:St) (K:AV→St→Prop) (_:Hold (σ,K)):Prop:=∀ β,σ.box β=none→σ.bt β=none→K (.ptr β 0) ((σ.ad β cs).bZ β T)
theorem mB {e bytes:Nat} {x y:Od}:aOp P ρ σ K (.appS e bytes x y)=Bu e bytes (ρ x) (ρ y) σ K ⟨⟩:=rfl
theorem ua {T:Nat} {cs:List AV}:aOp P ρ σ K (.allocT T cs)=vq T cs σ K ⟨⟩:=rfl
theorem x9 {e bytes τ n:Nat} {cs:List AV} {l:List UInt8} {h:Hold (σ,K)} (h0:l≠ []) (ht:σ.tip τ=some (e,1,n)) (hc:cs.length=n) (h1:n+l.length≤maxLen) (h2:(n+l.length)*bytes≤140737488355328)
  (hK:K (.tsl τ (n+l.length) (cs++l.map fun b=> .int .u8 b.toNat)) (σ.ai τ (e,1,n+l.length))):Bu e bytes (.tsl τ n cs) (.str l) σ K h:=⟨h0,ht,by omega,h1,h2,hK⟩
theorem ya {e bytes:Nat} {l:List UInt8} {h:Hold (σ,K)} (h0:l≠ []) (h1:l.length≤maxLen) (h2:l.length*bytes≤140737488355328)
  (hK:∀ τ,σ.tip τ=none→K (.tsl τ l.length (l.map fun b=> .int .u8 b.toNat)) (σ.ai τ (e,1,l.length))):Bu e bytes .nils (.str l) σ K h:=⟨h0,h1,h2,hK⟩
theorem ku {T:Nat} {cs:List AV} {h:Hold (σ,K)} (hK:∀ β,σ.box β=none→σ.bt β=none→K (.ptr β 0) ((σ.ad β cs).bZ β T)):vq T cs σ K h:=hK
theorem St.Hq (σ:St) (β T:Nat):(σ.bZ β T).box=σ.box:=rfl
theorem St.Hr (σ:St) (β T:Nat):(σ.bZ β T).tip=σ.tip:=rfl
theorem St.E2 (σ:St) (β T:Nat):(σ.bZ β T).glob=σ.glob:=rfl
theorem St.KL (σ:St) (β T:Nat):(σ.bZ β T).lp=σ.lp:=rfl
theorem St.Hs (σ:St) (β:Nat) (c:List AV):(σ.ad β c).bt=σ.bt:=rfl
theorem St.Ht (σ:St) (τ:Nat) (x:Nat × Nat × Nat):(σ.ai τ x).bt=σ.bt:=rfl
theorem St.KM (σ:St) (L:Nat) (x:LO × Fr):(σ.au L x).bt=σ.bt:=rfl
theorem St.lQ (σ:St) (β T:Nat):(σ.bZ β T).bt β=some T:=by simp [St.bZ,upd]
theorem St.yb (σ:St) (β γ T:Nat) (c:List AV):(σ.ad γ c).bZ β T=(σ.bZ β T).ad γ c:=rfl
theorem St.yc (σ:St) (β τ T:Nat) (x:Nat × Nat × Nat):(σ.ai τ x).bZ β T=(σ.bZ β T).ai τ x:=rfl
theorem St.ib {s s':St} {β T:Nat} (h:St.le s s') (hn:s.bt β=none):St.le s (s'.bZ β T) :=
 ⟨h.1,h.2.1,h.2.2.1,h.2.2.2.1,fun γ U k=>by
  simp only [St.bZ,upd]
  split
  ·rename_i e;subst e;rw [hn] at k;cases k
  ·exact h.2.2.2.2 γ U k⟩
end
def R4:=LR (ax2 @GZ @wJ) (ax2 @wK @zJ) (ax2 @DQ @DP) (ax2 @DR @zM) (ax2 @DU @DL) (ax2 @ti @zR) (ax2 @zS @zZ) (ax2 @St.Ho @St.Hp) (ax2 @St.aY @St.cS) (ax2 @St.da @St.E1) (ax2 @St.ei @St.jO) (ax2 @St.eY @St.Bq) (@St.Br)
set_option maxRecDepth 100000
def R5:=Dy (jc (ax2 @tE @GY) (ax2 @mB @zN) (ax2 @DT @DS) (ax2 @ua @St.Hq) (ax2 @St.Hr @St.E2) (ax2 @St.KL @St.Hs) (ax2 @St.Ht @St.KM) (ax2 @St.lQ @St.yb) (ax2 @St.yc @iK.eq_1) @iK.eq_2) (jc (ax2 @D7 @An) (ax2 @kO.eq_1 @kO.eq_2) (ax2 @zP @zE) (ax2 @zF @Af) (ax2 @Ag @D8) (ax2 @Ao @gN.eq_1) (ax2 @gN.eq_2 @dT.eq_1) (ax2 @dT.eq_2 @putF.eq_1) (ax2 @putF.eq_2 @aV.eq_1) @aV.eq_2) (jc (ax2 @aV.eq_3 @aV.eq_4) (ax2 @CO.ods.eq_1 @CO.ods.eq_2) (ax2 @CO.ods.eq_3 @CO.ods.eq_4) (ax2 @CO.ods.eq_5 @CO.ods.eq_6) (ax2 @CO.ods.eq_7 @CO.ods.eq_8) (ax2 @CO.ods.eq_9 @CO.ods.eq_10) (ax2 @CO.ods.eq_11 @CO.ods.eq_12) (ax2 @CO.ods.eq_13 @CO.ods.eq_14) (ax2 @CO.ods.eq_15 @CO.ods.eq_16) @CO.ods.eq_17) (jc (ax2 @CO.ods.eq_18 @CO.ods.eq_19) (ax2 @CO.ods.eq_20 @CO.ods.eq_21) (ax2 @CO.ods.eq_22 @CO.ods.eq_23) (ax2 @CO.ods.eq_24 @CO.ods.eq_25) (ax2 @CO.ods.eq_26 @CO.ods.eq_27) (ax2 @CO.ods.eq_28 @CO.ods.eq_29) (ax2 @CO.ods.eq_30 @CO.ods.eq_31) (ax2 @CO.ods.eq_32 @CO.ods.eq_33) (ax2 @CO.ods.eq_34 @CO.ods.eq_35) @CO.ods.eq_36) (jc (ax2 @CO.ods.eq_37 @CO.ods.eq_38) (ax2 @CO.ods.eq_39 @CO.ods.eq_40) (ax2 @CO.ods.eq_41 @CO.ods.eq_42) (ax2 @CO.ods.eq_43 @az.eq_1) (ax2 @az.eq_2 @evU.eq_1) (ax2 @y1.eq_1 @y1.eq_2) (ax2 @y1.eq_3 @vX.eq_1) (ax2 @vX.eq_2 @vX.eq_3) (ax2 @fP.eq_1 @fP.eq_2) @fP.eq_3) (jc (ax2 @fP.eq_4 @fP.eq_5) (ax2 @fP.eq_6 @fP.eq_7) (ax2 @fP.eq_8 @fP.eq_9) (ax2 @fP.eq_10 @fP.eq_11) (ax2 @fP.eq_12 @fP.eq_13) (ax2 @fP.eq_14 @fP.eq_15) (ax2 @fP.eq_16 @fP.eq_17) (ax2 @qn.eq_1 @qn.eq_2) (ax2 @qn.eq_3 @qn.eq_4) @qn.eq_5) (jc (ax2 @l5.eq_1 @l5.eq_2) (ax2 @l5.eq_3 @l5.eq_4) (ax2 @l5.eq_5 @l5.eq_6) (ax2 @l5.eq_7 @l5.eq_8) (ax2 @lv.eq_1 @lv.eq_2) (ax2 @lv.eq_3 @lv.eq_4) (ax2 @lv.eq_5 @lv.eq_6) (ax2 @lv.eq_7 @lv.eq_8) (ax2 @unV.eq_1 @unV.eq_2) @unV.eq_3) (jc (ax2 @unV.eq_4 @unS.eq_1) (ax2 @unS.eq_2 @unS.eq_3) (ax2 @unS.eq_4 @gK.eq_1) (ax2 @gK.eq_2 @gK.eq_3) (ax2 @gK.eq_4 @gK.eq_5) (ax2 @gK.eq_6 @gK.eq_7) (ax2 @gK.eq_8 @gK.eq_9) (ax2 @gK.eq_10 @qo.eq_1) (ax2 @qo.eq_2 @l6.eq_1) @l6.eq_2) (jc (ax2 @l6.eq_3 @slv.eq_1) (ax2 @slv.eq_2 @slv.eq_3) (ax2 @slv.eq_4 @aI.eq_1) (ax2 @aI.eq_2 @cN.eq_1) (ax2 @cN.eq_2 @gk.eq_1) (ax2 @gk.eq_2 @bnd.eq_1) (ax2 @bnd.eq_2 @ldV.eq_1) (ax2 @ldV.eq_2 @ldS.eq_1) (ax2 @ldS.eq_2 @cG.eq_1) @cG.eq_2) (jc (ax2 @cG.eq_3 @AV.fits.eq_1) (ax2 @AV.fits.eq_2 @AV.one.eq_1) (ax2 @AV.one.eq_2 @AV.one.eq_3) (ax2 @AV.one.eq_4 @AV.one.eq_5) (ax2 @AV.cells.eq_1 @AV.cells.eq_2) (ax2 @bm.eq_1 @bm.eq_2) (ax2 @ed.eq_1 @ed.eq_2) (ax2 @fresh.eq_1 @fresh.eq_2) (ax2 @fresh.eq_3 @dx.eq_1) @dx.eq_2) (jc (ax2 @dx.eq_3 @dx.eq_4) (ax2 @dx.eq_5 @dx.eq_6) (ax2 @dx.eq_7 @dx.eq_8) (ax2 @dx.eq_9 @dx.eq_10) (ax2 @dx.eq_11 @fy.eq_1) (ax2 @fy.eq_2 @fy.eq_3) (ax2 @fy.eq_4 @fy.eq_5) (ax2 @fy.eq_6 @fy.eq_7) (ax2 @fy.eq_8 @fy.eq_9) @fy.eq_10) (jc (ax2 @fy.eq_11 @kR.eq_1) (ax2 @kR.eq_2 @isLd.eq_1) (ax2 @isLd.eq_2 @isLd.eq_3) (ax2 @sqL.eq_1 @sqL.eq_2) (ax2 @sqL.eq_3 @sqV.eq_1) (ax2 @sqV.eq_2 @sqV.eq_3) (ax2 @sqV.eq_4 @ps.eq_1) (ax2 @ps.eq_2 @ps.eq_3) (ax2 @ps.eq_4 @ps.eq_5) @ps.eq_6) (jc (ax2 @ps.eq_7 @ps.eq_8) (ax2 @ps.eq_9 @ps.eq_10) (ax2 @ps.eq_11 @ps.eq_12) (ax2 @ps.eq_13 @ps.eq_14) (ax2 @ps.eq_15 @ps.eq_16) (ax2 @ps.eq_17 @ps.eq_18) (ax2 @ps.eq_19 @ps.eq_20) (ax2 @ps.eq_21 @ps.eq_22) (ax2 @ps.eq_23 @ps.eq_24) @ps.eq_25) (jc (ax2 @ps.eq_26 @ps.eq_27) (ax2 @ps.eq_28 @ps.eq_29) (ax2 @ps.eq_30 @ps.eq_31) (ax2 @ps.eq_32 @ps.eq_33) (ax2 @ps.eq_34 @ps.eq_35) (ax2 @ps.eq_36 @pf.eq_1) (ax2 @pf.eq_2 @pf.eq_3) (ax2 @pf.eq_4 @pf.eq_5) (ax2 @pf.eq_6 @pf.eq_7) @pf.eq_8) (jc (ax2 @pf.eq_9 @pf.eq_10) (ax2 @pf.eq_11 @pf.eq_12) (ax2 @pf.eq_13 @pf.eq_14) (ax2 @pf.eq_15 @pf.eq_16) (ax2 @pf.eq_17 @pf.eq_18) (ax2 @pf.eq_19 @pf.eq_20) (ax2 @pf.eq_21 @pf.eq_22) (ax2 @pf.eq_23 @pf.eq_24) (ax2 @pf.eq_25 @pf.eq_26) @pf.eq_27) (JR @pf.eq_28 @pf.eq_29 @pf.eq_30 @pf.eq_31 @pf.eq_32 @pf.eq_33 @pf.eq_34 @ev.eq_1 @ev.eq_2 @ev.eq_3 @ev.eq_4 @slot.eq_1 @slot.eq_2 @iL.eq_1 @iL.eq_2)
def RR:=ax7 R2 R3 R4 R5 R6 @decide_true @decide_false
theorem Pt {P:Program} {f:Nat} {xs:List AV} {v:AV} {σ:St} {K:AV→St→Prop} (h:Pu P f xs v) (hK:K v σ):AC P f xs σ K:=h.to (aa _) hK
theorem Ct {P:Program} {f:Nat} {xs:List AV} {v:AV} {σ:St} {K:AV→St→Prop} {h:Hold (σ,K)} (hp:Pu P f xs v) (hK:K v σ):px P f xs σ K h:=bd hp (aa _) hK
def RB:=ax6 @St.aG @St.bC @St.bn @St.bu @St.cS @St.da
def RZ:=ax6 @List.length_map.{0,0} @List.length_append.{0} @List.length_cons.{0} @List.length_nil.{0} @List.length_take.{0} @List.length_drop.{0}
section
variable {P:Program} {f:Nat} {xs:List AV} {res:List RV} {e:Exit} {fr:Fr} {σ σ0:St} {v:AV} {R:AV→St→Prop}
theorem aq (hw:wk (eV (res.map (rvV σ fr))) v) (hs:aw σ fr res:=by simp [aw,rvS]) (hl:St.le σ0 σ:=by repeat (first|exact St.le_refl _|(refine St.aR ?_ OB)|(refine St.iB ?_ OB))) (he:e= .ret∨e= .normal:=by simp):fL res (fun r s=>r=v∧s=σ0) e fr σ:=Ez he hs hw hl
theorem LX (hw:wk (eV (res.map (rvV σ fr))) v) (hl:St.lw σ0 σ) (hs:aw σ fr res:=by simp [aw,rvS]) (he:e= .ret∨e= .normal:=by simp):fL res (fun r s=>wk r v∧St.lw σ0 s) e fr σ:=Hm he hs hw hl
theorem b7 (h:R (eV (res.map (rvV σ fr))) σ) (hs:aw σ fr res:=by simp [aw,rvS]) (he:e= .ret∨e= .normal:=by simp):fL res R e fr σ:=EO he hs h
theorem av (cf:CF) (hf:fB P f cf=true) (h:∀ σ,aC P cf.body (dT 0 xs) σ (fL cf.res (fun r s=>r=v∧s=σ))) (hn:xs.length≤cf.n:=by exact Nat.le_of_ble_eq_true rfl):Pu P f xs v:=Ah cf hf hn h
theorem aO {gl:List (Nat × List AV)} (cf:CF) (hf:fB P f cf=true) (h:∀ σ,bw gl σ→aC P cf.body (dT 0 xs) σ (fL cf.res (fun r s=>r=v∧s=σ))) (hn:xs.length≤cf.n:=by exact Nat.le_of_ble_eq_true rfl):PuG P gl f xs v:=x8 cf hf hn h
theorem Bv (cf:CF) (hf:fB P f cf=true) (h:aC P cf.body (dT 0 xs) σ (fL cf.res (fun r s=>wk r v∧St.lw σ0 s))) (hn:xs.length≤cf.n:=by exact Nat.le_of_ble_eq_true rfl):AC P f xs σ (fun r s=>r=v∧s=σ0):=xY cf hf hn h
theorem aT (cf:CF) (hf:fB P f cf=true) (h:aC P cf.body (dT 0 xs) σ (fL cf.res R)) (hn:xs.length≤cf.n:=by exact Nat.le_of_ble_eq_true rfl):AC P f xs σ R:=jL cf hf hn h
end
def ar:=ax6 @eV.eq_1 @eV.eq_2 @rvV.eq_1 @rvV.eq_2 @List.map_cons.{0,0} @List.map_nil.{0,0}
theorem ao {p:Prop} (h:p:=by simp only [RZ];omega):p:=h
theorem ub {p:Prop} (h:p:=by first|((repeat (first|exact St.le_refl _|(refine St.aR ?_ OB)|(refine St.iB ?_ OB)));done)|fail):p:=h
theorem fo {p:Prop} (h:p:=by first|((repeat' (first|exact ae _|exact dc|exact dD _ _ _|exact cQ _ _|exact wkL.nil|exact aa _|refine zt ?_|refine mi ?_|refine wkL.cons ?_ ?_));done)|fail):p:=h
theorem vr {p:Prop} (h:p:=by (repeat' (with_reducible apply And.intro))<;>first|exact Hl (by have:=ow;omega)|exact dD _ _ _|exact cQ _ _|exact af (congrArg (AV.tsl _ _) (flat_step OB))):p:=h
theorem ak {p:Prop} (h:p:=by intros;(repeat' (with_reducible apply And.intro))<;>first|omega|(simp only [RZ];omega)):p:=h
def KN (σ:St) (K:AV→St→Prop) (_:Hold (σ,K)):Prop:=∀ L,σ.lp L=none→K (.mpv L) (σ.au L (.map [] 0,[]))
def Hu   (x k : AV) (σ : St) (K : AV → St → Prop) (_ : Hold (σ, K)) : Prop := match x, k with
    | .mpv L, .int .u64 n => match σ.lp L with
      | some (.map l _,_)=>K (.bool (iI l n)) σ
      | _=>False
    | _,_=>False
def Hv   (x k v : AV) (σ : St) (K : AV → St → Prop) (_ : Hold (σ, K)) : Prop := match x, k, v with
    | .mpv L, .int .u64 n, .bool b => match σ.lp L with
      | some (.map l c,_)=>K .junk (σ.au L (.map (iJ l c n b).1 (iJ l c n b).2,[]))
      | _=>False
    | _,_,_=>False
section
variable {P:Program} {σ:St} {K:AV→St→Prop} {ρ:Od→AV} {x k v:Od}
theorem E3:aOp P ρ σ K .mkM=KN σ K ⟨⟩:=rfl
theorem E4:aOp P ρ σ K (.mgt x k)=Hu (ρ x) (ρ k) σ K ⟨⟩:=rfl
theorem E5:aOp P ρ σ K (.mst x k v)=Hv (ρ x) (ρ k) (ρ v) σ K ⟨⟩:=rfl
theorem Hw {h:Hold (σ,K)} (hk:∀ L,σ.lp L=none→K (.mpv L) (σ.au L (.map [] 0,[]))):KN σ K h:=hk
theorem Bw {h:Hold (σ,K)} {L c:Nat} {n:Int} {l:List (Int × Bool × Nat)} {fr:Fr} (hl:σ.lp L=some (.map l c,fr)) (hk:K (.bool (iI l n)) σ):Hu (.mpv L) (.int .u64 n) σ K h:=by
 unfold Hu;simp only;rw [hl];exact hk
theorem uc {h:Hold (σ,K)} {L c:Nat} {n:Int} {b:Bool} {l:List (Int × Bool × Nat)} {fr:Fr} (hl:σ.lp L=some (.map l c,fr)) (hk:K .junk (σ.au L (.map (iJ l c n b).1 (iJ l c n b).2,[]))):Hv (.mpv L) (.int .u64 n) (.bool b) σ K h:=by
 unfold Hv;simp only;rw [hl];exact hk
end
def RM:=ax3 @E3 @E4 @E5
theorem rl (n:Int):iI [] n=false:=rfl
theorem fD (n:Int):∀ (l:List (Int × Bool × Nat)) (i:Nat),dZ n l i=(dZ n l 0).map fun p=>(p.1+i,p.2)
  | [],_=>rfl
  | e :: r, i => by
    simp only [dZ]
    split
    · simp
    · rw [fD n r (i+1),fD n r (0+1)]
      cases dZ n r 0<;>simp;omega
theorem iC (e:Int × Bool × Nat) (r:List (Int × Bool × Nat)) (n:Int):iI (e::r) n=if e.1=n then e.2.1 else iI r n:=by
 simp only [iI,dZ]
 by_cases h:e.1=n
 ·simp only [if_pos h]
 ·simp only [if_neg h]
  rw [fD n r (0+1)]
  cases dZ n r 0<;>rfl
theorem yd (e:Int × Bool × Nat) (r:List (Int × Bool × Nat)) (c:Nat) (n:Int) (b:Bool):(iJ (e::r) c n b).1=if e.1=n then (n,b,e.2.2)::r else e::(iJ r c n b).1:=by
 simp only [iJ,dZ]
 by_cases h:e.1=n
 ·simp only [if_pos h];rfl
 ·simp only [if_neg h]
  rw [fD n r (0+1)]
  cases h:dZ n r 0<;>rfl
theorem rm (c:Nat) (n m:Int) (b:Bool):∀ (l:List (Int × Bool × Nat)),iI (iJ l c n b).1 m=if n=m then b else iI l m
  | []=>by simp [iJ,dZ,iC,rl]
  | e :: r => by
    rw [yd]
    split
    · rename_i h;subst h
      simp only [iC]
      split<;>rfl
    · rename_i h
      rw [iC,rm c n m b r,iC]
      split
      · rename_i h2;subst h2;rw [if_neg (Ne.symm h)]
      · rfl
theorem St.jP {σ:St} {L M:Nat} (h:M≠L) (x:LO × Fr):(σ.au L x).lp M=σ.lp M:=by simp [St.au,upd,h]
open Go.RowKit
def gnd:AV→Bool
 | .bool _ | .int _ _ | .str _=>true
 | _=>false
theorem vt {g g':Gh} {w w':World} {a:AV} {v:Value} (h:gnd a=true) (hr:Rel g w a v):Rel g' w' a v:=by
 cases hr<;>first|(cases h;done)|constructor
theorem rq {g g':Gh} {w w':World} {l:List AV} {vs:List Value} (h:∀ a∈l,gnd a=true) (hr:bQ g w l vs):bQ g' w' l vs :=
 ⟨hr.1,fun i c v hc hv=>vt (h c (List.mem_of_getElem? hc)) (hr.2 i c v hc hv)⟩
section
variable {P:Program} {g:Gh} {σ:St} {w w':World}
def Gh.dy (g:Gh) (w:World) (b:Nat):Gh:={ g with cl:=fun x=>if x<w.heap.size then g.cl x else if x=b then some 0 else none,box:=fun β=>if β=g.nb then some b else g.box β,nb:=g.nb+1 }
theorem Ext.dy (hI:Inv g σ w) (hb:Below w.heap.size w w') (b:Nat):Ext g w (g.dy w b) w':=by
 refine ⟨hb.os,hb.tape,hb.output,hb.size,fun β k h=>?_,fun β hβ=>?_,Nat.le_succ _,Nat.le_refl _,fun m n v h=>h,fun k h hc=>⟨by simp only [Gh.dy,if_pos h];exact hc,hb.block k h⟩,fun k F h hc=>⟨F,by simp only [Gh.dy,if_pos h];exact hc,Nat.le_refl _,fun i _=>World.cell?_of_block (hb.block k h)⟩,fun _ _ h=>h,fun b us _ _ h=>⟨us,by rw [hb.block b (Array.getElem?_eq_some_iff.1 h).1];exact h,rfl⟩⟩
 ·have hβ:β≠g.nb:=by rintro rfl;rw [hI.boxfresh _ (Nat.le_refl _)] at h;cases h
  simp only [Gh.dy,if_neg hβ];exact h
 ·simp only [Gh.dy,if_neg (Nat.ne_of_lt hβ)]
theorem Inv.dy (hI:Inv g σ w) (hb:Below w.heap.size w w') {b:Nat} (hnew:w.heap.size≤b) {vs:Array Value} {T:TypeId} {cs:List AV} (hh:w'.heap[b]? =some (.cells vs T (0,0))) (hr:RelC (g.dy w b) w' cs vs.toList):Inv (g.dy w b) (σ.ad g.nb cs) w':=by
 have he:=Ext.dy hI hb b
 refine ⟨fun β c h=>?_,fun β k h=>?_,fun β β' k h1 h2=>?_,fun β hβ=>?_,fun τ e s n ht=>?_,hI.tipinj,hI.tipfresh,fun k cs hk=>(hI.glob k cs hk).mono he,fun l r hl=>by
  obtain ⟨q1,q2,q3⟩:=hI.lp l r hl
  have hlt:=(Array.getElem?_eq_some_iff.1 q1).1
  exact ⟨by rw [hb.block l hlt];exact q1,by simp only [Gh.dy,if_pos hlt];exact q2,fun t=>(q3 t).mono he⟩,fun β T h=>by
  obtain ⟨k,us,h1,h2⟩:=hI.bty β T h
  exact ⟨k,us,he.box _ _ h1,by rw [hb.block k (hI.boxcl β k h1).1];exact h2⟩⟩
 ·simp only [St.ad,upd] at h
  by_cases hβ:β=g.nb
  ·subst hβ
   simp at h;subst h
   exact ⟨b,vs,T,by simp [Gh.dy],hh,hr⟩
  ·rw [if_neg hβ] at h
   obtain ⟨k,us,T',h1,h2,h3⟩:=hI.box β c h
   exact ⟨k,us,T',he.box _ _ h1,by rw [hb.block k (hI.boxcl β k h1).1];exact h2,h3.mono he⟩
 ·simp only [Gh.dy] at h ⊢
  by_cases hβ:β=g.nb
  ·rw [if_pos hβ] at h;cases h
   refine ⟨(Array.getElem?_eq_some_iff.1 hh).1,fun _=>?_⟩
   rw [if_neg Oz,if_pos rfl]
  ·rw [if_neg hβ] at h
   obtain ⟨h1,h2⟩:=hI.boxcl β k h
   refine ⟨Nat.lt_of_lt_of_le h1 hb.size,fun hl=>?_⟩
   rw [if_pos h1]
   exact h2 PU
 ·simp only [Gh.dy] at h1 h2
  by_cases hβ:β=g.nb<;>by_cases hβ':β'=g.nb
  ·rw [hβ,hβ']
  ·rw [if_pos hβ] at h1;rw [if_neg hβ'] at h2;cases h1;have:=(hI.boxcl β' _ h2).1;omega
  ·rw [if_neg hβ] at h1;rw [if_pos hβ'] at h2;cases h2;have:=(hI.boxcl β _ h1).1;omega
  ·rw [if_neg hβ] at h1;rw [if_neg hβ'] at h2;exact hI.boxinj _ _ _ h1 h2
 ·simp only [Gh.dy] at hβ ⊢
  rw [if_neg Oz]
  exact hI.boxfresh β Oz
 ·obtain ⟨v,h1,h2,h4⟩:=hI.tip τ e s n ht
  refine ⟨v,h1,fun hs=>?_,h4⟩
  obtain ⟨xs,h2,h3⟩:=h2 hs
  refine ⟨xs,h2.kept (row:=none) ⟨hb.os,hb.tape,hb.output,hb.size,fun k hk _=>hb.block k hk⟩ (by cases h:v.ownBlock<;>simp),fun k hbb=>?_⟩
  have hlt:=(h2.lt k hbb).2
  obtain ⟨h5,h6⟩:=h3 k hbb
  refine ⟨by simp only [Gh.dy,if_pos hlt];exact h5,fun β=>?_,h6.2.same (hb.block k hlt)⟩
  simp only [Gh.dy]
  split
  ·intro e';cases e';omega
  ·exact h6.1 β
theorem AC.owned {f:Nat} {xs rest cs:List AV} {e es n:Nat} (he:∀ args w,(callFunc f args).run P w= .ok (.enter f args) w) (hx:∀ a∈xs,gnd a=true) (hr:∀ a∈rest,gnd a=true) (hc:∀ a∈cs,gnd a=true) (hn:n≠0)
  (h:AC P f xs (s0 fun _=>none) (fun r s=>∃ τ,r= .tup (.tsl τ n cs::rest)∧s=(s0 fun _=>none).ai τ (e,es,n))) :
  AC P f xs σ (fun r s=>∃ β k,σ.box β=none∧r= .tup (.psl β 0 n::rest)∧s=σ.ad β (cs++List.replicate k .junk)):=by
 intro g w vs hI hv
 have hv0:bQ g0 w xs vs:=rq hx hv
 refine .inl ⟨he _ _,?_⟩
 rcases h g0 w vs (KJ (fun k cs hk=>by cases hk)) hv0 with ⟨_,h2⟩|⟨u,w',h1,_⟩
 ·refine h2.mono ?_
  rintro ex w' ⟨v,r,σ',g',rfl,⟨τ,rfl,rfl⟩,hI',he',hr'⟩
  obtain ⟨us,rfl,hu⟩:=hr'.o6
  obtain ⟨sv,us',rfl,hs,hu'⟩:=hu.cons_inv
  have hB:Below w.heap.size w w':=⟨he'.os,he'.tape,he'.output,he'.size,fun k hk=>(he'.cln k hk rfl).2⟩
  obtain ⟨v0,k1,k2,_⟩:=hI'.tip τ e es n Pz
  have hti:=hs.lL
  rw [hti] at k1;cases k1
  obtain ⟨own,q1,q2⟩:=k2 (.inr hn)
  rcases q1.2 with ⟨_,h0⟩|⟨b,cap,cur,rfl,_,hh,hcap,_,hsz,htk⟩
  ·exact (hn h0).elim
  obtain ⟨q3,_,q4⟩:=q2 b rfl
  have hnew:w.heap.size≤b:=by
   rcases Nat.lt_or_ge b w.heap.size with h|h
   ·have:=(he'.cln b h rfl).1
    rw [this] at q3;cases q3
   ·exact h
  rcases hs.bL (n:=n) (cs:=cs) rfl with ⟨_,_,h0,_⟩|⟨b2,off,cap2,us2,e2,hc2,hl⟩
  ·exact (hn h0).elim
  cases e2
  have hlen:=hl.rel.1.1
  have hcells:RelC (g.dy w b) w' (cs++List.replicate (cur.size - cs.length) .junk) cur.toList:=by
   have hle:cs.length≤cur.size:=by
    rcases Nat.lt_or_ge cur.size cs.length with hlt|hge
    ·have h1:=hl.cell cur.size (us2[cur.size]'(by omega)) (List.getElem?_eq_getElem Oz)
     simp [World.cell?,hh] at h1
    ·exact hge
   have hall:∀ v∈cur.toList,v.oneCell'=true:=q4 _ _ _ hh
   refine ⟨⟨by simp;omega,fun i c v hc' hv'=>?_⟩,hall⟩
   rcases Nat.lt_or_ge i cs.length with hi|hi
   ·rw [List.getElem?_append_left hi] at hc'
    have hu2:us2[i]? =some (us2[i]'(by omega)):=List.getElem?_eq_getElem Oz
    have h1:=hl.cell i _ hu2
    simp only [World.cell?,hh,Nat.zero_add] at h1
    have:v=us2[i]'(by omega):=by
     rw [Array.getElem?_toList] at hv'
     have h1':cur[i]? =some (us2[i]'(by omega)):=by simpa using h1
     rw [h1'] at hv';cases hv';rfl
    rw [this]
    exact vt (hc c (List.mem_of_getElem? hc')) (hl.rel.1.2 i c _ hc' hu2)
   ·rw [List.getElem?_append_right hi] at hc'
    rw [List.getElem?_replicate] at hc'
    split at hc'
    ·cases hc';exact .junk _
    ·cases hc'
  refine ⟨_, .tup (.psl g.nb 0 n::rest),σ.ad g.nb (cs++List.replicate (cur.size - cs.length) .junk),g.dy w b,rfl,⟨g.nb,_,dR hI,rfl,rfl⟩,hI.dy hB hnew hh hcells,Ext.dy hI hB b, .dA (.cons (.psl _ _ _ _ _ (by simp [Gh.dy]) hcap) (rq hr hu'))⟩
 ·rw [he] at h1;cases h1
end
end Go.Abs
namespace Go.Abs
def rA (dp:List (List Nat)) (ds:List Nat) (m N:Nat):Bool :=
 (List.range N).all (fun j=>(dp.getD j []).all (fun i=>Nat.blt i j)) &&
 (Nat.beq m N||(List.range m).all (fun i=>(List.range (m+1)).any fun p=>Nat.blt i p&&(dp.getD p []).any (Nat.beq i))) &&
 (List.range N).all (fun j=>Nat.ble j m||(dp.getD j []).any (Nat.beq (j - 1)))&&Nat.beq ds.length m&&Nat.ble m N&&nodupB ds
where nodupB:List Nat→Bool
 | []=>true
 | d::r=>r.all (fun e=> !Nat.beq d e)&&nodupB r
theorem oA:∀ {ds:List Nat} {i j x y:Nat},rA.nodupB ds=true→ds[i]? =some x→ds[j]? =some y→i≠j→x≠y
  | [],i,_,_,_,_,h,_,_=>by simp at h
  | d :: r, i, j, x, y, hn, hi, hj, hij => by
    simp only [rA.nodupB,Bool.and_eq_true,List.all_eq_true] at hn
    have ne:∀ k z,r[k]? =some z→d≠z:=fun k z hz e=>by
      have:=hn.1 z (List.mem_of_getElem? hz)
      subst e;simp at this
    cases i with
    | zero =>
      cases j with
      | zero=>exact (hij rfl).elim
      | succ j=>simp at hi hj;subst hi;exact ne j y hj
    | succ i =>
      cases j with
      | zero=>simp at hi hj;subst hj;exact (ne i x hi).symm
      | succ j=>simp at hi hj;exact oA hn.2 hi hj Oz
theorem oB {P:Program} (x:XI) (l:List XI) (fr:Fr) (σ:St) (Q:Exit→Fr→St→Prop):cm P (x::l) fr σ Q=fT P x fr σ (fun fr' σ'=>cm P l fr' σ' Q) (fun r s=>Q (.panic []) [(0,r)] s):=by
 cases x<;>rfl
section
variable {P:Program} {fr:Fr} {σ:St} {Q:Exit→Fr→St→Prop}
theorem By {l:List XI} {dp:List (List Nat)} (ds:List Nat) (m:Nat) (J:(Nat→Bool)→St→Prop) (V:Nat→AV→St→Prop) (hb:rA dp ds m l.length=true) (h0:J (fun _=>false) σ)
    (hop:∀ D j x d,j<m→l[j]? =some x→ds[j]? =some d→D j=false→(∀ i,D i=true→(dp.getD i []).all D=true)→(dp.getD j []).all D=true→∀ f s,J D s→(∀ t,t ∉ ds→slot t f=slot t fr)→(∀ i e,i∈dp.getD j []→ds[i]? =some e→V i (slot e f) s) →
      fT P x f s (fun f' s'=>∃ v,f'=putF (some d) v f∧J (fun k=>D k||Nat.beq k j) s'∧V j v s'∧∀ i a,V i a s→V i a s') (fun r s=>Q (.panic []) [(0,r)] s))
    (hfin:∀ D f s,(∀ i,i<m→D i=true)→J D s→(∀ t,t ∉ ds→slot t f=slot t fr)→(∀ i e,ds[i]? =some e→V i (slot e f) s)→cm P (l.drop m) f s Q):aX P (.invX l dp) fr σ Q:=by
  simp only [rA,Bool.and_eq_true,List.all_eq_true,List.any_eq_true,Bool.or_eq_true,List.mem_range,Nat.blt_eq,Nat.ble_eq,Nat.beq_eq] at hb
  obtain ⟨⟨⟨⟨⟨c1,c2⟩,c3⟩,c4⟩,c5⟩,c6⟩:=hb
  refine ⟨fun D f s=>(∀ j,D j=true→(dp.getD j []).all D=true)∧(((∀ j,m≤j→D j=false)∧J D s∧(∀ t,t ∉ ds→slot t f=slot t fr)∧∀ i e,D i=true→ds[i]? =some e→V i (slot e f) s)∨(∃ k,m<k∧k≤l.length∧(∀ j,D j=true↔j<k)∧cm P (l.drop k) f s Q)),?_,?_,?_⟩
  · exact ⟨fun j h=>(Bool.false_ne_true h).elim, .inl ⟨fun _ _=>rfl,h0,fun _ _=>rfl,fun _ _ h=>(Bool.false_ne_true h).elim⟩⟩
  · rintro D j x hx hDj hdep f s ⟨hcl,h|h⟩
    · obtain ⟨h1,h2,h3,h4⟩:=h
      have hlt:j<l.length:=(List.getElem?_eq_some_iff.1 hx).1
      have hcl':∀ i,(D i||Nat.beq i j)=true→(dp.getD i []).all (fun k=>D k||Nat.beq k j)=true:=by
        intro i hi
        refine List.all_eq_true.2 fun k hk=>?_
        rcases (Bool.or_eq_true _ _).mp hi with hi|hi
        · have:=List.all_eq_true.1 (hcl i hi) k hk;rw [this];rfl
        · have e:=Nat.eq_of_beq_eq_true hi;subst e
          have:=List.all_eq_true.1 hdep k hk;rw [this];rfl
      rcases Nat.lt_or_ge j m with hj|hj
      · obtain ⟨d,hd⟩:∃ d,ds[j]? =some d:=⟨_,List.getElem?_eq_getElem Oz⟩
        have:=hop D j x d hj hx hd hDj hcl hdep f s h2 h3 (fun i e hi he=>h4 i e (List.all_eq_true.1 hdep i hi) he)
        refine fm x this ?_ (fun _ _ h=>h)
        rintro f' s' ⟨v,rfl,k1,k2,k3⟩
        refine ⟨hcl', .inl ⟨fun i hi=>?_,k1,fun t ht=>?_,fun i e hi he=>?_⟩⟩
        · show (D i||Nat.beq i j)=false
          rw [h1 i hi,Bool.false_or,←Bool.not_eq_true]
          intro hb;have:=Nat.eq_of_beq_eq_true hb;omega
        · have:t≠d:=fun e=>ht (e ▸ List.mem_of_getElem? hd)
          simp only [putF,slot,if_neg this];exact h3 t ht
        · by_cases hij:i=j
          · subst hij
            rw [hd] at he;cases he
            simp only [putF,slot,if_true];exact k2
          · have hDi:D i=true:=by
              rcases (Bool.or_eq_true _ _).mp hi with h|h
              · exact h
              · exact (hij (Nat.eq_of_beq_eq_true h)).elim
            have:e≠d:=oA c6 he hd hij
            simp only [putF,slot,if_neg this]
            exact k3 _ _ (h4 i e hDi he)
      · have hjm:j=m:=by
          refine Classical.byContradiction fun hne=>?_
          rcases c3 j hlt with h|⟨i,hi,he⟩
          · omega
          · have:=List.all_eq_true.1 hdep i hi
            subst he
            rw [h1 _ Oz] at this;cases this
        subst hjm
        have hall:∀ i,i<j→D i=true:=by
          have c2':∀ i,i<j→∃ p,p<j+1∧i<p∧i∈dp.getD p []:=by
            rcases c2 with c2|c2
            · omega
            · intro i hi
              obtain ⟨p,hp,h5,q,hq,h6⟩:=c2 i hi
              subst h6;exact ⟨p,hp,h5,hq⟩
          have key:∀ n i,j - i=n→i<j→D i=true:=by
            intro n
            induction n using Nat.strongRecOn with
            | _ n ih =>
              intro i hn hi
              obtain ⟨p,hp,h5,h6⟩:=c2' i hi
              by_cases hpj:p=j
              · subst hpj;exact List.all_eq_true.1 hdep i h6
              · exact List.all_eq_true.1 (hcl p (ih (j - p) Oz p rfl Oz)) i h6
          exact fun i hi=>key _ i rfl hi
        have hrun:=hfin D f s hall h2 h3 (fun i e he=>h4 i e (hall i (by have:=(List.getElem?_eq_some_iff.1 he).1;omega)) he)
        have hdrop:l.drop j=x::l.drop (j+1):=by
          rw [List.drop_eq_getElem_cons hlt]
          rw [List.getElem?_eq_getElem hlt] at hx
          cases hx;rfl
        rw [hdrop,oB] at hrun
        refine fm x hrun (fun f' s' hk=>⟨hcl', .inr ⟨j+1,by omega,by omega,fun i=>?_,hk⟩⟩) (fun _ _ h=>h)
        constructor
        · intro hi
          rcases (Bool.or_eq_true _ _).mp hi with h|h
          · refine Classical.byContradiction fun hge=>?_
            rw [h1 i Oz] at h;cases h
          · have:=Nat.eq_of_beq_eq_true h;omega
        · intro hi
          rcases Nat.lt_or_ge i j with h|h
          · show (D i||Nat.beq i j)=true
            rw [hall i h];rfl
          · have:i=j:=by omega
            subst this;simp
    · obtain ⟨k,h1,h2,h3,h4⟩:=h
      have hlt:j<l.length:=(List.getElem?_eq_some_iff.1 hx).1
      have hjk:j=k:=by
        have hge:k≤j:=by
          refine Classical.byContradiction fun h=>?_
          have:=(h3 j).2 Oz
          rw [hDj] at this;cases this
        refine Classical.byContradiction fun hne=>?_
        rcases c3 j hlt with h|⟨i,hi,he⟩
        · omega
        · have:=List.all_eq_true.1 hdep i hi
          have:=(h3 i).1 this
          omega
      subst hjk
      have hdrop:l.drop j=x::l.drop (j+1):=by
        rw [List.drop_eq_getElem_cons hlt]
        rw [List.getElem?_eq_getElem hlt] at hx
        cases hx;rfl
      rw [hdrop,oB] at h4
      refine fm x h4 (fun f' s' hk=>⟨fun i hi=>?_, .inr ⟨j+1,by omega,by omega,fun i=>?_,hk⟩⟩) (fun _ _ h=>h)
      · refine List.all_eq_true.2 fun q hq=>?_
        rcases (Bool.or_eq_true _ _).mp hi with hi|hi
        · have:=List.all_eq_true.1 (hcl i hi) q hq;rw [this];rfl
        · have e:=Nat.eq_of_beq_eq_true hi;subst e
          have:=List.all_eq_true.1 hdep q hq;rw [this];rfl
      · show (D i||Nat.beq i j)=true↔_
        rw [Bool.or_eq_true]
        constructor
        · rintro (hi|hi)
          · have:=(h3 i).1 hi;omega
          · have:=Nat.eq_of_beq_eq_true hi;omega
        · intro hi
          rcases Nat.lt_or_ge i j with h|h
          · exact .inl ((h3 i).2 h)
          · have:i=j:=by omega
            subst this;exact .inr OF
  · rintro D f s hend ⟨hcl,h⟩
    have hall:∀ j,j<l.length→D j=true:=by
      intro j
      induction j using Nat.strongRecOn with
      | _ j ih =>
        intro hj
        rcases hend j hj with h|h
        · exact h
        · have:(dp.getD j []).all D=true:=List.all_eq_true.2 fun i hi=>by
            have:=c1 j hj i hi
            exact ih i this Oz
          rw [this] at h;cases h
    rcases h with ⟨h1,h2,h3,h4⟩|⟨k,h1,h2,h3,h4⟩
    · have hm:m=l.length:=by
        refine Classical.byContradiction fun hne=>?_
        have:=hall m Oz
        rw [h1 m (Nat.le_refl _)] at this;cases this
      have:=hfin D f s (fun i hi=>hall i Oz) h2 h3 (fun i e he=>h4 i e (hall i (by have:=(List.getElem?_eq_some_iff.1 he).1;omega)) he)
      rw [hm,List.drop_length] at this
      exact this
    · have hk:k=l.length:=by
        refine Classical.byContradiction fun hne=>?_
        have:=(h3 k).1 (hall k Oz);omega
      rw [hk,List.drop_length] at h4
      exact h4
theorem kv {l:List XI} {dp:List (List Nat)} (ds:List Nat) (m:Nat) (V:Nat→AV→St→Prop) (hb:rA dp ds m l.length=true)
  (hmono:∀ i v s s',V i v s→St.le s s'→V i v s')
  (hop:∀ j x d,j<m→l[j]? =some x→ds[j]? =some d→∀ f s,St.le σ s→(∀ t,t ∉ ds→slot t f=slot t fr)→(∀ i e,i∈dp.getD j []→ds[i]? =some e→V i (slot e f) s) →
   fT P x f s (fun f' s'=>∃ v,f'=putF (some d) v f∧St.le s s'∧V j v s') (fun r s=>Q (.panic []) [(0,r)] s))
  (hfin:∀ f s,St.le σ s→(∀ t,t ∉ ds→slot t f=slot t fr)→(∀ i e,ds[i]? =some e→V i (slot e f) s)→cm P (l.drop m) f s Q):aX P (.invX l dp) fr σ Q :=
 By ds m (fun _ s=>St.le σ s) V hb (St.le_refl _) (fun D j x d hj hx hd _ _ _ f s h1 h2 h3=>fm x (hop j x d hj hx hd f s h1 h2 h3) (fun f' s' ⟨v,k1,k2,k3⟩=>⟨v,k1,St.le_trans h1 k2,k3,fun i a h=>hmono i a s s' h k2⟩) fun _ _ h=>h) (fun _ f s _ h1 h2 h3=>hfin f s h1 h2 h3)
theorem AC.KO {f:Nat} {xs:List AV} {R:AV→St→Prop} (h:AX P f xs σ (fun b r s=>b=false∧R r s)):AC P f xs σ R:=by
 have hcp:∀ {g w e w'},CPX g w (fun b r s=>b=false∧R r s) e w'→CP g w R e w':=by
  rintro g w e w' ⟨v,r,σ',g',(⟨h1,_,h2⟩|⟨_,h1,_⟩),h3⟩
  ·exact ⟨v,r,σ',g',h1,h2,h3⟩
  ·cases h1
 intro g w vs hI hv
 rcases h g w vs hI hv with ⟨h1,h2⟩|⟨v,w',h1,h2⟩
 ·exact .inl ⟨h1,h2.mono fun e w' hc=>hcp hc⟩
 ·exact .inr ⟨v,w',h1,hcp h2⟩
end
end Go.Abs
namespace Go.Proofs.YtgephffbfiemeaaGreatDoor
open Go.Abs
set_option linter.all false
set_option maxRecDepth 100000
def aU (b:UInt8):Bool:=(b.toNat:Int) == 32||(b.toNat:Int) == 9
def eP (b:UInt8):Bool:=decide ((32:Int)≤b.toNat)&&decide ((b.toNat:Int)≤126)&&((b.toNat:Int) != 34)&&((b.toNat:Int) != 92)
def cd (b:UInt8):Bool:=((b.toNat:Int) != 32)&&eP b
def iN (b:UInt8):Nat :=
 if 48≤b.toNat∧b.toNat≤57 then b.toNat - 48
 else if 97≤b.toNat∧b.toNat≤102 then b.toNat - 87
 else if 65≤b.toNat∧b.toNat≤70 then b.toNat - 55 else 16
def jQ:List UInt8→Option (UInt8 × List UInt8)
 | a::b::r=>if iN a<16∧iN b<16 then some (UInt8.ofNat (16*iN a+iN b),r) else none
 | _=>none
def jR:List UInt8→Option (UInt8 × List UInt8)
 | []=>none
 | c::r=>if c=120 then jQ r else if c=34∨c=92 then some (c,r) else none
def cU:Nat→List UInt8→Option (List UInt8 × List UInt8)
  | 0,_=>none
  | _+1,[]=>none
  | n + 1, c :: r =>
    if c=34 then some ([],r)
    else if c=92 then match jR r with
      | some (x,r')=>(cU n r').map fun q=>(x::q.1,q.2)
      | none=>none
    else if eP c then (cU n r).map fun q=>(c::q.1,q.2)
    else none
def fE (l:List UInt8):Option (List UInt8 × List UInt8):=cU l.length l
def jS:List UInt8→Bool
 | []=>true
 | c::_=>aU c
def cV (l:List UInt8):Option (Bool × List UInt8 × List UInt8) :=
  match l with
  | []=>none
  | c :: r =>
    if c=34 then match fE r with
      | some (t,r')=>if jS r' then some (true,t,r') else none
      | none=>none
    else if (l.takeWhile cd).isEmpty then none
    else if jS (l.dropWhile cd) then some (false,l.takeWhile cd,l.dropWhile cd) else none
structure Wd where
 q:Bool
 t:List UInt8
 a:Nat
 deriving DecidableEq
def rB (w:Wd):Except Nat (List Wd)→Except Nat (List Wd)
 | .error b=> .error b
 | .ok ws=> .ok (w::ws)
def nH (p:List Wd):Except Nat (List Wd)→Except Nat (List Wd)
 | .error b=> .error b
 | .ok ws=> .ok (p++ws)
def kx:Nat→List UInt8→Nat→Except Nat (List Wd)
  | 0,_,_=> .ok []
  | n + 1, l, a => match l.dropWhile aU      with
    | []=> .ok []
    | c :: r =>
      if c=35 then .ok []
      else match cV (c::r) with
        | none=> .error (a+(l.length - (c::r).length))
        | some (q,t,r')=>rB ⟨q,t,a+(l.length - (c::r).length)⟩ (kx n r' (a+(l.length - r'.length)))
def dE (l:List UInt8) (a:Nat):Except Nat (List Wd):=kx (l.length+1) l a
def cI (l:List UInt8):Except Nat (List Wd):=dE l 0
theorem ye {l:List UInt8} {x:UInt8} {r:List UInt8} (h:jQ l=some (x,r)):r.length<l.length:=by
 unfold jQ at h
 split at h
 ·split at h
  ·cases h;simp;omega
  ·cases h
 ·cases h
theorem ic {l:List UInt8} {x:UInt8} {r:List UInt8} (h:jR l=some (x,r)):r.length<l.length:=by
 unfold jR at h
 split at h
 ·cases h
 ·split at h
  ·have:=ye h;simp;omega
  ·split at h
   ·cases h;simp
   ·cases h
theorem ky:∀ (n:Nat) (l:List UInt8) {t r:List UInt8},cU n l=some (t,r)→r.length<l.length
  | 0,_,_,_,h=>by simp [cU] at h
  | _+1,[],_,_,h=>by simp [cU] at h
  | n + 1, c :: l, t, r, h => by
    simp only [cU] at h
    split at h
    · cases h;simp
    · split at h
      · split at h
        · rename_i x r' he
          have h1:=ic he
          cases hq:cU n r' with
          | none=>rw [hq] at h;cases h
          | some q =>
            rw [hq] at h;simp only [Option.map_some,Option.some.injEq,Prod.mk.injEq] at h
            have h2:=ky n r' hq
            rw [←h.2];simp;omega
        · cases h
      · split at h
        · cases hq:cU n l with
          | none=>rw [hq] at h;cases h
          | some q =>
            rw [hq] at h;simp only [Option.map_some,Option.some.injEq,Prod.mk.injEq] at h
            have h2:=ky n l hq
            rw [←h.2];simp;omega
        · cases h
theorem jm:∀ (n m:Nat) (l:List UInt8),l.length≤n→l.length≤m→cU n l=cU m l
  | 0,0,_,_,_=>rfl
  | 0, m + 1, l, h, _ => by
    have:l= []:=List.eq_nil_of_length_eq_zero Oz
    subst this;rfl
  | n + 1, 0, l, _, h => by
    have:l= []:=List.eq_nil_of_length_eq_zero Oz
    subst this;rfl
  | n+1,m+1,[],_,_=>rfl
  | n + 1, m + 1, c :: l, h1, h2 => by
    simp only [List.length_cons] at h1 h2
    simp only [cU]
    rw [jm n m l Oz Oz]
    cases he:jR l with
    | none=>rfl
    | some q =>
      have:=ic (r:=q.2) (x:=q.1) he
      simp only [jm n m q.2 Oz Oz]
theorem yf:fE []=none:=rfl
theorem ud (c:UInt8) (r:List UInt8):fE (c::r) =
    if c=34 then some ([],r)
    else if c=92 then match jR r with
      | some (x,r')=>(fE r').map fun q=>(x::q.1,q.2)
      | none=>none
    else if eP c then (fE r).map fun q=>(c::q.1,q.2)
    else none:=by
  unfold fE
  simp only [List.length_cons,cU]
  split
  · rfl
  · split
    · cases he:jR r with
      | none=>rfl
      | some q =>
        have:=ic (r:=q.2) (x:=q.1) he
        simp only [jm r.length q.2.length q.2 Oz (Nat.le_refl _)]
    · rfl
theorem yg {l t r:List UInt8} (h:fE l=some (t,r)):r.length<l.length:=ky _ _ h
theorem cC (p:UInt8→Bool) (l:List UInt8):(l.dropWhile p).length≤l.length:=by
  induction l with
  | nil=>simp
  | cons c l ih =>
    rw [List.dropWhile_cons]
    split
    · simp;omega
    · simp
theorem eD {l:List UInt8} {q:Bool} {t r:List UInt8} (h:cV l=some (q,t,r)):r.length<l.length:=by
 unfold cV at h
 split at h
 ·cases h
 ·rename_i c l
  split at h
  ·split at h
   ·rename_i t' r' hq
    split at h
    ·cases h
     have:=yg hq
     simp;omega
    ·cases h
   ·cases h
  ·split at h
   ·cases h
   ·rename_i hne
    split at h
    ·cases h
     have:=List.takeWhile_append_dropWhile (p:=cd) (l:=c::l)
     have h2:=congrArg List.length this
     rw [List.length_append] at h2
     have h3:((c::l).takeWhile cd).length≠0:=by
      intro e
      rw [List.length_eq_zero_iff] at e
      rw [e] at hne
      exact hne rfl
     omega
    ·cases h
theorem yh {l:List UInt8} {x:UInt8} {r:List UInt8} (h:jQ l=some (x,r)):r <:+ l:=by
 unfold jQ at h
 split at h
 ·split at h
  ·cases h;exact ⟨[_,_],rfl⟩
  ·cases h
 ·cases h
theorem rC {l:List UInt8} {x:UInt8} {r:List UInt8} (h:jR l=some (x,r)):r <:+ l:=by
 unfold jR at h
 split at h
 ·cases h
 ·split at h
  ·exact (yh h).trans ⟨[_],rfl⟩
  ·split at h
   ·cases h;exact ⟨[_],rfl⟩
   ·cases h
theorem kz:∀ (n:Nat) (l:List UInt8) {t r:List UInt8},cU n l=some (t,r)→r <:+ l
  | 0,_,_,_,h=>by simp [cU] at h
  | _+1,[],_,_,h=>by simp [cU] at h
  | n + 1, c :: l, t, r, h => by
    simp only [cU] at h
    split at h
    · cases h;exact ⟨[_],rfl⟩
    · split at h
      · split at h
        · rename_i x r' he
          cases hq:cU n r' with
          | none=>rw [hq] at h;cases h
          | some q =>
            rw [hq] at h;simp only [Option.map_some,Option.some.injEq,Prod.mk.injEq] at h
            rw [←h.2]
            exact ((kz n r' hq).trans (rC he)).trans ⟨[_],rfl⟩
        · cases h
      · split at h
        · cases hq:cU n l with
          | none=>rw [hq] at h;cases h
          | some q =>
            rw [hq] at h;simp only [Option.map_some,Option.some.injEq,Prod.mk.injEq] at h
            rw [←h.2]
            exact (kz n l hq).trans ⟨[_],rfl⟩
        · cases h
theorem oC {l t r:List UInt8} (h:fE l=some (t,r)):r <:+ l:=kz _ _ h
theorem oD {l:List UInt8} {q:Bool} {t r:List UInt8} (h:cV l=some (q,t,r)):r <:+ l:=by
 unfold cV at h
 split at h
 ·cases h
 ·rename_i c l
  split at h
  ·split at h
   ·rename_i t' r' hq
    split at h
    ·cases h
     exact (oC hq).trans ⟨[_],rfl⟩
    ·cases h
   ·cases h
  ·split at h
   ·cases h
   ·split at h
    ·cases h
     exact List.dropWhile_suffix _
    ·cases h
theorem kV:∀ (n m:Nat) (l:List UInt8) (a:Nat),l.length<n→l.length<m→kx n l a=kx m l a
  | 0,_,_,_,h,_=>by omega
  | _+1,0,_,_,_,h=>by omega
  | n + 1, m + 1, l, a, h1, h2 => by
    simp only [kx]
    have hd:=cC aU l
    cases hl:l.dropWhile aU with
    | nil=>rfl
    | cons c r =>
      rw [hl] at hd
      simp only
      cases hw:cV (c::r) with
      | none=>rfl
      | some q =>
        obtain ⟨q,t,r'⟩:=q
        have:=eD hw
        simp only
        rw [kV n m r' _ Oz Oz]
theorem eE (l:List UInt8) (a:Nat):dE l a=match l.dropWhile aU with
    | []=> .ok []
    | c :: r =>
      if c=35 then .ok []
      else match cV (c::r) with
        | none=> .error (a+(l.length - (c::r).length))
        | some (q,t,r')=>rB ⟨q,t,a+(l.length - (c::r).length)⟩ (dE r' (a+(l.length - r'.length))):=by
  have hd:=cC aU l
  have e:dE l a=match l.dropWhile aU with
    | []=> .ok []
    | c :: r =>
      if c=35 then .ok []
      else match cV (c::r) with
        | none=> .error (a+(l.length - (c::r).length))
        | some (q,t,r')=>rB ⟨q,t,a+(l.length - (c::r).length)⟩ (kx l.length r' (a+(l.length - r'.length))):=rfl
  rw [e]
  cases hl:l.dropWhile aU with
  | nil=>rfl
  | cons c r =>
    rw [hl] at hd
    simp only
    cases hw:cV (c::r) with
    | none=>rfl
    | some q =>
      obtain ⟨q,t,r'⟩:=q
      have:=eD hw
      simp only
      unfold dE
      rw [kV l.length (r'.length+1) r' _ Oz Oz]
theorem fp (p:UInt8→Bool) (l:List UInt8):(l.dropWhile p).dropWhile p=l.dropWhile p:=by
  induction l with
  | nil=>rfl
  | cons c l ih =>
    rw [List.dropWhile_cons]
    split
    · exact ih
    · rename_i h;rw [List.dropWhile_cons,if_neg h]
theorem kW (l:List UInt8) (a:Nat):dE l a=dE (l.dropWhile aU) (a+(l.length - (l.dropWhile aU).length)):=by
  have hd:=cC aU l
  rw [eE,eE (l.dropWhile aU),fp]
  cases hl:l.dropWhile aU with
  | nil=>rfl
  | cons c r =>
    rw [hl] at hd
    simp only
    cases hw:cV (c::r) with
    | none=>simp only [Nat.sub_self,Nat.add_zero]
    | some q =>
      obtain ⟨q,t,r'⟩:=q
      have:=eD hw
      simp only [Nat.sub_self,Nat.add_zero]
      rw [show a+(l.length - (c::r).length)+((c::r).length - r'.length)=a+(l.length - r'.length) by omega]
theorem Bz (p q:List Wd) (e:Except Nat (List Wd)):nH p (nH q e)=nH (p++q) e:=by cases e<;>simp [nH]
theorem yi (w:Wd) (e:Except Nat (List Wd)):rB w e=nH [w] e:=by cases e<;>rfl
theorem BA (e:Except Nat (List Wd)):nH [] e=e:=by cases e<;>rfl
end Go.Proofs.YtgephffbfiemeaaGreatDoor
namespace Go.Abs
set_option linter.all false
section
variable {P:Program} {σ:St} {fr:Fr} {ps:List Nat} {asg body:CC} {xs:List AV}
theorem YC.weaken {l:Nat} {ys:List AV} {R R':AV→St→Prop} (h:YC P l ys σ R) (hr:∀ r s,R r s→∃ r' s',Go.Abs.wk r r'∧St.le s' s∧R' r' s'):YC P l ys σ R':=fun g w vs hI hv=>by
 obtain ⟨fn,tmps,assign,body,h1,h2⟩:=h g w vs hI hv
 refine ⟨fn,tmps,assign,body,h1,h2.mono fun e w' hc=>?_⟩
 obtain ⟨v,r,σ',g',a1,a2,a3,a4,a5⟩:=hc
 obtain ⟨r',s',k1,k2,k3⟩:=hr _ _ a2
 exact ⟨v,r',s',g',a1,k3,a3.le k2,a4,k1 _ _ _ a5⟩
end
end Go.Abs
