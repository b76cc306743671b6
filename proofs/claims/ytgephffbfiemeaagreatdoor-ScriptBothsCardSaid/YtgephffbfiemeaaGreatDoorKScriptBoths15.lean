/- Part 15 of the proof of ScriptBoths: an abstract semantics that is proved sound for the model, contracts of functions in it, and plain facts (Abs18 Abs26 Abs27 Abs34 Abs30 Abs35 RS Abs28). No condition. -/
import Derived.Test.YtgephffbfiemeaaGreatDoorKScriptBoths14
import Derived.Shelf.Strconv.Itoa4
set_option linter.all false
namespace Go.Abs
open Go.RowKit Go.Lib
def Gh.on (g:Gh) (w:World):Gh:={ g with cl:=fun b=>if b<w.heap.size then g.cl b else none }
section
variable {P:Program} {g:Gh} {σ:St} {w w':World}
theorem Ext.below (g:Gh) (hb:Below w.heap.size w w'):Ext g w (g.on w) w':=by
 refine ⟨hb.os,hb.tape,hb.output,hb.size,fun β b h=>h,fun β _=>rfl,Nat.le_refl _,Nat.le_refl _,fun m n v h=>h,fun b h hc=>⟨by simp only [Gh.on,if_pos h];exact hc,hb.block b h⟩,fun b F h hc=>⟨F,by simp only [Gh.on,if_pos h];exact hc,Nat.le_refl _,fun i _=>World.cell?_of_block (hb.block b h)⟩,fun _ _ h=>h,fun b us _ _ h=>⟨us,by rw [hb.block b (Array.getElem?_eq_some_iff.1 h).1];exact h,rfl⟩⟩
theorem Inv.below (hI:Inv g σ w) (hb:Below w.heap.size w w'):Inv (g.on w) σ w':=by
 have he:=Ext.below g hb
 refine ⟨fun β cs h=>?_,fun β b h=>?_,hI.boxinj,hI.boxfresh,fun τ e s n ht=>?_,hI.tipinj,hI.tipfresh,fun k cs hk=>(hI.glob k cs hk).mono he,fun l r hl=>by
  obtain ⟨q1,q2,q3⟩:=hI.lp l r hl
  have hlt:=(Array.getElem?_eq_some_iff.1 q1).1
  exact ⟨by rw [hb.block l hlt];exact q1,by simp only [Gh.on,if_pos hlt];exact q2,fun t=>(q3 t).mono he⟩,fun β T h=>by
  obtain ⟨b,vs,h1,h2⟩:=hI.bty β T h
  exact ⟨b,vs,h1,by rw [hb.block b (hI.boxcl β b h1).1];exact h2⟩⟩
 ·obtain ⟨b,vs,T,h1,h2,h3⟩:=hI.box β cs h
  exact ⟨b,vs,T,h1,by rw [hb.block b (hI.boxcl β b h1).1];exact h2,h3.mono he⟩
 ·obtain ⟨h1,h2⟩:=hI.boxcl β b h
  exact ⟨Nat.lt_of_lt_of_le h1 hb.size,fun hl=>by simp only [Gh.on,if_pos h1];exact h2 hl⟩
 ·obtain ⟨v,h1,h2,h4⟩:=hI.tip τ e s n ht
  refine ⟨v,h1,fun hs=>?_,h4⟩
  obtain ⟨xs,h2,h3⟩:=h2 hs
  refine ⟨xs,h2.kept (row:=none) ⟨hb.os,hb.tape,hb.output,hb.size,fun k hk _=>hb.block k hk⟩ (by cases h:v.ownBlock<;>simp),fun b hbb=>?_⟩
  have hlt:=(h2.lt b hbb).2
  obtain ⟨h5,h6⟩:=h3 b hbb
  exact ⟨by simp only [Gh.on,if_pos hlt];exact h5,h6.1,h6.2.same (hb.block b hlt)⟩
theorem AC.ik {f:Nat} {xs:List AV} {r:AV} (he:∀ args w,(callFunc f args).run P w= .ok (.enter f args) w)
  (h:∀ g w (vs:List Value),Inv g σ w→ca g w xs vs→Calls P f vs.toArray w (fun e w'=>∃ v,e= .returned v∧Below w.heap.size w w'∧∀ g',Ext g w g' w'→Rel g' w' r v)):AC P f xs σ (fun x s=>x=r∧s=σ):=by
 intro g w vs hI hv
 refine .inl ⟨he _ _,(h g w vs hI hv).mono ?_⟩
 rintro e w' ⟨v,rfl,hb,hr⟩
 exact ⟨v,r,σ,g.on w,rfl,⟨rfl,rfl⟩,hI.below hb,Ext.below g hb,hr _ (Ext.below g hb)⟩
def Ba:List AV:=pow10Tab.map (AV.int .u64)
theorem k9 {k:Nat} {name:String} {l:List Int} {kk:IntKind} (hI:Inv g σ w) (hg:P.globalNamed name=some k) (hσ:σ.glob k=some (l.map (AV.int kk))):TabIs P w name kk l:=by
 obtain ⟨hr,hc,vs,T,q,hv,hl⟩:=hI.glob k _ hσ
 obtain ⟨b,off,u,e,hL⟩:=hr.l9
 cases e
 have hu:u=l.map (Value.int kk):=by
  apply List.ext_getElem?
  intro i
  have h1:=hL.rel.1.1
  simp only [List.length_map] at h1
  rcases Nat.lt_or_ge i l.length with hi|hi
  ·have h2:(l.map (AV.int kk))[i]? =some (.int kk l[i]):=by simp [hi]
   have h3:u[i]? =some u[i]:=List.getElem?_eq_getElem MX
   have:=hL.rel.1.2 i _ _ h2 h3
   rw [h3,this.bz]
   simp [hi]
  ·rw [List.getElem?_eq_none MX,List.getElem?_eq_none N6]
 have:vs=u.toArray:=by
  apply Array.ext'
  apply List.ext_getElem?
  intro i
  have h1:=hL.rel.1.1
  have hl':vs.toList.length=u.length:=by simp only [Array.length_toList,hl,h1]
  rcases Nat.lt_or_ge i u.length with hi|hi
  ·have h3:u[i]? =some u[i]:=List.getElem?_eq_getElem hi
   have h4:=hL.cell i _ h3
   simp only [World.cell?,hv,Nat.zero_add] at h4
   simp only [List.toList_toArray,h3]
   rw [←h4]
   simp [hi]
  ·rw [List.getElem?_eq_none MX,List.getElem?_eq_none N6]
 unfold TabIs
 simp only [World.var?,hg,Option.bind_some,hv,this,hu]
def JM (P:Program) (f k:Nat):Prop:=∀ (n:Int) (σ:St), -9223372036854775808≤n→n≤9223372036854775807→σ.glob k=some Ba→AC P f [.int .i64 n, .int .i64 10] σ (fun x s=>x= .str (itoa n)∧s=σ)
theorem Ej {f k:Nat} (he:∀ args w,(callFunc f args).run P w= .ok (.enter f args) w) (hg:P.globalNamed "internal/strconv.uint64pow10" =some k)
  (h:∀ (n:Int), -9223372036854775808≤n→n≤9223372036854775807→∀ w,TabIs P w "internal/strconv.uint64pow10" .u64 pow10Tab→Calls P f #[.int .i64 n, .int .i64 10] w fun e w'=>e= .returned (.string ⟨(itoa n).toArray⟩)∧∃ k os,w'=Go.Sort.grow (w.drewN k) os):JM P f k:=by
 intro n σ h0 h1 hσ
 refine AC.ik he ?_
 intro g w vs hI hv
 obtain ⟨v1,vs,rfl,r1,hv⟩:=hv.cons_inv
 obtain ⟨v2,vs,rfl,r2,hv⟩:=hv.cons_inv
 rw [hv.cC,r1.bz,r2.bz]
 refine (h n h0 h1 w (k9 hI hg hσ)).mono ?_
 rintro e w' ⟨rfl,k',os,rfl⟩
 refine ⟨_,rfl,⟨rfl,rfl,rfl,by simp [Go.Sort.grow,World.drewN],fun i hi=>?_⟩,fun g' _=> .str _⟩
 simp only [Go.Sort.grow,World.drewN]
 rw [Array.getElem?_append_left hi]
end
end Go.Abs
namespace Go.Abs
open Go.RowKit Go.Lib
def PuG (P:Program) (gl:List (Nat × List AV)) (f:Nat) (xs:List AV) (v:AV):Prop:=∀ σ,(∀ k cs,look k gl=some cs→σ.glob k=some cs)→AC P f xs σ (fun r s=>r=v∧s=σ)
theorem la {P:Program} {w:World} {name:String} {kk:IntKind} {l:List Int} {k:Nat} (h:TabIs P w name kk l) (hg:P.globalNamed name=some k):GlobOk g0 w k (l.map (AV.int kk)):=by
 have hrow:∃ T q,w.heap[k]? =some (.cells (l.map (Value.int kk)).toArray T q):=by
  unfold TabIs at h
  simp only [World.var?,hg,Option.bind_some] at h
  split at h
  ·rename_i cs T q hh
   cases h
   exact ⟨T,q,hh⟩
  ·cases h
 obtain ⟨T,q,hh⟩:=hrow
 have hlt:k<w.heap.size:=(Array.getElem?_eq_some_iff.1 hh).1
 refine ⟨Rel.qC (u:=l.map (Value.int kk)) ⟨⟨hlt, .inl rfl⟩,⟨⟨by simp,fun i c v hc hv=>?_⟩,fun v hv=>?_⟩,fun i v hv=>?_⟩,rfl,_,T,q,hh,by simp⟩
 ·simp only [List.getElem?_map,Option.map_eq_some_iff] at hc hv
  obtain ⟨n,h1,rfl⟩:=hc
  obtain ⟨n',h2,rfl⟩:=hv
  rw [h1] at h2;cases h2
  exact .int _ _
 ·simp only [List.mem_map] at hv
  obtain ⟨n,_,rfl⟩:=hv
  rfl
 ·simp only [World.cell?,hh,Nat.zero_add]
  simpa using hv
theorem tZ {P:Program} {gl:List (Nat × List AV)} {f:Nat} {cf:CF} {xs:List AV} {vs:List Value} {w:World} (hf:fB P f cf=true) (h:PuG P gl f xs (.bool true)) (hg:∀ k cs,look k gl=some cs→GlobOk g0 w k cs) (hv:ca g0 w xs vs) :
  Calls P f vs.toArray w (fun e w'=>e= .returned (.bool true)∧Below w.heap.size w w'):=by
 refine (AW (gl:=fun k=>look k gl) hf (h _ (fun k cs hk=>hk)) hg hv).mono ?_
 rintro e w' ⟨u,g',rfl,hr,hb⟩
 rw [hr.dj]
 exact ⟨rfl,hb⟩
end Go.Abs
namespace Go.Abs
end Go.Abs
namespace Go.Abs
theorem St.GG (σ:St) (β:Nat) (c:List AV):(σ.aa β c).lp=σ.lp:=rfl
theorem St.GH (σ:St) (τ:Nat) (x:Nat × Nat × Nat):(σ.ao τ x).lp=σ.lp:=rfl
theorem St.bd (σ:St) (L:Nat) (x:LO × Fr):(σ.ay L x).lp L=some x:=by simp [St.ay,upd]
theorem St.cn (σ:St) (L:Nat) (x:LO × Fr):(σ.ay L x).box=σ.box:=rfl
theorem St.cw (σ:St) (L:Nat) (x:LO × Fr):(σ.ay L x).tip=σ.tip:=rfl
theorem St.Ek (σ:St) (L:Nat) (x:LO × Fr):(σ.ay L x).glob=σ.glob:=rfl
theorem St.en (σ:St) (β L:Nat) (c:List AV) (x:LO × Fr):(σ.aa β c).ay L x=(σ.ay L x).aa β c:=rfl
theorem St.jP (σ:St) (τ L:Nat) (y:Nat × Nat × Nat) (x:LO × Fr):(σ.ao τ y).ay L x=(σ.ay L x).ao τ y:=rfl
theorem St.eV (σ:St) (L:Nat) (x y:LO × Fr):(σ.ay L x).ay L y=σ.ay L y:=by
 simp only [St.ay,St.mk.injEq,true_and,and_true]
 funext j;simp only [upd];split<;>rfl
theorem St.Bb (σ:St) (β L:Nat) (c:List AV):(σ.aa β c).dropLp L=(σ.dropLp L).aa β c:=rfl
theorem St.Bc (σ:St) (τ L:Nat) (y:Nat × Nat × Nat):(σ.ao τ y).dropLp L=(σ.dropLp L).ao τ y:=rfl
theorem St.drop_set {σ:St} {L:Nat} {x:LO × Fr} (h:σ.lp L=none):(σ.ay L x).dropLp L=σ:=by
 obtain ⟨b,t,g,l⟩:=σ
 simp only [St.ay,St.dropLp,St.mk.injEq,true_and,and_true]
 funext j;simp only [upd]
 split
 ·rename_i e;subst e;exact h.symm
 ·rfl
def RF (P:Program) (f:Nat) (cap:List AV) (ps:List Nat) (asg body:CC) (fr:Fr) (σ:St) (Q:Exit→Fr→St→Prop):Prop :=
 C0 P f=true∧∀ (L:Nat) (r:Loop),σ.lp L=none→r.state= .ready→r.pending=none →
  (∀ (xs:List AV) (σ1:St) (K:AV→St→Prop),xs.length=ps.length→σ1.lp L=some (.loop r,fr) →
   aC P asg (iU ps xs fr) σ1 (fun e fr1 σ2=>e= .normal∧σ2.lp L=some (.loop r,fr)∧aC P body fr1 (σ2.ay L (busy r,fr)) (fun e _ σ3=>σ3.lp L=some (.loop (busy r),fr)∧match e with
    | .normal=>K (.bool true) (σ3.ay L (r,fr))
    | .ret=>K (.bool false) (σ3.ay L (left r .ret,fr))
    | .exit id=>K (.bool false) (σ3.ay L (left r (.exit id),fr))
    | _=>False))→YC P L xs σ1 K) →
  AC P f (.yld L::cap) (σ.ay L (r,fr)) (fun _ s=>(s.lp L=some (.loop r,fr)∧Q .normal fr (s.dropLp L))∨(s.lp L=some (.loop (left r .ret),fr)∧Q .ret fr (s.dropLp L))∨∃ id,s.lp L=some (.loop (left r (.exit id)),fr)∧Q (.exit id) fr (s.dropLp L))
section
variable {P:Program} {σ:St} {fr:Fr} {Q:Exit→Fr→St→Prop} {K:AV→St→Prop} {x:Od} {ps:List Nat} {asg body:CC} {f:Nat} {cap xs ys:List AV} {v:AV} {gl:List (Nat × List AV)}
theorem eW {h:Hold (asg,body,fr,σ,Q)} (regs:List (Bool × Nat × Nat × Nat × Nat)) (hh:cF regs fr σ fun fr σ=>∃ f cap,ev σ fr x= .fn f cap∧RF P f cap ps asg body fr σ Q):FA P x ps asg body fr σ Q h:=by
 refine ⟨regs,dx regs hh (fun fr σ hq=>?_)⟩
 obtain ⟨f,cap,h1,h2⟩:=hq
 rw [h1]
 exact h2
theorem Bd {L:Nat} {r:Loop} {σ1:St} (hl:σ1.lp L=none)
    (hY:∀ (xs:List AV) (σ1:St) (K:AV→St→Prop),xs.length=ps.length→σ1.lp L=some (.loop r,fr) →
      aC P asg (iU ps xs fr) σ1 (fun e fr1 σ2=>e= .normal∧σ2.lp L=some (.loop r,fr)∧aC P body fr1 (σ2.ay L (busy r,fr)) (fun e _ σ3=>σ3.lp L=some (.loop (busy r),fr)∧match e with
        | .normal=>K (.bool true) (σ3.ay L (r,fr))
        | .ret=>K (.bool false) (σ3.ay L (left r .ret,fr))
        | .exit id=>K (.bool false) (σ3.ay L (left r (.exit id),fr))
        | _=>False))→YC P L xs σ1 K) (hlen:xs.length=ps.length) {N:St→Prop} {R:St→Prop} {E:Nat→St→Prop}
    (hb : aC P asg (iU   ps xs fr) (σ1.ay    L (r, fr)) (fun e fr1 σ2 => e = .normal ∧ σ2 = σ1.ay    L (r, fr) ∧ aC P body fr1 (σ1.ay    L (busy r, fr)) (fun e _ σ3 => match e with
        | .normal=>∃ s,σ3=s.ay L (busy r,fr)∧s.lp L=none∧N s
        | .ret=>∃ s,σ3=s.ay L (busy r,fr)∧s.lp L=none∧R s
        | .exit id=>∃ s,σ3=s.ay L (busy r,fr)∧s.lp L=none∧E id s
        | _=>False))) :
    YC P L xs (σ1.ay L (r,fr)) (fun v s'=>(v= .bool true∧∃ s,s'=s.ay L (r,fr)∧s.lp L=none∧N s) ∨
      (v= .bool false∧((∃ s,s'=s.ay L (left r .ret,fr)∧s.lp L=none∧R s)∨∃ id s,s'=s.ay L (left r (.exit id),fr)∧s.lp L=none∧E id s))):=by
  refine hY xs _ _ hlen (St.bd _ _ _) (cD _ _ _ hb ?_)
  rintro e fr1 σ2 ⟨rfl,rfl,hb2⟩
  refine ⟨rfl,St.bd _ _ _,?_⟩
  rw [St.eV]
  refine cD _ _ _ hb2 (fun e _ σ3 hq=>?_)
  cases e<;>simp only at hq ⊢ <;>first|exact hq.elim|skip
  · obtain ⟨s,rfl,h1,h2⟩:=hq
    exact ⟨St.bd _ _ _, .inl ⟨trivial,s,St.eV _ _ _ _,h1,h2⟩⟩
  · obtain ⟨s,rfl,h1,h2⟩:=hq
    exact ⟨St.bd _ _ _, .inr ⟨trivial, .inr ⟨_,s,St.eV _ _ _ _,h1,h2⟩⟩⟩
  · obtain ⟨s,rfl,h1,h2⟩:=hq
    exact ⟨St.bd _ _ _, .inr ⟨trivial, .inl ⟨s,St.eV _ _ _ _,h1,h2⟩⟩⟩
def bR (gl:List (Nat × List AV)) (σ:St):Prop:=∀ k cs,look k gl=some cs→σ.glob k=some cs
theorem PuG.to (h:PuG P gl f ys v) (hg:bR gl σ) (hw:wkL xs ys) (hK:K v σ):AC P f xs σ K :=
 AC.mono ((h σ hg).wk hw) (fun r s ⟨e1,e2⟩=>by subst e1;subst e2;exact hK)
theorem xY (cf:CF) (hf:fB P f cf=true) (hn:xs.length≤cf.n) (h:∀ σ,bR gl σ→aC P cf.body (dV 0 xs) σ (fQ cf.res (fun r s=>r=v∧s=σ))):PuG P gl f xs v:=fun σ hσ=>jO cf hf hn (h σ hσ)
theorem PuG.all (h:PuG P gl f ys v) (hw:wkL xs ys) (hg:bR gl σ):∀ σ2,St.le σ σ2→AC P f xs σ2 (fun x s=>x=v∧s=σ2):=fun σ2 hle=>(h σ2 (fun k cs hk=>hle.2.2.1 _ _ (hg k cs hk))).wk hw
theorem a7 {h:Hold (σ,K)} (hp:PuG P gl f ys v) (hg:bR gl σ) (hw:wkL xs ys) (hK:K v σ):pA P f xs σ K h:=⟨v,hp.all hw hg,hK⟩
def Bx (P:Program) (f:Nat) (xs:List AV) (cs:List AV):Prop:=∀ σ,AC P f xs σ (fun r s=>∃ β,σ.box β=none∧r= .ptr β 0∧s=σ.aa β cs)
theorem Bx.to {cs:List AV} (h:Bx P f ys cs) (hw:wkL xs ys) (hK:∀ β,σ.box β=none→K (.ptr β 0) (σ.aa β cs)):AC P f xs σ K :=
 ((h σ).wk hw).mono fun r s ⟨β,h1,h2,h3⟩=>by rw [h2,h3];exact hK β h1
end
section
variable {P:Program} {σ:St} {ρ:Od→AV} {K:AV→St→Prop}
def Be (e bytes:Nat) (a b:AV) (σ:St) (K:AV→St→Prop) (_:Hold (σ,K)):Prop:=vi e bytes a b σ K
def vt (T:Nat) (cs:List AV) (σ:St) (K:AV→St→Prop) (_:Hold (σ,K)):Prop:=∀ β,σ.box β=none→σ.bt β=none→K (.ptr β 0) ((σ.aa β cs).cr β T)
theorem fZ {e bytes:Nat} {x y:Od}:aOp P ρ σ K (.appS e bytes x y)=Be e bytes (ρ x) (ρ y) σ K ⟨⟩:=rfl
theorem ua {T:Nat} {cs:List AV}:aOp P ρ σ K (.allocT T cs)=vt T cs σ K ⟨⟩:=rfl
theorem xZ {e bytes τ n:Nat} {cs:List AV} {l:List UInt8} {h:Hold (σ,K)} (h0:l≠ []) (ht:σ.tip τ=some (e,1,n)) (hc:cs.length=n) (h1:n+l.length≤maxLen) (h2:(n+l.length)*bytes≤140737488355328)
  (hK:K (.tsl τ (n+l.length) (cs++l.map fun b=> .int .u8 b.toNat)) (σ.ao τ (e,1,n+l.length))):Be e bytes (.tsl τ n cs) (.str l) σ K h:=⟨h0,ht,by omega,h1,h2,hK⟩
theorem x6 {e bytes:Nat} {l:List UInt8} {h:Hold (σ,K)} (h0:l≠ []) (h1:l.length≤maxLen) (h2:l.length*bytes≤140737488355328)
  (hK:∀ τ,σ.tip τ=none→K (.tsl τ l.length (l.map fun b=> .int .u8 b.toNat)) (σ.ao τ (e,1,l.length))):Be e bytes .nils (.str l) σ K h:=⟨h0,h1,h2,hK⟩
theorem kA {T:Nat} {cs:List AV} {h:Hold (σ,K)} (hK:∀ β,σ.box β=none→σ.bt β=none→K (.ptr β 0) ((σ.aa β cs).cr β T)):vt T cs σ K h:=hK
theorem St.GI (σ:St) (β T:Nat):(σ.cr β T).box=σ.box:=rfl
theorem St.GJ (σ:St) (β T:Nat):(σ.cr β T).tip=σ.tip:=rfl
theorem St.El (σ:St) (β T:Nat):(σ.cr β T).glob=σ.glob:=rfl
theorem St.JN (σ:St) (β T:Nat):(σ.cr β T).lp=σ.lp:=rfl
theorem St.GK (σ:St) (β:Nat) (c:List AV):(σ.aa β c).bt=σ.bt:=rfl
theorem St.GL (σ:St) (τ:Nat) (x:Nat × Nat × Nat):(σ.ao τ x).bt=σ.bt:=rfl
theorem St.JO (σ:St) (L:Nat) (x:LO × Fr):(σ.ay L x).bt=σ.bt:=rfl
theorem St.l5 (σ:St) (β T:Nat):(σ.cr β T).bt β=some T:=by simp [St.cr,upd]
theorem St.x7 (σ:St) (β γ T:Nat) (c:List AV):(σ.aa γ c).cr β T=(σ.cr β T).aa γ c:=rfl
theorem St.x8 (σ:St) (β τ T:Nat) (x:Nat × Nat × Nat):(σ.ao τ x).cr β T=(σ.cr β T).ao τ x:=rfl
theorem St.il {s s':St} {β T:Nat} (h:St.le s s') (hn:s.bt β=none):St.le s (s'.cr β T) :=
 ⟨h.1,h.2.1,h.2.2.1,h.2.2.2.1,fun γ U k=>by
  simp only [St.cr,upd]
  split
  ·rename_i e;subst e;rw [hn] at k;cases k
  ·exact h.2.2.2.2 γ U k⟩
end
def R4:=KK (ax2 @Gi @wE) (ax2 @wF @zD) (ax2 @Dc @Db) (ax2 @Dd @zG) (ax2 @Dg @C7) (ax2 @tr @zL) (ax2 @zM @zT) (ax2 @St.GG @St.GH) (ax2 @St.bd @St.cn) (ax2 @St.cw @St.Ek) (ax2 @St.en @St.jP) (ax2 @St.eV @St.Bb) (@St.Bc)
set_option maxRecDepth 100000
def R5:=CT (jd (ax2 @tE @Gg) (ax2 @fZ @zH) (ax2 @Df @De) (ax2 @ua @St.GI) (ax2 @St.GJ @St.El) (ax2 @St.JN @St.GK) (ax2 @St.GL @St.JO) (ax2 @St.l5 @St.x7) (ax2 @St.x8 @iT.eq_1) @iT.eq_2) (jd (ax2 @Du @Ag) (ax2 @kX.eq_1 @kX.eq_2) (ax2 @zJ @zy) (ax2 @zz @z7) (ax2 @Aa @Dv) (ax2 @Ah @gQ.eq_1) (ax2 @gQ.eq_2 @dV.eq_1) (ax2 @dV.eq_2 @putF.eq_1) (ax2 @putF.eq_2 @bc.eq_1) @bc.eq_2) (jd (ax2 @bc.eq_3 @bc.eq_4) (ax2 @CO.ods.eq_1 @CO.ods.eq_2) (ax2 @CO.ods.eq_3 @CO.ods.eq_4) (ax2 @CO.ods.eq_5 @CO.ods.eq_6) (ax2 @CO.ods.eq_7 @CO.ods.eq_8) (ax2 @CO.ods.eq_9 @CO.ods.eq_10) (ax2 @CO.ods.eq_11 @CO.ods.eq_12) (ax2 @CO.ods.eq_13 @CO.ods.eq_14) (ax2 @CO.ods.eq_15 @CO.ods.eq_16) @CO.ods.eq_17) (jd (ax2 @CO.ods.eq_18 @CO.ods.eq_19) (ax2 @CO.ods.eq_20 @CO.ods.eq_21) (ax2 @CO.ods.eq_22 @CO.ods.eq_23) (ax2 @CO.ods.eq_24 @CO.ods.eq_25) (ax2 @CO.ods.eq_26 @CO.ods.eq_27) (ax2 @CO.ods.eq_28 @CO.ods.eq_29) (ax2 @CO.ods.eq_30 @CO.ods.eq_31) (ax2 @CO.ods.eq_32 @CO.ods.eq_33) (ax2 @CO.ods.eq_34 @CO.ods.eq_35) @CO.ods.eq_36) (jd (ax2 @CO.ods.eq_37 @CO.ods.eq_38) (ax2 @CO.ods.eq_39 @CO.ods.eq_40) (ax2 @CO.ods.eq_41 @CO.ods.eq_42) (ax2 @CO.ods.eq_43 @aA.eq_1) (ax2 @aA.eq_2 @evU.eq_1) (ax2 @yS.eq_1 @yS.eq_2) (ax2 @yS.eq_3 @vS.eq_1) (ax2 @vS.eq_2 @vS.eq_3) (ax2 @fS.eq_1 @fS.eq_2) @fS.eq_3) (jd (ax2 @fS.eq_4 @fS.eq_5) (ax2 @fS.eq_6 @fS.eq_7) (ax2 @fS.eq_8 @fS.eq_9) (ax2 @fS.eq_10 @fS.eq_11) (ax2 @fS.eq_12 @fS.eq_13) (ax2 @fS.eq_14 @fS.eq_15) (ax2 @fS.eq_16 @fS.eq_17) (ax2 @qE.eq_1 @qE.eq_2) (ax2 @qE.eq_3 @qE.eq_4) @qE.eq_5) (jd (ax2 @mc.eq_1 @mc.eq_2) (ax2 @mc.eq_3 @mc.eq_4) (ax2 @mc.eq_5 @mc.eq_6) (ax2 @mc.eq_7 @mc.eq_8) (ax2 @lH.eq_1 @lH.eq_2) (ax2 @lH.eq_3 @lH.eq_4) (ax2 @lH.eq_5 @lH.eq_6) (ax2 @lH.eq_7 @lH.eq_8) (ax2 @unV.eq_1 @unV.eq_2) @unV.eq_3) (jd (ax2 @unV.eq_4 @unS.eq_1) (ax2 @unS.eq_2 @unS.eq_3) (ax2 @unS.eq_4 @gN.eq_1) (ax2 @gN.eq_2 @gN.eq_3) (ax2 @gN.eq_4 @gN.eq_5) (ax2 @gN.eq_6 @gN.eq_7) (ax2 @gN.eq_8 @gN.eq_9) (ax2 @gN.eq_10 @qF.eq_1) (ax2 @qF.eq_2 @me.eq_1) @me.eq_2) (jd (ax2 @me.eq_3 @slv.eq_1) (ax2 @slv.eq_2 @slv.eq_3) (ax2 @slv.eq_4 @aM.eq_1) (ax2 @aM.eq_2 @c9.eq_1) (ax2 @c9.eq_2 @gr.eq_1) (ax2 @gr.eq_2 @bnd.eq_1) (ax2 @bnd.eq_2 @ldV.eq_1) (ax2 @ldV.eq_2 @ldS.eq_1) (ax2 @ldS.eq_2 @cS.eq_1) @cS.eq_2) (jd (ax2 @cS.eq_3 @AV.fits.eq_1) (ax2 @AV.fits.eq_2 @AV.one.eq_1) (ax2 @AV.one.eq_2 @AV.one.eq_3) (ax2 @AV.one.eq_4 @AV.one.eq_5) (ax2 @AV.cells.eq_1 @AV.cells.eq_2) (ax2 @bA.eq_1 @bA.eq_2) (ax2 @ef.eq_1 @ef.eq_2) (ax2 @fresh.eq_1 @fresh.eq_2) (ax2 @fresh.eq_3 @dG.eq_1) @dG.eq_2) (jd (ax2 @dG.eq_3 @dG.eq_4) (ax2 @dG.eq_5 @dG.eq_6) (ax2 @dG.eq_7 @dG.eq_8) (ax2 @dG.eq_9 @dG.eq_10) (ax2 @dG.eq_11 @fD.eq_1) (ax2 @fD.eq_2 @fD.eq_3) (ax2 @fD.eq_4 @fD.eq_5) (ax2 @fD.eq_6 @fD.eq_7) (ax2 @fD.eq_8 @fD.eq_9) @fD.eq_10) (jd (ax2 @fD.eq_11 @kZ.eq_1) (ax2 @kZ.eq_2 @isLd.eq_1) (ax2 @isLd.eq_2 @isLd.eq_3) (ax2 @sqL.eq_1 @sqL.eq_2) (ax2 @sqL.eq_3 @sqV.eq_1) (ax2 @sqV.eq_2 @sqV.eq_3) (ax2 @sqV.eq_4 @ps.eq_1) (ax2 @ps.eq_2 @ps.eq_3) (ax2 @ps.eq_4 @ps.eq_5) @ps.eq_6) (jd (ax2 @ps.eq_7 @ps.eq_8) (ax2 @ps.eq_9 @ps.eq_10) (ax2 @ps.eq_11 @ps.eq_12) (ax2 @ps.eq_13 @ps.eq_14) (ax2 @ps.eq_15 @ps.eq_16) (ax2 @ps.eq_17 @ps.eq_18) (ax2 @ps.eq_19 @ps.eq_20) (ax2 @ps.eq_21 @ps.eq_22) (ax2 @ps.eq_23 @ps.eq_24) @ps.eq_25) (jd (ax2 @ps.eq_26 @ps.eq_27) (ax2 @ps.eq_28 @ps.eq_29) (ax2 @ps.eq_30 @ps.eq_31) (ax2 @ps.eq_32 @ps.eq_33) (ax2 @ps.eq_34 @ps.eq_35) (ax2 @ps.eq_36 @pf.eq_1) (ax2 @pf.eq_2 @pf.eq_3) (ax2 @pf.eq_4 @pf.eq_5) (ax2 @pf.eq_6 @pf.eq_7) @pf.eq_8) (jd (ax2 @pf.eq_9 @pf.eq_10) (ax2 @pf.eq_11 @pf.eq_12) (ax2 @pf.eq_13 @pf.eq_14) (ax2 @pf.eq_15 @pf.eq_16) (ax2 @pf.eq_17 @pf.eq_18) (ax2 @pf.eq_19 @pf.eq_20) (ax2 @pf.eq_21 @pf.eq_22) (ax2 @pf.eq_23 @pf.eq_24) (ax2 @pf.eq_25 @pf.eq_26) @pf.eq_27) (IU @pf.eq_28 @pf.eq_29 @pf.eq_30 @pf.eq_31 @pf.eq_32 @pf.eq_33 @pf.eq_34 @ev.eq_1 @ev.eq_2 @ev.eq_3 @ev.eq_4 @slot.eq_1 @slot.eq_2 @iU.eq_1 @iU.eq_2)
def RR:=ax7 R2 R3 R4 R5 R6 @decide_true @decide_false
theorem Pt {P:Program} {f:Nat} {xs:List AV} {v:AV} {σ:St} {K:AV→St→Prop} (h:Pu P f xs v) (hK:K v σ):AC P f xs σ K:=h.to (ad _) hK
theorem Ct {P:Program} {f:Nat} {xs:List AV} {v:AV} {σ:St} {K:AV→St→Prop} {h:Hold (σ,K)} (hp:Pu P f xs v) (hK:K v σ):pA P f xs σ K h:=bo hp (ad _) hK
def RB:=ax6 @St.aE @St.bw @St.bI @St.bJ @St.cn @St.cw
def RZ:=ax6 @List.length_map.{0,0} @List.length_append.{0} @List.length_cons.{0} @List.length_nil.{0} @List.length_take.{0} @List.length_drop.{0}
section
variable {P:Program} {f:Nat} {xs:List AV} {res:List RV} {e:Exit} {fr:Fr} {σ σ0:St} {v:AV} {R:AV→St→Prop}
theorem ak (hw:wk (eU (res.map (rvV σ fr))) v) (hs:ax σ fr res:=by simp [ax,rvS]) (hl:St.le σ0 σ:=by repeat (first|exact St.le_refl _|(refine St.aO ?_ M0)|(refine St.iK ?_ M0))) (he:e= .ret∨e= .normal:=by simp):fQ res (fun r s=>r=v∧s=σ0) e fr σ:=DU he hs hw hl
theorem KP (hw:wk (eU (res.map (rvV σ fr))) v) (hl:St.lw σ0 σ) (hs:ax σ fr res:=by simp [ax,rvS]) (he:e= .ret∨e= .normal:=by simp):fQ res (fun r s=>wk r v∧St.lw σ0 s) e fr σ:=GD he hs hw hl
theorem cu (h:R (eU (res.map (rvV σ fr))) σ) (hs:ax σ fr res:=by simp [ax,rvS]) (he:e= .ret∨e= .normal:=by simp):fQ res R e fr σ:=D8 he hs h
theorem al (cf:CF) (hf:fB P f cf=true) (h:∀ σ,aC P cf.body (dV 0 xs) σ (fQ cf.res (fun r s=>r=v∧s=σ))) (hn:xs.length≤cf.n:=by exact Nat.le_of_ble_eq_true rfl):Pu P f xs v:=rl cf hf hn h
theorem aR {gl:List (Nat × List AV)} (cf:CF) (hf:fB P f cf=true) (h:∀ σ,bR gl σ→aC P cf.body (dV 0 xs) σ (fQ cf.res (fun r s=>r=v∧s=σ))) (hn:xs.length≤cf.n:=by exact Nat.le_of_ble_eq_true rfl):PuG P gl f xs v:=xY cf hf hn h
theorem Bf (cf:CF) (hf:fB P f cf=true) (h:aC P cf.body (dV 0 xs) σ (fQ cf.res (fun r s=>wk r v∧St.lw σ0 s))) (hn:xs.length≤cf.n:=by exact Nat.le_of_ble_eq_true rfl):AC P f xs σ (fun r s=>r=v∧s=σ0):=xQ cf hf hn h
theorem bf (cf:CF) (hf:fB P f cf=true) (h:aC P cf.body (dV 0 xs) σ (fQ cf.res R)) (hn:xs.length≤cf.n:=by exact Nat.le_of_ble_eq_true rfl):AC P f xs σ R:=jO cf hf hn h
end
def aq:=ax6 @eU.eq_1 @eU.eq_2 @rvV.eq_1 @rvV.eq_2 @List.map_cons.{0,0} @List.map_nil.{0,0}
theorem aj {p:Prop} (h:p:=by simp only [RZ];omega):p:=h
theorem bu {p:Prop} (h:p:=by first|((repeat (first|exact St.le_refl _|(refine St.aO ?_ M0)|(refine St.iK ?_ M0)));done)|fail):p:=h
theorem cW {p:Prop} (h:p:=by first|((repeat' (first|exact ae _|exact pk|exact kr _ _ _|exact fl _ _|exact wkL.nil|exact ad _|refine Ga ?_|refine pn ?_|refine wkL.cons ?_ ?_));done)|fail):p:=h
theorem bE {p:Prop} (h:p:=by (repeat' (with_reducible apply And.intro))<;>first|exact tQ (by have:=oA;omega)|exact kr _ _ _|exact fl _ _|exact ag (congrArg (AV.tsl _ _) (flat_step M0))):p:=h
theorem af {p:Prop} (h:p:=by intros;(repeat' (with_reducible apply And.intro))<;>first|omega|(simp only [RZ];omega)):p:=h
def JP (σ:St) (K:AV→St→Prop) (_:Hold (σ,K)):Prop:=∀ L,σ.lp L=none→K (.mpv L) (σ.ay L (.map [] 0,[]))
def GM   (x k : AV) (σ : St) (K : AV → St → Prop) (_ : Hold (σ, K)) : Prop := match x, k with
    | .mpv L, .int .u64 n => match σ.lp L with
      | some (.map l _,_)=>K (.bool (iR l n)) σ
      | _=>False
    | _,_=>False
def GN   (x k v : AV) (σ : St) (K : AV → St → Prop) (_ : Hold (σ, K)) : Prop := match x, k, v with
    | .mpv L, .int .u64 n, .bool b => match σ.lp L with
      | some (.map l c,_)=>K .junk (σ.ay L (.map (iS l c n b).1 (iS l c n b).2,[]))
      | _=>False
    | _,_,_=>False
section
variable {P:Program} {σ:St} {K:AV→St→Prop} {ρ:Od→AV} {x k v:Od}
theorem Em:aOp P ρ σ K .mkM=JP σ K ⟨⟩:=rfl
theorem En:aOp P ρ σ K (.mgt x k)=GM (ρ x) (ρ k) σ K ⟨⟩:=rfl
theorem Eo:aOp P ρ σ K (.mst x k v)=GN (ρ x) (ρ k) (ρ v) σ K ⟨⟩:=rfl
theorem GO {h:Hold (σ,K)} (hk:∀ L,σ.lp L=none→K (.mpv L) (σ.ay L (.map [] 0,[]))):JP σ K h:=hk
theorem Bg {h:Hold (σ,K)} {L c:Nat} {n:Int} {l:List (Int × Bool × Nat)} {fr:Fr} (hl:σ.lp L=some (.map l c,fr)) (hk:K (.bool (iR l n)) σ):GM (.mpv L) (.int .u64 n) σ K h:=by
 unfold GM;simp only;rw [hl];exact hk
theorem ub {h:Hold (σ,K)} {L c:Nat} {n:Int} {b:Bool} {l:List (Int × Bool × Nat)} {fr:Fr} (hl:σ.lp L=some (.map l c,fr)) (hk:K .junk (σ.ay L (.map (iS l c n b).1 (iS l c n b).2,[]))):GN (.mpv L) (.int .u64 n) (.bool b) σ K h:=by
 unfold GN;simp only;rw [hl];exact hk
end
def RM:=ax3 @Em @En @Eo
theorem rN (n:Int):iR [] n=false:=rfl
theorem fH (n:Int):∀ (l:List (Int × Bool × Nat)) (i:Nat),ee n l i=(ee n l 0).map fun p=>(p.1+i,p.2)
  | [],_=>rfl
  | e :: r, i => by
    simp only [ee]
    split
    · simp
    · rw [fH n r (i+1),fH n r (0+1)]
      cases ee n r 0<;>simp;omega
theorem iM (e:Int × Bool × Nat) (r:List (Int × Bool × Nat)) (n:Int):iR (e::r) n=if e.1=n then e.2.1 else iR r n:=by
 simp only [iR,ee]
 by_cases h:e.1=n
 ·simp only [if_pos h]
 ·simp only [if_neg h]
  rw [fH n r (0+1)]
  cases ee n r 0<;>rfl
theorem x9 (e:Int × Bool × Nat) (r:List (Int × Bool × Nat)) (c:Nat) (n:Int) (b:Bool):(iS (e::r) c n b).1=if e.1=n then (n,b,e.2.2)::r else e::(iS r c n b).1:=by
 simp only [iS,ee]
 by_cases h:e.1=n
 ·simp only [if_pos h];rfl
 ·simp only [if_neg h]
  rw [fH n r (0+1)]
  cases h:ee n r 0<;>rfl
theorem rO (c:Nat) (n m:Int) (b:Bool):∀ (l:List (Int × Bool × Nat)),iR (iS l c n b).1 m=if n=m then b else iR l m
  | []=>by simp [iS,ee,iM,rN]
  | e :: r => by
    rw [x9]
    split
    · rename_i h;subst h
      simp only [iM]
      split<;>rfl
    · rename_i h
      rw [iM,rO c n m b r,iM]
      split
      · rename_i h2;subst h2;rw [if_neg (Ne.symm h)]
      · rfl
theorem St.jQ {σ:St} {L M:Nat} (h:M≠L) (x:LO × Fr):(σ.ay L x).lp M=σ.lp M:=by simp [St.ay,upd,h]
open Go.RowKit
def gnd:AV→Bool
 | .bool _ | .int _ _ | .str _=>true
 | _=>false
theorem vu {g g':Gh} {w w':World} {a:AV} {v:Value} (h:gnd a=true) (hr:Rel g w a v):Rel g' w' a v:=by
 cases hr<;>first|(cases h;done)|constructor
theorem rP {g g':Gh} {w w':World} {l:List AV} {vs:List Value} (h:∀ a∈l,gnd a=true) (hr:ca g w l vs):ca g' w' l vs :=
 ⟨hr.1,fun i c v hc hv=>vu (h c (List.mem_of_getElem? hc)) (hr.2 i c v hc hv)⟩
section
variable {P:Program} {g:Gh} {σ:St} {w w':World}
def Gh.dH (g:Gh) (w:World) (b:Nat):Gh:={ g with cl:=fun x=>if x<w.heap.size then g.cl x else if x=b then some 0 else none,box:=fun β=>if β=g.nb then some b else g.box β,nb:=g.nb+1 }
theorem Ext.dH (hI:Inv g σ w) (hb:Below w.heap.size w w') (b:Nat):Ext g w (g.dH w b) w':=by
 refine ⟨hb.os,hb.tape,hb.output,hb.size,fun β k h=>?_,fun β hβ=>?_,Nat.le_succ _,Nat.le_refl _,fun m n v h=>h,fun k h hc=>⟨by simp only [Gh.dH,if_pos h];exact hc,hb.block k h⟩,fun k F h hc=>⟨F,by simp only [Gh.dH,if_pos h];exact hc,Nat.le_refl _,fun i _=>World.cell?_of_block (hb.block k h)⟩,fun _ _ h=>h,fun b us _ _ h=>⟨us,by rw [hb.block b (Array.getElem?_eq_some_iff.1 h).1];exact h,rfl⟩⟩
 ·have hβ:β≠g.nb:=by rintro rfl;rw [hI.boxfresh _ (Nat.le_refl _)] at h;cases h
  simp only [Gh.dH,if_neg hβ];exact h
 ·simp only [Gh.dH,if_neg (Nat.ne_of_lt hβ)]
theorem Inv.dH (hI:Inv g σ w) (hb:Below w.heap.size w w') {b:Nat} (hnew:w.heap.size≤b) {vs:Array Value} {T:TypeId} {cs:List AV} (hh:w'.heap[b]? =some (.cells vs T (0,0))) (hr:RelC (g.dH w b) w' cs vs.toList):Inv (g.dH w b) (σ.aa g.nb cs) w':=by
 have he:=Ext.dH hI hb b
 refine ⟨fun β c h=>?_,fun β k h=>?_,fun β β' k h1 h2=>?_,fun β hβ=>?_,fun τ e s n ht=>?_,hI.tipinj,hI.tipfresh,fun k cs hk=>(hI.glob k cs hk).mono he,fun l r hl=>by
  obtain ⟨q1,q2,q3⟩:=hI.lp l r hl
  have hlt:=(Array.getElem?_eq_some_iff.1 q1).1
  exact ⟨by rw [hb.block l hlt];exact q1,by simp only [Gh.dH,if_pos hlt];exact q2,fun t=>(q3 t).mono he⟩,fun β T h=>by
  obtain ⟨k,us,h1,h2⟩:=hI.bty β T h
  exact ⟨k,us,he.box _ _ h1,by rw [hb.block k (hI.boxcl β k h1).1];exact h2⟩⟩
 ·simp only [St.aa,upd] at h
  by_cases hβ:β=g.nb
  ·subst hβ
   simp at h;subst h
   exact ⟨b,vs,T,by simp [Gh.dH],hh,hr⟩
  ·rw [if_neg hβ] at h
   obtain ⟨k,us,T',h1,h2,h3⟩:=hI.box β c h
   exact ⟨k,us,T',he.box _ _ h1,by rw [hb.block k (hI.boxcl β k h1).1];exact h2,h3.mono he⟩
 ·simp only [Gh.dH] at h ⊢
  by_cases hβ:β=g.nb
  ·rw [if_pos hβ] at h;cases h
   refine ⟨(Array.getElem?_eq_some_iff.1 hh).1,fun _=>?_⟩
   rw [if_neg MX,if_pos rfl]
  ·rw [if_neg hβ] at h
   obtain ⟨h1,h2⟩:=hI.boxcl β k h
   refine ⟨Nat.lt_of_lt_of_le h1 hb.size,fun hl=>?_⟩
   rw [if_pos h1]
   exact h2 Oo
 ·simp only [Gh.dH] at h1 h2
  by_cases hβ:β=g.nb<;>by_cases hβ':β'=g.nb
  ·rw [hβ,hβ']
  ·rw [if_pos hβ] at h1;rw [if_neg hβ'] at h2;cases h1;have:=(hI.boxcl β' _ h2).1;omega
  ·rw [if_neg hβ] at h1;rw [if_pos hβ'] at h2;cases h2;have:=(hI.boxcl β _ h1).1;omega
  ·rw [if_neg hβ] at h1;rw [if_neg hβ'] at h2;exact hI.boxinj _ _ _ h1 h2
 ·simp only [Gh.dH] at hβ ⊢
  rw [if_neg MX]
  exact hI.boxfresh β MX
 ·obtain ⟨v,h1,h2,h4⟩:=hI.tip τ e s n ht
  refine ⟨v,h1,fun hs=>?_,h4⟩
  obtain ⟨xs,h2,h3⟩:=h2 hs
  refine ⟨xs,h2.kept (row:=none) ⟨hb.os,hb.tape,hb.output,hb.size,fun k hk _=>hb.block k hk⟩ (by cases h:v.ownBlock<;>simp),fun k hbb=>?_⟩
  have hlt:=(h2.lt k hbb).2
  obtain ⟨h5,h6⟩:=h3 k hbb
  refine ⟨by simp only [Gh.dH,if_pos hlt];exact h5,fun β=>?_,h6.2.same (hb.block k hlt)⟩
  simp only [Gh.dH]
  split
  ·intro e';cases e';omega
  ·exact h6.1 β
theorem AC.owned {f:Nat} {xs rest cs:List AV} {e es n:Nat} (he:∀ args w,(callFunc f args).run P w= .ok (.enter f args) w) (hx:∀ a∈xs,gnd a=true) (hr:∀ a∈rest,gnd a=true) (hc:∀ a∈cs,gnd a=true) (hn:n≠0)
  (h:AC P f xs (s0 fun _=>none) (fun r s=>∃ τ,r= .tup (.tsl τ n cs::rest)∧s=(s0 fun _=>none).ao τ (e,es,n))) :
  AC P f xs σ (fun r s=>∃ β k,σ.box β=none∧r= .tup (.psl β 0 n::rest)∧s=σ.aa β (cs++List.replicate k .junk)):=by
 intro g w vs hI hv
 have hv0:ca g0 w xs vs:=rP hx hv
 refine .inl ⟨he _ _,?_⟩
 rcases h g0 w vs (JL (fun k cs hk=>by cases hk)) hv0 with ⟨_,h2⟩|⟨u,w',h1,_⟩
 ·refine h2.mono ?_
  rintro ex w' ⟨v,r,σ',g',rfl,⟨τ,rfl,rfl⟩,hI',he',hr'⟩
  obtain ⟨us,rfl,hu⟩:=hr'.o5
  obtain ⟨sv,us',rfl,hs,hu'⟩:=hu.cons_inv
  have hB:Below w.heap.size w w':=⟨he'.os,he'.tape,he'.output,he'.size,fun k hk=>(he'.cln k hk rfl).2⟩
  obtain ⟨v0,k1,k2,_⟩:=hI'.tip τ e es n NK
  have hti:=hs.lX
  rw [hti] at k1;cases k1
  obtain ⟨own,q1,q2⟩:=k2 (.inr hn)
  rcases q1.2 with ⟨_,h0⟩|⟨b,cap,cur,rfl,_,hh,hcap,_,hsz,htk⟩
  ·exact (hn h0).elim
  obtain ⟨q3,_,q4⟩:=q2 b rfl
  have hnew:w.heap.size≤b:=by
   rcases Nat.lt_or_ge b w.heap.size with h|h
   ·have:=(he'.cln b h rfl).1
    rw [this] at q3;cases q3
   ·exact h
  rcases hs.bQ (n:=n) (cs:=cs) rfl with ⟨_,_,h0,_⟩|⟨b2,off,cap2,us2,e2,hc2,hl⟩
  ·exact (hn h0).elim
  cases e2
  have hlen:=hl.rel.1.1
  have hcells:RelC (g.dH w b) w' (cs++List.replicate (cur.size - cs.length) .junk) cur.toList:=by
   have hle:cs.length≤cur.size:=by
    rcases Nat.lt_or_ge cur.size cs.length with hlt|hge
    ·have h1:=hl.cell cur.size (us2[cur.size]'(by omega)) (List.getElem?_eq_getElem MX)
     simp [World.cell?,hh] at h1
    ·exact hge
   have hall:∀ v∈cur.toList,v.oneCell'=true:=q4 _ _ _ hh
   refine ⟨⟨by simp;omega,fun i c v hc' hv'=>?_⟩,hall⟩
   rcases Nat.lt_or_ge i cs.length with hi|hi
   ·rw [List.getElem?_append_left hi] at hc'
    have hu2:us2[i]? =some (us2[i]'(by omega)):=List.getElem?_eq_getElem MX
    have h1:=hl.cell i _ hu2
    simp only [World.cell?,hh,Nat.zero_add] at h1
    have:v=us2[i]'(by omega):=by
     rw [Array.getElem?_toList] at hv'
     have h1':cur[i]? =some (us2[i]'(by omega)):=by simpa using h1
     rw [h1'] at hv';cases hv';rfl
    rw [this]
    exact vu (hc c (List.mem_of_getElem? hc')) (hl.rel.1.2 i c _ hc' hu2)
   ·rw [List.getElem?_append_right hi] at hc'
    rw [List.getElem?_replicate] at hc'
    split at hc'
    ·cases hc';exact .junk _
    ·cases hc'
  refine ⟨_, .tup (.psl g.nb 0 n::rest),σ.aa g.nb (cs++List.replicate (cur.size - cs.length) .junk),g.dH w b,rfl,⟨g.nb,_,dT hI,rfl,rfl⟩,hI.dH hB hnew hh hcells,Ext.dH hI hB b, .eB (.cons (.psl _ _ _ _ _ (by simp [Gh.dH]) hcap) (rP hr hu'))⟩
 ·rw [he] at h1;cases h1
end
end Go.Abs
namespace Go.Abs
def vv (dp:List (List Nat)) (ds:List Nat) (m N:Nat):Bool :=
 (List.range N).all (fun j=>(dp.getD j []).all (fun i=>Nat.blt i j)) &&
 (Nat.beq m N||(List.range m).all (fun i=>(List.range (m+1)).any fun p=>Nat.blt i p&&(dp.getD p []).any (Nat.beq i))) &&
 (List.range N).all (fun j=>Nat.ble j m||(dp.getD j []).any (Nat.beq (j - 1)))&&Nat.beq ds.length m&&Nat.ble m N&&nodupB ds
where nodupB:List Nat→Bool
 | []=>true
 | d::r=>r.all (fun e=> !Nat.beq d e)&&nodupB r
theorem oC:∀ {ds:List Nat} {i j x y:Nat},vv.nodupB ds=true→ds[i]? =some x→ds[j]? =some y→i≠j→x≠y
  | [],i,_,_,_,_,h,_,_=>by simp at h
  | d :: r, i, j, x, y, hn, hi, hj, hij => by
    simp only [vv.nodupB,Bool.and_eq_true,List.all_eq_true] at hn
    have ne:∀ k z,r[k]? =some z→d≠z:=fun k z hz e=>by
      have:=hn.1 z (List.mem_of_getElem? hz)
      subst e;simp at this
    cases i with
    | zero =>
      cases j with
      | zero=>exact (hij rfl).elim
      | succ j=>simp at hi hj;subst hi;exact ne j y hj
    | succ i =>
      cases j with
      | zero=>simp at hi hj;subst hj;exact (ne i x hi).symm
      | succ j=>simp at hi hj;exact oC hn.2 hi hj MX
theorem oD {P:Program} (x:XI) (l:List XI) (fr:Fr) (σ:St) (Q:Exit→Fr→St→Prop):cN P (x::l) fr σ Q=ib P x fr σ (fun fr' σ'=>cN P l fr' σ' Q) (fun r s=>Q (.panic []) [(0,r)] s):=by
 cases x<;>rfl
section
variable {P:Program} {fr:Fr} {σ:St} {Q:Exit→Fr→St→Prop}
theorem oE {l:List XI} {dp:List (List Nat)} (ds:List Nat) (m:Nat) (V:Nat→AV→St→Prop) (hb:vv dp ds m l.length=true)
    (hmono:∀ i v s s',V i v s→St.le s s'→V i v s')
    (hop:∀ j x d,j<m→l[j]? =some x→ds[j]? =some d→∀ f s,St.le σ s→(∀ t,t ∉ ds→slot t f=slot t fr)→(∀ i e,i∈dp.getD j []→ds[i]? =some e→V i (slot e f) s) →
      ib P x f s (fun f' s'=>∃ v,f'=putF (some d) v f∧St.le s s'∧V j v s') (fun r s=>Q (.panic []) [(0,r)] s))
    (hfin:∀ f s,St.le σ s→(∀ t,t ∉ ds→slot t f=slot t fr)→(∀ i e,ds[i]? =some e→V i (slot e f) s)→cN P (l.drop m) f s Q):aX P (.invX l dp) fr σ Q:=by
  simp only [vv,Bool.and_eq_true,List.all_eq_true,List.any_eq_true,Bool.or_eq_true,List.mem_range,Nat.blt_eq,Nat.ble_eq,Nat.beq_eq] at hb
  obtain ⟨⟨⟨⟨⟨c1,c2⟩,c3⟩,c4⟩,c5⟩,c6⟩:=hb
  refine ⟨fun D f s=>(∀ j,D j=true→(dp.getD j []).all D=true)∧(((∀ j,m≤j→D j=false)∧St.le σ s∧(∀ t,t ∉ ds→slot t f=slot t fr)∧∀ i e,D i=true→ds[i]? =some e→V i (slot e f) s)∨(∃ k,m<k∧k≤l.length∧(∀ j,D j=true↔j<k)∧cN P (l.drop k) f s Q)),?_,?_,?_⟩
  · exact ⟨fun j h=>(Bool.false_ne_true h).elim, .inl ⟨fun _ _=>rfl,St.le_refl _,fun _ _=>rfl,fun _ _ h=>(Bool.false_ne_true h).elim⟩⟩
  · rintro D j x hx hDj hdep f s ⟨hcl,h|h⟩
    · obtain ⟨h1,h2,h3,h4⟩:=h
      have hlt:j<l.length:=(List.getElem?_eq_some_iff.1 hx).1
      have hcl':∀ i,(D i||Nat.beq i j)=true→(dp.getD i []).all (fun k=>D k||Nat.beq k j)=true:=by
        intro i hi
        refine List.all_eq_true.2 fun k hk=>?_
        rcases (Bool.or_eq_true _ _).mp hi with hi|hi
        · have:=List.all_eq_true.1 (hcl i hi) k hk;rw [this];rfl
        · have e:=Nat.eq_of_beq_eq_true hi;subst e
          have:=List.all_eq_true.1 hdep k hk;rw [this];rfl
      rcases Nat.lt_or_ge j m with hj|hj
      · obtain ⟨d,hd⟩:∃ d,ds[j]? =some d:=⟨_,List.getElem?_eq_getElem MX⟩
        have:=hop j x d hj hx hd f s h2 h3 (fun i e hi he=>h4 i e (List.all_eq_true.1 hdep i hi) he)
        refine gH x this ?_ (fun _ _ h=>h)
        rintro f' s' ⟨v,rfl,k1,k2⟩
        refine ⟨hcl', .inl ⟨fun i hi=>?_,St.le_trans h2 k1,fun t ht=>?_,fun i e hi he=>?_⟩⟩
        · show (D i||Nat.beq i j)=false
          rw [h1 i hi,Bool.false_or,←Bool.not_eq_true]
          intro hb;have:=Nat.eq_of_beq_eq_true hb;omega
        · have:t≠d:=fun e=>ht (e ▸ List.mem_of_getElem? hd)
          simp only [putF,slot,if_neg this];exact h3 t ht
        · by_cases hij:i=j
          · subst hij
            rw [hd] at he;cases he
            simp only [putF,slot,if_true];exact k2
          · have hDi:D i=true:=by
              rcases (Bool.or_eq_true _ _).mp hi with h|h
              · exact h
              · exact (hij (Nat.eq_of_beq_eq_true h)).elim
            have:e≠d:=oC c6 he hd hij
            simp only [putF,slot,if_neg this]
            exact hmono _ _ _ _ (h4 i e hDi he) k1
      · have hjm:j=m:=by
          refine Classical.byContradiction fun hne=>?_
          rcases c3 j hlt with h|⟨i,hi,he⟩
          · omega
          · have:=List.all_eq_true.1 hdep i hi
            subst he
            rw [h1 _ MX] at this;cases this
        subst hjm
        have hall:∀ i,i<j→D i=true:=by
          have c2':∀ i,i<j→∃ p,p<j+1∧i<p∧i∈dp.getD p []:=by
            rcases c2 with c2|c2
            · omega
            · intro i hi
              obtain ⟨p,hp,h5,q,hq,h6⟩:=c2 i hi
              subst h6;exact ⟨p,hp,h5,hq⟩
          have key:∀ n i,j - i=n→i<j→D i=true:=by
            intro n
            induction n using Nat.strongRecOn with
            | _ n ih =>
              intro i hn hi
              obtain ⟨p,hp,h5,h6⟩:=c2' i hi
              by_cases hpj:p=j
              · subst hpj;exact List.all_eq_true.1 hdep i h6
              · exact List.all_eq_true.1 (hcl p (ih (j - p) MX p rfl MX)) i h6
          exact fun i hi=>key _ i rfl hi
        have hrun:=hfin f s h2 h3 (fun i e he=>h4 i e (hall i (by have:=(List.getElem?_eq_some_iff.1 he).1;omega)) he)
        have hdrop:l.drop j=x::l.drop (j+1):=by
          rw [List.drop_eq_getElem_cons hlt]
          rw [List.getElem?_eq_getElem hlt] at hx
          cases hx;rfl
        rw [hdrop,oD] at hrun
        refine gH x hrun (fun f' s' hk=>⟨hcl', .inr ⟨j+1,by omega,by omega,fun i=>?_,hk⟩⟩) (fun _ _ h=>h)
        constructor
        · intro hi
          rcases (Bool.or_eq_true _ _).mp hi with h|h
          · refine Classical.byContradiction fun hge=>?_
            rw [h1 i MX] at h;cases h
          · have:=Nat.eq_of_beq_eq_true h;omega
        · intro hi
          rcases Nat.lt_or_ge i j with h|h
          · show (D i||Nat.beq i j)=true
            rw [hall i h];rfl
          · have:i=j:=by omega
            subst this;simp
    · obtain ⟨k,h1,h2,h3,h4⟩:=h
      have hlt:j<l.length:=(List.getElem?_eq_some_iff.1 hx).1
      have hjk:j=k:=by
        have hge:k≤j:=by
          refine Classical.byContradiction fun h=>?_
          have:=(h3 j).2 MX
          rw [hDj] at this;cases this
        refine Classical.byContradiction fun hne=>?_
        rcases c3 j hlt with h|⟨i,hi,he⟩
        · omega
        · have:=List.all_eq_true.1 hdep i hi
          have:=(h3 i).1 this
          omega
      subst hjk
      have hdrop:l.drop j=x::l.drop (j+1):=by
        rw [List.drop_eq_getElem_cons hlt]
        rw [List.getElem?_eq_getElem hlt] at hx
        cases hx;rfl
      rw [hdrop,oD] at h4
      refine gH x h4 (fun f' s' hk=>⟨fun i hi=>?_, .inr ⟨j+1,by omega,by omega,fun i=>?_,hk⟩⟩) (fun _ _ h=>h)
      · refine List.all_eq_true.2 fun q hq=>?_
        rcases (Bool.or_eq_true _ _).mp hi with hi|hi
        · have:=List.all_eq_true.1 (hcl i hi) q hq;rw [this];rfl
        · have e:=Nat.eq_of_beq_eq_true hi;subst e
          have:=List.all_eq_true.1 hdep q hq;rw [this];rfl
      · show (D i||Nat.beq i j)=true↔_
        rw [Bool.or_eq_true]
        constructor
        · rintro (hi|hi)
          · have:=(h3 i).1 hi;omega
          · have:=Nat.eq_of_beq_eq_true hi;omega
        · intro hi
          rcases Nat.lt_or_ge i j with h|h
          · exact .inl ((h3 i).2 h)
          · have:i=j:=by omega
            subst this;exact .inr M1
  · rintro D f s hend ⟨hcl,h⟩
    have hall:∀ j,j<l.length→D j=true:=by
      intro j
      induction j using Nat.strongRecOn with
      | _ j ih =>
        intro hj
        rcases hend j hj with h|h
        · exact h
        · have:(dp.getD j []).all D=true:=List.all_eq_true.2 fun i hi=>by
            have:=c1 j hj i hi
            exact ih i this MX
          rw [this] at h;cases h
    rcases h with ⟨h1,h2,h3,h4⟩|⟨k,h1,h2,h3,h4⟩
    · have hm:m=l.length:=by
        refine Classical.byContradiction fun hne=>?_
        have:=hall m MX
        rw [h1 m (Nat.le_refl _)] at this;cases this
      have:=hfin f s h2 h3 (fun i e he=>h4 i e (hall i (by have:=(List.getElem?_eq_some_iff.1 he).1;omega)) he)
      rw [hm,List.drop_length] at this
      exact this
    · have hk:k=l.length:=by
        refine Classical.byContradiction fun hne=>?_
        have:=(h3 k).1 (hall k MX);omega
      rw [hk,List.drop_length] at h4
      exact h4
theorem AC.JQ {f:Nat} {xs:List AV} {R:AV→St→Prop} (h:AX P f xs σ (fun b r s=>b=false∧R r s)):AC P f xs σ R:=by
 have hcp:∀ {g w e w'},CPX g w (fun b r s=>b=false∧R r s) e w'→CP g w R e w':=by
  rintro g w e w' ⟨v,r,σ',g',(⟨h1,_,h2⟩|⟨_,h1,_⟩),h3⟩
  ·exact ⟨v,r,σ',g',h1,h2,h3⟩
  ·cases h1
 intro g w vs hI hv
 rcases h g w vs hI hv with ⟨h1,h2⟩|⟨v,w',h1,h2⟩
 ·exact .inl ⟨h1,h2.mono fun e w' hc=>hcp hc⟩
 ·exact .inr ⟨v,w',h1,hcp h2⟩
end
end Go.Abs
namespace Go.Proofs.YtgephffbfiemeaaGreatDoor
open Go.Abs
set_option linter.all false
set_option maxRecDepth 100000
def aJ (b:UInt8):Bool:=(b.toNat:Int) == 32||(b.toNat:Int) == 9
def cb (b:UInt8):Bool:=decide ((32:Int)≤b.toNat)&&decide ((b.toNat:Int)≤126)&&((b.toNat:Int) != 34)&&((b.toNat:Int) != 92)
def aI (b:UInt8):Bool:=((b.toNat:Int) != 32)&&cb b
def eX (b:UInt8):Nat :=
 if 48≤b.toNat∧b.toNat≤57 then b.toNat - 48
 else if 97≤b.toNat∧b.toNat≤102 then b.toNat - 87
 else if 65≤b.toNat∧b.toNat≤70 then b.toNat - 55 else 16
def fe:List UInt8→Option (UInt8 × List UInt8)
 | a::b::r=>if eX a<16∧eX b<16 then some (UInt8.ofNat (16*eX a+eX b),r) else none
 | _=>none
def jo:List UInt8→Option (UInt8 × List UInt8)
 | []=>none
 | c::r=>if c=120 then fe r else if c=34∨c=92 then some (c,r) else none
def dm:Nat→List UInt8→Option (List UInt8 × List UInt8)
  | 0,_=>none
  | _+1,[]=>none
  | n + 1, c :: r =>
    if c=34 then some ([],r)
    else if c=92 then match jo r with
      | some (x,r')=>(dm n r').map fun q=>(x::q.1,q.2)
      | none=>none
    else if cb c then (dm n r).map fun q=>(c::q.1,q.2)
    else none
def dI (l:List UInt8):Option (List UInt8 × List UInt8):=dm l.length l
def fv:List UInt8→Bool
 | []=>true
 | c::_=>aJ c
def cj (l:List UInt8):Option (Bool × List UInt8 × List UInt8) :=
  match l with
  | []=>none
  | c :: r =>
    if c=34 then match dI r with
      | some (t,r')=>if fv r' then some (true,t,r') else none
      | none=>none
    else if (l.takeWhile aI).isEmpty then none
    else if fv (l.dropWhile aI) then some (false,l.takeWhile aI,l.dropWhile aI) else none
structure Wd where
 q:Bool
 t:List UInt8
 a:Nat
 deriving DecidableEq
def iZ (w:Wd):Except Nat (List Wd)→Except Nat (List Wd)
 | .error b=> .error b
 | .ok ws=> .ok (w::ws)
def im (p:List Wd):Except Nat (List Wd)→Except Nat (List Wd)
 | .error b=> .error b
 | .ok ws=> .ok (p++ws)
def iq:Nat→List UInt8→Nat→Except Nat (List Wd)
  | 0,_,_=> .ok []
  | n + 1, l, a => match l.dropWhile aJ      with
    | []=> .ok []
    | c :: r =>
      if c=35 then .ok []
      else match cj (c::r) with
        | none=> .error (a+(l.length - (c::r).length))
        | some (q,t,r')=>iZ ⟨q,t,a+(l.length - (c::r).length)⟩ (iq n r' (a+(l.length - r'.length)))
def bL (l:List UInt8) (a:Nat):Except Nat (List Wd):=iq (l.length+1) l a
def cq (l:List UInt8):Except Nat (List Wd):=bL l 0
theorem ya {l:List UInt8} {x:UInt8} {r:List UInt8} (h:fe l=some (x,r)):r.length<l.length:=by
 unfold fe at h
 split at h
 ·split at h
  ·cases h;simp;omega
  ·cases h
 ·cases h
theorem ir {l:List UInt8} {x:UInt8} {r:List UInt8} (h:jo l=some (x,r)):r.length<l.length:=by
 unfold jo at h
 split at h
 ·cases h
 ·split at h
  ·have:=ya h;simp;omega
  ·split at h
   ·cases h;simp
   ·cases h
theorem kB:∀ (n:Nat) (l:List UInt8) {t r:List UInt8},dm n l=some (t,r)→r.length<l.length
  | 0,_,_,_,h=>by simp [dm] at h
  | _+1,[],_,_,h=>by simp [dm] at h
  | n + 1, c :: l, t, r, h => by
    simp only [dm] at h
    split at h
    · cases h;simp
    · split at h
      · split at h
        · rename_i x r' he
          have h1:=ir he
          cases hq:dm n r' with
          | none=>rw [hq] at h;cases h
          | some q =>
            rw [hq] at h;simp only [Option.map_some,Option.some.injEq,Prod.mk.injEq] at h
            have h2:=kB n r' hq
            rw [←h.2];simp;omega
        · cases h
      · split at h
        · cases hq:dm n l with
          | none=>rw [hq] at h;cases h
          | some q =>
            rw [hq] at h;simp only [Option.map_some,Option.some.injEq,Prod.mk.injEq] at h
            have h2:=kB n l hq
            rw [←h.2];simp;omega
        · cases h
theorem jq:∀ (n m:Nat) (l:List UInt8),l.length≤n→l.length≤m→dm n l=dm m l
  | 0,0,_,_,_=>rfl
  | 0, m + 1, l, h, _ => by
    have:l= []:=List.eq_nil_of_length_eq_zero MX
    subst this;rfl
  | n + 1, 0, l, _, h => by
    have:l= []:=List.eq_nil_of_length_eq_zero MX
    subst this;rfl
  | n+1,m+1,[],_,_=>rfl
  | n + 1, m + 1, c :: l, h1, h2 => by
    simp only [List.length_cons] at h1 h2
    simp only [dm]
    rw [jq n m l MX MX]
    cases he:jo l with
    | none=>rfl
    | some q =>
      have:=ir (r:=q.2) (x:=q.1) he
      simp only [jq n m q.2 MX MX]
theorem yb:dI []=none:=rfl
theorem mB (c:UInt8) (r:List UInt8):dI (c::r) =
    if c=34 then some ([],r)
    else if c=92 then match jo r with
      | some (x,r')=>(dI r').map fun q=>(x::q.1,q.2)
      | none=>none
    else if cb c then (dI r).map fun q=>(c::q.1,q.2)
    else none:=by
  unfold dI
  simp only [List.length_cons,dm]
  split
  · rfl
  · split
    · cases he:jo r with
      | none=>rfl
      | some q =>
        have:=ir (r:=q.2) (x:=q.1) he
        simp only [jq r.length q.2.length q.2 MX (Nat.le_refl _)]
    · rfl
theorem kC {l t r:List UInt8} (h:dI l=some (t,r)):r.length<l.length:=kB _ _ h
theorem bY (p:UInt8→Bool) (l:List UInt8):(l.dropWhile p).length≤l.length:=by
  induction l with
  | nil=>simp
  | cons c l ih =>
    rw [List.dropWhile_cons]
    split
    · simp;omega
    · simp
theorem dF {l:List UInt8} {q:Bool} {t r:List UInt8} (h:cj l=some (q,t,r)):r.length<l.length:=by
 unfold cj at h
 split at h
 ·cases h
 ·rename_i c l
  split at h
  ·split at h
   ·rename_i t' r' hq
    split at h
    ·cases h
     have:=kC hq
     simp;omega
    ·cases h
   ·cases h
  ·split at h
   ·cases h
   ·rename_i hne
    split at h
    ·cases h
     have:=List.takeWhile_append_dropWhile (p:=aI) (l:=c::l)
     have h2:=congrArg List.length this
     rw [List.length_append] at h2
     have h3:((c::l).takeWhile aI).length≠0:=by
      intro e
      rw [List.length_eq_zero_iff] at e
      rw [e] at hne
      exact hne rfl
     omega
    ·cases h
theorem yc {l:List UInt8} {x:UInt8} {r:List UInt8} (h:fe l=some (x,r)):r <:+ l:=by
 unfold fe at h
 split at h
 ·split at h
  ·cases h;exact ⟨[_,_],rfl⟩
  ·cases h
 ·cases h
theorem rQ {l:List UInt8} {x:UInt8} {r:List UInt8} (h:jo l=some (x,r)):r <:+ l:=by
 unfold jo at h
 split at h
 ·cases h
 ·split at h
  ·exact (yc h).trans ⟨[_],rfl⟩
  ·split at h
   ·cases h;exact ⟨[_],rfl⟩
   ·cases h
theorem kD:∀ (n:Nat) (l:List UInt8) {t r:List UInt8},dm n l=some (t,r)→r <:+ l
  | 0,_,_,_,h=>by simp [dm] at h
  | _+1,[],_,_,h=>by simp [dm] at h
  | n + 1, c :: l, t, r, h => by
    simp only [dm] at h
    split at h
    · cases h;exact ⟨[_],rfl⟩
    · split at h
      · split at h
        · rename_i x r' he
          cases hq:dm n r' with
          | none=>rw [hq] at h;cases h
          | some q =>
            rw [hq] at h;simp only [Option.map_some,Option.some.injEq,Prod.mk.injEq] at h
            rw [←h.2]
            exact ((kD n r' hq).trans (rQ he)).trans ⟨[_],rfl⟩
        · cases h
      · split at h
        · cases hq:dm n l with
          | none=>rw [hq] at h;cases h
          | some q =>
            rw [hq] at h;simp only [Option.map_some,Option.some.injEq,Prod.mk.injEq] at h
            rw [←h.2]
            exact (kD n l hq).trans ⟨[_],rfl⟩
        · cases h
theorem iN {l t r:List UInt8} (h:dI l=some (t,r)):r <:+ l:=kD _ _ h
theorem kF {l:List UInt8} {q:Bool} {t r:List UInt8} (h:cj l=some (q,t,r)):r <:+ l:=by
 unfold cj at h
 split at h
 ·cases h
 ·rename_i c l
  split at h
  ·split at h
   ·rename_i t' r' hq
    split at h
    ·cases h
     exact (iN hq).trans ⟨[_],rfl⟩
    ·cases h
   ·cases h
  ·split at h
   ·cases h
   ·split at h
    ·cases h
     exact List.dropWhile_suffix _
    ·cases h
theorem lb:∀ (n m:Nat) (l:List UInt8) (a:Nat),l.length<n→l.length<m→iq n l a=iq m l a
  | 0,_,_,_,h,_=>by omega
  | _+1,0,_,_,_,h=>by omega
  | n + 1, m + 1, l, a, h1, h2 => by
    simp only [iq]
    have hd:=bY aJ l
    cases hl:l.dropWhile aJ with
    | nil=>rfl
    | cons c r =>
      rw [hl] at hd
      simp only
      cases hw:cj (c::r) with
      | none=>rfl
      | some q =>
        obtain ⟨q,t,r'⟩:=q
        have:=dF hw
        simp only
        rw [lb n m r' _ MX MX]
theorem cG (l:List UInt8) (a:Nat):bL l a=match l.dropWhile aJ with
    | []=> .ok []
    | c :: r =>
      if c=35 then .ok []
      else match cj (c::r) with
        | none=> .error (a+(l.length - (c::r).length))
        | some (q,t,r')=>iZ ⟨q,t,a+(l.length - (c::r).length)⟩ (bL r' (a+(l.length - r'.length))):=by
  have hd:=bY aJ l
  have e:bL l a=match l.dropWhile aJ with
    | []=> .ok []
    | c :: r =>
      if c=35 then .ok []
      else match cj (c::r) with
        | none=> .error (a+(l.length - (c::r).length))
        | some (q,t,r')=>iZ ⟨q,t,a+(l.length - (c::r).length)⟩ (iq l.length r' (a+(l.length - r'.length))):=rfl
  rw [e]
  cases hl:l.dropWhile aJ with
  | nil=>rfl
  | cons c r =>
    rw [hl] at hd
    simp only
    cases hw:cj (c::r) with
    | none=>rfl
    | some q =>
      obtain ⟨q,t,r'⟩:=q
      have:=dF hw
      simp only
      unfold bL
      rw [lb l.length (r'.length+1) r' _ MX MX]
theorem fw (p:UInt8→Bool) (l:List UInt8):(l.dropWhile p).dropWhile p=l.dropWhile p:=by
  induction l with
  | nil=>rfl
  | cons c l ih =>
    rw [List.dropWhile_cons]
    split
    · exact ih
    · rename_i h;rw [List.dropWhile_cons,if_neg h]
theorem fI (l:List UInt8) (a:Nat):bL l a=bL (l.dropWhile aJ) (a+(l.length - (l.dropWhile aJ).length)):=by
  have hd:=bY aJ l
  rw [cG,cG (l.dropWhile aJ),fw]
  cases hl:l.dropWhile aJ with
  | nil=>rfl
  | cons c r =>
    rw [hl] at hd
    simp only
    cases hw:cj (c::r) with
    | none=>simp only [Nat.sub_self,Nat.add_zero]
    | some q =>
      obtain ⟨q,t,r'⟩:=q
      have:=dF hw
      simp only [Nat.sub_self,Nat.add_zero]
      rw [show a+(l.length - (c::r).length)+((c::r).length - r'.length)=a+(l.length - r'.length) by omega]
theorem Bh (p q:List Wd) (e:Except Nat (List Wd)):im p (im q e)=im (p++q) e:=by cases e<;>simp [im]
theorem yd (w:Wd) (e:Except Nat (List Wd)):iZ w e=im [w] e:=by cases e<;>rfl
theorem rR (e:Except Nat (List Wd)):im [] e=e:=by cases e<;>rfl
end Go.Proofs.YtgephffbfiemeaaGreatDoor
namespace Go.Abs
set_option linter.all false
section
variable {P:Program} {σ:St} {fr:Fr} {ps:List Nat} {asg body:CC} {xs:List AV}
theorem YC.weaken {l:Nat} {ys:List AV} {R R':AV→St→Prop} (h:YC P l ys σ R) (hr:∀ r s,R r s→∃ r' s',Go.Abs.wk r r'∧St.le s' s∧R' r' s'):YC P l ys σ R':=fun g w vs hI hv=>by
 obtain ⟨fn,tmps,assign,body,h1,h2⟩:=h g w vs hI hv
 refine ⟨fn,tmps,assign,body,h1,h2.mono fun e w' hc=>?_⟩
 obtain ⟨v,r,σ',g',a1,a2,a3,a4,a5⟩:=hc
 obtain ⟨r',s',k1,k2,k3⟩:=hr _ _ a2
 exact ⟨v,r',s',g',a1,k3,a3.le k2,a4,k1 _ _ _ a5⟩
end
end Go.Abs
