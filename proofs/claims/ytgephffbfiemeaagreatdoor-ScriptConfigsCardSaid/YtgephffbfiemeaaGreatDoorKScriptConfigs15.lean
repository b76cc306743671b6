/- Part 15 of the proof of ScriptConfigs: an abstract semantics that is proved sound for the model, contracts of functions in it, and plain facts (Abs17 Abs21 Abs22 Abs23 Abs33). No condition. -/
import Derived.Test.YtgephffbfiemeaaGreatDoorKScriptConfigs14
import Derived.Below
import Derived.ChangeSame
set_option linter.all false
namespace Go.Abs
open Go.RowKit
def g0:Gh:=⟨fun _=>none,fun _=>none,fun _ _=>none,0,0⟩
def s0 (gl:Nat→Option (List AV)):St:=⟨fun _=>none,fun _=>none,gl,fun _=>none,fun _=>none⟩
theorem Mc {gl:Nat→Option (List AV)} {w:World} (hg:∀ k cs,gl k=some cs→GlobOk g0 w k cs):Inv g0 (s0 gl) w :=
 ⟨fun β cs h=>by simp [s0] at h,fun β b h=>by simp [g0] at h,fun β β' b h=>by simp [g0] at h,fun β _=>rfl,fun τ e s n h=>by simp [s0] at h,fun τ τ' x x' v v' b h=>by simp [s0] at h,fun τ n _=>rfl,hg,fun l r h=>by simp [s0] at h,fun β T h=>by simp [s0] at h⟩
theorem CA {P:Program} {f:Nat} {cf:CF} {as:List AV} {vs:List Value} {gl:Nat→Option (List AV)} {w:World} {v:AV} (hf:fB P f cf=true)
  (h:AC P f as (s0 gl) (fun r s=>r=v∧s=s0 gl)) (hg:∀ k cs,gl k=some cs→GlobOk g0 w k cs) (hv:ct g0 w as vs) :
  Calls P f vs.toArray w (fun e w'=>∃ u g',e= .returned u∧Rel g' w' v u∧Below w.heap.size w w'):=by
 have henter:(callFunc f vs.toArray).run P w= .ok (.enter f vs.toArray) w:=by
  unfold fB at hf
  split at hf
  ·rename_i fn hfn
   simp only [Bool.and_eq_true,beq_iff_eq,bne_iff_ne] at hf
   obtain ⟨⟨⟨hbody,hnt⟩,hres⟩,hname⟩:=hf
   split at hbody
   ·rename_i c hc
    simp [callFunc,hfn,hname,hc]
   ·cases hbody
  ·cases hf
 rcases h g0 w vs (Mc hg) hv with ⟨_,h2⟩|⟨u,w',h1,_⟩
 ·refine h2.mono ?_
  rintro e w' ⟨u,r,σ',g',rfl,⟨rfl,rfl⟩,hI,he,hr⟩
  exact ⟨u,g',rfl,hr,he.os,he.tape,he.output,he.size,fun k hk=>(he.cln k hk rfl).2⟩
 ·rw [henter] at h1
  cases h1
end Go.Abs
namespace Go
open Go.RowKit Go.WideShapes Go.ChangeShapes
variable {H:Type} {enc:TypeId × Value→H} {P:Program}
theorem oY {f:Func} {s:ChangeSpec} {apart fresh handsOn again:Bool} {W W':World} {args:Array Value} {v:Value} {ds gs:List (DataW H)} {before pa pv:List MemPlace}
  (hW:DataW.Whole enc P f.params.toList s.vars apart W args.toList ds gs before)
  (hres:∀ (b:Nat) (sp:Nat→Bool) (hd:Bool),DataW.TrodAll enc P W' b sp hd f.resultTypes.toList (v.resultList f.resultTypes.size) (s.fn H (ds++gs)).results [])
  (hargs:∀ sp:Nat→Bool,(∀ p∈before,sp p.block=true)→DataW.TrodAll enc P W' 0 sp true f.params.toList args.toList (s.fn H (ds++gs)).args pa)
  (hvars:∀ sp:Nat→Bool,(∀ p∈before,sp p.block=true)→DataW.TrodVars enc P W' sp s.vars (s.fn H (ds++gs)).vars pv)
  (hps:before=pa++pv) (hb:Below W.heap.size W W')
  (hok:∀ (j:Nat) (t:TypeId) (r:Value),f.resultTypes[j]? =some t→(v.resultList f.resultTypes.size)[j]? =some r→Value.okWide P W' .any 0 t r) :
  s.post enc P f apart fresh handsOn again W args v W':=by
 have hlt:∀ p∈before,p.block<W.heap.size:=fun p hp=>hW.lt p hp
 have hold:∀ p∈before,(fun b=>decide (b<W.heap.size)) p.block=true:=fun p hp=>by simpa using hlt p hp
 refine ⟨ds,gs,before,[],pa,pv,hW,hres _ _ _,hargs _ hold,hvars _ hold,World.keptBut_mono (fun p hp=>⟨hp,?_⟩) (hb.frame (· ∈before)),fun _=>?_⟩
 ·rw [hps,List.mem_append] at hp
  exact Or.inr hp
 ·obtain ⟨_,_,_,_,_,hz,hn⟩:=hW
  refine ⟨hok,_,_,([]++pa)++pv,⟨[]++pa,pv,trodAll_append (hargs _ (fun _ _=>rfl)) (hres _ _ _),hvars _ (fun _ _=>rfl),rfl,?_,?_⟩,?_⟩
  ·intro b off hp
   have hin:MemPlace.cell b off∈before:=by rw [hps];simpa using hp
   rw [hb.frozen (hlt _ hin)]
   exact hz b off hin
  ·intro ha
   have:=hn ha
   rw [hps] at this
   simpa using this
  ·intro p hp _
   rw [hps]
   simpa using hp
end Go
namespace Go.Abs
end Go.Abs
namespace Go.Abs
theorem nM {σ:St} {K:AV→St→Prop} {e es bytes n m:Nat} {cs ds:List AV} {x y:AV} {h:Hold (σ,K)} (hx:slv x=some (n,cs)) (hf:fresh x) (hy:slv y=some (m,ds)) (h1:cs.length=n*es) (h2:ds.length=m*es) (h3:n+m≤maxLen) (h4:(n+m)*bytes≤140737488355328)
  (hK:∀ τ,σ.tip τ=none→K (.tsl τ (n+m) (cs++ds)) (σ.ai τ (e,es,n+m))):qC true e es bytes x y σ K h:=by
 unfold qC
 split
 ·exact hf.elim
 ·simp only [cond_true,hx,hy]
  exact ⟨hf,h1,h2,h3,h4,hK⟩
end Go.Abs
namespace Go.Abs
theorem St.sL (σ:St) {β γ:Nat} (h:γ≠β) (a b c:List AV):((σ.aa β a).aa γ b).aa β c=(σ.aa β c).aa γ b:=by
 rw [St.set_comm (σ.aa β a) h,St.set_set]
theorem St.pO (σ:St) {β γ δ:Nat} (h:γ≠β) (k:δ≠β) (a b c d:List AV):(((σ.aa β a).aa γ b).aa δ d).aa β c=((σ.aa β c).aa γ b).aa δ d:=by
 rw [St.set_comm ((σ.aa β a).aa γ b) k,St.sL σ h]
theorem St.zp (σ:St) {β γ δ ε:Nat} (h:γ≠β) (k:δ≠β) (l:ε≠β) (a b c d e:List AV):((((σ.aa β a).aa γ b).aa δ d).aa ε e).aa β c=(((σ.aa β c).aa γ b).aa δ d).aa ε e:=by
 rw [St.set_comm (((σ.aa β a).aa γ b).aa δ d) l,St.pO σ h k]
theorem St.b9 (σ:St) (β:Nat) (c:List AV):(σ.aa β c).tip=σ.tip:=rfl
theorem St.cV (σ:St) (τ:Nat) (x:Nat × Nat × Nat):(σ.ai τ x).box=σ.box:=rfl
theorem St.CB (σ:St) (τ:Nat) (x:Nat × Nat × Nat):(σ.ai τ x).glob=σ.glob:=rfl
theorem St.bn (σ:St) (τ:Nat) (x:Nat × Nat × Nat):(σ.ai τ x).tip τ=some x:=QS
theorem St.zq (σ:St) {τ υ:Nat} (x:Nat × Nat × Nat) (h:υ≠τ):(σ.ai τ x).tip υ=σ.tip υ:=by simp [St.ai,upd,h]
theorem St.CD {σ:St} {τ υ:Nat} {x:Nat × Nat × Nat}:(σ.ai τ x).tip υ=none↔υ≠τ∧σ.tip υ=none:=sH
theorem St.F2 (σ:St) (τ β:Nat) (x:Nat × Nat × Nat) (c:List AV):(σ.ai τ x).aa β c=(σ.aa β c).ai τ x:=rfl
theorem St.fp (σ:St) (τ:Nat) (x y:Nat × Nat × Nat):(σ.ai τ x).ai τ y=σ.ai τ y:=by
 simp only [St.ai,St.mk.injEq,true_and,and_true]
 funext j;simp only [upd];split<;>rfl
theorem St.CE (σ:St) {τ υ:Nat} (h:τ≠υ) (x y:Nat × Nat × Nat):(σ.ai τ x).ai υ y=(σ.ai υ y).ai τ x:=by
 simp only [St.ai,St.mk.injEq,true_and,and_true]
 funext j;simp only [upd]
 by_cases h1:j=τ<;>by_cases h2:j=υ<;>simp_all
theorem St.CG (σ:St) {τ υ:Nat} (h:υ≠τ) (x y z:Nat × Nat × Nat):((σ.ai τ x).ai υ y).ai τ z=(σ.ai τ z).ai υ y:=by
 rw [St.CE (σ.ai τ x) h,St.fp]
theorem St.cW {σ σ':St} {τ:Nat} {c:Nat × Nat × Nat} (h:St.le σ σ') (hn:σ.tip τ=none):St.le σ (σ'.ai τ c):=St.fg h hn
class Apart (β γ:Nat):Prop where
 ne:β≠γ
theorem St.bq {σ:St} {β γ:Nat} {c:List AV}:(σ.aa β c).box γ=none↔(Apart γ β∧Apart β γ)∧σ.box γ=none:=by
 rw [St.BJ]
 exact ⟨fun ⟨h,k⟩=>⟨⟨⟨h⟩,⟨h.symm⟩⟩,k⟩,fun ⟨h,k⟩=>⟨h.1.ne,k⟩⟩
theorem St.jy {σ:St} {τ υ:Nat} {x:Nat × Nat × Nat}:(σ.ai τ x).tip υ=none↔(Apart υ τ∧Apart τ υ)∧σ.tip υ=none:=by
 rw [St.CD]
 exact ⟨fun ⟨h,k⟩=>⟨⟨⟨h⟩,⟨h.symm⟩⟩,k⟩,fun ⟨h,k⟩=>⟨h.1.ne,k⟩⟩
theorem St.aU (σ:St) {β γ:Nat} [h:Apart γ β] (c:List AV):(σ.aa β c).box γ=σ.box γ:=St.yE σ c h.ne
theorem St.bA (σ:St) {τ υ:Nat} [h:Apart υ τ] (x:Nat × Nat × Nat):(σ.ai τ x).tip υ=σ.tip υ:=St.zq σ x h.ne
theorem St.zr (σ:St) {β γ:Nat} [h:Apart γ β] (a b c:List AV):((σ.aa β a).aa γ b).aa β c=(σ.aa β c).aa γ b:=St.sL σ h.ne a b c
theorem St.va (σ:St) {β γ δ:Nat} [h:Apart γ β] [k:Apart δ β] (a b c d:List AV):(((σ.aa β a).aa γ b).aa δ d).aa β c=((σ.aa β c).aa γ b).aa δ d:=St.pO σ h.ne k.ne a b c d
theorem St.vb (σ:St) {β γ δ ε:Nat} [h:Apart γ β] [k:Apart δ β] [l:Apart ε β] (a b c d e:List AV):((((σ.aa β a).aa γ b).aa δ d).aa ε e).aa β c=(((σ.aa β c).aa γ b).aa δ d).aa ε e:=St.zp σ h.ne k.ne l.ne a b c d e
theorem St.zt (σ:St) {τ υ:Nat} [h:Apart υ τ] (x y z:Nat × Nat × Nat):((σ.ai τ x).ai υ y).ai τ z=(σ.ai τ z).ai υ y:=St.CG σ h.ne x y z
class BoxIs (σ:St) (β:Nat) (c:outParam (List AV)):Prop where
 eq:σ.box β=some c
theorem St.IH (σ:St) (β:Nat) {c:List AV} [h:BoxIs σ β c]:σ.box β=some c:=h.eq
theorem aj {σ:St} {β γ:Nat} {c:List AV} (h:BoxIs σ β c) (hn:σ.box γ=none):Apart γ β∧Apart β γ:=by
 have:γ≠β:=by rintro rfl;rw [h.eq] at hn;cases hn
 exact ⟨⟨this⟩,⟨this.symm⟩⟩
theorem zu:maxLen≤9223372036854775807:=QL
theorem II {k:Nat} (h:k<9223372036854775807):IntKind.i64.wrap ((k:Int)+1)=((k+1:Nat):Int):=by
 rw [wrap64 P6 P6];simp
theorem zw {k:Nat} (h:k<9223372036854775807):wk (.int .i64 (IntKind.i64.wrap ((k:Int)+1))) (.int .i64 ((k+1:Nat):Int)):=ag (by rw [II h])
theorem jz {P:Program} {x:CC} {fr:Fr} {σ:St} {Q:Exit→Fr→St→Prop} {h:Hold (x,σ,Q)} {α:Type} (t e s n:Nat) (cs:List AV) (F:Nat→α→Fr) (S:Nat→α→St) (I:α→Prop) (μ:α→Nat) (a0:α)
  (hf:fresh (slot t fr)) (hs:slv (slot t fr)=some (n,cs)) (h0:I a0) (hF:∀ τ,σ.tip τ=none→aq (F τ a0) ((t, .tsl τ n cs)::fr)) (hS:∀ τ,σ.tip τ=none→St.le (S τ a0) (σ.ai τ (e,s,n)))
  (hr:∀ τ,σ.tip τ=none→∀ a,I a→aC P x (F τ a) (S τ a) (fU (fun fr' σ'=>∃ b,I b∧aq (F τ b) fr'∧St.le (S τ b) σ'∧μ b<μ a) Q)):pF P x fr σ Q h:=by
 refine ⟨[(false,t,0,e,s)],?_⟩
 simp only [cH]
 refine ⟨hf,?_⟩
 rw [hs]
 intro τ hτ
 refine ⟨α,F τ,S τ,I,μ,a0,h0,hF τ hτ,hS τ hτ,fun a ha=>?_⟩
 have:=hr τ hτ a ha
 unfold fU at this
 exact this
theorem br {σ:St} {K:AV→St→Prop} {tp:Bool} {e es bytes τ n m:Nat} {cs ds:List AV} {y:AV} {h:Hold (σ,K)} (hy:slv y=some (m,ds)) (ht:σ.tip τ=some (e,es,n)) (h1:cs.length=n*es) (h2:ds.length=m*es) (h3:n+m≤maxLen) (h4:(n+m)*bytes≤140737488355328)
  (hK:K (.tsl τ (n+m) (cs++ds)) (σ.ai τ (e,es,n+m))):qC tp e es bytes (.tsl τ n cs) y σ K h:=by
 rw [sF hy];exact ⟨ht,h1,h2,h3,h4,hK⟩
theorem vd {P:Program} {x:CC} {fr:Fr} {σ:St} {Q:Exit→Fr→St→Prop} {h:Hold (x,σ,Q)} (N t e s n:Nat) (cs:List AV) (F:Nat→Nat→Fr) (S:Nat→Nat→St) (I:Nat→Prop)
  (hf:fresh (slot t fr)) (hs:slv (slot t fr)=some (n,cs)) (h0:I 0) (hF:∀ τ,aq (F τ 0) ((t, .tsl τ n cs)::fr)) (hS:∀ τ,σ.tip τ=none→St.le (S τ 0) (σ.ai τ (e,s,n)))
  (hr:∀ τ,σ.tip τ=none→∀ k,k≤N→I k→aC P x (F τ k) (S τ k) (fU (fun fr' σ'=>k<N∧I (k+1)∧aq (F τ (k+1)) fr'∧St.le (S τ (k+1)) σ') Q)):pF P x fr σ Q h:=by
 refine jz (α:=Nat) t e s n cs F S (fun k=>k≤N∧I k) (fun k=>N - k) 0 hf hs ⟨Nat.zero_le _,h0⟩ (fun τ _=>hF τ) hS (fun τ hτ k hk=>?_)
 refine cR _ _ _ (hr τ hτ k hk.1 hk.2) (fun e fr' σ' hq=>?_)
 unfold fU at hq ⊢
 cases e with
 | normal=>simp only at hq ⊢;exact ⟨k+1,⟨hq.1,hq.2.1⟩,hq.2.2.1,hq.2.2.2,by omega⟩
 | _=>exact hq
def Tp (P:Program) (f:Nat) (xs:List AV) (e es n:Nat) (cs:List AV):Prop:=∀ σ,AC P f xs σ (fun r s=>∃ τ,σ.tip τ=none∧r= .tsl τ n cs∧s=σ.ai τ (e,es,n))
theorem Tp.to {P:Program} {f:Nat} {xs ys:List AV} {e es n:Nat} {cs:List AV} {σ:St} {K:AV→St→Prop} (h:Tp P f ys e es n cs) (hw:wkL xs ys) (hK:∀ τ,σ.tip τ=none→K (.tsl τ n cs) (σ.ai τ (e,es,n))):AC P f xs σ K :=
 ((h σ).wk hw).mono fun r s ⟨τ,h1,h2,h3⟩=>by rw [h2,h3];exact hK τ h1
theorem CH {res:List RV} {e1:Exit} {fr:Fr} {σ0 σ:St} {n:Nat} {cs:List AV} {x:Nat × Nat × Nat} (τ:Nat) (hτ:σ0.tip τ=none) (he:e1= .ret∨e1= .normal) (hs:av σ fr res) (hw:wk (fI (res.map (rvV σ fr))) (.tsl τ n cs)) (hl:St.le (σ0.ai τ x) σ) :
  gR res (fun r s=>∃ τ,σ0.tip τ=none∧r= .tsl τ n cs∧s=σ0.ai τ x) e1 fr σ:=aN he hs hw hl ⟨τ,hτ,rfl,rfl⟩
def St.lw (s s':St):Prop:=(∀ β c,s.box β=some c→∃ c',s'.box β=some c'∧wkL c' c)∧(∀ τ x,s.tip τ=some x→s'.tip τ=some x)∧(∀ k c,s.glob k=some c→s'.glob k=some c)∧(∀ l r,s.lp l=some r→s'.lp l=some r)∧(∀ β T,s.bt β=some T→s'.bt β=some T)
theorem St.ax (s:St):St.lw s s:=⟨fun _ c h=>⟨c,h,ad c⟩,fun _ _ h=>h,fun _ _ h=>h,fun _ _ h=>h,fun _ _ h=>h⟩
theorem St.gT {s s':St} (h:St.le s s'):St.lw s s':=⟨fun _ c k=>⟨c,h.1 _ _ k,ad c⟩,h.2.1,h.2.2⟩
theorem St.dw {s s':St} {β:Nat} {c c':List AV} (h:St.lw s s') (hc:wkL c' c):St.lw (s.aa β c) (s'.aa β c'):=by
 refine ⟨fun γ d hd=>?_,h.2⟩
 simp only [St.aa,upd] at hd ⊢
 split
 ·rename_i e;rw [if_pos e] at hd;cases hd;exact ⟨c',rfl,hc⟩
 ·rename_i e;rw [if_neg e] at hd;exact h.1 γ d hd
theorem St.cI {s s':St} {β:Nat} {c:List AV} (h:St.lw s s') (hn:s.box β=none):St.lw s (s'.aa β c):=by
 refine ⟨fun γ d hd=>?_,h.2⟩
 simp only [St.aa,upd]
 split
 ·rename_i e;subst e;rw [hn] at hd;cases hd
 ·exact h.1 γ d hd
theorem St.cX {s s':St} {τ:Nat} {x:Nat × Nat × Nat} (h:St.lw s s') (hn:s.tip τ=none):St.lw s (s'.ai τ x):=by
 refine ⟨h.1,fun υ y hy=>?_,h.2.2⟩
 simp only [St.ai,upd]
 split
 ·rename_i e;subst e;rw [hn] at hy;cases hy
 ·exact h.2.1 υ y hy
theorem St.cJ {s s':St} {τ:Nat} {x:Nat × Nat × Nat} (h:St.lw s s'):St.lw (s.ai τ x) (s'.ai τ x):=by
 refine ⟨h.1,fun υ y hy=>?_,h.2.2⟩
 simp only [St.ai,upd] at hy ⊢
 split
 ·rename_i e;rw [if_pos e] at hy;exact hy
 ·rename_i e;rw [if_neg e] at hy;exact h.2.1 υ y hy
theorem Inv.lw {g:Gh} {s s':St} {w:World} (h:Inv g s' w) (hl:St.lw s s'):Inv g s w:=by
 refine ⟨fun β c hc=>?_,fun β b hb=>⟨(h.boxcl β b hb).1,fun hn=>(h.boxcl β b hb).2 (fun hs=>hn (by
  cases hq:s.box β with
  | none=>rfl
  | some c=>obtain ⟨c',e,_⟩:=hl.1 _ _ hq;rw [e] at hs;cases hs))⟩,h.boxinj,h.boxfresh,fun τ e z n hx=>h.tip τ e z n (hl.2.1 _ _ hx),fun τ τ' x x' v v' b hx hx'=>h.tipinj τ τ' x x' v v' b (hl.2.1 _ _ hx) (hl.2.1 _ _ hx'),h.tipfresh,fun k c hc=>h.glob k c (hl.2.2.1 _ _ hc),fun l r hr=>h.lp l r (hl.2.2.2.1 _ _ hr),fun β T hb=>h.bty β T (hl.2.2.2.2 _ _ hb)⟩
 obtain ⟨c',h1,h2⟩:=hl.1 β c hc
 obtain ⟨b,vs,T,k1,k2,k3⟩:=h.box β c' h1
 exact ⟨b,vs,T,k1,k2,kF h2 k3.1,k3.2⟩
theorem AC.wkd {P:Program} {f:Nat} {xs:List AV} {σ:St} {R R':AV→St→Prop} (h:AC P f xs σ R) (hr:∀ r s,R r s→∃ r' s',Go.Abs.wk r r'∧St.lw s' s∧R' r' s'):AC P f xs σ R':=by
 have hcp:∀ g w e w',CP g w R e w'→CP g w R' e w':=by
  rintro g w e w' ⟨v,r,σ',g',h1,h2,h3,h4,h5⟩
  obtain ⟨r',s',k1,k2,k3⟩:=hr _ _ h2
  exact ⟨v,r',s',g',h1,k3,h3.lw k2,h4,k1 _ _ _ h5⟩
 intro g w vs hI hv
 rcases h g w vs hI hv with ⟨h1,h2⟩|⟨v,w',h1,h2⟩
 ·exact .inl ⟨h1,h2.mono fun e w'=>hcp g w e w'⟩
 ·exact .inr ⟨v,w',h1,hcp _ _ _ _ h2⟩
theorem zx {P:Program} {f:Nat} {xs:List AV} {σ:St} {r0:AV} {s0:St} (cf:CF) (hf:fB P f cf=true) (hn:xs.length≤cf.n) (h:aC P cf.body (eG 0 xs) σ (gR cf.res (fun r s=>wk r r0∧St.lw s0 s))):AC P f xs σ (fun r s=>r=r0∧s=s0) :=
 (kH cf hf hn h).wkd fun _ _ ⟨h1,h2⟩=>⟨r0,s0,h1,h2,rfl,rfl⟩
theorem IJ {res:List RV} {e1:Exit} {fr:Fr} {s0 σ:St} {r0:AV} (he:e1= .ret∨e1= .normal) (hs:av σ fr res) (hw:wk (fI (res.map (rvV σ fr))) r0) (hl:St.lw s0 σ):gR res (fun r s=>wk r r0∧St.lw s0 s) e1 fr σ :=
 aN he hs (ae _) (St.le_refl _) ⟨hw,hl⟩
theorem na {a b c d:List AV} (h:wkL a b) (k:wkL c d):wkL (a++c) (b++d):=by
 induction h with
 | nil=>exact k
 | cons h1 _ ih=>exact .cons h1 ih
theorem F4 {res:List RV} {R:AV→St→Prop} {e1:Exit} {fr:Fr} {σ:St} (he:e1= .ret∨e1= .normal) (hs:av σ fr res) (h:R (fI (res.map (rvV σ fr))) σ):gR res R e1 fr σ :=
 aN he hs (ae _) (St.le_refl _) h
theorem bI {tp:Bool} {σ:St} {K:AV→St→Prop} {c e es bytes τ n m:Nat} {cs ds:List AV} {y:AV} {h:Hold (σ,K)} (hc:c=2∨c=4) (hy:slv y=some (m,ds)) (ht:σ.tip τ=some (e,es,n)) (h1:cs.length=n*es) (h2:ds.length=m*es) (h3:n+m≤maxLen) (h4:(n+m)*bytes≤140737488355328)
  (hK:K (.tsl τ (n+m) (cs++ds)) (σ.ai τ (e,es,n+m))):FN tp c e es bytes (.tsl τ n cs) y σ K h:=by
 have key:∀ β,appS tp c e es bytes (.tsl τ n cs) y σ K β:=by
  intro β
  refine ⟨_,_,⟨hc,?_⟩,hK⟩
  rw [hy]
  exact ⟨ht,h1,h2,h3,h4,rfl,rfl⟩
 unfold FN
 cases tp&&Nat.beq c 4
 ·exact key 0
 ·exact fun β _=>key β
theorem St.gU {s s':St} {τ:Nat} {x:Nat × Nat × Nat} (h:St.le s s'):St.le (s.ai τ x) (s'.ai τ x):=by
 refine ⟨h.1,fun υ y hy=>?_,h.2.2⟩
 simp only [St.ai,upd] at hy ⊢
 split
 ·rename_i e;rw [if_pos e] at hy;exact hy
 ·rename_i e;rw [if_neg e] at hy;exact h.2.1 υ y hy
def R3:=Lh (ax6 @Bool.and_true @Bool.true_and @Bool.and_false @Bool.false_and @Bool.or_true @Bool.true_or) (ax6 @Bool.or_false @Bool.false_or @sF @St.cA @St.IH @St.aU) (ax6 @St.set_set @St.zr @St.va @St.vb @St.b9 @St.cV) (ax6 @St.CB @St.bn @St.bA @St.F2 @St.fp @St.zt) (ax6 @St.BK @Nat.zero_add @Nat.add_zero @true_and @and_true @beq_true) (ax6 @beq_false @Int.toNat_natCast @IntKind.max_i64 @true_implies @false_implies @and_self) (ax6 @Bool.not_true @Bool.not_false @Bool.cond_true_left @Bool.cond_false_left @Bool.cond_true_right @Bool.cond_false_right) (ax6 @imp_self @Bool.not_eq_true' @Int.toNat_zero @Nat.sub_zero @Nat.zero_mul @List.length_cons.{0}) (ax6 @List.length_nil.{0} @List.take_succ_cons.{0} @List.take_zero.{0} @List.drop_succ_cons.{0} @List.drop_zero.{0} @List.cons_append.{0}) (ax6 @List.nil_append.{0} @List.append_nil.{0} @List.getElem?_cons_zero.{0} @List.getElem?_cons_succ.{0} @Option.getD_some.{0} @Option.isSome_some.{0}) (ax6 @Option.isSome_none.{0} @bne_self_eq_false.{0} @beq_self_eq_true.{0} @Option.toList_none.{0} @Option.toList_some.{0} @Option.map_some.{0,0}) (ax6 @List.map_cons.{0,0} @List.map_nil.{0,0} @Option.map_none.{0,0} @cond_true.{1} @cond_true.{0} @cond_false.{1}) (ax6 @cond_false.{0} @ite_true.{1} @ite_true.{0} @ite_false.{1} @ite_false.{0} @if_true.{1}) (ax6 @if_true.{0} @if_false.{1} @if_false.{0} @implies_true.{1} @implies_true.{0} @forall_const.{1}) (ax3 @forall_const.{0} @eq_self.{1} (@eq_self.{0}))
def wR (Q:Exit→Fr→St→Prop):Exit→Fr→St→Prop:=fun e fr σ=>match e with
 | .panic _=>False
 | e=>Q e fr σ
def CJ (P:Program) (y:CX) (Q:Exit→Fr→St→Prop):Exit→Fr→St→Prop:=fun e fr σ=>match e with
 | .normal=>aX P y fr σ Q
 | e=>Q e fr σ
def nN (id:Nat) (Q:Exit→Fr→St→Prop):Exit→Fr→St→Prop:=fun e fr σ=>match e with
 | .exit j=>if j=id then Q .normal fr σ else Q (.exit j) fr σ
 | e=>Q e fr σ
def fV (N:Fr→St→Prop) (Q:Exit→Fr→St→Prop):Exit→Fr→St→Prop:=fun e fr σ=>match e with
 | .normal=>N fr σ
 | e=>Q e fr σ
def pP (P:Program) (v:AV) (x y:CX) (fr:Fr) (σ:St) (Q:Exit→Fr→St→Prop) (_:Hold (x,y,fr,σ,Q)):Prop:=match v with
 | .bool t=>(t=true→aX P x fr σ Q)∧(t=false→aX P y fr σ Q)
 | _=>False
def HC (P:Program) (fr:Fr) (x:CX) (σ:St) (Q:Exit→Fr→St→Prop) (_:Hold (x,σ,Q)):Prop:=aX P x fr σ Q
def nO (P:Program) (x:CX) (fr:Fr) (σ:St) (Q:Exit→Fr→St→Prop) (_:Hold (x,σ,Q)):Prop:=aX P (.loop x) fr σ Q
def HD (P:Program) (l:List XI) (Q:Exit→Fr→St→Prop):Fr→St→Prop:=fun fr σ=>cC P l fr σ Q
def sM (P:Program) (f:Nat) (as:List AV) (σ:St) (d:Option Nat) (l:List XI) (fr:Fr) (Q:Exit→Fr→St→Prop) (_:Hold (σ,l,fr,Q)):Prop :=
 AX P f as σ (fun b r s=>bif b then Q (.panic []) [(0,r)] s else cC P l (putF d r fr) s Q)
def CK (P:Program) (x:AV) (as:List AV) (σ:St) (d:Option Nat) (l:List XI) (fr:Fr) (Q:Exit→Fr→St→Prop) (_:Hold (σ,l,fr,Q)):Prop:=match x with
 | .fn f cap=>AX P f (as++cap) σ (fun b r s=>bif b then Q (.panic []) [(0,r)] s else cC P l (putF d r fr) s Q)
 | _=>False
theorem ix {P:Program}:∀ (l:List XI) {fr:Fr} {σ:St} {Q Q':Exit→Fr→St→Prop},cC P l fr σ Q→(∀ e f s,Q e f s→Q' e f s)→cC P l fr σ Q'
  | [],_,_,_,_,h,hk=>hk _ _ _ h
  | .o i::l,fr,σ,Q,Q',h,hk=>eH [i] h fun f s hh=>ix l hh hk
  | .c d f args :: l, fr, σ, Q, Q', h, hk => AX.mono h fun b r s hb => by
    cases b with
    | false=>exact ix l hb hk
    | true=>exact hk _ _ _ hb
  | .v d x args :: l, fr, σ, Q, Q', h, hk => by
    simp only [cC] at h ⊢
    split at h
    · exact AX.mono h fun b r s hb=>by
        cases b with
        | false=>exact ix l hb hk
        | true=>exact hk _ _ _ hb
    · exact h
theorem fh {P:Program} {fr:Fr} {σ:St} {K K':Fr→St→Prop} {R R':AV→St→Prop} (x:XI) (h:gv P x fr σ K R) (hk:∀ f s,K f s→K' f s) (hr:∀ r s,R r s→R' r s):gv P x fr σ K' R':=by
  cases x with
  | o i=>exact eH [i] h hk
  | c d f args=>exact AX.mono h fun b r s hb=>by cases b with|false=>exact hk _ _ hb|true=>exact hr _ _ hb
  | v d x args =>
    simp only [gv] at h ⊢
    split at h
    · exact AX.mono h fun b r s hb=>by cases b with|false=>exact hk _ _ hb|true=>exact hr _ _ hb
    · exact h
theorem F5 {P:Program}:∀ (c:CX) (fr:Fr) (σ:St) {Q Q':Exit→Fr→St→Prop},aX P c fr σ Q→(∀ e fr σ,Q e fr σ→Q' e fr σ)→aX P c fr σ Q':=by
  intro c
  induction c with
  | base c=>intro fr σ Q Q' h hq;exact cR c fr σ h fun e f s hh=>by cases e<;>first|exact hh|exact hq _ _ _ hh
  | opsX l=>intro fr σ Q Q' h hq;exact ix l h hq
  | dead=>intro fr σ Q Q' h hq;exact h
  | invX l dp =>
    intro fr σ Q Q' h hq
    obtain ⟨I,h0,h1,h2⟩:=h
    exact ⟨I,h0,fun D j x hx hd ha fr σ hI=>fh x (h1 D j x hx hd ha fr σ hI) (fun _ _ h=>h) (fun _ _ h=>hq _ _ _ h),fun D fr σ hj hI=>hq _ _ _ (h2 D fr σ hj hI)⟩
  | seq x y ihx ihy=>intro fr σ Q Q' h hq;exact ihx fr σ h fun e f s hh=>by cases e<;>first|exact ihy _ _ hh hq|exact hq _ _ _ hh
  | cond b x y ihx ihy =>
    intro fr σ Q Q' h hq
    simp only [aX] at h ⊢
    split at h
    · exact ⟨fun ht=>ihx _ _ (h.1 ht) hq,fun ht=>ihy _ _ (h.2 ht) hq⟩
    · exact h
  | block id x ih =>
    intro fr σ Q Q' h hq
    refine ih fr σ h fun e f s hh=>?_
    cases e with
    | exit j =>
      simp only at hh ⊢
      split
      · rename_i hj;rw [if_pos hj] at hh;exact hq _ _ _ hh
      · rename_i hj;rw [if_neg hj] at hh;exact hq _ _ _ hh
    | _=>exact hq _ _ _ hh
  | keep ts x ih=>intro fr σ Q Q' h hq;exact ih _ σ h hq
  | loop x ih =>
    intro fr σ Q Q' h hq
    obtain ⟨regs,h⟩:=h
    refine ⟨regs,dL regs h ?_⟩
    rintro fr0 σ0 ⟨α,F,S,I,μ,a0,h0,h1,h2,h3⟩
    exact ⟨α,F,S,I,μ,a0,h0,h1,h2,fun a ha=>ih _ _ (h3 a ha) fun e f s hh=>by cases e<;>first|exact hh|exact hq _ _ _ hh⟩
section
variable {P:Program} {fr:Fr} {σ:St} {Q:Exit→Fr→St→Prop} {x y:CX} {l:List XI} {d:Option Nat} {as bs:List AV} {f:Nat}
theorem F6 {c:CC}:aX P (.base c) fr σ Q=aC P c fr σ (wR Q):=rfl
theorem F7:aX P (.opsX l) fr σ Q=cC P l fr σ Q:=rfl
theorem IK:aX P (.seq x y) fr σ Q=aX P x fr σ (CJ P y Q):=rfl
theorem F8 {b:Od}:aX P (.cond b x y) fr σ Q=pP P (ev σ fr b) x y fr σ Q ⟨⟩:=rfl
theorem CL {id:Nat}:aX P (.block id x) fr σ Q=aX P x fr σ (nN id Q):=rfl
theorem F9 {ts:List Nat}:aX P (.keep ts x) fr σ Q=HC P (iM ts fr) x σ Q ⟨⟩:=rfl
theorem Ga:aX P (.loop x) fr σ Q=nO P x fr σ Q ⟨⟩:=rfl
theorem CM {h:Hold (x,σ,Q)}:HC P fr x σ Q h=aX P x fr σ Q:=rfl
theorem zy:cC P [] fr σ Q=Q .normal fr σ:=rfl
theorem Gb {i:CI}:cC P (.o i::l) fr σ Q=da P [i] fr σ (HD P l Q):=rfl
theorem Gc {args:List Od}:cC P (.c d f args::l) fr σ Q=sM P f (args.map (ev σ fr)) σ d l fr Q ⟨⟩:=rfl
theorem Gd {v:Od} {args:List Od}:cC P (.v d v args::l) fr σ Q=CK P (ev σ fr v) (args.map (ev σ fr)) σ d l fr Q ⟨⟩:=rfl
theorem CN:HD P l Q fr σ=cC P l fr σ Q:=rfl
theorem zz {cap:List AV} {h:Hold (σ,l,fr,Q)}:CK P (.fn f cap) as σ d l fr Q h=sM P f (as++cap) σ d l fr Q ⟨⟩:=rfl
theorem qN:wR Q .normal fr σ=Q .normal fr σ:=rfl
theorem ve {j:Nat}:wR Q (.exit j) fr σ=Q (.exit j) fr σ:=rfl
theorem zA:wR Q .ret fr σ=Q .ret fr σ:=rfl
theorem sO:CJ P y Q .normal fr σ=aX P y fr σ Q:=rfl
theorem zB {j:Nat}:CJ P y Q (.exit j) fr σ=Q (.exit j) fr σ:=rfl
theorem CQ:CJ P y Q .ret fr σ=Q .ret fr σ:=rfl
theorem vf {ch:List PanicEntry}:CJ P y Q (.panic ch) fr σ=Q (.panic ch) fr σ:=rfl
theorem oZ {id:Nat}:nN id Q .normal fr σ=Q .normal fr σ:=rfl
theorem sP {id j:Nat}:nN id Q (.exit j) fr σ=if j=id then Q .normal fr σ else Q (.exit j) fr σ:=rfl
theorem vg {id:Nat}:nN id Q .ret fr σ=Q .ret fr σ:=rfl
theorem qO {id:Nat} {ch:List PanicEntry}:nN id Q (.panic ch) fr σ=Q (.panic ch) fr σ:=rfl
theorem o0 {N:Fr→St→Prop}:fV N Q .normal fr σ=N fr σ:=rfl
theorem sQ {N:Fr→St→Prop} {j:Nat}:fV N Q (.exit j) fr σ=Q (.exit j) fr σ:=rfl
theorem vh {N:Fr→St→Prop}:fV N Q .ret fr σ=Q .ret fr σ:=rfl
theorem qP {N:Fr→St→Prop} {ch:List PanicEntry}:fV N Q (.panic ch) fr σ=Q (.panic ch) fr σ:=rfl
theorem vi {h:Hold (x,y,fr,σ,Q)}:pP P (.bool true) x y fr σ Q h=aX P x fr σ Q:=by simp [pP]
theorem sR {h:Hold (x,y,fr,σ,Q)}:pP P (.bool false) x y fr σ Q h=aX P y fr σ Q:=by simp [pP]
theorem eK {c:Bool} {h:Hold (x,y,fr,σ,Q)} (h1:c=true→aX P x fr σ Q) (h2:c=false→aX P y fr σ Q):pP P (.bool c) x y fr σ Q h:=⟨h1,h2⟩
theorem CR {α:Type} (F:α→Fr) (S:α→St) (I:α→Prop) (μ:α→Nat) (a0:α) {h:Hold (x,σ,Q)} (hf:aq (F a0) fr) (hs:St.le (S a0) σ) (h0:I a0)
  (hr:∀ a,I a→aX P x (F a) (S a) (fV (fun fr' σ'=>∃ b,I b∧aq (F b) fr'∧St.le (S b) σ'∧μ b<μ a) Q)):nO P x fr σ Q h :=
 ⟨[],α,F,S,I,μ,a0,h0,hf,hs,fun a ha=>hr a ha⟩
theorem j7 {α:Type} (regs:List (Bool × Nat × Nat × Nat × Nat)) {h:Hold (x,σ,Q)} (hr:cH regs fr σ fun fr0 σ0=>∃ (F:α→Fr) (S:α→St) (I:α→Prop) (μ:α→Nat) (a0:α),I a0∧aq (F a0) fr0∧St.le (S a0) σ0 ∧
   ∀ a,I a→aX P x (F a) (S a) (fV (fun fr' σ'=>∃ b,I b∧aq (F b) fr'∧St.le (S b) σ'∧μ b<μ a) Q)):nO P x fr σ Q h:=by
 refine ⟨regs,?_⟩
 exact dL regs hr fun fr0 σ0 ⟨F,S,I,μ,a0,h1,h2,h3,h4⟩=>⟨α,F,S,I,μ,a0,h1,h2,h3,fun a ha=>h4 a ha⟩
theorem pQ (n:Nat) (F:Nat→Fr) (S:Nat→St) (I:Nat→Prop) {h:Hold (x,σ,Q)} (hf:aq (F 0) fr) (hs:St.le (S 0) σ) (h0:I 0)
  (hr:∀ k,k≤n→I k→aX P x (F k) (S k) (fV (fun fr' σ'=>k<n∧I (k+1)∧aq (F (k+1)) fr'∧St.le (S (k+1)) σ') Q)):nO P x fr σ Q h:=by
 refine CR F S (fun k=>k≤n∧I k) (fun k=>n - k) 0 hf hs ⟨Nat.zero_le _,h0⟩ (fun k ⟨hk,hI⟩=>?_)
 refine F5 _ _ _ (hr k hk hI) ?_
 intro ex fr' σ' hx
 cases ex<;>simp only [fV] at hx ⊢ <;>try exact hx
 exact ⟨k+1,⟨hx.1,hx.2.1⟩,hx.2.2.1,hx.2.2.2,by omega⟩
end
abbrev Ft:=Int × Int
def jP (T:Nat) (f:Ft):AV:= .ifc T (.agg [.int .i64 f.1, .int .i64 f.2])
def oX {α:Type} (T:Nat) (o:Except Ft α) (t:α→AV) (s1:α→St) (s0:St) (b:Bool) (r:AV) (s:St):Prop:=match b with
 | false=>∃ a,o= .ok a∧r=t a∧s=s1 a
 | true=>∃ f,o= .error f∧r=jP T f∧s=s0
def oXW {α:Type} (T:Nat) (o:Except Ft α) (t:α→AV) (s1:α→St) (s0:St) (b:Bool) (r:AV) (s:St):Prop:=match b with
 | false=>∃ a,o= .ok a∧wk r (t a)∧St.lw (s1 a) s
 | true=>∃ f,o= .error f∧wk r (jP T f)∧St.lw s0 s
section
variable {P:Program} {fr:Fr} {σ:St} {Q:Exit→Fr→St→Prop} {l:List XI} {d:Option Nat} {as bs:List AV} {f T:Nat} {α:Type} {o:Except Ft α} {t:α→AV} {s1:α→St} {s0:St}
theorem AX.wk {R:Bool→AV→St→Prop} (h:AX P f bs σ R) (hw:wkL as bs):AX P f as σ R:=fun g w vs hI hv=>h g w vs hI (kF hw hv)
theorem AX.wkd {R R':Bool→AV→St→Prop} (h:AX P f as σ R) (hr:∀ b r s,R b r s→∃ r' s',Go.Abs.wk r r'∧St.lw s' s∧R' b r' s'):AX P f as σ R':=by
 have hcp:∀ g w e w',CPX g w R e w'→CPX g w R' e w':=by
  rintro g w e w' ⟨v,r,σ',g',(⟨h1,h2⟩|⟨h1,h2⟩),h3,h4,h5⟩
  ·obtain ⟨r',s',k1,k2,k3⟩:=hr _ _ _ h2
   exact ⟨v,r',s',g', .inl ⟨h1,k3⟩,h3.lw k2,h4,k1 _ _ _ h5⟩
  ·obtain ⟨r',s',k1,k2,k3⟩:=hr _ _ _ h2
   exact ⟨v,r',s',g', .inr ⟨h1,k3⟩,h3.lw k2,h4,k1 _ _ _ h5⟩
 intro g w vs hI hv
 rcases h g w vs hI hv with ⟨h1,h2⟩|⟨v,w',h1,h2⟩
 ·exact .inl ⟨h1,h2.mono fun e w'=>hcp g w e w'⟩
 ·exact .inr ⟨v,w',h1,hcp _ _ _ _ h2⟩
theorem zC (cf:CFX) (hf:fX P f cf=true) (hn:as.length≤cf.n) (h:aX P cf.body (eG 0 as) σ (oV cf.res (oXW T o t s1 s0))):AX P f as σ (oX T o t s1 s0) :=
 (sJ cf hf hn h).wkd fun b r s hb=>by
  cases b with
  | false=>obtain ⟨a,h1,h2,h3⟩:=hb;exact ⟨t a,s1 a,h2,h3,a,h1,rfl,rfl⟩
  | true=>obtain ⟨a,h1,h2,h3⟩:=hb;exact ⟨_,s0,h2,h3,a,h1,rfl,rfl⟩
theorem bF {h:Hold (σ,l,fr,Q)} (hp:AX P f bs σ (oX T o t s1 s0)) (hw:wkL as bs) (h1:∀ a,o= .ok a→cC P l (putF d (t a) fr) (s1 a) Q) (h2:∀ e,o= .error e→Q (.panic []) [(0,jP T e)] s0):sM P f as σ d l fr Q h:=by
 refine (hp.wk hw).mono fun b r s hb=>?_
 cases b with
 | false=>obtain ⟨a,k1,rfl,rfl⟩:=hb;exact h1 a k1
 | true=>obtain ⟨a,k1,rfl,rfl⟩:=hb;exact h2 a k1
theorem jA {res:List RV} {e:Exit} {a:α} (he:e= .ret∨e= .normal) (ho:o= .ok a) (hs:av σ fr res) (hw:wk (fI (res.map (rvV σ fr))) (t a)) (hl:St.lw (s1 a) σ):oV res (oXW T o t s1 s0) e fr σ:=by
 have:gR res (oXW T o t s1 s0 false) e fr σ:=aN he hs (ae _) (St.le_refl _) ⟨a,ho,hw,hl⟩
 rcases he with rfl|rfl<;>exact this
theorem aO {res:List RV} {ch:List PanicEntry} {e:Ft} (ho:o= .error e) (hl:St.lw s0 σ):oV res (oXW T o t s1 s0) (.panic ch) [(0,jP T e)] σ :=
 ⟨σ,St.le_refl _,e,ho,ae _,hl⟩
end
section
variable {P:Program} {f T:Nat} {xs:List AV} {α:Type} {o:Except Ft α} {t:α→AV} {s1:α→St} {s0 σ:St}
theorem dM {res:List RV} {e:Exit} {fr:Fr} {a:α} (ho:o= .ok a) (hw:wk (fI (res.map (rvV σ fr))) (t a)) (hl:St.lw (s1 a) σ) (hs:av σ fr res:=by simp [av,rvS]) (he:e= .ret∨e= .normal:=by simp):oV res (oXW T o t s1 s0) e fr σ:=jA he ho hs hw hl
theorem bd (cf:CFX) (hf:fX P f cf=true) (h:aX P cf.body (eG 0 xs) σ (oV cf.res (oXW T o t s1 s0))) (hn:xs.length≤cf.n:=by exact Nat.le_of_ble_eq_true rfl):AX P f xs σ (oX T o t s1 s0):=zC cf hf hn h
theorem Ge {R:Bool→AV→St→Prop} (cf:CFX) (hf:fX P f cf=true) (h:aX P cf.body (eG 0 xs) σ (oV cf.res R)) (hn:xs.length≤cf.n:=by exact Nat.le_of_ble_eq_true rfl):AX P f xs σ R:=sJ cf hf hn h
end
def RX:=EG (ax2 @F6 @F7) (ax2 @IK @F8) (ax2 @CL @F9) (ax2 @Ga @CM) (ax2 @zy @Gb) (ax2 @Gc @Gd) (ax2 @CN @zz) (ax2 @qN @ve) (ax2 @zA @sO) (ax2 @zB @CQ) (ax2 @vf @oZ) (ax2 @sP @vg) (ax2 @qO @o0) (ax2 @sQ @vh) (ax2 @qP @vi) @sR
end Go.Abs
