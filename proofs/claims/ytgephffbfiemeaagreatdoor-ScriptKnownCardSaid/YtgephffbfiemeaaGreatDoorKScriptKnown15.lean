/- Part 15 of the proof of ScriptKnown: an abstract semantics that is proved sound for the model, contracts of functions in it, and plain facts (Abs17 Abs21 Abs22 Abs23 Abs33). No condition. -/
import Derived.Test.YtgephffbfiemeaaGreatDoorKScriptKnown14
import Derived.Below
import Derived.ChangeSame
set_option linter.all false
namespace Go.Abs
open Go.RowKit
def g0:Gh:=⟨fun _=>none,fun _=>none,fun _ _=>none,0,0⟩
def s0 (gl:Nat→Option (List AV)):St:=⟨fun _=>none,fun _=>none,gl,fun _=>none,fun _=>none⟩
theorem KJ {gl:Nat→Option (List AV)} {w:World} (hg:∀ k cs,gl k=some cs→GlobOk g0 w k cs):Inv g0 (s0 gl) w :=
 ⟨fun β cs h=>by simp [s0] at h,fun β b h=>by simp [g0] at h,fun β β' b h=>by simp [g0] at h,fun β _=>rfl,fun τ e s n h=>by simp [s0] at h,fun τ τ' x x' v v' b h=>by simp [s0] at h,fun τ n _=>rfl,hg,fun l r h=>by simp [s0] at h,fun β T h=>by simp [s0] at h⟩
theorem Ba {P:Program} {f:Nat} {cf:CF} {as:List AV} {vs:List Value} {gl:Nat→Option (List AV)} {w:World} {v:AV} (hf:fB P f cf=true)
  (h:AC P f as (s0 gl) (fun r s=>r=v∧s=s0 gl)) (hg:∀ k cs,gl k=some cs→GlobOk g0 w k cs) (hv:bQ g0 w as vs) :
  Calls P f vs.toArray w (fun e w'=>∃ u g',e= .returned u∧Rel g' w' v u∧Below w.heap.size w w'):=by
 have henter:(callFunc f vs.toArray).run P w= .ok (.enter f vs.toArray) w:=by
  unfold fB at hf
  split at hf
  ·rename_i fn hfn
   simp only [Bool.and_eq_true,beq_iff_eq,bne_iff_ne] at hf
   obtain ⟨⟨⟨hbody,hnt⟩,hres⟩,hname⟩:=hf
   split at hbody
   ·rename_i c hc
    simp [callFunc,hfn,hname,hc]
   ·cases hbody
  ·cases hf
 rcases h g0 w vs (KJ hg) hv with ⟨_,h2⟩|⟨u,w',h1,_⟩
 ·refine h2.mono ?_
  rintro e w' ⟨u,r,σ',g',rfl,⟨rfl,rfl⟩,hI,he,hr⟩
  exact ⟨u,g',rfl,hr,he.os,he.tape,he.output,he.size,fun k hk=>(he.cln k hk rfl).2⟩
 ·rw [henter] at h1
  cases h1
end Go.Abs
namespace Go
open Go.RowKit Go.WideShapes Go.ChangeShapes
variable {H:Type} {enc:TypeId × Value→H} {P:Program}
theorem nE {f:Func} {s:ChangeSpec} {apart fresh handsOn again:Bool} {W W':World} {args:Array Value} {v:Value} {ds gs:List (DataW H)} {before pa pv:List MemPlace}
  (hW:DataW.Whole enc P f.params.toList s.vars apart W args.toList ds gs before)
  (hres:∀ (b:Nat) (sp:Nat→Bool) (hd:Bool),DataW.TrodAll enc P W' b sp hd f.resultTypes.toList (v.resultList f.resultTypes.size) (s.fn H (ds++gs)).results [])
  (hargs:∀ sp:Nat→Bool,(∀ p∈before,sp p.block=true)→DataW.TrodAll enc P W' 0 sp true f.params.toList args.toList (s.fn H (ds++gs)).args pa)
  (hvars:∀ sp:Nat→Bool,(∀ p∈before,sp p.block=true)→DataW.TrodVars enc P W' sp s.vars (s.fn H (ds++gs)).vars pv)
  (hps:before=pa++pv) (hb:Below W.heap.size W W')
  (hok:∀ (j:Nat) (t:TypeId) (r:Value),f.resultTypes[j]? =some t→(v.resultList f.resultTypes.size)[j]? =some r→Value.okWide P W' .any 0 t r) :
  s.post enc P f apart fresh handsOn again W args v W':=by
 have hlt:∀ p∈before,p.block<W.heap.size:=fun p hp=>hW.lt p hp
 have hold:∀ p∈before,(fun b=>decide (b<W.heap.size)) p.block=true:=fun p hp=>by simpa using hlt p hp
 refine ⟨ds,gs,before,[],pa,pv,hW,hres _ _ _,hargs _ hold,hvars _ hold,World.keptBut_mono (fun p hp=>⟨hp,?_⟩) (hb.frame (· ∈before)),fun _=>?_⟩
 ·rw [hps,List.mem_append] at hp
  exact Or.inr hp
 ·obtain ⟨_,_,_,_,_,hz,hn⟩:=hW
  refine ⟨hok,_,_,([]++pa)++pv,⟨[]++pa,pv,trodAll_append (hargs _ (fun _ _=>rfl)) (hres _ _ _),hvars _ (fun _ _=>rfl),rfl,?_,?_⟩,?_⟩
  ·intro b off hp
   have hin:MemPlace.cell b off∈before:=by rw [hps];simpa using hp
   rw [hb.frozen (hlt _ hin)]
   exact hz b off hin
  ·intro ha
   have:=hn ha
   rw [hps] at this
   simpa using this
  ·intro p hp _
   rw [hps]
   simpa using hp
end Go
namespace Go.Abs
end Go.Abs
namespace Go.Abs
theorem mw {σ:St} {K:AV→St→Prop} {e es bytes n m:Nat} {cs ds:List AV} {x y:AV} {h:Hold (σ,K)} (hx:slv x=some (n,cs)) (hf:fresh x) (hy:slv y=some (m,ds)) (h1:cs.length=n*es) (h2:ds.length=m*es) (h3:n+m≤maxLen) (h4:(n+m)*bytes≤140737488355328)
  (hK:∀ τ,σ.tip τ=none→K (.tsl τ (n+m) (cs++ds)) (σ.ai τ (e,es,n+m))):pq true e es bytes x y σ K h:=by
 unfold pq
 split
 ·exact hf.elim
 ·simp only [cond_true,hx,hy]
  exact ⟨hf,h1,h2,h3,h4,hK⟩
end Go.Abs
namespace Go.Abs
theorem St.ra (σ:St) {β γ:Nat} (h:γ≠β) (a b c:List AV):((σ.ad β a).ad γ b).ad β c=(σ.ad β c).ad γ b:=by
 rw [St.set_comm (σ.ad β a) h,St.set_set]
theorem St.ov (σ:St) {β γ δ:Nat} (h:γ≠β) (k:δ≠β) (a b c d:List AV):(((σ.ad β a).ad γ b).ad δ d).ad β c=((σ.ad β c).ad γ b).ad δ d:=by
 rw [St.set_comm ((σ.ad β a).ad γ b) k,St.ra σ h]
theorem St.xS (σ:St) {β γ δ ε:Nat} (h:γ≠β) (k:δ≠β) (l:ε≠β) (a b c d e:List AV):((((σ.ad β a).ad γ b).ad δ d).ad ε e).ad β c=(((σ.ad β c).ad γ b).ad δ d).ad ε e:=by
 rw [St.set_comm (((σ.ad β a).ad γ b).ad δ d) l,St.ov σ h k]
theorem St.bn (σ:St) (β:Nat) (c:List AV):(σ.ad β c).tip=σ.tip:=rfl
theorem St.bu (σ:St) (τ:Nat) (x:Nat × Nat × Nat):(σ.ai τ x).box=σ.box:=rfl
theorem St.Bb (σ:St) (τ:Nat) (x:Nat × Nat × Nat):(σ.ai τ x).glob=σ.glob:=rfl
theorem St.aW (σ:St) (τ:Nat) (x:Nat × Nat × Nat):(σ.ai τ x).tip τ=some x:=Pz
theorem St.xU (σ:St) {τ υ:Nat} (x:Nat × Nat × Nat) (h:υ≠τ):(σ.ai τ x).tip υ=σ.tip υ:=by simp [St.ai,upd,h]
theorem St.Bc {σ:St} {τ υ:Nat} {x:Nat × Nat × Nat}:(σ.ai τ x).tip υ=none↔υ≠τ∧σ.tip υ=none:=qR
theorem St.EN (σ:St) (τ β:Nat) (x:Nat × Nat × Nat) (c:List AV):(σ.ai τ x).ad β c=(σ.ad β c).ai τ x:=rfl
theorem St.eO (σ:St) (τ:Nat) (x y:Nat × Nat × Nat):(σ.ai τ x).ai τ y=σ.ai τ y:=by
 simp only [St.ai,St.mk.injEq,true_and,and_true]
 funext j;simp only [upd];split<;>rfl
theorem St.Bd (σ:St) {τ υ:Nat} (h:τ≠υ) (x y:Nat × Nat × Nat):(σ.ai τ x).ai υ y=(σ.ai υ y).ai τ x:=by
 simp only [St.ai,St.mk.injEq,true_and,and_true]
 funext j;simp only [upd]
 by_cases h1:j=τ<;>by_cases h2:j=υ<;>simp_all
theorem St.Be (σ:St) {τ υ:Nat} (h:υ≠τ) (x y z:Nat × Nat × Nat):((σ.ai τ x).ai υ y).ai τ z=(σ.ai τ z).ai υ y:=by
 rw [St.Bd (σ.ai τ x) h,St.eO]
theorem St.iB {σ σ':St} {τ:Nat} {c:Nat × Nat × Nat} (h:St.le σ σ') (hn:σ.tip τ=none):St.le σ (σ'.ai τ c):=St.fg h hn
class Apart (β γ:Nat):Prop where
 ne:β≠γ
theorem St.aG {σ:St} {β γ:Nat} {c:List AV}:(σ.ad β c).box γ=none↔(Apart γ β∧Apart β γ)∧σ.box γ=none:=by
 rw [St.qS]
 exact ⟨fun ⟨h,k⟩=>⟨⟨⟨h⟩,⟨h.symm⟩⟩,k⟩,fun ⟨h,k⟩=>⟨h.1.ne,k⟩⟩
theorem St.bC {σ:St} {τ υ:Nat} {x:Nat × Nat × Nat}:(σ.ai τ x).tip υ=none↔(Apart υ τ∧Apart τ υ)∧σ.tip υ=none:=by
 rw [St.Bc]
 exact ⟨fun ⟨h,k⟩=>⟨⟨⟨h⟩,⟨h.symm⟩⟩,k⟩,fun ⟨h,k⟩=>⟨h.1.ne,k⟩⟩
theorem St.br (σ:St) {β γ:Nat} [h:Apart γ β] (c:List AV):(σ.ad β c).box γ=σ.box γ:=St.wW σ c h.ne
theorem St.bU (σ:St) {τ υ:Nat} [h:Apart υ τ] (x:Nat × Nat × Nat):(σ.ai τ x).tip υ=σ.tip υ:=St.xU σ x h.ne
theorem St.xV (σ:St) {β γ:Nat} [h:Apart γ β] (a b c:List AV):((σ.ad β a).ad γ b).ad β c=(σ.ad β c).ad γ b:=St.ra σ h.ne a b c
theorem St.tQ (σ:St) {β γ δ:Nat} [h:Apart γ β] [k:Apart δ β] (a b c d:List AV):(((σ.ad β a).ad γ b).ad δ d).ad β c=((σ.ad β c).ad γ b).ad δ d:=St.ov σ h.ne k.ne a b c d
theorem St.tR (σ:St) {β γ δ ε:Nat} [h:Apart γ β] [k:Apart δ β] [l:Apart ε β] (a b c d e:List AV):((((σ.ad β a).ad γ b).ad δ d).ad ε e).ad β c=(((σ.ad β c).ad γ b).ad δ d).ad ε e:=St.xS σ h.ne k.ne l.ne a b c d e
theorem St.xW (σ:St) {τ υ:Nat} [h:Apart υ τ] (x y z:Nat × Nat × Nat):((σ.ai τ x).ai υ y).ai τ z=(σ.ai τ z).ai υ y:=St.Be σ h.ne x y z
class BoxIs (σ:St) (β:Nat) (c:outParam (List AV)):Prop where
 eq:σ.box β=some c
theorem St.Hj (σ:St) (β:Nat) {c:List AV} [h:BoxIs σ β c]:σ.box β=some c:=h.eq
theorem ag {σ:St} {β γ:Nat} {c:List AV} (h:BoxIs σ β c) (hn:σ.box γ=none):Apart γ β∧Apart β γ:=by
 have:γ≠β:=by rintro rfl;rw [h.eq] at hn;cases hn
 exact ⟨⟨this⟩,⟨this.symm⟩⟩
theorem ow:maxLen≤9223372036854775807:=O9
theorem Hk {k:Nat} (h:k<9223372036854775807):IntKind.i64.wrap ((k:Int)+1)=((k+1:Nat):Int):=by
 rw [wrap64 Oz Oz];simp
theorem Hl {k:Nat} (h:k<9223372036854775807):wk (.int .i64 (IntKind.i64.wrap ((k:Int)+1))) (.int .i64 ((k+1:Nat):Int)):=af (by rw [Hk h])
theorem xX {P:Program} {x:CC} {fr:Fr} {σ:St} {Q:Exit→Fr→St→Prop} {h:Hold (x,σ,Q)} {α:Type} (t e s n:Nat) (cs:List AV) (F:Nat→α→Fr) (S:Nat→α→St) (I:α→Prop) (μ:α→Nat) (a0:α)
  (hf:fresh (slot t fr)) (hs:slv (slot t fr)=some (n,cs)) (h0:I a0) (hF:∀ τ,σ.tip τ=none→aK (F τ a0) ((t, .tsl τ n cs)::fr)) (hS:∀ τ,σ.tip τ=none→St.le (S τ a0) (σ.ai τ (e,s,n)))
  (hr:∀ τ,σ.tip τ=none→∀ a,I a→aC P x (F τ a) (S τ a) (fl (fun fr' σ'=>∃ b,I b∧aK (F τ b) fr'∧St.le (S τ b) σ'∧μ b<μ a) Q)):oe P x fr σ Q h:=by
 refine ⟨[(false,t,0,e,s)],?_⟩
 simp only [cb]
 refine ⟨hf,?_⟩
 rw [hs]
 intro τ hτ
 refine ⟨α,F τ,S τ,I,μ,a0,h0,hF τ hτ,hS τ hτ,fun a ha=>?_⟩
 have:=hr τ hτ a ha
 unfold fl at this
 exact this
theorem bx {σ:St} {K:AV→St→Prop} {tp:Bool} {e es bytes τ n m:Nat} {cs ds:List AV} {y:AV} {h:Hold (σ,K)} (hy:slv y=some (m,ds)) (ht:σ.tip τ=some (e,es,n)) (h1:cs.length=n*es) (h2:ds.length=m*es) (h3:n+m≤maxLen) (h4:(n+m)*bytes≤140737488355328)
  (hK:K (.tsl τ (n+m) (cs++ds)) (σ.ai τ (e,es,n+m))):pq tp e es bytes (.tsl τ n cs) y σ K h:=by
 rw [qQ hy];exact ⟨ht,h1,h2,h3,h4,hK⟩
theorem my {P:Program} {x:CC} {fr:Fr} {σ:St} {Q:Exit→Fr→St→Prop} {h:Hold (x,σ,Q)} (N t e s n:Nat) (cs:List AV) (F:Nat→Nat→Fr) (S:Nat→Nat→St) (I:Nat→Prop)
  (hf:fresh (slot t fr)) (hs:slv (slot t fr)=some (n,cs)) (h0:I 0) (hF:∀ τ,aK (F τ 0) ((t, .tsl τ n cs)::fr)) (hS:∀ τ,σ.tip τ=none→St.le (S τ 0) (σ.ai τ (e,s,n)))
  (hr:∀ τ,σ.tip τ=none→∀ k,k≤N→I k→aC P x (F τ k) (S τ k) (fl (fun fr' σ'=>k<N∧I (k+1)∧aK (F τ (k+1)) fr'∧St.le (S τ (k+1)) σ') Q)):oe P x fr σ Q h:=by
 refine xX (α:=Nat) t e s n cs F S (fun k=>k≤N∧I k) (fun k=>N - k) 0 hf hs ⟨Nat.zero_le _,h0⟩ (fun τ _=>hF τ) hS (fun τ hτ k hk=>?_)
 refine cg _ _ _ (hr τ hτ k hk.1 hk.2) (fun e fr' σ' hq=>?_)
 unfold fl at hq ⊢
 cases e with
 | normal=>simp only at hq ⊢;exact ⟨k+1,⟨hq.1,hq.2.1⟩,hq.2.2.1,hq.2.2.2,by omega⟩
 | _=>exact hq
def Tp (P:Program) (f:Nat) (xs:List AV) (e es n:Nat) (cs:List AV):Prop:=∀ σ,AC P f xs σ (fun r s=>∃ τ,σ.tip τ=none∧r= .tsl τ n cs∧s=σ.ai τ (e,es,n))
theorem Tp.to {P:Program} {f:Nat} {xs ys:List AV} {e es n:Nat} {cs:List AV} {σ:St} {K:AV→St→Prop} (h:Tp P f ys e es n cs) (hw:wkL xs ys) (hK:∀ τ,σ.tip τ=none→K (.tsl τ n cs) (σ.ai τ (e,es,n))):AC P f xs σ K :=
 ((h σ).wk hw).mono fun r s ⟨τ,h1,h2,h3⟩=>by rw [h2,h3];exact hK τ h1
theorem rb {res:List RV} {e1:Exit} {fr:Fr} {σ0 σ:St} {n:Nat} {cs:List AV} {x:Nat × Nat × Nat} (τ:Nat) (hτ:σ0.tip τ=none) (he:e1= .ret∨e1= .normal) (hs:aw σ fr res) (hw:wk (eV (res.map (rvV σ fr))) (.tsl τ n cs)) (hl:St.le (σ0.ai τ x) σ) :
  fL res (fun r s=>∃ τ,σ0.tip τ=none∧r= .tsl τ n cs∧s=σ0.ai τ x) e1 fr σ:=aA he hs hw hl ⟨τ,hτ,rfl,rfl⟩
def St.lw (s s':St):Prop:=(∀ β c,s.box β=some c→∃ c',s'.box β=some c'∧wkL c' c)∧(∀ τ x,s.tip τ=some x→s'.tip τ=some x)∧(∀ k c,s.glob k=some c→s'.glob k=some c)∧(∀ l r,s.lp l=some r→s'.lp l=some r)∧(∀ β T,s.bt β=some T→s'.bt β=some T)
theorem St.an (s:St):St.lw s s:=⟨fun _ c h=>⟨c,h,aa c⟩,fun _ _ h=>h,fun _ _ h=>h,fun _ _ h=>h,fun _ _ h=>h⟩
theorem St.jM {s s':St} (h:St.le s s'):St.lw s s':=⟨fun _ c k=>⟨c,h.1 _ _ k,aa c⟩,h.2.1,h.2.2⟩
theorem St.eC {s s':St} {β:Nat} {c c':List AV} (h:St.lw s s') (hc:wkL c' c):St.lw (s.ad β c) (s'.ad β c'):=by
 refine ⟨fun γ d hd=>?_,h.2⟩
 simp only [St.ad,upd] at hd ⊢
 split
 ·rename_i e;rw [if_pos e] at hd;cases hd;exact ⟨c',rfl,hc⟩
 ·rename_i e;rw [if_neg e] at hd;exact h.1 γ d hd
theorem St.c7 {s s':St} {β:Nat} {c:List AV} (h:St.lw s s') (hn:s.box β=none):St.lw s (s'.ad β c):=by
 refine ⟨fun γ d hd=>?_,h.2⟩
 simp only [St.ad,upd]
 split
 ·rename_i e;subst e;rw [hn] at hd;cases hd
 ·exact h.1 γ d hd
theorem St.eh {s s':St} {τ:Nat} {x:Nat × Nat × Nat} (h:St.lw s s') (hn:s.tip τ=none):St.lw s (s'.ai τ x):=by
 refine ⟨h.1,fun υ y hy=>?_,h.2.2⟩
 simp only [St.ai,upd]
 split
 ·rename_i e;subst e;rw [hn] at hy;cases hy
 ·exact h.2.1 υ y hy
theorem St.dw {s s':St} {τ:Nat} {x:Nat × Nat × Nat} (h:St.lw s s'):St.lw (s.ai τ x) (s'.ai τ x):=by
 refine ⟨h.1,fun υ y hy=>?_,h.2.2⟩
 simp only [St.ai,upd] at hy ⊢
 split
 ·rename_i e;rw [if_pos e] at hy;exact hy
 ·rename_i e;rw [if_neg e] at hy;exact h.2.1 υ y hy
theorem Inv.lw {g:Gh} {s s':St} {w:World} (h:Inv g s' w) (hl:St.lw s s'):Inv g s w:=by
 refine ⟨fun β c hc=>?_,fun β b hb=>⟨(h.boxcl β b hb).1,fun hn=>(h.boxcl β b hb).2 (fun hs=>hn (by
  cases hq:s.box β with
  | none=>rfl
  | some c=>obtain ⟨c',e,_⟩:=hl.1 _ _ hq;rw [e] at hs;cases hs))⟩,h.boxinj,h.boxfresh,fun τ e z n hx=>h.tip τ e z n (hl.2.1 _ _ hx),fun τ τ' x x' v v' b hx hx'=>h.tipinj τ τ' x x' v v' b (hl.2.1 _ _ hx) (hl.2.1 _ _ hx'),h.tipfresh,fun k c hc=>h.glob k c (hl.2.2.1 _ _ hc),fun l r hr=>h.lp l r (hl.2.2.2.1 _ _ hr),fun β T hb=>h.bty β T (hl.2.2.2.2 _ _ hb)⟩
 obtain ⟨c',h1,h2⟩:=hl.1 β c hc
 obtain ⟨b,vs,T,k1,k2,k3⟩:=h.box β c' h1
 exact ⟨b,vs,T,k1,k2,jJ h2 k3.1,k3.2⟩
theorem AC.wkd {P:Program} {f:Nat} {xs:List AV} {σ:St} {R R':AV→St→Prop} (h:AC P f xs σ R) (hr:∀ r s,R r s→∃ r' s',Go.Abs.wk r r'∧St.lw s' s∧R' r' s'):AC P f xs σ R':=by
 have hcp:∀ g w e w',CP g w R e w'→CP g w R' e w':=by
  rintro g w e w' ⟨v,r,σ',g',h1,h2,h3,h4,h5⟩
  obtain ⟨r',s',k1,k2,k3⟩:=hr _ _ h2
  exact ⟨v,r',s',g',h1,k3,h3.lw k2,h4,k1 _ _ _ h5⟩
 intro g w vs hI hv
 rcases h g w vs hI hv with ⟨h1,h2⟩|⟨v,w',h1,h2⟩
 ·exact .inl ⟨h1,h2.mono fun e w'=>hcp g w e w'⟩
 ·exact .inr ⟨v,w',h1,hcp _ _ _ _ h2⟩
theorem xY {P:Program} {f:Nat} {xs:List AV} {σ:St} {r0:AV} {s0:St} (cf:CF) (hf:fB P f cf=true) (hn:xs.length≤cf.n) (h:aC P cf.body (dT 0 xs) σ (fL cf.res (fun r s=>wk r r0∧St.lw s0 s))):AC P f xs σ (fun r s=>r=r0∧s=s0) :=
 (jL cf hf hn h).wkd fun _ _ ⟨h1,h2⟩=>⟨r0,s0,h1,h2,rfl,rfl⟩
theorem Hm {res:List RV} {e1:Exit} {fr:Fr} {s0 σ:St} {r0:AV} (he:e1= .ret∨e1= .normal) (hs:aw σ fr res) (hw:wk (eV (res.map (rvV σ fr))) r0) (hl:St.lw s0 σ):fL res (fun r s=>wk r r0∧St.lw s0 s) e1 fr σ :=
 aA he hs (ae _) (St.le_refl _) ⟨hw,hl⟩
theorem pE {a b c d:List AV} (h:wkL a b) (k:wkL c d):wkL (a++c) (b++d):=by
 induction h with
 | nil=>exact k
 | cons h1 _ ih=>exact .cons h1 ih
theorem EO {res:List RV} {R:AV→St→Prop} {e1:Exit} {fr:Fr} {σ:St} (he:e1= .ret∨e1= .normal) (hs:aw σ fr res) (h:R (eV (res.map (rvV σ fr))) σ):fL res R e1 fr σ :=
 aA he hs (ae _) (St.le_refl _) h
theorem bz {tp:Bool} {σ:St} {K:AV→St→Prop} {c e es bytes τ n m:Nat} {cs ds:List AV} {y:AV} {h:Hold (σ,K)} (hc:c=2∨c=4) (hy:slv y=some (m,ds)) (ht:σ.tip τ=some (e,es,n)) (h1:cs.length=n*es) (h2:ds.length=m*es) (h3:n+m≤maxLen) (h4:(n+m)*bytes≤140737488355328)
  (hK:K (.tsl τ (n+m) (cs++ds)) (σ.ai τ (e,es,n+m))):EC tp c e es bytes (.tsl τ n cs) y σ K h:=by
 have key:∀ β,appS tp c e es bytes (.tsl τ n cs) y σ K β:=by
  intro β
  refine ⟨_,_,⟨hc,?_⟩,hK⟩
  rw [hy]
  exact ⟨ht,h1,h2,h3,h4,rfl,rfl⟩
 unfold EC
 cases tp&&Nat.beq c 4
 ·exact key 0
 ·exact fun β _=>key β
theorem St.jN {s s':St} {τ:Nat} {x:Nat × Nat × Nat} (h:St.le s s'):St.le (s.ai τ x) (s'.ai τ x):=by
 refine ⟨h.1,fun υ y hy=>?_,h.2.2⟩
 simp only [St.ai,upd] at hy ⊢
 split
 ·rename_i e;rw [if_pos e] at hy;exact hy
 ·rename_i e;rw [if_neg e] at hy;exact h.2.1 υ y hy
def R3:=JR (ax6 @Bool.and_true @Bool.true_and @Bool.and_false @Bool.false_and @Bool.or_true @Bool.true_or) (ax6 @Bool.or_false @Bool.false_or @qQ @St.bo @St.Hj @St.br) (ax6 @St.set_set @St.xV @St.tQ @St.tR @St.bn @St.bu) (ax6 @St.Bb @St.aW @St.bU @St.EN @St.eO @St.xW) (ax6 @St.Ai @Nat.zero_add @Nat.add_zero @true_and @and_true @beq_true) (ax6 @beq_false @Int.toNat_natCast @IntKind.max_i64 @true_implies @false_implies @and_self) (ax6 @Bool.not_true @Bool.not_false @Bool.cond_true_left @Bool.cond_false_left @Bool.cond_true_right @Bool.cond_false_right) (ax6 @imp_self @Bool.not_eq_true' @Int.toNat_zero @Nat.sub_zero @Nat.zero_mul @List.length_cons.{0}) (ax6 @List.length_nil.{0} @List.take_succ_cons.{0} @List.take_zero.{0} @List.drop_succ_cons.{0} @List.drop_zero.{0} @List.cons_append.{0}) (ax6 @List.nil_append.{0} @List.append_nil.{0} @List.getElem?_cons_zero.{0} @List.getElem?_cons_succ.{0} @Option.getD_some.{0} @Option.isSome_some.{0}) (ax6 @Option.isSome_none.{0} @bne_self_eq_false.{0} @beq_self_eq_true.{0} @Option.toList_none.{0} @Option.toList_some.{0} @Option.map_some.{0,0}) (ax6 @List.map_cons.{0,0} @List.map_nil.{0,0} @Option.map_none.{0,0} @cond_true.{1} @cond_true.{0} @cond_false.{1}) (ax6 @cond_false.{0} @ite_true.{1} @ite_true.{0} @ite_false.{1} @ite_false.{0} @if_true.{1}) (ax6 @if_true.{0} @if_false.{1} @if_false.{0} @implies_true.{1} @implies_true.{0} @forall_const.{1}) (ax3 @forall_const.{0} @eq_self.{1} (@eq_self.{0}))
def vo (Q:Exit→Fr→St→Prop):Exit→Fr→St→Prop:=fun e fr σ=>match e with
 | .panic _=>False
 | e=>Q e fr σ
def Bf (P:Program) (y:CX) (Q:Exit→Fr→St→Prop):Exit→Fr→St→Prop:=fun e fr σ=>match e with
 | .normal=>aX P y fr σ Q
 | e=>Q e fr σ
def mz (id:Nat) (Q:Exit→Fr→St→Prop):Exit→Fr→St→Prop:=fun e fr σ=>match e with
 | .exit j=>if j=id then Q .normal fr σ else Q (.exit j) fr σ
 | e=>Q e fr σ
def fM (N:Fr→St→Prop) (Q:Exit→Fr→St→Prop):Exit→Fr→St→Prop:=fun e fr σ=>match e with
 | .normal=>N fr σ
 | e=>Q e fr σ
def ox (P:Program) (v:AV) (x y:CX) (fr:Fr) (σ:St) (Q:Exit→Fr→St→Prop) (_:Hold (x,y,fr,σ,Q)):Prop:=match v with
 | .bool t=>(t=true→aX P x fr σ Q)∧(t=false→aX P y fr σ Q)
 | _=>False
def Gl (P:Program) (fr:Fr) (x:CX) (σ:St) (Q:Exit→Fr→St→Prop) (_:Hold (x,σ,Q)):Prop:=aX P x fr σ Q
def oy (P:Program) (x:CX) (fr:Fr) (σ:St) (Q:Exit→Fr→St→Prop) (_:Hold (x,σ,Q)):Prop:=aX P (.loop x) fr σ Q
def Gm (P:Program) (l:List XI) (Q:Exit→Fr→St→Prop):Fr→St→Prop:=fun fr σ=>cm P l fr σ Q
def re (P:Program) (f:Nat) (as:List AV) (σ:St) (d:Option Nat) (l:List XI) (fr:Fr) (Q:Exit→Fr→St→Prop) (_:Hold (σ,l,fr,Q)):Prop :=
 AX P f as σ (fun b r s=>bif b then Q (.panic []) [(0,r)] s else cm P l (putF d r fr) s Q)
def Bg (P:Program) (x:AV) (as:List AV) (σ:St) (d:Option Nat) (l:List XI) (fr:Fr) (Q:Exit→Fr→St→Prop) (_:Hold (σ,l,fr,Q)):Prop:=match x with
 | .fn f cap=>AX P f (as++cap) σ (fun b r s=>bif b then Q (.panic []) [(0,r)] s else cm P l (putF d r fr) s Q)
 | _=>False
theorem gB {P:Program}:∀ (l:List XI) {fr:Fr} {σ:St} {Q Q':Exit→Fr→St→Prop},cm P l fr σ Q→(∀ e f s,Q e f s→Q' e f s)→cm P l fr σ Q'
  | [],_,_,_,_,h,hk=>hk _ _ _ h
  | .o i::l,fr,σ,Q,Q',h,hk=>dU [i] h fun f s hh=>gB l hh hk
  | .c d f args :: l, fr, σ, Q, Q', h, hk => AX.mono h fun b r s hb => by
    cases b with
    | false=>exact gB l hb hk
    | true=>exact hk _ _ _ hb
  | .v d x args :: l, fr, σ, Q, Q', h, hk => by
    simp only [cm] at h ⊢
    split at h
    · exact AX.mono h fun b r s hb=>by
        cases b with
        | false=>exact gB l hb hk
        | true=>exact hk _ _ _ hb
    · exact h
theorem fm {P:Program} {fr:Fr} {σ:St} {K K':Fr→St→Prop} {R R':AV→St→Prop} (x:XI) (h:fT P x fr σ K R) (hk:∀ f s,K f s→K' f s) (hr:∀ r s,R r s→R' r s):fT P x fr σ K' R':=by
  cases x with
  | o i=>exact dU [i] h hk
  | c d f args=>exact AX.mono h fun b r s hb=>by cases b with|false=>exact hk _ _ hb|true=>exact hr _ _ hb
  | v d x args =>
    simp only [fT] at h ⊢
    split at h
    · exact AX.mono h fun b r s hb=>by cases b with|false=>exact hk _ _ hb|true=>exact hr _ _ hb
    · exact h
theorem EP {P:Program}:∀ (c:CX) (fr:Fr) (σ:St) {Q Q':Exit→Fr→St→Prop},aX P c fr σ Q→(∀ e fr σ,Q e fr σ→Q' e fr σ)→aX P c fr σ Q':=by
  intro c
  induction c with
  | base c=>intro fr σ Q Q' h hq;exact cg c fr σ h fun e f s hh=>by cases e<;>first|exact hh|exact hq _ _ _ hh
  | opsX l=>intro fr σ Q Q' h hq;exact gB l h hq
  | dead=>intro fr σ Q Q' h hq;exact h
  | invX l dp =>
    intro fr σ Q Q' h hq
    obtain ⟨I,h0,h1,h2⟩:=h
    exact ⟨I,h0,fun D j x hx hd ha fr σ hI=>fm x (h1 D j x hx hd ha fr σ hI) (fun _ _ h=>h) (fun _ _ h=>hq _ _ _ h),fun D fr σ hj hI=>hq _ _ _ (h2 D fr σ hj hI)⟩
  | seq x y ihx ihy=>intro fr σ Q Q' h hq;exact ihx fr σ h fun e f s hh=>by cases e<;>first|exact ihy _ _ hh hq|exact hq _ _ _ hh
  | cond b x y ihx ihy =>
    intro fr σ Q Q' h hq
    simp only [aX] at h ⊢
    split at h
    · exact ⟨fun ht=>ihx _ _ (h.1 ht) hq,fun ht=>ihy _ _ (h.2 ht) hq⟩
    · exact h
  | block id x ih =>
    intro fr σ Q Q' h hq
    refine ih fr σ h fun e f s hh=>?_
    cases e with
    | exit j =>
      simp only at hh ⊢
      split
      · rename_i hj;rw [if_pos hj] at hh;exact hq _ _ _ hh
      · rename_i hj;rw [if_neg hj] at hh;exact hq _ _ _ hh
    | _=>exact hq _ _ _ hh
  | keep ts x ih=>intro fr σ Q Q' h hq;exact ih _ σ h hq
  | loop x ih =>
    intro fr σ Q Q' h hq
    obtain ⟨regs,h⟩:=h
    refine ⟨regs,dj regs h ?_⟩
    rintro fr0 σ0 ⟨α,F,S,I,μ,a0,h0,h1,h2,h3⟩
    exact ⟨α,F,S,I,μ,a0,h0,h1,h2,fun a ha=>ih _ _ (h3 a ha) fun e f s hh=>by cases e<;>first|exact hh|exact hq _ _ _ hh⟩
section
variable {P:Program} {fr:Fr} {σ:St} {Q:Exit→Fr→St→Prop} {x y:CX} {l:List XI} {d:Option Nat} {as bs:List AV} {f:Nat}
theorem ER {c:CC}:aX P (.base c) fr σ Q=aC P c fr σ (vo Q):=rfl
theorem ES:aX P (.opsX l) fr σ Q=cm P l fr σ Q:=rfl
theorem Hn:aX P (.seq x y) fr σ Q=aX P x fr σ (Bf P y Q):=rfl
theorem ET {b:Od}:aX P (.cond b x y) fr σ Q=ox P (ev σ fr b) x y fr σ Q ⟨⟩:=rfl
theorem Bh {id:Nat}:aX P (.block id x) fr σ Q=aX P x fr σ (mz id Q):=rfl
theorem EU {ts:List Nat}:aX P (.keep ts x) fr σ Q=Gl P (gN ts fr) x σ Q ⟨⟩:=rfl
theorem EV:aX P (.loop x) fr σ Q=oy P x fr σ Q ⟨⟩:=rfl
theorem Bi {h:Hold (x,σ,Q)}:Gl P fr x σ Q h=aX P x fr σ Q:=rfl
theorem xZ:cm P [] fr σ Q=Q .normal fr σ:=rfl
theorem EW {i:CI}:cm P (.o i::l) fr σ Q=cA P [i] fr σ (Gm P l Q):=rfl
theorem EX {args:List Od}:cm P (.c d f args::l) fr σ Q=re P f (args.map (ev σ fr)) σ d l fr Q ⟨⟩:=rfl
theorem EY {v:Od} {args:List Od}:cm P (.v d v args::l) fr σ Q=Bg P (ev σ fr v) (args.map (ev σ fr)) σ d l fr Q ⟨⟩:=rfl
theorem Bj:Gm P l Q fr σ=cm P l fr σ Q:=rfl
theorem x3 {cap:List AV} {h:Hold (σ,l,fr,Q)}:Bg P (.fn f cap) as σ d l fr Q h=re P f (as++cap) σ d l fr Q ⟨⟩:=rfl
theorem pF:vo Q .normal fr σ=Q .normal fr σ:=rfl
theorem tT {j:Nat}:vo Q (.exit j) fr σ=Q (.exit j) fr σ:=rfl
theorem x4:vo Q .ret fr σ=Q .ret fr σ:=rfl
theorem rf:Bf P y Q .normal fr σ=aX P y fr σ Q:=rfl
theorem x5 {j:Nat}:Bf P y Q (.exit j) fr σ=Q (.exit j) fr σ:=rfl
theorem Bl:Bf P y Q .ret fr σ=Q .ret fr σ:=rfl
theorem tU {ch:List PanicEntry}:Bf P y Q (.panic ch) fr σ=Q (.panic ch) fr σ:=rfl
theorem nF {id:Nat}:mz id Q .normal fr σ=Q .normal fr σ:=rfl
theorem rh {id j:Nat}:mz id Q (.exit j) fr σ=if j=id then Q .normal fr σ else Q (.exit j) fr σ:=rfl
theorem tV {id:Nat}:mz id Q .ret fr σ=Q .ret fr σ:=rfl
theorem pG {id:Nat} {ch:List PanicEntry}:mz id Q (.panic ch) fr σ=Q (.panic ch) fr σ:=rfl
theorem nG {N:Fr→St→Prop}:fM N Q .normal fr σ=N fr σ:=rfl
theorem ri {N:Fr→St→Prop} {j:Nat}:fM N Q (.exit j) fr σ=Q (.exit j) fr σ:=rfl
theorem tW {N:Fr→St→Prop}:fM N Q .ret fr σ=Q .ret fr σ:=rfl
theorem pH {N:Fr→St→Prop} {ch:List PanicEntry}:fM N Q (.panic ch) fr σ=Q (.panic ch) fr σ:=rfl
theorem tX {h:Hold (x,y,fr,σ,Q)}:ox P (.bool true) x y fr σ Q h=aX P x fr σ Q:=by simp [ox]
theorem rj {h:Hold (x,y,fr,σ,Q)}:ox P (.bool false) x y fr σ Q h=aX P y fr σ Q:=by simp [ox]
theorem cq {c:Bool} {h:Hold (x,y,fr,σ,Q)} (h1:c=true→aX P x fr σ Q) (h2:c=false→aX P y fr σ Q):ox P (.bool c) x y fr σ Q h:=⟨h1,h2⟩
theorem Bm {α:Type} (F:α→Fr) (S:α→St) (I:α→Prop) (μ:α→Nat) (a0:α) {h:Hold (x,σ,Q)} (hf:aK (F a0) fr) (hs:St.le (S a0) σ) (h0:I a0)
  (hr:∀ a,I a→aX P x (F a) (S a) (fM (fun fr' σ'=>∃ b,I b∧aK (F b) fr'∧St.le (S b) σ'∧μ b<μ a) Q)):oy P x fr σ Q h :=
 ⟨[],α,F,S,I,μ,a0,h0,hf,hs,fun a ha=>hr a ha⟩
theorem mA {α:Type} (regs:List (Bool × Nat × Nat × Nat × Nat)) {h:Hold (x,σ,Q)} (hr:cb regs fr σ fun fr0 σ0=>∃ (F:α→Fr) (S:α→St) (I:α→Prop) (μ:α→Nat) (a0:α),I a0∧aK (F a0) fr0∧St.le (S a0) σ0 ∧
   ∀ a,I a→aX P x (F a) (S a) (fM (fun fr' σ'=>∃ b,I b∧aK (F b) fr'∧St.le (S b) σ'∧μ b<μ a) Q)):oy P x fr σ Q h:=by
 refine ⟨regs,?_⟩
 exact dj regs hr fun fr0 σ0 ⟨F,S,I,μ,a0,h1,h2,h3,h4⟩=>⟨α,F,S,I,μ,a0,h1,h2,h3,fun a ha=>h4 a ha⟩
theorem oz (n:Nat) (F:Nat→Fr) (S:Nat→St) (I:Nat→Prop) {h:Hold (x,σ,Q)} (hf:aK (F 0) fr) (hs:St.le (S 0) σ) (h0:I 0)
  (hr:∀ k,k≤n→I k→aX P x (F k) (S k) (fM (fun fr' σ'=>k<n∧I (k+1)∧aK (F (k+1)) fr'∧St.le (S (k+1)) σ') Q)):oy P x fr σ Q h:=by
 refine Bm F S (fun k=>k≤n∧I k) (fun k=>n - k) 0 hf hs ⟨Nat.zero_le _,h0⟩ (fun k ⟨hk,hI⟩=>?_)
 refine EP _ _ _ (hr k hk hI) ?_
 intro ex fr' σ' hx
 cases ex<;>simp only [fM] at hx ⊢ <;>try exact hx
 exact ⟨k+1,⟨hx.1,hx.2.1⟩,hx.2.2.1,hx.2.2.2,by omega⟩
end
abbrev Ft:=Int × Int
def iT (T:Nat) (f:Ft):AV:= .ifc T (.agg [.int .i64 f.1, .int .i64 f.2])
def oX {α:Type} (T:Nat) (o:Except Ft α) (t:α→AV) (s1:α→St) (s0:St) (b:Bool) (r:AV) (s:St):Prop:=match b with
 | false=>∃ a,o= .ok a∧r=t a∧s=s1 a
 | true=>∃ f,o= .error f∧r=iT T f∧s=s0
def oXW {α:Type} (T:Nat) (o:Except Ft α) (t:α→AV) (s1:α→St) (s0:St) (b:Bool) (r:AV) (s:St):Prop:=match b with
 | false=>∃ a,o= .ok a∧wk r (t a)∧St.lw (s1 a) s
 | true=>∃ f,o= .error f∧wk r (iT T f)∧St.lw s0 s
section
variable {P:Program} {fr:Fr} {σ:St} {Q:Exit→Fr→St→Prop} {l:List XI} {d:Option Nat} {as bs:List AV} {f T:Nat} {α:Type} {o:Except Ft α} {t:α→AV} {s1:α→St} {s0:St}
theorem AX.wk {R:Bool→AV→St→Prop} (h:AX P f bs σ R) (hw:wkL as bs):AX P f as σ R:=fun g w vs hI hv=>h g w vs hI (jJ hw hv)
theorem AX.wkd {R R':Bool→AV→St→Prop} (h:AX P f as σ R) (hr:∀ b r s,R b r s→∃ r' s',Go.Abs.wk r r'∧St.lw s' s∧R' b r' s'):AX P f as σ R':=by
 have hcp:∀ g w e w',CPX g w R e w'→CPX g w R' e w':=by
  rintro g w e w' ⟨v,r,σ',g',(⟨h1,h2⟩|⟨h1,h2⟩),h3,h4,h5⟩
  ·obtain ⟨r',s',k1,k2,k3⟩:=hr _ _ _ h2
   exact ⟨v,r',s',g', .inl ⟨h1,k3⟩,h3.lw k2,h4,k1 _ _ _ h5⟩
  ·obtain ⟨r',s',k1,k2,k3⟩:=hr _ _ _ h2
   exact ⟨v,r',s',g', .inr ⟨h1,k3⟩,h3.lw k2,h4,k1 _ _ _ h5⟩
 intro g w vs hI hv
 rcases h g w vs hI hv with ⟨h1,h2⟩|⟨v,w',h1,h2⟩
 ·exact .inl ⟨h1,h2.mono fun e w'=>hcp g w e w'⟩
 ·exact .inr ⟨v,w',h1,hcp _ _ _ _ h2⟩
theorem x6 (cf:CFX) (hf:fX P f cf=true) (hn:as.length≤cf.n) (h:aX P cf.body (dT 0 as) σ (pA cf.res (oXW T o t s1 s0))):AX P f as σ (oX T o t s1 s0) :=
 (qV cf hf hn h).wkd fun b r s hb=>by
  cases b with
  | false=>obtain ⟨a,h1,h2,h3⟩:=hb;exact ⟨t a,s1 a,h2,h3,a,h1,rfl,rfl⟩
  | true=>obtain ⟨a,h1,h2,h3⟩:=hb;exact ⟨_,s0,h2,h3,a,h1,rfl,rfl⟩
theorem aH {h:Hold (σ,l,fr,Q)} (hp:AX P f bs σ (oX T o t s1 s0)) (hw:wkL as bs) (h1:∀ a,o= .ok a→cm P l (putF d (t a) fr) (s1 a) Q) (h2:∀ e,o= .error e→Q (.panic []) [(0,iT T e)] s0):re P f as σ d l fr Q h:=by
 refine (hp.wk hw).mono fun b r s hb=>?_
 cases b with
 | false=>obtain ⟨a,k1,rfl,rfl⟩:=hb;exact h1 a k1
 | true=>obtain ⟨a,k1,rfl,rfl⟩:=hb;exact h2 a k1
theorem lP {res:List RV} {e:Exit} {a:α} (he:e= .ret∨e= .normal) (ho:o= .ok a) (hs:aw σ fr res) (hw:wk (eV (res.map (rvV σ fr))) (t a)) (hl:St.lw (s1 a) σ):pA res (oXW T o t s1 s0) e fr σ:=by
 have:fL res (oXW T o t s1 s0 false) e fr σ:=aA he hs (ae _) (St.le_refl _) ⟨a,ho,hw,hl⟩
 rcases he with rfl|rfl<;>exact this
theorem ax {res:List RV} {ch:List PanicEntry} {e:Ft} (ho:o= .error e) (hl:St.lw s0 σ):pA res (oXW T o t s1 s0) (.panic ch) [(0,iT T e)] σ :=
 ⟨σ,St.le_refl _,e,ho,ae _,hl⟩
end
section
variable {P:Program} {f T:Nat} {xs:List AV} {α:Type} {o:Except Ft α} {t:α→AV} {s1:α→St} {s0 σ:St}
theorem bF {res:List RV} {e:Exit} {fr:Fr} {a:α} (ho:o= .ok a) (hw:wk (eV (res.map (rvV σ fr))) (t a)) (hl:St.lw (s1 a) σ) (hs:aw σ fr res:=by simp [aw,rvS]) (he:e= .ret∨e= .normal:=by simp):pA res (oXW T o t s1 s0) e fr σ:=lP he ho hs hw hl
theorem aB (cf:CFX) (hf:fX P f cf=true) (h:aX P cf.body (dT 0 xs) σ (pA cf.res (oXW T o t s1 s0))) (hn:xs.length≤cf.n:=by exact Nat.le_of_ble_eq_true rfl):AX P f xs σ (oX T o t s1 s0):=x6 cf hf hn h
theorem EZ {R:Bool→AV→St→Prop} (cf:CFX) (hf:fX P f cf=true) (h:aX P cf.body (dT 0 xs) σ (pA cf.res R)) (hn:xs.length≤cf.n:=by exact Nat.le_of_ble_eq_true rfl):AX P f xs σ R:=qV cf hf hn h
end
def RX:=Dy (ax2 @ER @ES) (ax2 @Hn @ET) (ax2 @Bh @EU) (ax2 @EV @Bi) (ax2 @xZ @EW) (ax2 @EX @EY) (ax2 @Bj @x3) (ax2 @pF @tT) (ax2 @x4 @rf) (ax2 @x5 @Bl) (ax2 @tU @nF) (ax2 @rh @tV) (ax2 @pG @nG) (ax2 @ri @tW) (ax2 @pH @tX) @rj
end Go.Abs
