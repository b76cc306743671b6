/- Part 11 of the proof of ScriptTexts: an abstract semantics that is proved sound for the model, contracts of functions in it, and plain facts (Abs10 Abs11 Abs12 Abs13 Abs15). No condition. -/
import Derived.Test.YtgephffbfiemeaaGreatDoorKScriptTexts10
import Derived.Scope
import Derived.Control
import Derived.TacticsIn
import Derived.RangeFuncRecord
set_option linter.all false
namespace Go.Abs
inductive AT where
 | done
 | stop
 | alt (j:Nat) (i:CI) (sub oth:AT)
def ql (P:Program):AT→Fr→St→(Fr→St→Prop)→Prop
 | .done,fr,σ,K=>K fr σ
 | .stop,_,_,_=>True
 | .alt _ i sub oth,fr,σ,K=>cI P [i] fr σ (fun fr' σ'=>ql P sub fr' σ' K)∧ql P oth fr σ K
def qm (P:Program) (N:Nat) (ops:Array Oper):AT→Array Bool→Option (List Nat)→Bool
  | .done,listed,m=>m.isNone&&(Region.ready .any ops listed).isEmpty
  | .stop,_,m=>match m with|some []=>true|_=>false
  | .alt j i sub oth, listed, m => match m.getD (Region.ready .any ops listed) with
    | k :: r => Nat.beq j k && (match ops[k]? with
      | some o=>(o.dst == i.d)&&dB N i.d&&gdB ops o.guard i.gd&&lk2 P o.op i.op
      | none=>false)&&qm P N ops sub (listed.setIfInBounds k true) none&&qm P N ops oth listed (some r)
    | []=>false
inductive CC where
 | skip
 | ops (l:List CI)
 | drw (l:List CI) (cls:List Nat)
 | any (t:AT)
 | inv (l:List CI) (dp:List (List Nat))
 | seq (x y:CC)
 | cond (c:Od) (x y:CC)
 | block (id:Nat) (x:CC)
 | scope (x:CC)
 | loop (x:CC)
 | keep (ts:List Nat) (x:CC)
 | exit (id:Nat)
 | ret
 | rfun (x:Od) (ps:List Nat) (asg body:CC)
 | frz (t es:Nat) (x:CC)
def Mv (d s:Nat):CI:=⟨some d, .mv (.t s),none⟩
def Mi (d:Nat) (n:Int):CI:=⟨some d, .mv (.c (.int .i64 n)),none⟩
def Lv (d s:Nat):CI:=⟨some d, .ld none (.t s),none⟩
def Lw (d n s:Nat):CI:=⟨some d, .ld (some n) (.t s),none⟩
def Fa (d k s:Nat):CI:=⟨some d, .fldA k (.t s),none⟩
def Sv (n p s:Nat):CI:=⟨none, .st n (.t p) (.t s),none⟩
def Pa (d a b:Nat):CI:=⟨some d, .pick (.t a) (.t b) (.c (.bool false)),none⟩
def Po (d a b:Nat):CI:=⟨some d, .pick (.t a) (.c (.bool true)) (.t b),none⟩
def Ex (d s i:Nat):CI:=⟨some d, .ext (.t s) i,none⟩
def Ou (d:Nat) (o:CO):CI:=⟨some d,o,none⟩
def Ot (d:Nat) (o:CO) (j:Nat):CI:=⟨some d,o,some (j,true)⟩
def Of (d:Nat) (o:CO) (j:Nat):CI:=⟨some d,o,some (j,false)⟩
def Ik (n:Int):Od:= .c (.int .i64 n)
def Ko (ts:List Nat) (l:List CI):CC:= .keep ts (.ops l)
def Bk (d:Nat) (o:BinOp) (x:Nat) (k:Int):CI:=⟨some d, .bin o (.t x) (.c (.int .i64 k)),none⟩
def Bt (d:Nat) (o:BinOp) (x y:Nat):CI:=⟨some d, .bin o (.t x) (.t y),none⟩
def Ca (d f x:Nat):CI:=⟨some d, .call f [.t x],none⟩
def Cb (d f x y:Nat):CI:=⟨some d, .call f [.t x, .t y],none⟩
def Ms (d:Nat):CI:=⟨some d, .mv (.c (.str [])),none⟩
def Nc (d x:Nat):CI:=⟨some d, .nilc (.t x),none⟩
def Sk (ts:List Nat) (l:List CI) (y:CC):CC:= .seq (.keep ts (.ops l)) y
def Cd (c:Nat) (x y:CC):CC:= .cond (.t c) x y
theorem IW (d s:Nat):Mv d s=⟨some d, .mv (.t s),none⟩:=rfl
theorem IX (d:Nat) (n:Int):Mi d n=⟨some d, .mv (.c (.int .i64 n)),none⟩:=rfl
theorem IY (d s:Nat):Lv d s=⟨some d, .ld none (.t s),none⟩:=rfl
theorem IZ (d n s:Nat):Lw d n s=⟨some d, .ld (some n) (.t s),none⟩:=rfl
theorem I0 (d k s:Nat):Fa d k s=⟨some d, .fldA k (.t s),none⟩:=rfl
theorem I1 (n p s:Nat):Sv n p s=⟨none, .st n (.t p) (.t s),none⟩:=rfl
theorem I2 (d a b:Nat):Pa d a b=⟨some d, .pick (.t a) (.t b) (.c (.bool false)),none⟩:=rfl
theorem I3 (d a b:Nat):Po d a b=⟨some d, .pick (.t a) (.c (.bool true)) (.t b),none⟩:=rfl
theorem I4 (d s i:Nat):Ex d s i=⟨some d, .ext (.t s) i,none⟩:=rfl
theorem I5 (d:Nat) (o:CO):Ou d o=⟨some d,o,none⟩:=rfl
theorem I6 (d:Nat) (o:CO) (j:Nat):Ot d o j=⟨some d,o,some (j,true)⟩:=rfl
theorem I7 (d:Nat) (o:CO) (j:Nat):Of d o j=⟨some d,o,some (j,false)⟩:=rfl
theorem I8 (n:Int):Ik n= .c (.int .i64 n):=rfl
theorem I9 (ts:List Nat) (l:List CI):Ko ts l= .keep ts (.ops l):=rfl
theorem Ja (d:Nat) (o:BinOp) (x:Nat) (k:Int):Bk d o x k=⟨some d, .bin o (.t x) (.c (.int .i64 k)),none⟩:=rfl
theorem Jb (d:Nat) (o:BinOp) (x y:Nat):Bt d o x y=⟨some d, .bin o (.t x) (.t y),none⟩:=rfl
theorem Jc (d f x:Nat):Ca d f x=⟨some d, .call f [.t x],none⟩:=rfl
theorem Jd (d f x y:Nat):Cb d f x y=⟨some d, .call f [.t x, .t y],none⟩:=rfl
theorem Je (d:Nat):Ms d=⟨some d, .mv (.c (.str [])),none⟩:=rfl
theorem Jf (d x:Nat):Nc d x=⟨some d, .nilc (.t x),none⟩:=rfl
theorem Jg (ts:List Nat) (l:List CI) (y:CC):Sk ts l y= .seq (.keep ts (.ops l)) y:=rfl
theorem Jh (c:Nat) (x y:CC):Cd c x y= .cond (.t c) x y:=rfl
def R6:=Kd (ax2 IW IX) (ax2 IY IZ) (ax2 I0 I1) (ax2 I2 I3) (ax2 I4 I5) (ax2 I6 I7) (ax2 I8 Ja) (ax2 Jb Jc) (ax2 Jd Je) (ax2 Jf Jg) (ax2 Jh I9)
def wk (v v':AV):Prop:=∀ g w u,Rel g w v u→Rel g w v' u
theorem ae (v:AV):wk v v:=fun _ _ _ h=>h
theorem af {v v':AV} (h:v=v'):wk v v':=h ▸ ae v
theorem Cp (v:AV):wk v .junk:=fun _ _ u _=> .junk u
theorem cd (τ n:Nat) (cs:List AV):wk (.tsl τ n cs) (.sl false n cs):=by
 intro g w u h
 rcases h.bP (n:=n) (cs:=cs) rfl with ⟨_,rfl,rfl,rfl⟩|⟨b,off,cap,us,rfl,hnc,hl⟩
 ·exact .sl0 _ _
 ·exact .gF hnc (by simp) hl
theorem bw (n:Nat) (cs:List AV):wk (.sl true n cs) (.sl false n cs):=by
 intro g w u h
 rcases h.bP (n:=n) (cs:=cs) rfl with ⟨_,rfl,rfl,rfl⟩|⟨b,off,cap,us,rfl,hnc,hl⟩
 ·exact .sl0 _ _
 ·exact .gF hnc (by simp) hl
theorem c7:wk .nils (.sl false 0 []):=by
 intro g w u h
 cases h;exact .sl0 _ _
inductive wkL:List AV→List AV→Prop where
 | nil:wkL [] []
 | cons {a b:AV} {as bs:List AV}:wk a b→wkL as bs→wkL (a::as) (b::bs)
theorem jt {as bs:List AV} (h:wkL as bs):∀ {g w vs},b8 g w as vs→b8 g w bs vs:=by
  induction h with
  | nil=>intro g w vs h;exact h
  | cons h1 _ ih =>
    intro g w vs h
    obtain ⟨v,vs',rfl,k1,k2⟩:=h.cons_inv
    exact .cons (h1 _ _ _ k1) (ih k2)
theorem aa:∀ (as:List AV),wkL as as
 | []=> .nil
 | _::as=> .cons (ae _) (aa as)
theorem ez {as bs:List AV} (h:wkL as bs):wk (.tup as) (.tup bs):=by
 intro g w u hu
 obtain ⟨us,rfl,hr⟩:=hu.oE
 exact .dz (jt h hr)
theorem dC {as bs:List AV} (h:wkL as bs):wk (.agg as) (.agg bs):=by
 intro g w u hu
 obtain ⟨us,rfl,hr⟩:=hu.eY
 exact .fW ⟨jt h hr.1,hr.2⟩
def aE:Fr→Fr→Prop
 | [],_=>True
 | (t,v)::r,f=>wk (slot t f) v∧aE r f
theorem Inv.le {g:Gh} {s s':St} {w:World} (h:Inv g s' w) (hl:St.le s s'):Inv g s w :=
 ⟨fun β cs hb=>h.box β cs (hl.1 _ _ hb),fun β b hb=>⟨(h.boxcl β b hb).1,fun hn=>(h.boxcl β b hb).2 (fun hs=>hn (by cases hq:s.box β with|none=>rfl|some c=>rw [hl.1 _ _ hq] at hs;cases hs))⟩,h.boxinj,h.boxfresh,fun τ e s n ht=>h.tip τ e s n (hl.2.1 _ _ ht),fun τ τ' x x' v v' b h1 h2=>h.tipinj τ τ' x x' v v' b (hl.2.1 _ _ h1) (hl.2.1 _ _ h2),h.tipfresh,fun k cs hk=>h.glob k cs (hl.2.2.1 _ _ hk),fun l r hr=>h.lp l r (hl.2.2.2.1 _ _ hr),fun β T hb=>h.bty β T (hl.2.2.2.2 _ _ hb)⟩
theorem nN:∀ {r f:Fr} (t:Nat),aE r f→wk (slot t f) (slot t r)
  | [],_,_,_=>Cp _
  | (s, v) :: r, f, t, h => by
    simp only [slot]
    split
    · rename_i e;subst e;exact h.1
    · exact nN t h.2
theorem Sim.le {g:Gh} {s s':St} {w:World} {fr fr':Fr} {a:Act} {N:Nat} (h:Sim g s' w fr' a N) (hs:St.le s s') (hf:aE fr fr'):Sim g s w fr a N :=
 ⟨h.inv.le hs,fun t=>nN t hf _ _ _ (h.rel t),h.size,h.defers⟩
def cA:List (Bool × Nat × Nat × Nat × Nat)→Fr→St→(Fr→St→Prop)→Prop
  | [],fr,σ,J=>J fr σ
  | (false, t, _, e, s) :: r, fr, σ, J => fresh (slot t fr) ∧ match slv (slot t fr) with
    | some (n,cs)=>∀ τ,σ.tip τ=none→cA r ((t, .tsl τ n cs)::fr) (σ.ai τ (e,s,n)) J
    | none=>False
  | (true, t, k, e, s) :: r, fr, σ, J => match slot t fr with
    | .ptr β o => match σ.box β with
      | some c0 => match c0[o + k]? with
        | some a => fresh a ∧ match slv a with
          | some (n,cs)=>∀ τ,σ.tip τ=none→cA r fr ((σ.ai τ (e,s,n)).ad β (c0.set (o+k) (.tsl τ n cs))) J
          | none=>False
        | none=>False
      | none=>False
    | _=>False
theorem ee:∀ (regs:List (Bool × Nat × Nat × Nat × Nat)) {g:Gh} {σ:St} {w:World} {fr:Fr} {a:Act} {N:Nat} {J:Fr→St→Prop},Sim g σ w fr a N→cA regs fr σ J →
    ∃ g' fr' σ',Sim g' σ' w fr' a N∧Ext g w g' w∧J fr' σ'
  | [],g,σ,w,fr,a,N,J,hS,h=>⟨g,fr,σ,hS, .refl g w,h⟩
  | (false, t, k, e, s) :: r, g, σ, w, fr, a, N, J, hS, h => by
    simp only [cA] at h
    obtain ⟨hf,h⟩:=h
    split at h
    · rename_i n cs hs
      obtain ⟨g1,hI1,he1,hr1⟩:=il hS.inv e s (hS.rel t) hf hs
      have hS1:Sim g1 (σ.ai g.nt (e,s,n)) w ((t, .tsl g.nt n cs)::fr) a N:=by
        refine ⟨hI1,fun t'=>?_,hS.size,hS.defers.mono he1⟩
        simp only [slot]
        split
        · rename_i ht;subst ht;exact hr1
        · exact (hS.rel t').mono he1
      obtain ⟨g2,fr2,σ2,k1,k2,k3⟩:=ee r hS1 (h g.nt (fK hS.inv))
      exact ⟨g2,fr2,σ2,k1,he1.trans k2,k3⟩
    · exact h.elim
  | (true, t, k, e, s) :: r, g, σ, w, fr, a, N, J, hS, h => by
    simp only [cA] at h
    split at h
    · rename_i β o hp
      split at h
      · rename_i c0 hb
        split at h
        · rename_i x hk
          obtain ⟨hf,h⟩:=h
          split at h
          · rename_i n cs hs
            obtain ⟨b,vs,T,h1,h2,h3⟩:=hS.inv.box _ _ hb
            obtain ⟨v,hv,hr⟩:=h3.1.get hk
            obtain ⟨g1,hI1,he1,hr1⟩:=il hS.inv e s hr hf hs
            have hb1:(σ.ai g.nt (e,s,n)).box β=some c0:=hb
            have hI2:Inv g1 ((σ.ai g.nt (e,s,n)).ad β (c0.set (o+k) (.tsl g.nt n cs))) w:=by
              refine ⟨fun β' cs' hb'=>?_,fun β' b' hb'=>⟨(hI1.boxcl β' b' hb').1,fun hl=>(hI1.boxcl β' b' hb').2 (fun hn=>hl (by
                by_cases hβ:β'=β
                · subst hβ;rw [hb1] at hn;cases hn
                · simpa [St.ad,upd,hβ] using hn))⟩,hI1.boxinj,hI1.boxfresh,hI1.tip,hI1.tipinj,hI1.tipfresh,hI1.glob,hI1.lp,hI1.bty⟩
              simp only [St.ad,upd] at hb'
              split at hb'
              · rename_i e';subst e'
                cases hb'
                refine ⟨b,vs,T,he1.box _ _ h1,h2,⟨⟨by have:=h3.1.1;simpa using this,fun i c u hc hu=>?_⟩,h3.2⟩⟩
                rw [List.getElem?_set] at hc
                split at hc
                · rename_i e';subst e'
                  rw [hv] at hu;cases hu
                  split at hc
                  · cases hc;exact hr1
                  · cases hc
                · exact (h3.1.2 _ _ _ hc hu).mono he1
              · exact hI1.box _ _ hb'
            obtain ⟨g2,fr2,σ2,k1,k2,k3⟩:=ee r ⟨hI2,hS.rel.mono he1,hS.size,hS.defers.mono he1⟩ (h g.nt (fK hS.inv))
            exact ⟨g2,fr2,σ2,k1,he1.trans k2,k3⟩
          · exact h.elim
        · exact h.elim
      · exact h.elim
    · exact h.elim
def gJ:List Nat→Fr→Fr
 | [],_=> []
 | t::ts,fr=>(t,slot t fr)::gJ ts fr
theorem iS (t:Nat) (fr:Fr):∀ ts,slot t (gJ ts fr)=slot t fr∨slot t (gJ ts fr)= .junk
  | []=> .inr rfl
  | s :: ts => by
    simp only [gJ,slot]
    split
    · rename_i e;subst e;exact .inl rfl
    · exact iS t fr ts
def iD:List Nat→List AV→Fr→Fr
 | p::ps,a::xs,fr=>iD ps xs ((p,a)::fr)
 | _,_,fr=>fr
def busy (r:Loop):Loop:={ r with state:= .busy }
def left (r:Loop) (c:Code):Loop:={ r with state:= .done,pending:=some c }
def Cq (P:Program) (f:Nat):Bool:=match P.funcs[f]? with
 | some fn=>fn.body.isSome&&fn.name != "runtime.NumGoroutine"
 | none=>false
def cb (t es:Nat) (fr:Fr) (σ:St):Option (Fr × St):=match slot t fr with
  | .psl β 0 n => match σ.box β with
    | some cs=>bif Nat.ble (n*es) cs.length then some ((t, .sl false n (cs.take (n*es)))::fr,σ.bX β) else none
    | none=>none
  | .row β _ _ n => match σ.box β with
    | some cs=>bif Nat.ble (n*es) cs.length then some ((t, .sl false n (cs.take (n*es)))::fr,σ.bX β) else none
    | none=>none
  | _=>none
def Fw (P:Program) (l:List CI) (dp:List (List Nat)) (fr:Fr) (σ:St) (K:Fr→St→Prop):Prop :=
  ∃ I : (Nat → Bool) → Fr → St → Prop, I (fun _ => false) fr σ ∧
    (∀ D j i,l[j]? =some i→D j=false→(dp.getD j []).all D=true→∀ fr σ,I D fr σ→cI P [i] fr σ (fun fr' σ'=>I (fun k=>D k||Nat.beq k j) fr' σ')) ∧
    ∀ D fr σ,(∀ j,j<l.length→D j=true∨(dp.getD j []).all D=false)→I D fr σ→K fr σ
def aC (P:Program):CC→Fr→St→(Exit→Fr→St→Prop)→Prop
  | .skip,fr,σ,Q=>Q .normal fr σ
  | .ops l,fr,σ,Q=>cI P l fr σ (Q .normal)
  | .drw l cls,fr,σ,Q=>aF P l cls fr σ (Q .normal)
  | .any t,fr,σ,Q=>ql P t fr σ (Q .normal)
  | .inv l dp,fr,σ,Q=>Fw P l dp fr σ (Q .normal)
  | .seq x y, fr, σ, Q => aC P x fr σ (fun e fr' σ' => match e with
    | .normal=>aC P y fr' σ' Q
    | e=>Q e fr' σ')
  | .cond c x y, fr, σ, Q => match ev σ fr c with
    | .bool t=>(t=true→aC P x fr σ Q)∧(t=false→aC P y fr σ Q)
    | _=>False
  | .block id x, fr, σ, Q => aC P x fr σ (fun e fr' σ' => match e with
    | .exit j=>if j=id then Q .normal fr' σ' else Q (.exit j) fr' σ'
    | e=>Q e fr' σ')
  | .scope x, fr, σ, Q => aC P x fr σ (fun e fr' σ' => match e with
    | .goto _=>False
    | e=>Q e fr' σ')
  | .loop x,fr,σ,Q=>∃ regs,cA regs fr σ fun fr0 σ0=>∃ (α:Type) (F:α→Fr) (S:α→St) (I:α→Prop) (μ:α→Nat) (a0:α),I a0∧aE (F a0) fr0∧St.le (S a0) σ0 ∧
      ∀ a, I a → aC P x (F a) (S a) (fun e fr' σ' => match e with
        | .normal=>∃ b,I b∧aE (F b) fr'∧St.le (S b) σ'∧μ b<μ a
        | e=>Q e fr' σ')
  | .keep ts x,fr,σ,Q=>aC P x (gJ ts fr) σ Q
  | .frz t es x, fr, σ, Q => match cb   t es fr σ with
    | some q=>aC P x q.1 q.2 Q
    | none=>aC P x fr σ Q
  | .exit id,fr,σ,Q=>Q (.exit id) fr σ
  | .ret,fr,σ,Q=>Q .ret fr σ
  | .rfun x ps asg body, fr, σ, Q => ∃ regs, cA     regs fr σ fun fr σ => match ev σ fr x with
    | .fn f cap=>Cq P f=true∧∀ (L:Nat) (r:Loop),σ.lp L=none→r.state= .ready→r.pending=none →
        (∀ (xs:List AV) (σ1:St) (K:AV→St→Prop),xs.length=ps.length→σ1.lp L=some (.loop r,fr) →
          aC P asg (iD ps xs fr) σ1 (fun e fr1 σ2=>e= .normal∧σ2.lp L=some (.loop r,fr)∧aC P body fr1 (σ2.av L (busy r,fr)) (fun e _ σ3=>σ3.lp L=some (.loop (busy r),fr)∧match e with
            | .normal=>K (.bool true) (σ3.av L (r,fr))
            | .ret=>K (.bool false) (σ3.av L (left r .ret,fr))
            | .exit id=>K (.bool false) (σ3.av L (left r (.exit id),fr))
            | _=>False))→YC P L xs σ1 K) →
        AC P f (.yld L::cap) (σ.av L (r,fr)) (fun _ s=>(s.lp L=some (.loop r,fr)∧Q .normal fr (s.dropLp L))∨(s.lp L=some (.loop (left r .ret),fr)∧Q .ret fr (s.dropLp L))∨∃ id,s.lp L=some (.loop (left r (.exit id)),fr)∧Q (.exit id) fr (s.dropLp L))
    | _=>False
def noR:CC→Bool
 | .rfun _ _ _ _=>false
 | .seq x y | .cond _ x y=>noR x&&noR y
 | .block _ x | .scope x | .loop x | .keep _ x | .frz _ _ x=>noR x
 | _=>true
def lkC (P:Program) (N:Nat):CC→Code→Bool
  | .keep _ x,c=>lkC P N x c
  | .frz _ _ x,c=>lkC P N x c
  | .scope x', c => match c with
    | .scope x=>lkC P N x' x
    | _=>false
  | .skip, c => match c with
    | .skip=>true
    | .label _=>true
    | _=>false
  | .ops l, c => match c with
    | .region _ ops false=>cL P N ops ops.toList l
    | _=>false
  | .drw l cls, c => match c with
    | .region _ ops true=>vB ops l cls&&cL P N ops ops.toList l&&P.follows .mixedOrders
    | _=>false
  | .inv l dp, c => match c with
    | .region _ ops true=>cL P N ops ops.toList l&&(dp == ops.toList.map bN)&&P.follows .mixedOrders
    | _=>false
  | .any t, c => match c with
    | .region _ ops true=>qm P N ops t (Array.replicate ops.size false) none&&P.follows .mixedOrders
    | _=>false
  | .seq x' y', c => match c with
    | .seq x y=>lkC P N x' x&&lkC P N y' y
    | _=>false
  | .cond c' x' y', c => match c with
    | .cond c x y=>odB c c'&&lkC P N x' x&&lkC P N y' y
    | _=>false
  | .block id' x', c => match c with
    | .block id x=>id == id'&&lkC P N x' x
    | _=>false
  | .loop x', c => match c with
    | .loop x=>lkC P N x' x
    | _=>false
  | .exit id', c => match c with
    | .exit id=>id == id'
    | _=>false
  | .ret, c => match c with
    | .ret=>true
    | _=>false
  | .rfun x ps asg' body', c => match c with
    | .rangeFunc g params asg body=>odB g x&&params.toList == ps&&(ps.all fun t=>decide (t<N))&&lkC P N asg' asg&&noR asg'&&lkC P N body' body&&noR body'
    | _=>false
section
variable {P:Program} {g:Gh} {σ:St} {w:World} {a:Act} {fr:Fr} {N:Nat}
theorem gq (ops:Array Oper) {rn:Option Nat} {nn:Nat} {Q:Exit→Act→World→Prop}:∀ (l:List Oper) (cl:List CI) (g:Gh) (σ:St) (w:World) (fr:Fr) (a:Act) (K:Fr→St→Prop),cL P N ops l cl=true→Sim g σ w fr a N→cI P cl fr σ K →
    (∀ fr' σ' g' w' a',K fr' σ'→Sim g' σ' w' fr' a' N→Ext g w g' w'→a'.defers=a.defers→Q .normal a' w')→wpListIn (Wd rn) nn P ops Q l a w
  | [],[],g,σ,w,fr,a,K,_,hS,h,hQ=>hQ fr σ g w a h hS (.refl g w) rfl
  | [],_::_,_,_,_,_,_,_,hl,_,_,_=>by simp [cL] at hl
  | _::_,[],_,_,_,_,_,_,hl,_,_,_=>by simp [cL] at hl
  | o :: l, ⟨d, op, gd⟩ :: cl, g, σ, w, fr, a, K, hl, hS, h, hQ => by
    simp only [cL,Bool.and_eq_true,beq_iff_eq] at hl
    obtain ⟨⟨⟨⟨hd,hdN⟩,hgd⟩,hop⟩,hrest⟩:=hl
    have hdN':∀ k,d=some k→k<N:=by
      intro k hk;subst hk;simpa [dB] using hdN
    have hdef:∀ u,(a.put o.dst u).defers=a.defers:=fun u=>by cases o.dst<;>rfl
    have step:∀ (v:AV) (σ':St) (u:Value) (w':World) (g':Gh),cI P cl (putF d v fr) σ' K→Inv g' σ' w'→Ext g w g' w'→Rel g' w' v u→wpListIn (Wd rn) nn P ops Q l (a.put o.dst u) w':=by
      intro v σ' u w' g' hK hI he hr
      have hd2:=hdef u
      rw [hd] at hd2 ⊢
      exact gq ops l cl g' σ' w' _ _ K hrest (hS.put hI he hdN' hr) hK (fun fr' σ2 g2 w2 a2 k1 k2 k3 k4=>hQ fr' σ2 g2 w2 a2 k1 k2 (he.trans k3) (k4.trans hd2))
    unfold wpListIn
    cases gd with
    | none =>
      have hw:Region.wanted o (yielded ops a.tmps)=true:=by
        unfold gdB at hgd
        split at hgd
        · rename_i e1 _;simp [Region.wanted,e1]
        · rename_i e2;cases e2
        · cases hgd
      rw [if_pos hw]
      simp only [cI] at h
      exact e8 hS.inv hop (fun x y _ hb=>dA hS.inv hS.rel hb) h step
    | some gw =>
      obtain ⟨t,want⟩:=gw
      simp only [cI] at h
      cases hc:aY want (slot t fr) with
      | none=>rw [hc] at h;exact h.elim
      | some c =>
        simp only [hc] at h
        have hw:=nK hS hgd hc
        rw [hw]
        cases hq:op.quiet with
        | true =>
          simp only [hq,cond_true] at h
          obtain ⟨h1,h2⟩:=h
          cases c with
          | true =>
            rw [if_pos rfl]
            obtain ⟨h3,h4⟩:=h1 rfl
            have hlk:lkB P o.op op=true:=by cases op<;>simp [CO.quiet] at hq<;>exact hop
            refine cZ (cn hop) (bZ (eL hS.inv op hlk (uJ hS rfl h3) h4) (fun u w' g' k1 k2 k3=>?_))
            exact step _ _ u w' g' h2 k1 k2 (.opt _ _ _ (fun _=>k3) (fun e=>by cases e))
          | false =>
            rw [if_neg (by simp)]
            exact ⟨fun _ _=>trivial,step _ _ undef w g h2 hS.inv (.refl g w) (.opt _ _ _ (fun e=>by cases e) (fun _=>rfl))⟩
        | false =>
          simp only [hq,cond_false] at h
          obtain ⟨h1,h2⟩:=h
          cases c with
          | true =>
            rw [if_pos rfl]
            obtain ⟨h3,h4⟩:=h1 rfl
            exact e8 hS.inv hop (uK hS rfl h3) h4 step
          | false =>
            rw [if_neg (by simp)]
            exact ⟨fun _ _=>trivial,step _ _ undef w g (h2 rfl) hS.inv (.refl g w) (.opt _ _ _ (fun e=>by cases e) (fun _=>rfl))⟩
theorem gT (ops:Array Oper) {rn:Option Nat} {nn:Nat} {Q:Exit→Act→World→Prop} {next:Act→World→Prop} {o:Oper} {d:Option Nat} {op:CO} {gd:Option (Nat × Bool)} {K:Fr→St→Prop} (hl:((o.dst == d)&&dB N d&&gdB ops o.guard gd&&lk2 P o.op op)=true) (hS:Sim g σ w fr a N) (h:cI P [⟨d,op,gd⟩] fr σ K)
    (hQ:∀ fr' σ' g' w' a',K fr' σ'→Sim g' σ' w' fr' a' N→Ext g w g' w'→a'.defers=a.defers→next a' w'):if Region.wanted o (yielded ops a.tmps)=true then Oper.wpIn (Wd rn) nn P o a w next Q else next (a.put o.dst undef) w:=by
  simp only [Bool.and_eq_true,beq_iff_eq] at hl
  obtain ⟨⟨⟨hd,hdN⟩,hgd⟩,hop⟩:=hl
  have hdN':∀ k,d=some k→k<N:=by
    intro k hk;subst hk;simpa [dB] using hdN
  have hdef:∀ u,(a.put o.dst u).defers=a.defers:=fun u=>by cases o.dst<;>rfl
  have step:∀ (v:AV) (σ':St) (u:Value) (w':World) (g':Gh),cI P [] (putF d v fr) σ' K→Inv g' σ' w'→Ext g w g' w'→Rel g' w' v u→next (a.put o.dst u) w':=by
    intro v σ' u w' g' hK hI he hr
    have hd2:=hdef u
    rw [hd] at hd2 ⊢
    exact hQ _ _ _ _ _ hK (hS.put hI he hdN' hr) he hd2
  cases gd with
  | none =>
    have hw:Region.wanted o (yielded ops a.tmps)=true:=by
      unfold gdB at hgd
      split at hgd
      · rename_i e1 _;simp [Region.wanted,e1]
      · rename_i e2;cases e2
      · cases hgd
    rw [if_pos hw]
    simp only [cI] at h
    exact e8 hS.inv hop (fun x y _ hb=>dA hS.inv hS.rel hb) h step
  | some gw =>
    obtain ⟨t,want⟩:=gw
    simp only [cI] at h
    cases hc:aY want (slot t fr) with
    | none=>rw [hc] at h;exact h.elim
    | some c =>
      simp only [hc] at h
      have hw:=nK hS hgd hc
      rw [hw]
      cases hq:op.quiet with
      | true =>
        simp only [hq,cond_true] at h
        obtain ⟨h1,h2⟩:=h
        cases c with
        | true =>
          rw [if_pos rfl]
          obtain ⟨h3,h4⟩:=h1 rfl
          have hlk:lkB P o.op op=true:=by cases op<;>simp [CO.quiet] at hq<;>exact hop
          refine cZ (cn hop) (bZ (eL hS.inv op hlk (uJ hS rfl h3) h4) (fun u w' g' k1 k2 k3=>?_))
          exact step _ _ u w' g' h2 k1 k2 (.opt _ _ _ (fun _=>k3) (fun e=>by cases e))
        | false =>
          rw [if_neg (by simp)]
          exact step _ _ undef w g h2 hS.inv (.refl g w) (.opt _ _ _ (fun e=>by cases e) (fun _=>rfl))
      | false =>
        simp only [hq,cond_false] at h
        obtain ⟨h1,h2⟩:=h
        cases c with
        | true =>
          rw [if_pos rfl]
          obtain ⟨h3,h4⟩:=h1 rfl
          exact e8 hS.inv hop (uK hS rfl h3) h4 step
        | false =>
          rw [if_neg (by simp)]
          exact step _ _ undef w g (h2 rfl) hS.inv (.refl g w) (.opt _ _ _ (fun e=>by cases e) (fun _=>rfl))
theorem vF {ops:Array Oper} {r:Option Nat} {nn:Nat} {Q:Exit→Act→World→Prop} {g0:Gh} {w0:World} {a0:Act} {K:Fr→St→Prop} (hQ:∀ fr' σ' g' w' a',K fr' σ'→Sim g' σ' w' fr' a' N→Ext g0 w0 g' w'→a'.defers=a0.defers→Q .normal a' w') :
    ∀ (t : AT) (listed : Array Bool) (m : Option (List Nat)) (g : Gh) (σ : St) (w : World) (fr : Fr) (a : Act), qm   P N ops t listed m = true → listed.size = ops.size → Sim g σ w fr a N → Ext g0 w0 g w → a.defers = a0.defers → ql   P t fr σ K →
      (∀ rs,m=some rs→(∀ j∈rs,j∈Region.ready .any ops listed)→∀ j∈rs,∀ fuel,listed.toList.count false=fuel+1→wpOpIn (Wd r) nn P ops Q j (wpAnyIn (Wd r) nn P .any ops Q fuel (listed.setIfInBounds j true)) a w) ∧
      (m=none→∀ fuel,listed.toList.count false=fuel→wpAnyIn (Wd r) nn P .any ops Q fuel listed a w):=by
  intro t
  induction t with
  | done =>
    intro listed m g σ w fr a hB hsz hS he hd h
    simp only [qm,Bool.and_eq_true,Option.isNone_iff_eq_none,List.isEmpty_iff] at hB
    obtain ⟨rfl,hB⟩:=hB
    refine ⟨(fun rs hr=>by cases hr),fun _ fuel _=>?_⟩
    have hq:=hQ fr σ g w a h hS he hd
    cases fuel with
    | zero=>exact ⟨hB,hq⟩
    | succ fuel=>exact ⟨fun _=>hq,fun i hi=>by rw [hB] at hi;cases hi⟩
  | stop =>
    intro listed m g σ w fr a hB hsz hS he hd h
    simp only [qm] at hB
    split at hB
    · exact ⟨(fun rs hr _ j hj=>by cases hr;cases hj),(fun hr=>by cases hr)⟩
    · cases hB
  | alt j i sub oth ihs iho =>
    intro listed m g σ w fr a hB hsz hS he hd h
    obtain ⟨d,op,gd⟩:=i
    simp only [qm] at hB
    obtain ⟨h1,h2⟩:=h
    have key:∀ rs:List Nat,m.getD (Region.ready .any ops listed)=rs→(∀ j∈rs,j∈Region.ready .any ops listed)→∀ j∈rs,∀ fuel,listed.toList.count false=fuel+1→wpOpIn (Wd r) nn P ops Q j (wpAnyIn (Wd r) nn P .any ops Q fuel (listed.setIfInBounds j true)) a w:=by
      intro rs hrs hready j' hj' fuel hc
      rw [hrs] at hB
      cases rs with
      | nil=>cases hj'
      | cons k rs =>
        simp only [Bool.and_eq_true] at hB
        obtain ⟨⟨⟨b1,b2⟩,b3⟩,b4⟩:=hB
        have b1:=Nat.eq_of_beq_eq_true b1
        subst b1
        rcases List.mem_cons.1 hj' with rfl|hj'
        · obtain ⟨o,ho,l1,l2⟩:=(mem_ready hsz).1 (hready j' (by simp))
          rw [ho] at b2
          simp only at b2
          have hlt:j'<listed.size:=by
            rw [hsz]
            exact (Array.getElem?_eq_some_iff.1 ho).1
          refine e6 ho (gT ops (by simpa using b2) hS h1 (fun fr' σ' g' w' a' k1 k2 k3 k4=>?_))
          exact (ihs _ none g' σ' w' fr' a' b3 (by simp [hsz]) k2 (he.trans k3) (k4.trans hd) k1).2 rfl fuel (count_set hlt l1 hc)
        · exact (iho listed (some rs) g σ w fr a b4 hsz hS he hd h2).1 rs rfl (fun x hx=>hready x (by simp [hx])) j' hj' fuel hc
    refine ⟨fun rs hr hready=>key rs (by rw [hr];rfl) hready,fun hm fuel hc=>?_⟩
    subst hm
    have hkey:=key _ rfl (fun _ h=>h)
    cases fuel with
    | zero =>
      cases hrd:Region.ready .any ops listed with
      | nil=>simp only [Option.getD_none,hrd] at hB;cases hB
      | cons k rs =>
        obtain ⟨o,ho,l1,l2⟩:=(mem_ready hsz).1 (show k∈Region.ready .any ops listed by rw [hrd];simp)
        have hlt:k<listed.size:=by
          rw [hsz]
          exact (Array.getElem?_eq_some_iff.1 ho).1
        rw [List.count_eq_zero] at hc
        rw [Array.getD_eq_getD_getElem?,Array.getElem?_eq_getElem hlt] at l1
        simp only [Option.getD_some] at l1
        exact (hc (by rw [←l1];simp)).elim
    | succ fuel =>
      refine ⟨fun hnil=>?_,fun i hi=>hkey i hi fuel hc⟩
      simp only [Option.getD_none,hnil] at hB;cases hB
theorem sA {id:Nat} {ops:Array Oper} {t:AT} (hm:P.follows .mixedOrders=true) (hb:qm P N ops t (Array.replicate ops.size false) none=true) {K:Fr→St→Prop} {Q:Exit→Act→World→Prop} (hS:Sim g σ w fr a N) (h:ql P t fr σ K)
  {r:Option Nat} {nn:Nat} (hQ:∀ fr' σ' g' w' a',K fr' σ'→Sim g' σ' w' fr' a' N→Ext g w g' w'→a'.defers=a.defers→Q .normal a' w'):(Code.region id ops true).wpIn (Wd r) nn P Q a w:=by
 refine wpIn_region_any hm ?_
 have hExt:Ext g w g { w with drawn:=w.drawn+1 } :=
  ⟨rfl,rfl,rfl,Nat.le_refl _,fun _ _ h=>h,fun _ _=>rfl,Nat.le_refl _,Nat.le_refl _,fun _ _ _ h=>h,fun _ _ hc=>⟨hc,rfl⟩,fun _ F _ hc=>⟨F,hc,Nat.le_refl _,fun _ _=>rfl⟩,fun _ _ h=>h,fun _ us _ _ h=>⟨us,h,rfl⟩⟩
 have hI:=hS.inv
 have hInv:Inv g σ { w with drawn:=w.drawn+1 }:=by
  refine ⟨fun β cs hb=>?_,hI.boxcl,hI.boxinj,hI.boxfresh,hI.tip,hI.tipinj,hI.tipfresh,fun k cs hk=>(hI.glob k cs hk).mono hExt,fun l r hl=>⟨(hI.lp l r hl).1,(hI.lp l r hl).2.1,fun t=>((hI.lp l r hl).2.2 t).mono hExt⟩,hI.bty⟩
  obtain ⟨b,vs,T,h1,h2,h3⟩:=hI.box β cs hb
  exact ⟨b,vs,T,h1,h2,h3.mono hExt⟩
 have hS2:Sim g σ { w with drawn:=w.drawn+1 } fr a N:=⟨hInv,fun t=>(hS.rel t).mono hExt,hS.size,hS.defers.mono hExt⟩
 exact (vF (K:=K) hQ t _ none g σ _ fr a hb (by simp) hS2 hExt rfl h).2 rfl _ (by simp)
theorem jY {ops:Array Oper}:∀ {os:List Oper} {l:List CI},cL P N ops os l=true→l.length=os.length
  | [],[],_=>rfl
  | [],_::_,h=>by simp [cL] at h
  | _::_,[],h=>by simp [cL] at h
  | _ :: _, _ :: _, h => by
    simp only [cL,Bool.and_eq_true] at h
    simp [jY h.2]
theorem vG {ops:Array Oper} {l:List CI} {dp:List (List Nat)} (hl:cL P N ops ops.toList l=true) (hdp:dp=ops.toList.map bN) {r:Option Nat} {nn:Nat} {Q:Exit→Act→World→Prop} {g0:Gh} {w0:World} {a0:Act} {K:Fr→St→Prop}
    (hQ:∀ fr' σ' g' w' a',K fr' σ'→Sim g' σ' w' fr' a' N→Ext g0 w0 g' w'→a'.defers=a0.defers→Q .normal a' w') {I:(Nat→Bool)→Fr→St→Prop}
    (hstep:∀ D j i,l[j]? =some i→D j=false→(dp.getD j []).all D=true→∀ fr σ,I D fr σ→cI P [i] fr σ (fun fr' σ'=>I (fun k=>D k||Nat.beq k j) fr' σ'))
    (hend:∀ D fr σ,(∀ j,j<l.length→D j=true∨(dp.getD j []).all D=false)→I D fr σ→K fr σ) :
    ∀ (fuel : Nat) (listed : Array Bool) (g : Gh) (σ : St) (w : World) (fr : Fr) (a : Act), listed.size = ops.size → listed.toList.count false = fuel → Sim g σ w fr a N → Ext g0 w0 g w → a.defers = a0.defers → I (fun k => listed.getD k false) fr σ →
      wpAnyIn (Wd r) nn P .any ops Q fuel listed a w:=by
  have hlen:l.length=ops.size:=by rw [jY hl];simp
  have hd:∀ j o,ops[j]? =some o→dp.getD j []=bN o:=fun j o ho=>by
    rw [hdp,List.getD_eq_getElem?_getD,List.getElem?_map,Array.getElem?_toList,ho];rfl
  have fin:∀ (listed:Array Bool),listed.size=ops.size→Region.ready .any ops listed= []→∀ j,j<l.length→listed.getD j false=true∨(dp.getD j []).all (fun k=>listed.getD k false)=false:=by
    intro listed hsz hr j hj
    rw [hlen] at hj
    have ho:ops[j]? =some ops[j]:=Array.getElem?_eq_getElem hj
    by_cases h1:listed.getD j false=true
    · exact .inl h1
    · refine .inr ?_
      rw [hd j _ ho,←Bool.not_eq_true]
      intro h2
      have:j∈Region.ready .any ops listed:=(mem_ready hsz).2 ⟨_,ho,by simpa using h1,fun k hk=>by
        have:=List.all_eq_true.1 h2 k hk
        exact this⟩
      rw [hr] at this;cases this
  intro fuel
  induction fuel with
  | zero =>
    intro listed g σ w fr a hsz hc hS he hdf hI
    have hnil:Region.ready .any ops listed= []:=by
      rw [List.eq_nil_iff_forall_not_mem]
      intro j hj
      obtain ⟨o,ho,l1,_⟩:=(mem_ready hsz).1 hj
      have hlt:j<listed.size:=by rw [hsz];exact (Array.getElem?_eq_some_iff.1 ho).1
      rw [List.count_eq_zero] at hc
      rw [Array.getD_eq_getD_getElem?,Array.getElem?_eq_getElem hlt] at l1
      simp only [Option.getD_some] at l1
      exact hc (by rw [←l1];simp)
    exact ⟨hnil,hQ fr σ g w a (hend _ fr σ (fin listed hsz hnil) hI) hS he hdf⟩
  | succ fuel ih =>
    intro listed g σ w fr a hsz hc hS he hdf hI
    refine ⟨fun hnil=>hQ fr σ g w a (hend _ fr σ (fin listed hsz hnil) hI) hS he hdf,fun j hj=>?_⟩
    obtain ⟨o,ho,l1,l2⟩:=(mem_ready hsz).1 hj
    have hjo:j<ops.size:=(Array.getElem?_eq_some_iff.1 ho).1
    have hlt:j<listed.size:=by rw [hsz];exact hjo
    have hi:l[j]? =some l[j]:=List.getElem?_eq_getElem (by rw [hlen];exact hjo)
    have hat:=js hl j o l[j] (by rw [Array.getElem?_toList];exact ho) hi
    have hs:=hstep (fun k=>listed.getD k false) j l[j] hi l1 (by rw [hd j o ho];exact List.all_eq_true.2 l2) fr σ hI
    obtain ⟨i,hli⟩:∃ i,l[j]=i:=⟨_,rfl⟩
    rw [hli] at hs hat
    obtain ⟨d,op,gd⟩:=i
    refine e6 ho (gT ops (by simpa [Bool.and_eq_true,and_assoc] using hat) hS hs (fun fr' σ' g' w' a' k1 k2 k3 k4=>?_))
    refine ih _ g' σ' w' fr' a' (by simp [hsz]) (count_set hlt l1 hc) k2 (he.trans k3) (k4.trans hdf) ?_
    have:(fun k=>(listed.setIfInBounds j true).getD k false)=fun k=>listed.getD k false||Nat.beq k j:=by
      funext k
      simp only [Array.getD_eq_getD_getElem?,Array.getElem?_setIfInBounds]
      by_cases hk:j=k
      · subst hk;simp [hlt]
      · rw [if_neg hk]
        have:Nat.beq k j=false:=by
          rw [←Bool.not_eq_true]
          exact fun e=>hk (Nat.eq_of_beq_eq_true e).symm
        rw [this,Bool.or_false]
    rw [this]
    exact k1
theorem sC {id:Nat} {ops:Array Oper} {l:List CI} {dp:List (List Nat)} (hm:P.follows .mixedOrders=true) (hl:cL P N ops ops.toList l=true) (hdp:dp=ops.toList.map bN) {K:Fr→St→Prop} {Q:Exit→Act→World→Prop} (hS:Sim g σ w fr a N) (h:Fw P l dp fr σ K)
  {r:Option Nat} {nn:Nat} (hQ:∀ fr' σ' g' w' a',K fr' σ'→Sim g' σ' w' fr' a' N→Ext g w g' w'→a'.defers=a.defers→Q .normal a' w'):(Code.region id ops true).wpIn (Wd r) nn P Q a w:=by
 refine wpIn_region_any hm ?_
 have hExt:Ext g w g { w with drawn:=w.drawn+1 } :=
  ⟨rfl,rfl,rfl,Nat.le_refl _,fun _ _ h=>h,fun _ _=>rfl,Nat.le_refl _,Nat.le_refl _,fun _ _ _ h=>h,fun _ _ hc=>⟨hc,rfl⟩,fun _ F _ hc=>⟨F,hc,Nat.le_refl _,fun _ _=>rfl⟩,fun _ _ h=>h,fun _ us _ _ h=>⟨us,h,rfl⟩⟩
 have hI:=hS.inv
 have hInv:Inv g σ { w with drawn:=w.drawn+1 }:=by
  refine ⟨fun β cs hb=>?_,hI.boxcl,hI.boxinj,hI.boxfresh,hI.tip,hI.tipinj,hI.tipfresh,fun k cs hk=>(hI.glob k cs hk).mono hExt,fun l r hl=>⟨(hI.lp l r hl).1,(hI.lp l r hl).2.1,fun t=>((hI.lp l r hl).2.2 t).mono hExt⟩,hI.bty⟩
  obtain ⟨b,vs,T,h1,h2,h3⟩:=hI.box β cs hb
  exact ⟨b,vs,T,h1,h2,h3.mono hExt⟩
 have hS2:Sim g σ { w with drawn:=w.drawn+1 } fr a N:=⟨hInv,fun t=>(hS.rel t).mono hExt,hS.size,hS.defers.mono hExt⟩
 obtain ⟨I,h0,h1,h2⟩:=h
 refine vG hl hdp hQ h1 h2 ops.size _ g σ _ fr a (by simp) (by simp) hS2 hExt rfl ?_
 have:(fun k=>(Array.replicate ops.size false).getD k false)=fun _=>false:=by
  funext k
  simp only [Array.getD_eq_getD_getElem?,Array.getElem?_replicate]
  split<;>rfl
 rw [this];exact h0
def ju (w:World) (a a':Act):Prop:=∀ D,gn D∈a'.defers→gn D∈a.defers∨w.heap.size≤D
theorem ju.refl {w:World} {a:Act}:ju w a a:=fun _ h=> .inl h
theorem ju.of_eq {w:World} {a a':Act} (h:a'.defers=a.defers):ju w a a':=fun _ k=> .inl (h ▸ k)
theorem ju.trans {g g1:Gh} {w w1:World} {a b c:Act} (h:ju w a b) (he:Ext g w g1 w1) (k:ju w1 b c):ju w a c:=fun D hD =>
 (k D hD).elim (h D) (fun hh=> .inr (Nat.le_trans he.size hh))
def Gh.dJ (g:Gh) (w:World):Gh:={ g with cl:=fun b=>if b=w.heap.size then none else if b=w.heap.size+1 then some 0 else g.cl b }
theorem gU (w:World) (o1 o2:Obj):((w.alloc o1).alloc o2).heap[w.heap.size]? =some o1∧((w.alloc o1).alloc o2).heap[w.heap.size+1]? =some o2∧∀ b,b<w.heap.size→((w.alloc o1).alloc o2).heap[b]? =w.heap[b]? :=by
 refine ⟨?_,?_,fun b hb=>?_⟩
 ·rw [RowKit.Below.heap_alloc (w.alloc o1) o2 _ (by simp)];exact World.alloc_heap_new w o1
 ·have:=World.alloc_heap_new (w.alloc o1) o2;rwa [World.size_alloc] at this
 ·rw [RowKit.Below.heap_alloc (w.alloc o1) o2 _ (by simp;omega),RowKit.Below.heap_alloc w o1 _ hb]
theorem Ext.dJ (o1 o2:Obj):Ext g w (g.dJ w) ((w.alloc o1).alloc o2):=by
 have hc:∀ b,b<w.heap.size→(g.dJ w).cl b=g.cl b:=fun b hb=>by simp only [Gh.dJ];rw [if_neg (by omega),if_neg (by omega)]
 refine ⟨rfl,rfl,rfl,by simp;omega,fun _ _ h=>h,fun _ _=>rfl,Nat.le_refl _,Nat.le_refl _,fun _ _ _ h=>h,fun b hb h=>⟨by rw [hc b hb];exact h,(gU w o1 o2).2.2 b hb⟩,fun b F hb h=>⟨F,by rw [hc b hb];exact h,Nat.le_refl _,fun i _=>World.cell?_of_block ((gU w o1 o2).2.2 b hb)⟩,fun _ _ h=>h,fun b us T' _ h=>⟨us,by rw [(gU w o1 o2).2.2 b (Array.getElem?_eq_some_iff.1 h).1];exact h,rfl⟩⟩
theorem Inv.dJ (hI:Inv g σ w) {r:Loop} (hR:∀ t,Rel g w (slot t fr) (r.tmps.getD t undef)):Inv (g.dJ w) (σ.av (w.heap.size+1) (r,fr)) ((w.alloc (.deferred (some []))).alloc (.loop r)):=by
 have he:=Ext.dJ (g:=g) (w:=w) (.deferred (some [])) (.loop r)
 have hc:∀ b,b<w.heap.size→(g.dJ w).cl b=g.cl b:=fun b hb=>by simp only [Gh.dJ];rw [if_neg (by omega),if_neg (by omega)]
 have hh:=gU w (.deferred (some [])) (.loop r)
 refine ⟨fun β cs hb=>?_,fun β b hb=>?_,hI.boxinj,hI.boxfresh,fun τ e s n ht=>?_,hI.tipinj,hI.tipfresh,fun k cs hk=>(hI.glob k cs hk).mono he,fun l x hl=>?_,fun β T hb=>by
  obtain ⟨b,vs,h1,h2⟩:=hI.bty β T hb
  exact ⟨b,vs,h1,by rw [hh.2.2 b (hI.boxcl β b h1).1];exact h2⟩⟩
 ·obtain ⟨b,vs,T,h1,h2,h3⟩:=hI.box β cs hb
  exact ⟨b,vs,T,h1,by rw [hh.2.2 b (hI.boxcl β b h1).1];exact h2,h3.mono he⟩
 ·obtain ⟨h1,h2⟩:=hI.boxcl β b hb
  exact ⟨by simp;omega,fun hl=>by rw [hc b h1];exact h2 hl⟩
 ·obtain ⟨v,h1,h2,h4⟩:=hI.tip τ e s n ht
  refine ⟨v,h1,fun hs=>?_,h4⟩
  obtain ⟨xs,h2,h3⟩:=h2 hs
  refine ⟨xs,(h2.alloc _).alloc _,fun b hb=>?_⟩
  obtain ⟨h5,h6⟩:=h3 b hb
  exact ⟨by rw [hc b (h2.lt b hb).2];exact h5,h6.1,h6.2.same (hh.2.2 b (h2.lt b hb).2)⟩
 ·simp only [St.av,upd] at hl
  split at hl
  ·rename_i e;subst e;cases hl
   exact ⟨hh.2.1,by simp [Gh.dJ],fun t=>(hR t).mono he⟩
  ·obtain ⟨q1,q2,q3⟩:=hI.lp l x hl
   have hlt:=(Array.getElem?_eq_some_iff.1 q1).1
   exact ⟨by rw [hh.2.2 l hlt];exact q1,by rw [hc l hlt];exact q2,fun t=>(q3 t).mono he⟩
theorem qn:∀ (ps:List Nat) (xs:List AV) (vs:List Value) (tmps:Array Value) (fr:Fr),RelF g w fr tmps→b8 g w xs vs→(∀ t∈ps,t<tmps.size)→xs.length=ps.length →
    RelF g w (iD ps xs fr) ((ps.zip vs).foldl (fun t (x:Nat × Value)=>t.setIfInBounds x.1 x.2) tmps)∧((ps.zip vs).foldl (fun t (x:Nat × Value)=>t.setIfInBounds x.1 x.2) tmps).size=tmps.size
  | [],[],vs,tmps,fr,hF,hv,ht,hn=>by rw [hv.bO];exact ⟨hF,rfl⟩
  | [],_::_,vs,tmps,fr,hF,hv,ht,hn=>by simp at hn
  | _::_,[],vs,tmps,fr,hF,hv,ht,hn=>by simp at hn
  | p :: ps, x :: xs, vs, tmps, fr, hF, hv, ht, hn => by
    obtain ⟨v,vs',rfl,h1,h2⟩:=hv.cons_inv
    have hput:=RelF.put (a:={ tmps:=tmps,defers:= [] }) (d:=some p) (v:=x) (u:=v) hF (fun k hk=>by cases hk;exact ht p (by simp)) h1
    have:=qn ps xs vs' (tmps.setIfInBounds p v) ((p,x)::fr) hput h2 (fun t h=>by simp;exact ht t (by simp [h])) (by simpa using hn)
    simp only [List.zip_cons_cons,List.foldl_cons,iD]
    exact ⟨this.1,by rw [this.2];simp⟩
theorem l5 {f:Nat} (h:Cq P f=true) (args:Array Value) (w:World):(callFunc f args).run P w= .ok (.enter f args) w:=by
 unfold Cq at h
 split at h
 ·rename_i fn hfn
  simp only [Bool.and_eq_true,bne_iff_ne,Option.isSome_iff_exists] at h
  obtain ⟨⟨c,hc⟩,hname⟩:=h
  simp [callFunc,hfn,hname,hc]
 ·cases h
theorem dP {b:Frame} {k:List Item} {cs:List Frame} {c:Code}:step P (lone (b.atR a (.code (.scope c)::k)) cs w)= .next (lone (b.atR a (.code c:: .inScope c::k)) cs w) :=
 step_lone_go (by simp [stepG,stepG.exec,Frame.atR])
theorem nc {b:Frame} {k:List Item} {cs:List Frame} {c:Code}:step P (lone (b.atR a (.inScope c::k)) cs w)= .next (lone (b.atR a k) cs w) :=
 step_lone_go (by simp [stepG,stepG.exec,Frame.atR])
theorem iE {F:Fence} {n:Nat} {c:Code} {Q:Exit→Act→World→Prop} (h:c.wpIn F n P (Exit.noGoto Q) a w):(Code.scope c).wpIn F n P Q a w:=by
 intro b k cs hro hb hr
 have h0:(lone (b.atR a (.code (.scope c)::k)) cs w).fenced P F:=fenced_calm hb hr rfl
 obtain ⟨e,a₁,w₁,hq,harr⟩:=h b (.inScope c::k) cs hro hb hr
 cases e with
 | normal=>exact ⟨.normal,a₁,w₁,hq, .head h0 dP (StepsIn.trans harr (.one (fenced_calm hb hr rfl) nc))⟩
 | exit id=>exact ⟨.exit id,a₁,w₁,hq,fun k' hk=> .head h0 dP (harr.1 k' (by simp [exitTo,hk])),fun hr' hk=>let ⟨k₁,h1,h2⟩:=harr.2 hr' (by simp [exitTo,hk]);⟨k₁,h1, .head h0 dP h2⟩⟩
 | goto l=>exact hq.elim
 | ret=>exact ⟨_,a₁,w₁,hq, .of_steps (.one h0 dP) harr⟩
 | panic ch=>exact ⟨_,a₁,w₁,hq, .of_steps (.one h0 dP) harr⟩
 | outgrown=>exact ⟨_,a₁,w₁,hq, .of_steps (.one h0 dP) harr⟩
theorem l6 {g:Gh} {σ:St} {w:World} (hI:Inv g σ w) {β b:Nat} {cs:List AV} (hb:σ.box β=some cs) (hg:g.box β=some b) :
  Inv { g with cl:=fun x=>if x=b then some cs.length else g.cl x } (σ.bX β) w∧Ext g w { g with cl:=fun x=>if x=b then some cs.length else g.cl x } w:=by
 obtain ⟨b',vs,T,h1,h2,h3⟩:=hI.box β cs hb
 rw [hg] at h1;cases h1
 have hcl:=(hI.boxcl β b hg).2 (by rw [hb];simp)
 have he:Ext g w { g with cl:=fun x=>if x=b then some cs.length else g.cl x } w:=by
  refine ⟨rfl,rfl,rfl,Nat.le_refl _,fun _ _ h=>h,fun _ _=>rfl,Nat.le_refl _,Nat.le_refl _,fun _ _ _ h=>h,fun k hk hc=>⟨?_,rfl⟩,fun k F hk hc=>?_,fun _ _ h=>h,fun _ us _ _ h=>⟨us,h,rfl⟩⟩
  ·have:k≠b:=by rintro rfl;rw [hcl] at hc;cases hc
   simp only [if_neg this];exact hc
  ·by_cases hkb:k=b
   ·subst hkb
    rw [hcl] at hc;cases hc
    exact ⟨cs.length,by simp,Nat.zero_le _,fun _ _=>rfl⟩
   ·exact ⟨F,by simp only [if_neg hkb];exact hc,Nat.le_refl _,fun _ _=>rfl⟩
 have aux:∀ β' c,(σ.bX β).box β'=some c→β'≠β∧σ.box β'=some c:=by
  intro β' c h
  simp only [St.bX] at h
  split at h
  ·cases h
  ·rename_i hne;exact ⟨hne,h⟩
 refine ⟨⟨fun β' c hc=>?_,fun β' b' hb'=>⟨(hI.boxcl β' b' hb').1,fun hl=>?_⟩,hI.boxinj,hI.boxfresh,fun τ e s n ht=>?_,hI.tipinj,hI.tipfresh,fun k c hk=>(hI.glob k c hk).mono he,fun l r hl=>?_,hI.bty⟩,he⟩
 ·obtain ⟨k1,k2,k3,k4,k5,k6⟩:=hI.box β' c (aux β' c hc).2
  exact ⟨k1,k2,k3,k4,k5,k6.mono he⟩
 ·have hne:β'≠β:=by
   rintro rfl;exact hl (by simp [St.bX])
  have hl2:σ.box β'≠none:=by
   intro hn;exact hl (by simp [St.bX,hne,hn])
  have:b'≠b:=by
   rintro rfl;exact hne (hI.boxinj _ _ _ hb' hg)
  simp only [if_neg this]
  exact (hI.boxcl β' b' hb').2 hl2
 ·obtain ⟨v,k1,k2,k4⟩:=hI.tip τ e s n ht
  refine ⟨v,k1,fun hs=>?_,k4⟩
  obtain ⟨xs,q1,q2⟩:=k2 hs
  refine ⟨xs,q1,fun k hk=>?_⟩
  obtain ⟨q3,q4⟩:=q2 k hk
  have:k≠b:=by rintro rfl;exact q4.1 β hg
  exact ⟨by simp only [if_neg this];exact q3,q4⟩
 ·obtain ⟨q1,q2,q3⟩:=hI.lp l r hl
  have:l≠b:=by rintro rfl;rw [h2] at q1;exact r.1.gN q1
  exact ⟨q1,by simp only [if_neg this];exact q2,fun t=>(q3 t).mono he⟩
theorem vH {g:Gh} {σ:St} {w:World} {fr:Fr} {a:Act} {N t es:Nat} (hS:Sim g σ w fr a N) {q:Fr × St} (h:cb t es fr σ=some q):∃ g',Sim g' q.2 w q.1 a N∧Ext g w g' w:=by
  unfold cb at h
  split at h
  · rename_i β n hsl
    split at h
    · rename_i cs hb
      cases hle:Nat.ble (n*es) cs.length with
      | false=>rw [hle] at h;cases h
      | true =>
        rw [hle] at h
        cases h
        have hr:=hS.rel t
        rw [hsl] at hr
        obtain ⟨b,cap,e1,e2,e3⟩:=hr.lx
        obtain ⟨hI,he⟩:=l6 hS.inv hb e2
        refine ⟨_,⟨hI,fun t'=>?_,hS.size,hS.defers.mono he⟩,he⟩
        simp only [slot]
        split
        · rename_i ht
          subst ht
          rw [e1]
          obtain ⟨b',vs,T,k1,k2,k3⟩:=hS.inv.box β cs hb
          rw [e2] at k1;cases k1
          have hle2:=Nat.le_of_ble_eq_true hle
          refine .gF e3 (fun h=>by cases h) (u:=(vs.toList.take (n*es))) ⟨⟨(hS.inv.boxcl β b e2).1, .inr ⟨cs.length,by simp,by simp only [List.length_take];omega⟩⟩,(k3.take _).mono he,fun i v hv=>?_⟩
          rw [List.getElem?_take] at hv
          split at hv
          · simp only [World.cell?,k2,Nat.zero_add]
            simpa using hv
          · cases hv
        · exact (hS.rel t').mono he
    · cases h
  · rename_i β e0 es0 n hsl
    split at h
    · rename_i cs hb
      cases hle:Nat.ble (n*es) cs.length with
      | false=>rw [hle] at h;cases h
      | true =>
        rw [hle] at h
        cases h
        have hr:=hS.rel t
        rw [hsl] at hr
        obtain ⟨b,cap,_,e1,e2,e3,_⟩:=hr.ly
        obtain ⟨hI,he⟩:=l6 hS.inv hb e2
        refine ⟨_,⟨hI,fun t'=>?_,hS.size,hS.defers.mono he⟩,he⟩
        simp only [slot]
        split
        · rename_i ht
          subst ht
          rw [e1]
          obtain ⟨b',vs,T,k1,k2,k3⟩:=hS.inv.box β cs hb
          rw [e2] at k1;cases k1
          have hle2:=Nat.le_of_ble_eq_true hle
          refine .gF e3 (fun h=>by cases h) (u:=(vs.toList.take (n*es))) ⟨⟨(hS.inv.boxcl β b e2).1, .inr ⟨cs.length,by simp,by simp only [List.length_take];omega⟩⟩,(k3.take _).mono he,fun i v hv=>?_⟩
          rw [List.getElem?_take] at hv
          split at hv
          · simp only [World.cell?,k2,Nat.zero_add]
            simpa using hv
          · cases hv
        · exact (hS.rel t').mono he
    · cases h
  · cases h
theorem qo:∀ (cc:CC) (c:Code),lkC P N cc c=true→∀ (rn:Option Nat),(rn=none∨noR cc=true)→∀ (g:Gh) (σ:St) (w:World) (fr:Fr) (a:Act) (R:Exit→Fr→St→Prop) (Q:Exit→Act→World→Prop),Sim g σ w fr a N→aC P cc fr σ R →
    (∀ e fr' σ' g' w' a',R e fr' σ'→Sim g' σ' w' fr' a' N→Ext g w g' w'→ju w a a'→Q e a' w')→c.wpIn (Wd rn) 0 P Q a w:=by
  intro cc
  induction cc with
  | skip =>
    intro c hl rn hrn g σ w fr a R Q hS h hQ
    cases c<;>simp [lkC] at hl
    · exact wpIn_skip (hQ _ _ _ _ _ _ h hS (.refl g w) .refl)
    · exact wpIn_label (hQ _ _ _ _ _ _ h hS (.refl g w) .refl)
  | ops l =>
    intro c hl rn hrn g σ w fr a R Q hS h hQ
    cases c<;>try (simp [lkC] at hl;done)
    rename_i id ops draw
    cases draw<;>simp [lkC] at hl
    exact wpIn_region_list (gq ops _ _ g σ w fr a _ hl hS h (fun fr' σ' g' w' a' k1 k2 k3 k4=>hQ _ _ _ _ _ _ k1 k2 k3 (.of_eq k4)))
  | drw l cls =>
    intro c hl rn hrn g σ w fr a R Q hS h hQ
    cases c<;>try (simp [lkC] at hl;done)
    rename_i id ops draw
    cases draw<;>simp [lkC] at hl
    exact sy hl.2 hl.1.1 hl.1.2 hS h (fun fr' σ' g' w' a' k1 k2 k3 k4=>hQ _ _ _ _ _ _ k1 k2 k3 (.of_eq k4))
  | any t =>
    intro c hl rn hrn g σ w fr a R Q hS h hQ
    cases c<;>try (simp [lkC] at hl;done)
    rename_i id ops draw
    cases draw<;>simp [lkC] at hl
    exact sA hl.2 hl.1 hS h (fun fr' σ' g' w' a' k1 k2 k3 k4=>hQ _ _ _ _ _ _ k1 k2 k3 (.of_eq k4))
  | inv l dp =>
    intro c hl rn hrn g σ w fr a R Q hS h hQ
    cases c<;>try (simp [lkC] at hl;done)
    rename_i id ops draw
    cases draw<;>simp only [lkC,Bool.and_eq_true,beq_iff_eq,Bool.false_eq_true] at hl
    exact sC hl.2 hl.1.1 hl.1.2 hS h (fun fr' σ' g' w' a' k1 k2 k3 k4=>hQ _ _ _ _ _ _ k1 k2 k3 (.of_eq k4))
  | seq x y ihx ihy =>
    intro c hl rn hrn g σ w fr a R Q hS h hQ
    cases c<;>simp [lkC] at hl
    simp only [noR,Bool.and_eq_true] at hrn
    refine wpIn_seq (ihx _ hl.1 rn (hrn.imp id And.left) g σ w fr a _ _ hS h (fun e fr' σ' g' w' a' k1 k2 k3 k4=>?_))
    cases e with
    | normal=>exact ihy _ hl.2 rn (hrn.imp id And.right) g' σ' w' fr' a' R Q k2 k1 (fun e2 fr2 σ2 g2 w2 a2 q1 q2 q3 q4=>hQ _ _ _ _ _ _ q1 q2 (k3.trans q3) (k4.trans k3 q4))
    | _=>exact hQ _ _ _ _ _ _ k1 k2 k3 k4
  | cond b x y ihx ihy =>
    intro c hl rn hrn g σ w fr a R Q hS h hQ
    cases c<;>simp [lkC] at hl
    simp only [noR,Bool.and_eq_true] at hrn
    simp only [aC] at h
    have hr:=dA hS.inv hS.rel hl.1.1
    cases hv:ev σ fr b<;>simp only [hv] at h
    rw [hv] at hr
    exact wpIn_cond_split hr.db (fun ht=>ihx _ hl.1.2 rn (hrn.imp id And.left) g σ w fr a R Q hS (h.1 ht) hQ) (fun ht=>ihy _ hl.2 rn (hrn.imp id And.right) g σ w fr a R Q hS (h.2 ht) hQ)
  | block id x ih =>
    intro c hl rn hrn g σ w fr a R Q hS h hQ
    cases c<;>simp [lkC] at hl
    obtain ⟨rfl,hl⟩:=hl
    refine wpIn_block (ih _ hl rn hrn g σ w fr a _ _ hS h (fun e fr' σ' g' w' a' k1 k2 k3 k4=>?_))
    cases e with
    | exit j =>
      simp only at k1
      simp only [Exit.inBlock]
      split
      · rename_i hj;rw [if_pos hj] at k1;exact hQ _ _ _ _ _ _ k1 k2 k3 k4
      · rename_i hj;rw [if_neg hj] at k1;exact hQ _ _ _ _ _ _ k1 k2 k3 k4
    | _=>exact hQ _ _ _ _ _ _ k1 k2 k3 k4
  | scope x ih =>
    intro c hl rn hrn g σ w fr a R Q hS h hQ
    cases c<;>simp [lkC] at hl
    simp only [aC] at h
    refine iE (ih _ hl rn hrn g σ w fr a _ _ hS h (fun e fr' σ' g' w' a' k1 k2 k3 k4=>?_))
    cases e with
    | goto l=>exact k1.elim
    | _=>exact hQ _ _ _ _ _ _ k1 k2 k3 k4
  | loop x ih =>
    intro c hl rn hrn g σ w fr a R Q hS h hQ
    cases c<;>simp [lkC] at hl
    rename_i body
    obtain ⟨regs,h⟩:=h
    obtain ⟨g0,fr0,σ0,hS0,he0,α,F,S,I,μ,a0,h0,hf0,hs0,hround⟩:=ee regs hS h
    have key:∀ (n:Nat) (g1:Gh) (z:α) (w1:World) (a1:Act),I z→Sim g1 (S z) w1 (F z) a1 N→Ext g w g1 w1→ju w a a1→μ z=n →
        ∀ (b:Frame) (k:List Item) (cs:List Frame),b.roundOf=(Wd rn).round→∃ e a' w',Q e a' w'∧ArrivesIn (Machine.fenced P (Wd rn)) P (lone (b.atR a1 (.code body:: .inLoop body::k)) cs w1) b k cs e a' w':=by
      intro n
      induction n using Nat.strongRecOn with
      | _ n ihn =>
        intro g1 z w1 a1 hI1 hS1 he1 hn1 hm
        have hb:=ih _ hl rn hrn g1 (S z) w1 (F z) a1 _ (Exit.then (fun a2 w2=>∀ (b:Frame) (k:List Item) (cs:List Frame),b.roundOf=(Wd rn).round→∃ e a' w',Q e a' w'∧ArrivesIn (Machine.fenced P (Wd rn)) P (lone (b.atR a2 (.code body:: .inLoop body::k)) cs w2) b k cs e a' w') Q) hS1 (hround z hI1) (fun e fr' σ' g' w' a' k1 k2 k3 k4=>by
          cases e with
          | normal =>
            obtain ⟨z2,q1,q2,q3,q4⟩:=k1
            exact ihn _ (by omega) g' z2 w' a' q1 (k2.le q3 q2) (he1.trans k3) (hn1.trans he1 k4) rfl
          | _=>exact hQ _ _ _ _ _ _ k1 k2 (he1.trans k3) (hn1.trans he1 k4))
        intro b k cs hro
        obtain ⟨e,a₁,w₁,hq,harr⟩:=hb b (.inLoop body::k) cs hro trivial lA
        cases e with
        | normal =>
          obtain ⟨e₂,a₂,w₂,hq₂,harr₂⟩:=hq b k cs hro
          exact ⟨e₂,a₂,w₂,hq₂, .of_steps (StepsIn.trans harr (.one (fenced_calm (n:=0) trivial lA rfl) stepR_inLoop)) harr₂⟩
        | exit id=>exact ⟨_,a₁,w₁,hq, .pass (x:= .inLoop body) rfl (fun _ _=> .inl (by simp)) harr⟩
        | goto l=>exact ⟨_,a₁,w₁,hq, .pass (x:= .inLoop body) rfl (fun _ _=> .inl (by simp)) harr⟩
        | ret=>exact ⟨_,a₁,w₁,hq, .pass (x:= .inLoop body) rfl (fun _ _=> .inl (by simp)) harr⟩
        | panic ch=>exact ⟨_,a₁,w₁,hq, .pass (x:= .inLoop body) rfl (fun _ _=> .inl (by simp)) harr⟩
        | outgrown=>exact ⟨_,a₁,w₁,hq, .pass (x:= .inLoop body) rfl (fun _ _=> .inl (by simp)) harr⟩
    intro b k cs hro hb hr
    obtain ⟨e,a',w',hq,harr⟩:=key _ g0 a0 w a h0 (hS0.le hs0 hf0) he0 .refl rfl b k cs hro
    exact ⟨e,a',w',hq, .of_steps (.one (fenced_calm hb hr rfl) stepR_loop) harr⟩
  | keep ts x ih =>
    intro c hl rn hrn g σ w fr a R Q hS h hQ
    simp only [lkC] at hl
    refine ih c hl rn hrn g σ w (gJ ts fr) a R Q ⟨hS.inv,fun t=>?_,hS.size,hS.defers⟩ h hQ
    rcases iS t fr ts with e|e
    · rw [e];exact hS.rel t
    · rw [e];exact .junk _
  | exit id =>
    intro c hl rn hrn g σ w fr a R Q hS h hQ
    cases c<;>simp [lkC] at hl
    subst hl
    exact wpIn_exit (hQ _ _ _ _ _ _ h hS (.refl g w) .refl)
  | ret =>
    intro c hl rn hrn g σ w fr a R Q hS h hQ
    cases c<;>simp [lkC] at hl
    exact wpIn_ret (hQ _ _ _ _ _ _ h hS (.refl g w) .refl)
  | frz t es x ih =>
    intro c hl rn hrn g σ w fr a R Q hS h hQ
    simp only [lkC] at hl
    simp only [aC] at h
    cases hq:cb t es fr σ with
    | none=>rw [hq] at h;exact ih c hl rn hrn g σ w fr a R Q hS h hQ
    | some q =>
      rw [hq] at h
      obtain ⟨g',hS',he⟩:=vH hS hq
      exact ih c hl rn hrn g' q.2 w q.1 a R Q hS' h (fun e fr' σ' g2 w2 a2 k1 k2 k3 k4=>hQ e fr' σ' g2 w2 a2 k1 k2 (he.trans k3) k4)
  | rfun x ps asg body ihA ihB =>
    intro c hl rn hrn g σ w fr a R Q hS h hQ
    have hrn0:rn=none:=by simpa [noR] using hrn
    subst hrn0
    cases c<;>simp only [lkC] at hl<;>try (cases hl;done)
    rename_i gg params assign bodyc
    simp only [Bool.and_eq_true,beq_iff_eq] at hl
    obtain ⟨⟨⟨⟨⟨⟨hod,hps⟩,hpN⟩,hlA⟩,hnA⟩,hlB⟩,hnB⟩:=hl
    obtain ⟨regs,h⟩:=h
    obtain ⟨g0,fr0,σ0,hS0,he0,h⟩:=ee regs hS h
    have hx:=dA hS0.inv hS0.rel hod
    cases hv:ev σ0 fr0 x<;>simp only [hv] at h
    rename_i f cap
    rw [hv] at hx
    obtain ⟨us,hev,hus⟩:=hx.lK
    obtain ⟨hfn,h⟩:=h
    refine wpIn_rangeFunc (F:=Wd none) ?_
    intro fn _
    obtain ⟨rec,hrec⟩:∃ rec:Loop,rec={ state:= .ready,pending:=none,fn:=fn,tmps:=a.tmps,params:=params,assign:=assign,body:=bodyc,defers:=w.heap.size }:=⟨_,rfl⟩
    have hready:rec.state= .ready:=by rw [hrec]
    have hpend:rec.pending=none:=by rw [hrec]
    have htm:rec.tmps=a.tmps:=by rw [hrec]
    have hE1:=Ext.dJ (g:=g0) (w:=w) (.deferred (some [])) (.loop rec)
    have hI1:=hS0.inv.dJ (fr:=fr0) (r:=rec) (fun t=>by rw [htm];exact hS0.rel t)
    have hh:=gU w (.deferred (some [])) (.loop rec)
    have hnone:σ0.lp (w.heap.size+1)=none:=by
      cases hq:σ0.lp (w.heap.size+1) with
      | none=>rfl
      | some y=>have:=(Array.getElem?_eq_some_iff.1 (hS0.inv.lp _ _ hq).1).1;omega
    have hcD:(g0.dJ w).cl w.heap.size=none:=by simp [Gh.dJ]
    refine ⟨w.heap.size+1,[gn w.heap.size],(w.alloc (.deferred (some []))).alloc (.loop rec),{ target:= .fn (.func f) us.toArray,args:= #[.func (.yield (w.heap.size+1)) #[] #[]] },(w.alloc (.deferred (some []))).alloc (.loop rec),f,
      #[.func (.yield (w.heap.size+1)) #[] #[]]++us.toArray,(w.alloc (.deferred (some []))).alloc (.loop rec),?_,?_,fun _ _=>trivial,?_,fun e=>by simp [Wd,Fence.wide] at e,?_⟩
    · rw [hrec];exact run_enterLoop_outer _ _ _ _ _
    · simp only [resolve,hev]
      simp [Act.eval,Deferred.ofValue]
    · simp only [invoke]
      simp [l5 hfn]
    · have hac:=h (w.heap.size+1) rec hnone hready hpend ?_
      ·
        rcases hac (g0.dJ w) _ (Value.func (.yield (w.heap.size+1)) #[] #[]::us) hI1 (.cons (.yld _) (hus.mono hE1)) with ⟨_,hcalls⟩|⟨v,w',hrun,_⟩
        · have hcalls2:CallsIn (Wd none) (0 - 1) P f (#[.func (.yield (w.heap.size+1)) #[] #[]]++us.toArray) ((w.alloc (.deferred (some []))).alloc (.loop rec)) _:=qc (by simpa using hcalls)
          refine hcalls2.mono ?_
          rintro e W3 ⟨v,rr,σ3,g3,rfl,hpost,hI3,he3,_⟩
          have fin:∀ (x:Loop),σ3.lp (w.heap.size+1)=some (.loop x,fr0)→x.state≠ .busy→∃ W4,(Instr.endLoop (w.heap.size+1)).run P W3= .ok x.pending W4∧Sim g3 (σ3.dropLp (w.heap.size+1)) W4 fr0 { a with defers:= [gn w.heap.size]++a.defers } N∧Ext g w g3 W4∧ju w a { a with defers:= [gn w.heap.size]++a.defers }:=by
            intro x hx hb
            obtain ⟨q1,q2,_⟩:=hI3.lp _ _ hx
            have hE4:=im (g:=g3) (w:=W3) (L:=w.heap.size+1) (.loop { x with state:= .exhausted }) q2 (by rw [q1];intro _ _ _ h;cases h)
            have hEx:Ext g0 w g3 (W3.putObj (w.heap.size+1) (.loop { x with state:= .exhausted })):=(hE1.trans he3).trans hE4
            refine ⟨_,run_endLoop q1 hb,⟨hI3.dropLp hx,fun t=>(hS0.rel t).mono hEx,hS0.size,?_⟩,he0.trans hEx,?_⟩
            · obtain ⟨l,hl1,hl2,hl3⟩:=hS0.defers
              have hE2:=he3.trans hE4
              obtain ⟨m1,m2⟩:=hE2.cln w.heap.size (by simp;omega) hcD
              refine ⟨w.heap.size::l,by simp [hl1],List.nodup_cons.2 ⟨fun hm=>?_,hl2⟩,fun D hD=>?_⟩
              · have:=(Array.getElem?_eq_some_iff.1 (hl3 _ hm).1).1;omega
              · rcases List.mem_cons.1 hD with rfl|hD
                · exact ⟨by rw [m2];exact hh.1,m1⟩
                · obtain ⟨h4,h5⟩:=hl3 D hD
                  obtain ⟨h6,h7⟩:=hEx.cln D (Array.getElem?_eq_some_iff.1 h4).1 h5
                  exact ⟨by rw [h7];exact h4,h6⟩
            · intro D hD
              simp only [List.cons_append,List.nil_append,List.mem_cons] at hD
              rcases hD with hD|hD
              · have:D=w.heap.size:=by simpa [gn] using hD
                exact .inr (by omega)
              · exact .inl hD
          rcases hpost with ⟨hl3,hQ3⟩|⟨hl3,hQ3⟩|⟨id,hl3,hQ3⟩
          · obtain ⟨W4,f1,f2,f3,f4⟩:=fin _ hl3 (by rw [hready];decide)
            exact ⟨none,W4,by rw [f1,hpend],hQ _ _ _ _ _ _ hQ3 f2 f3 f4⟩
          · obtain ⟨W4,f1,f2,f3,f4⟩:=fin _ hl3 (by simp [left])
            exact ⟨some .ret,W4,f1,wpIn_ret (hQ _ _ _ _ _ _ hQ3 f2 f3 f4)⟩
          · obtain ⟨W4,f1,f2,f3,f4⟩:=fin _ hl3 (by simp [left])
            exact ⟨some (.exit id),W4,f1,wpIn_exit (hQ _ _ _ _ _ _ hQ3 f2 f3 f4)⟩
        · rw [l5 hfn] at hrun;cases hrun
      ·
        intro xs σ1 K hlen hlp hbody g2 w2 vs hI2 hv2
        obtain ⟨q1,q2,q3⟩:=hI2.lp _ _ hlp
        have hs:vs.toArray.size=rec.params.size:=by
          have:=hv2.1
          have e2:rec.params.size=ps.length:=by rw [hrec,←hps];simp
          simp only [List.size_toArray];omega
        have hy:=run_yield (P:=P) (args:=vs.toArray) q1 hs
        refine ⟨_,_,_,_,hy,roundIn_of_wpIn trivial ?_⟩
        have hput:=qn ps xs vs rec.tmps fr0 q3 hv2 (fun t ht=>by
          have:=List.all_eq_true.1 hpN t ht
          rw [htm,hS0.size];simpa using this) hlen
        have hfold:(rec.params.zip vs.toArray).foldl (fun tmps (x:Nat × Value)=>tmps.setIfInBounds x.1 x.2) rec.tmps=(ps.zip vs).foldl (fun t (x:Nat × Value)=>t.setIfInBounds x.1 x.2) rec.tmps:=by
          rw [←Array.foldl_toList,Array.toList_zip,←hps,hrec]
        have hS2:Sim g2 σ1 w2 (iD ps xs fr0) { tmps:=(rec.params.zip vs.toArray).foldl (fun tmps (x:Nat × Value)=>tmps.setIfInBounds x.1 x.2) rec.tmps,defers:= [] } N:=by
          refine ⟨hI2,?_,?_, .nil⟩
          · show RelF g2 w2 _ ((rec.params.zip vs.toArray).foldl (fun tmps (x:Nat × Value)=>tmps.setIfInBounds x.1 x.2) rec.tmps)
            rw [hfold];exact hput.1
          · show ((rec.params.zip vs.toArray).foldl (fun tmps (x:Nat × Value)=>tmps.setIfInBounds x.1 x.2) rec.tmps).size=N
            rw [hfold,hput.2,htm];exact hS0.size
        have ea:rec.assign=assign:=by rw [hrec]
        have eb:rec.body=bodyc:=by rw [hrec]
        rw [ea,eb]
        refine ihA _ hlA (some (w.heap.size+1)) (.inr hnA) g2 σ1 w2 _ _ _ _ hS2 hbody ?_
        rintro e fr1 σ2 g4 w4 a4 ⟨rfl,hl2,hb⟩ hS4 he4 hn4
        obtain ⟨u1,u2,u3⟩:=hS4.inv.lp _ _ hl2
        refine ⟨w4.putObj (w.heap.size+1) (.loop (busy rec)),run_beginRound u1 hready,?_⟩
        have hE5:=im (g:=g4) (w:=w4) (L:=w.heap.size+1) (.loop (busy rec)) u2 (by rw [u1];intro _ _ _ h;cases h)
        refine ihB _ hlB (some (w.heap.size+1)) (.inr hnB) g4 _ _ fr1 a4 _ _ ⟨hS4.inv.av hl2 rfl,fun t=>(hS4.rel t).mono hE5,hS4.size,hS4.defers.mono hE5⟩ hb ?_
        rintro e fr3 σ3 g5 w5 a5 ⟨hl3,hK⟩ hS5 he5 hn5
        obtain ⟨v1,v2,v3⟩:=hS5.inv.lp _ _ hl3
        have fin:∀ (jump:Option Code) (r':Loop),r'={ busy rec with state:=if jump.isNone then .ready else .done,pending:=jump }→K (.bool jump.isNone) (σ3.av (w.heap.size+1) (r',fr0))→∃ v w',(Instr.endRound (w.heap.size+1) jump).run P w5= .ok v w'∧CP g2 w2 K (.returned v) w':=by
          rintro jump r' hr' hk
          have hE6:=im (g:=g5) (w:=w5) (L:=w.heap.size+1) (.loop r') v2 (by rw [v1];intro _ _ _ h;cases h)
          refine ⟨_,_,run_endRound jump v1,_,_,_,g5,rfl,hk,?_,((he4.trans hE5).trans he5).trans (by rw [hr'] at hE6;exact hE6), .bool _⟩
          have:=hS5.inv.av (r':=r') hl3 (by rw [hr'])
          rw [hr'] at this ⊢;exact this
        cases e with
        | normal=>exact fin none rec (by rw [hrec];rfl) hK
        | ret=>exact fin (some .ret) _ rfl hK
        | exit id=>exact fin (some (.exit id)) _ rfl hK
        | goto l=>exact hK.elim
        | panic ch=>exact hK.elim
        | outgrown=>exact hK.elim
end
inductive RV where
 | t (s:Nat)
 | cl (s:Nat) (sz:Option Nat)
structure CF where
 body:CC
 res:List RV
 n:Nat
def jZ (P:Program):List ResultVar→List RV→Bool
 | [],[]=>true
 | .tmp t::r, .t s::r'=>t == s&&jZ P r r'
 | .cell t ty::r, .cl s sz::r'=>t == s&&lO P ty sz&&jZ P r r'
 | _,_=>false
def fB (P:Program) (f:Nat) (cf:CF):Bool :=
 match P.funcs[f]? with
 | some fn=>(match fn.body with|some c=>lkC P cf.n cf.body c|none=>false)&&fn.ntmps == cf.n&&jZ P fn.results.toList cf.res&&fn.name != "runtime.NumGoroutine"
 | none=>false
def dQ:Nat→List AV→Fr
 | _,[]=> []
 | i,a::r=>(i,a)::dQ (i+1) r
def rvV (σ:St) (fr:Fr):RV→AV
  | .t s=>slot s fr
  | .cl s sz => match cQ     σ (slot s fr) with
    | some (cs,o)=>ldV cs o sz
    | none=> .junk
def rvS (σ:St) (fr:Fr):RV→Prop
  | .t _=>True
  | .cl s sz => match cQ     σ (slot s fr) with
    | some (cs,o)=>ldS cs o sz
    | none=>False
def aj (σ:St) (fr:Fr):List RV→Prop
 | []=>True
 | r::rs=>rvS σ fr r∧aj σ fr rs
def eN:List AV→AV
 | [v]=>v
 | vs=> .tup vs
def fE (res:List RV) (R:AV→St→Prop) (e:Exit) (fr:Fr) (σ:St):Prop :=
 (e= .ret∨e= .normal)∧aj σ fr res∧∃ r σ',wk (eN (res.map (rvV σ fr))) r∧St.le σ' σ∧R r σ'
section
variable {P:Program} {g:Gh} {σ:St} {w:World} {a:Act} {fr:Fr} {N:Nat}
theorem nO {as:List AV} {vs:List Value}:∀ (i t:Nat),b8 g w as vs→(t<i→slot t (dQ i as)= .junk)∧(i≤t→Rel g w (slot t (dQ i as)) ((vs[t - i]?).getD undef)):=by
  induction as generalizing vs with
  | nil=>intro i t _;exact ⟨fun _=>rfl,fun _=> .junk _⟩
  | cons a as ih =>
    intro i t h
    obtain ⟨v,vs',rfl,h1,h2⟩:=h.cons_inv
    obtain ⟨k1,k2⟩:=ih (i+1) t h2
    simp only [dQ,slot]
    refine ⟨fun hlt=>by rw [if_neg (by omega)];exact k1 (by omega),fun hle=>?_⟩
    split
    · rename_i e;subst e;simpa using h1
    · have:=k2 (by omega)
      rw [show t - i=(t - (i+1))+1 by omega]
      simpa using this
def iT (tmps:Array Value) (x:ResultVar):Sem Value :=
 match x with
 | .tmp t=>pure (tmps.getD t undef)
 | .cell x t=>do loadVar t (←asAddr (tmps.getD x undef))
theorem j0 (hS:Sim g σ w fr a N):∀ (rs:List ResultVar) (rv:List RV),jZ P rs rv=true→aj σ fr rv →
    ∃ us,(rs.mapM (iT a.tmps)).run P w= .ok us w∧b8 g w (rv.map (rvV σ fr)) us
  | [],[],_,_=>⟨[],by simp, .nil⟩
  | .tmp t :: rs, .t s :: rv, h, hs => by
    simp only [jZ,Bool.and_eq_true,beq_iff_eq] at h
    obtain ⟨rfl,h⟩:=h
    obtain ⟨us,hr,hu⟩:=j0 hS rs rv h hs.2
    exact ⟨a.tmps.getD t undef::us,by simp [List.mapM_cons,iT,hr], .cons (hS.rel t) hu⟩
  | .cell x ty :: rs, .cl s sz :: rv, h, hs => by
    simp only [jZ,Bool.and_eq_true,beq_iff_eq] at h
    obtain ⟨⟨rfl,h0⟩,h⟩:=h
    obtain ⟨us,hr,hu⟩:=j0 hS rs rv h hs.2
    have hv:=hS.rel x
    have h1:=hs.1
    simp only [rvS] at h1
    cases hp:cQ σ (slot x fr) with
    | none=>simp only [hp] at h1
    | some q =>
      obtain ⟨cs,k⟩:=q
      simp only [hp] at h1
      obtain ⟨b,base,us2,ex,hrel,hcell⟩:=lP hS.inv hv hp
      obtain ⟨d,i,hd,hi,hc⟩:=jW h0
      have hl:=oI hrel h1
      have hld:∃ u,(loadVar ty ⟨b,base+k,none⟩).run P w= .ok u w∧Rel g w (ldV cs k sz) u:=by
        rcases hc with ⟨hrow,rfl⟩|⟨hrow,rfl,_⟩
        · simp only at hl
          have hlen:((us2.drop k).take i.size).length=i.size:=by simp only [List.length_take,List.length_drop];omega
          exact ⟨_,run_loadVar_mid (P:=P) w b (base+k) ty ((us2.drop k).take i.size) d (fun j v hv=>by
            rw [List.getElem?_take] at hv
            split at hv
            · rw [List.getElem?_drop] at hv;rw [Nat.add_assoc];exact hcell _ v hv
            · cases hv) hd hrow (by rw [hi,hlen];rfl),hl.2⟩
        · simp only at hl
          obtain ⟨v,hv2,_,hrel2⟩:=hl
          exact ⟨v,by simp [loadVar,ij hd,hrow,hcell k v hv2],hrel2⟩
      obtain ⟨u,hu1,hu2⟩:=hld
      refine ⟨u::us,?_, .cons (by simpa only [rvV,hp] using hu2) hu⟩
      simp [List.mapM_cons,iT,ex,asAddr,hu1,hr]
  | [],_::_,h,_=>by simp [jZ] at h
  | .tmp _::_,[],h,_=>by simp [jZ] at h
  | .cell _ _::_,[],h,_=>by simp [jZ] at h
  | .tmp _::_, .cl _ _::_,h,_=>by simp [jZ] at h
  | .cell _ _::_, .t _::_,h,_=>by simp [jZ] at h
def yK:List Value→Value
 | [u]=>u
 | us=> .tuple us.toArray
theorem qp {fn:Func} {us:List Value} {tmps:Array Value} (h:(fn.results.toList.mapM (iT tmps)).run P w= .ok us w) :
  (results fn tmps).run P w= .ok (yK us) w:=by
 have e:results fn tmps=(do let vs ←fn.results.mapM (iT tmps);pure (if h:vs.size=1 then vs[0] else .tuple vs)):=by
  unfold results
  congr 1
 have e2:fn.results.mapM (iT tmps)=List.toArray <$> fn.results.toList.mapM (iT tmps):=by rw [Array.mapM_eq_mapM_toList]
 rw [e,Sem.run_bind,e2,Sem.run_map,h]
 simp only [Result.andThen_ok]
 cases us with
 | nil=>rfl
 | cons u us=>cases us<;>simp [yK]
theorem Ext.yL {g0:Gh} {w0:World} {D:Nat} (o':Obj) (h:Ext g0 w0 g w) (hD:w0.heap.size≤D):Ext g0 w0 g (w.putObj D o'):=by
 have hh:∀ b,b<w0.heap.size→(w.putObj D o').heap[b]? =w.heap[b]? :=fun b hb=>World.putObj_heap_other (by omega)
 refine ⟨h.os,h.tape,h.output,by simpa using h.size,h.box,h.boxold,h.nb,h.nt,h.tip,fun b hb hc=>⟨(h.cln b hb hc).1,by rw [hh b hb];exact (h.cln b hb hc).2⟩,fun b F hb hc=>?_,h.tipn,fun b us T' hx hb=>by
  obtain ⟨us',h1,h2⟩:=h.rz b us T' hx hb
  exact ⟨us',by rw [hh b (Array.getElem?_eq_some_iff.1 hb).1];exact h1,h2⟩⟩
 obtain ⟨F',h1,h2,h3⟩:=h.cls b F hb hc
 exact ⟨F',h1,h2,fun i hi=>by rw [World.cell?_of_block (hh b hb)];exact h3 i hi⟩
theorem gr {fn:Func} {res:List RV} {RR:Ending→World→Prop} {g0:Gh} {w0:World} (hres:jZ P fn.results.toList res=true)
    (hfin:∀ (w:World) (us:List Value),Inv g σ w→Ext g0 w0 g w→b8 g w (res.map (rvV σ fr)) us→RR (.returned (yK us)) w)
    (hrs:aj σ fr res):∀ (l:List Nat) (w:World) (tmps:Array Value),l.Nodup→(∀ D∈l,w.heap[D]? =some (.deferred (some []))∧g.cl D=none∧w0.heap.size≤D)→Inv g σ w→Ext g0 w0 g w→RelF g w fr tmps→tmps.size=N →
      LeavesInM Fence.wide 0 P fn tmps RR (l.map gn) .returning w
  | [], w, tmps, hn, hm, hI, hE, hF, hsz => by
    obtain ⟨us,hrun,hu⟩:=j0 (P:=P) (a:={ tmps:=tmps,defers:= [] }) ⟨hI,hF,hsz, .nil⟩ _ _ hres hrs
    exact ⟨_,qp (P:=P) (fn:=fn) hrun,hfin w us hI hE hu⟩
  | D :: l, w, tmps, hn, hm, hI, hE, hF, hsz => by
    obtain ⟨h1,h2,h3⟩:=hm D (by simp)
    have hnd:=List.nodup_cons.1 hn
    refine ⟨by simp, .inl ⟨D,w.putObj D (.deferred none),rfl,run_takeDeferred h1,?_⟩⟩
    have hI2:Inv g σ (w.putObj D (.deferred none)):=by
      have:=hI.gH (o':= .deferred none) h1 rfl (lp':=σ.lp) (fun k x hx=>by
        obtain ⟨q1,q2,q3⟩:=hI.lp k x hx
        have hk:k≠D:=by rintro rfl;rw [h1] at q1;exact x.1.yk q1
        exact ⟨by rw [World.putObj_heap_other hk];exact q1,q2,q3⟩)
      exact this
    exact gr hres hfin hrs l _ tmps hnd.2 (fun D' hD'=>by
      obtain ⟨q1,q2,q3⟩:=hm D' (by simp [hD'])
      have:D'≠D:=by rintro rfl;exact hnd.1 hD'
      exact ⟨by rw [World.putObj_heap_other this];exact q1,q2,q3⟩) hI2 (hE.yL _ h3) (fun t=>(hF t).gH h1 rfl) hsz
theorem jv {f:Nat} {as:List AV} {R:AV→St→Prop} (cf:CF) (hf:fB P f cf=true) (hn:as.length≤cf.n) (h:aC P cf.body (dQ 0 as) σ (fE cf.res R)):AC P f as σ R:=by
  unfold fB at hf
  split at hf
  · rename_i fn hfn
    simp only [Bool.and_eq_true,beq_iff_eq,bne_iff_ne] at hf
    obtain ⟨⟨⟨hbody,hnt⟩,hres⟩,hname⟩:=hf
    split at hbody
    · rename_i c hc
      intro g w vs hI hv
      left
      constructor
      · simp [callFunc,hfn,hname,hc]
      · have hlen:=hv.1
        refine callsIn_wide.1 (callsIn_of_wp_marks (n:=0) hfn hc trivial (qo cf.body c hbody none (.inl rfl) g σ w (dQ 0 as) _ (fE cf.res R) _ ⟨hI,fun t=>?_,?_, .nil⟩ h ?_))
        · have:=(nO (g:=g) (w:=w) 0 t hv).2 (Nat.zero_le _)
          simp only [Nat.sub_zero] at this
          rw [Array.getD_eq_getD_getElem?]
          by_cases ht:t<vs.length
          · rw [Array.getElem?_append_left (by simpa using ht)]
            simpa using this
          · rw [List.getElem?_eq_none (by omega)] at this
            rw [Array.getElem?_append_right (by simpa using Nat.le_of_not_lt ht)]
            by_cases ht2:t - vs.length<fn.ntmps - vs.length
            · simp only [List.size_toArray,Array.getElem?_replicate,if_pos ht2];exact this
            · simp only [List.size_toArray,Array.getElem?_replicate,if_neg ht2];exact this
        · simp;omega
        · rintro e fr' σ' g' w' a' ⟨he,hs,r,σ2,hwk,hle,hR⟩ hS hext hnew
          obtain ⟨l,hl1,hl2,hl3⟩:=hS.defers
          have hfin:=gr (P:=P) (fn:=fn) (RR:=CP g w R) (g0:=g) (w0:=w) hres (fun w2 us hI2 hE2 hu=>by
            have hrel:Rel g' w2 (eN (cf.res.map (rvV σ' fr'))) (yK us):=by
              cases hm:cf.res.map (rvV σ' fr') with
              | nil=>rw [hm] at hu;have:=hu.bO;subst this;exact .dz .nil
              | cons x xs =>
                rw [hm] at hu
                obtain ⟨u,us',rfl,k1,k2⟩:=hu.cons_inv
                cases xs with
                | nil=>have:=k2.bO;subst this;exact k1
                | cons y ys =>
                  obtain ⟨u2,us2,rfl,k3,k4⟩:=k2.cons_inv
                  exact .dz (.cons k1 (.cons k3 k4))
            exact ⟨_,r,σ2,g',rfl,hR,hI2.le hle,hE2,hwk _ _ _ hrel⟩) hs l w' a'.tmps hl2 (fun D hD=>by
              obtain ⟨q1,q2⟩:=hl3 D hD
              refine ⟨q1,q2,?_⟩
              rcases hnew D (by rw [hl1];exact List.mem_map_of_mem hD) with h|h
              · simp at h
              · exact h) hS.inv hext hS.rel hS.size
          rw [←hl1] at hfin
          rcases he with rfl|rfl
          · exact hfin
          · exact hfin
    · cases hbody
  · cases hf
end
structure Hold {α:Type} (x:α):Type where
def ar (v:AV) (p:Prop) (σ:St) (K:AV→St→Prop) (_:Hold (σ,K)):Prop:=p∧K v σ
def yM (p:Prop) (β:Nat) (cs:List AV) (σ:St) (K:AV→St→Prop) (_:Hold (σ,K)):Prop:=p∧K .junk (σ.ad β cs)
def yN (cs:List AV) (σ:St) (K:AV→St→Prop) (_:Hold (σ,K)):Prop:=∀ β,σ.box β=none→K (.ptr β 0) (σ.ad β cs)
def sD (p:Prop) (cs:List AV) (σ:St) (K:AV→St→Prop) (_:Hold (σ,K)):Prop:=p∧∀ β,σ.box β=none→K (.ptr β 0) (σ.ad β cs)
def Fx (p:Prop) (n:Nat) (cs:List AV) (σ:St) (K:AV→St→Prop) (_:Hold (σ,K)):Prop:=p∧∀ β,σ.box β=none→K (.psl β 0 n) (σ.ad β cs)
def stV (p x : AV) (n : Nat) (σ : St) (K : AV → St → Prop) (_ : Hold (σ, K)) : Prop := match p with
    | .ptr β off => match σ.box β with
      | some cs=>x.fits=true∧x.cells.length=n∧off+n≤cs.length∧K .junk (σ.ad β (cs.take off++x.cells++cs.drop (off+n)))
      | none=>False
    | _=>False
def stB (b:Option (List AV)) (β off n:Nat) (x:AV) (σ:St) (K:AV→St→Prop) (_:Hold (σ,K)):Prop:=match b with
   | some cs=>x.fits=true∧x.cells.length=n∧off+n≤cs.length∧K .junk (σ.ad β (cs.take off++x.cells++cs.drop (off+n)))
   | none=>False
def yO (P:Program) (f:Nat) (as:List AV) (σ:St) (K:AV→St→Prop) (_:Hold (σ,K)):Prop:=AC P f as σ K
def EV    (P : Program) (f : Option Nat) (as : List AV) (σ : St) (K : AV → St → Prop) (_ : Hold (σ, K)) : Prop := match f with
    | some f=>AC P f as σ K
    | none=>False
def yP    (P : Program) (tbl : List (Nat × Nat)) (x : AV) (as : List AV) (σ : St) (K : AV → St → Prop) (_ : Hold (σ, K)) : Prop := match x with
    | .ifc t v => match kq    t tbl with
      | some f=>AC P f (v::as) σ K
      | none=>False
    | _=>False
def sF     (P : Program) (x : AV) (as : List AV) (σ : St) (K : AV → St → Prop) (_ : Hold (σ, K)) : Prop := match x with
    | .fn f cap=>AC P f (as++cap) σ K
    | .yld l=>YC P l as σ K
    | _=>False
def yQ (kind:Nat) (neg:Bool) (v:AV) (σ:St) (K:AV→St→Prop) (_:Hold (σ,K)):Prop:=dx kind v=true∧∀ b,fo kind v b→K (.bool (bif neg then !b else b)) σ
def ab (x y:AV):Od→AV
 | .t 0=>x
 | _=>y
def Cr (e es bytes:Nat) (x y:AV) (σ:St) (K:AV→St→Prop) (_:Hold (σ,K)):Prop :=
 ps σ (ab x y) (.app false e es bytes (.t 0) (.t 1))∧K (pf σ (ab x y) (.app false e es bytes (.t 0) (.t 1))) σ
def k9   (tp : Bool) (e es bytes : Nat) (x y : AV) (σ : St) (K : AV → St → Prop) (_ : Hold (σ, K)) : Prop := match x with
    | .tsl τ n cs => match slv y with
      | some (m,ds)=>σ.tip τ=some (e,es,n)∧cs.length=n*es∧ds.length=m*es∧n+m≤maxLen∧(n+m)*bytes≤140737488355328∧K (.tsl τ (n+m) (cs++ds)) (σ.ai τ (e,es,n+m))
      | none=>False
    | a => bif tp then
        match slv a,slv y with
        | some (n,cs),some (m,ds)=>fresh a∧cs.length=n*es∧ds.length=m*es∧n+m≤maxLen∧(n+m)*bytes≤140737488355328∧∀ τ,σ.tip τ=none→K (.tsl τ (n+m) (cs++ds)) (σ.ai τ (e,es,n+m))
        | _,_=>False
      else Cr e es bytes a y σ K ⟨⟩
def nP    (P : Program) (v : AV) (x y : CC) (fr : Fr) (σ : St) (Q : Exit → Fr → St → Prop) (_ : Hold (x, y, fr, σ, Q)) : Prop := match v with
    | .bool t=>(t=true→aC P x fr σ Q)∧(t=false→aC P y fr σ Q)
    | _=>False
def EW (P:Program) (fr:Fr) (x:CC) (σ:St) (Q:Exit→Fr→St→Prop) (_:Hold (x,σ,Q)):Prop:=aC P x fr σ Q
def nQ (P:Program) (x:CC) (fr:Fr) (σ:St) (Q:Exit→Fr→St→Prop) (_:Hold (x,σ,Q)):Prop:=aC P (.loop x) fr σ Q
def cS (P:Program) (d:Option Nat) (r:List CI) (fr:Fr) (K:Fr→St→Prop) (v:AV) (σ:St):Prop:=cI P r (putF d v fr) σ K
def Cs   (P : Program) (y : CC) (Q : Exit → Fr → St → Prop) (e : Exit) (fr : Fr) (σ : St) : Prop := match e with
    | .normal=>aC P y fr σ Q
    | e=>Q e fr σ
def oP     (id : Nat) (Q : Exit → Fr → St → Prop) (e : Exit) (fr : Fr) (σ : St) : Prop := match e with
    | .exit j=>if j=id then Q .normal fr σ else Q (.exit j) fr σ
    | e=>Q e fr σ
def oQ     (Q : Exit → Fr → St → Prop) (e : Exit) (fr : Fr) (σ : St) : Prop := match e with
    | .goto _=>False
    | e=>Q e fr σ
def ff    (N : Fr → St → Prop) (Q : Exit → Fr → St → Prop) (e : Exit) (fr : Fr) (σ : St) : Prop := match e with
    | .normal=>N fr σ
    | e=>Q e fr σ
def gdV (P : Program) (c : Option Bool) (d : Option Nat) (op : CO) (r : List CI) (fr : Fr) (σ : St) (K : Fr → St → Prop) (_ : Hold (d, op, r, fr, σ, K)) : Prop :=
    match c with
    | none=>False
    | some c =>
      bif op.quiet then
        (c=true→ay c (ev σ fr) op.qa∧ps σ (gEv op (ev σ fr)) op)∧cI P r (putF d (.opt c (pf σ (gEv op (ev σ fr)) op)) fr) σ K
      else
        (c=true→ay c (ev σ fr) op.ods∧aOp P (evU (ev σ fr)) σ (fun v σ'=>cI P r (putF d v fr) σ' K) op)∧(c=false→cI P r (putF d (.opt false .junk) fr) σ K)
theorem qq {P:Program} {ρ:Od→AV} {σ:St} {K K':AV→St→Prop} (co:CO) (h:aOp P ρ σ K co) (hk:∀ v s,K v s→K' v s):aOp P ρ σ K' co:=by
 cases co<;>simp only [aOp] at h ⊢
 case isnil=>exact ⟨h.1,fun b hb=>hk _ _ (h.2 b hb)⟩
 case alloc=>exact fun β hβ=>hk _ _ (h β hβ)
 case mkM=>exact fun L hL=>hk _ _ (h L hL)
 case mgt =>
  split at h
  ·split at h
   ·exact hk _ _ h
   ·exact h
  ·exact h
 case mst =>
  split at h
  ·split at h
   ·exact hk _ _ h
   ·exact h
  ·exact h
 case allocT=>exact fun β hβ hβ2=>hk _ _ (h β hβ hβ2)
 case appS =>
  unfold uF at h ⊢
  split at h
  ·obtain ⟨a,b,c,d,e,f⟩:=h;exact ⟨a,b,c,d,e,hk _ _ f⟩
  ·obtain ⟨a,b,c,d⟩:=h;exact ⟨a,b,c,fun τ hτ=>hk _ _ (d τ hτ)⟩
  ·exact h
 case mkT=>exact ⟨h.1,h.2.1,fun τ hτ=>hk _ _ (h.2.2 τ hτ)⟩
 case appR =>
  unfold uG at h ⊢
  split at h
  ·split at h
   ·obtain ⟨a,b,c,d,e⟩:=h;exact ⟨a,b,c,d,fun β j hβ=>hk _ _ (e β j hβ)⟩
   ·obtain ⟨a,b,h⟩:=h
    refine ⟨a,b,?_⟩
    split at h
    ·obtain ⟨a,b,c,d,e,f⟩:=h;exact ⟨a,b,c,d,e,fun γ j hγ=>hk _ _ (f γ j hγ)⟩
    ·exact h
   ·exact h
  ·exact h
 case mkP=>exact ⟨h.1,h.2.1,h.2.2.1,h.2.2.2.1,fun β hβ=>hk _ _ (h.2.2.2.2 β hβ)⟩
 case box=>exact ⟨h.1,h.2.1,fun β hβ=>hk _ _ (h.2.2 β hβ)⟩
 case st =>
  split at h
  ·split at h
   ·exact ⟨h.1,h.2.1,h.2.2.1,hk _ _ h.2.2.2⟩
   ·exact h
  ·exact h
 case call=>exact AC.mono h hk
 case invk =>
  split at h
  ·split at h
   ·exact AC.mono h hk
   ·exact h
  ·exact h
 case callv =>
  split at h
  ·exact AC.mono h hk
  ·exact YC.mono h hk
  ·exact h
 case app tp e es bytes x y =>
  split at h
  ·split at h
   ·obtain ⟨a,b,c,d,e,f⟩:=h;exact ⟨a,b,c,d,e,hk _ _ f⟩
   ·exact h
  ·cases tp
   ·simp only [cond_false] at h ⊢;exact ⟨h.1,hk _ _ h.2⟩
   ·simp only [cond_true] at h ⊢
    split at h
    ·obtain ⟨a,b,c,d,e,f⟩:=h;exact ⟨a,b,c,d,e,fun τ hτ=>hk _ _ (f τ hτ)⟩
    ·exact h
 all_goals exact ⟨h.1,hk _ _ h.2⟩
theorem dR {P:Program}:∀ (l:List CI) {fr:Fr} {σ:St} {K K':Fr→St→Prop},cI P l fr σ K→(∀ f s,K f s→K' f s)→cI P l fr σ K'
  | [],_,_,_,_,h,hk=>hk _ _ h
  | ⟨d,op,none⟩::r,fr,σ,K,K',h,hk=>qq op h (fun v s h=>dR r h hk)
  | ⟨d, op, some (t, want)⟩ :: r, fr, σ, K, K', h, hk => by
    simp only [cI] at h ⊢
    generalize aY want (slot t fr)=gc at *
    cases gc with
    | none=>exact h
    | some c =>
      simp only at h ⊢
      cases hq:op.quiet<;>simp only [hq,cond_true,cond_false] at h ⊢
      · exact ⟨fun hc=>⟨(h.1 hc).1,qq op (h.1 hc).2 (fun v s h=>dR r h hk)⟩,fun hc=>dR r (h.2 hc) hk⟩
      · exact ⟨h.1,dR r h.2 hk⟩
theorem iq {P:Program}:∀ (l:List CI) (cs:List Nat) {fr:Fr} {σ:St} {K K':Fr→St→Prop},aF P l cs fr σ K→(∀ f s,K f s→K' f s)→aF P l cs fr σ K'
  | [],_,_,_,_,_,h,hk=>by simp only [aF] at h ⊢;exact hk _ _ h
  | _::_,[],_,_,_,_,h,_=>by simp only [aF] at h
  | i :: r, c :: cs, fr, σ, K, K', h, hk => by
    simp only [aF] at h ⊢
    cases hm:aH i.op<;>simp only [hm,cond_true,cond_false] at h ⊢
    · cases hm2:aJ c i.op<;>simp only [hm2,cond_true,cond_false] at h ⊢
      · obtain ⟨v,s,h1,h2⟩:=h;exact ⟨v,s,h1,iq r cs h2 hk⟩
      · intro β hβ;obtain ⟨v,s,h1,h2⟩:=h β hβ;exact ⟨v,s,h1,iq r cs h2 hk⟩
    · intro β hβ;obtain ⟨v,s,h1,h2⟩:=h β hβ;exact ⟨v,s,h1,iq r cs h2 hk⟩
theorem dq:∀ (regs:List (Bool × Nat × Nat × Nat × Nat)) {fr:Fr} {σ:St} {J J':Fr→St→Prop},cA regs fr σ J→(∀ f s,J f s→J' f s)→cA regs fr σ J'
  | [],_,_,_,_,h,hk=>hk _ _ h
  | (false, t, k, e, s) :: r, fr, σ, J, J', h, hk => by
    simp only [cA] at h ⊢
    refine ⟨h.1,?_⟩
    have h:=h.2
    split at h
    · exact fun τ hτ=>dq r (h τ hτ) hk
    · exact h
  | (true, t, k, e, s) :: r, fr, σ, J, J', h, hk => by
    simp only [cA] at h ⊢
    split at h
    · split at h
      · split at h
        · refine ⟨h.1,?_⟩
          have h:=h.2
          split at h
          · exact fun τ hτ=>dq r (h τ hτ) hk
          · exact h
        · exact h
      · exact h
    · exact h
theorem j3 {P:Program}:∀ (t:AT) {fr:Fr} {σ:St} {K K':Fr→St→Prop},ql P t fr σ K→(∀ f s,K f s→K' f s)→ql P t fr σ K'
 | .done,_,_,_,_,h,hk=>hk _ _ h
 | .stop,_,_,_,_,_,_=>trivial
 | .alt _ _ sub oth,_,_,_,_,h,hk=>⟨dR _ h.1 (fun _ _ h=>j3 sub h hk),j3 oth h.2 hk⟩
theorem cz {P:Program}:∀ (c:CC) (fr:Fr) (σ:St) {Q Q':Exit→Fr→St→Prop},aC P c fr σ Q→(∀ e fr σ,Q e fr σ→Q' e fr σ)→aC P c fr σ Q'
  | .skip,fr,σ,Q,Q',h,hq=>hq _ _ _ h
  | .ops l,fr,σ,Q,Q',h,hq=>dR l h (fun f s=>hq _ f s)
  | .drw l cls,fr,σ,Q,Q',h,hq=>iq l cls h (fun f s=>hq _ f s)
  | .any t,fr,σ,Q,Q',h,hq=>j3 t h (fun f s=>hq _ f s)
  | .inv l dp, fr, σ, Q, Q', h, hq => by
    obtain ⟨I,h0,h1,h2⟩:=h
    exact ⟨I,h0,h1,fun D f s hD hI=>hq _ _ _ (h2 D f s hD hI)⟩
  | .seq x y, fr, σ, Q, Q', h, hq => by
    simp only [aC] at h ⊢
    refine cz x fr σ h (fun e f s h=>?_)
    cases e<;>simp only at h ⊢ <;>first|exact cz y f s h hq|exact hq _ _ _ h
  | .cond c x y, fr, σ, Q, Q', h, hq => by
    simp only [aC] at h ⊢
    split at h
    · exact ⟨fun hc=>cz x fr σ (h.1 hc) hq,fun hc=>cz y fr σ (h.2 hc) hq⟩
    · exact h
  | .block id x, fr, σ, Q, Q', h, hq => by
    simp only [aC] at h ⊢
    refine cz x fr σ h (fun e f s h=>?_)
    cases e<;>simp only at h ⊢ <;>try exact hq _ _ _ h
    split at h
    · rename_i e;rw [if_pos e];exact hq _ _ _ h
    · rename_i e;rw [if_neg e];exact hq _ _ _ h
  | .scope x, fr, σ, Q, Q', h, hq => by
    simp only [aC] at h ⊢
    refine cz x fr σ h (fun e f s h=>?_)
    cases e<;>simp only at h ⊢ <;>exact hq _ _ _ h
  | .loop x, fr, σ, Q, Q', h, hq => by
    simp only [aC] at h ⊢
    obtain ⟨regs,h⟩:=h
    refine ⟨regs,dq regs h (fun f s h=>?_)⟩
    obtain ⟨α,F,S,I,μ,a0,h0,hf,hs,h⟩:=h
    refine ⟨α,F,S,I,μ,a0,h0,hf,hs,fun a ha=>cz x _ _ (h a ha) (fun e f s h=>?_)⟩
    cases e<;>simp only at h ⊢ <;>first|exact h|exact hq _ _ _ h
  | .keep ts x,fr,σ,Q,Q',h,hq=>cz x _ σ h hq
  | .frz t es x, fr, σ, Q, Q', h, hq => by
    simp only [aC] at h ⊢
    cases hz:cb t es fr σ with
    | none=>rw [hz] at h;exact cz x _ _ h hq
    | some q=>rw [hz] at h;exact cz x _ _ h hq
  | .rfun x ps asg body, fr, σ, Q, Q', h, hq => by
    simp only [aC] at h ⊢
    obtain ⟨regs,h⟩:=h
    refine ⟨regs,dq regs h (fun f s h=>?_)⟩
    split at h
    · refine ⟨h.1,fun L r h1 h2 h3 hY=>(h.2 L r h1 h2 h3 hY).mono (fun _ s hp=>?_)⟩
      rcases hp with ⟨k1,k2⟩|⟨k1,k2⟩|⟨id,k1,k2⟩
      · exact .inl ⟨k1,hq _ _ _ k2⟩
      · exact .inr (.inl ⟨k1,hq _ _ _ k2⟩)
      · exact .inr (.inr ⟨id,k1,hq _ _ _ k2⟩)
    · exact h.elim
  | .exit id,fr,σ,Q,Q',h,hq=>hq _ _ _ h
  | .ret,fr,σ,Q,Q',h,hq=>hq _ _ _ h
section
variable {P:Program} {σ:St} {ρ:Od→AV} {K:AV→St→Prop} {fr:Fr} {Q:Exit→Fr→St→Prop} {J:Fr→St→Prop} {d:Option Nat} {r:List CI} {v:AV} {p:Prop} {β off n f:Nat} {cs as cap:List AV} {x y:CC}
theorem yR {h:Hold (σ,K)}:ar v p σ K h=(p∧K v σ):=rfl
theorem yS {h:Hold (σ,K)}:yM p β cs σ K h=(p∧K .junk (σ.ad β cs)):=rfl
theorem ah {h:Hold (σ,K)}:yN cs σ K h=∀ β,σ.box β=none→K (.ptr β 0) (σ.ad β cs):=rfl
theorem Cv {h:Hold (σ,K)}:sD p cs σ K h=(p∧∀ β,σ.box β=none→K (.ptr β 0) (σ.ad β cs)):=rfl
theorem Fy {h:Hold (σ,K)} {x:AV}:stV (.ptr β off) x n σ K h=stB (σ.box β) β off n x σ K h:=rfl
theorem Fz {h:Hold (σ,K)} {x:AV}:stB (some cs) β off n x σ K h=yM (x.fits=true∧x.cells.length=n∧off+n≤cs.length) β (cs.take off++x.cells++cs.drop (off+n)) σ K ⟨⟩:=by
 simp only [stB,yM,and_assoc]
theorem yT {h:Hold (σ,K)} {tbl:List (Nat × Nat)} {t:Nat} {v:AV}:yP P tbl (.ifc t v) as σ K h=EV P (kq t tbl) (v::as) σ K ⟨⟩:=rfl
theorem yU {h:Hold (σ,K)}:EV P (some f) as σ K h=yO P f as σ K ⟨⟩:=rfl
theorem sG {h:Hold (σ,K)} {l:Nat}:sF P (.yld l) as σ K h=YC P l as σ K:=rfl
theorem vI {h:Hold (σ,K)}:sF P (.fn f cap) as σ K h=yO P f (as++cap) σ K ⟨⟩:=rfl
theorem vJ {kind:Nat} {neg:Bool} {h:Hold (σ,K)}:yQ kind neg v σ K h=(dx kind v=true∧∀ b,fo kind v b→K (.bool (bif neg then !b else b)) σ):=rfl
theorem sH {h:Hold (x,y,fr,σ,Q)}:nP P (.bool true) x y fr σ Q h=aC P x fr σ Q:=by simp [nP]
theorem qs {h:Hold (x,y,fr,σ,Q)}:nP P (.bool false) x y fr σ Q h=aC P y fr σ Q:=by simp [nP]
theorem an {b:Bool} {h:Hold (x,y,fr,σ,Q)} (h1:b=true→aC P x fr σ Q) (h2:b=false→aC P y fr σ Q):nP P (.bool b) x y fr σ Q h:=⟨h1,h2⟩
theorem yV {h:Hold (x,σ,Q)}:EW P fr x σ Q h=aC P x fr σ Q:=rfl
theorem Cw:cS P d r fr J v σ=cI P r (putF d v fr) σ J:=rfl
theorem qt:Cs P y Q .normal fr σ=aC P y fr σ Q:=rfl
theorem vK {j:Nat}:Cs P y Q (.exit j) fr σ=Q (.exit j) fr σ:=rfl
theorem yW:Cs P y Q .ret fr σ=Q .ret fr σ:=rfl
theorem nf {id:Nat}:oP id Q .normal fr σ=Q .normal fr σ:=rfl
theorem qu {id j:Nat}:oP id Q (.exit j) fr σ=if j=id then Q .normal fr σ else Q (.exit j) fr σ:=rfl
theorem sI {id:Nat}:oP id Q .ret fr σ=Q .ret fr σ:=rfl
theorem ng:oQ Q .normal fr σ=Q .normal fr σ:=rfl
theorem qv {j:Nat}:oQ Q (.exit j) fr σ=Q (.exit j) fr σ:=rfl
theorem sJ:oQ Q .ret fr σ=Q .ret fr σ:=rfl
theorem yX:aC P (.scope x) fr σ Q=aC P x fr σ (oQ Q):=by
 simp only [aC]
 congr
theorem oR {N:Fr→St→Prop}:ff N Q .normal fr σ=N fr σ:=rfl
theorem sK {N:Fr→St→Prop} {j:Nat}:ff N Q (.exit j) fr σ=Q (.exit j) fr σ:=rfl
theorem vL {N:Fr→St→Prop}:ff N Q .ret fr σ=Q .ret fr σ:=rfl
theorem Cx:aC P .skip fr σ Q=Q .normal fr σ:=rfl
theorem FA {l:List CI}:aC P (.ops l) fr σ Q=cI P l fr σ (Q .normal):=rfl
def vM (P:Program) (t:AT) (K:Fr→St→Prop) (fr:Fr) (σ:St):Prop:=ql P t fr σ K
def Ki (P:Program) (l:List CI) (dp:List (List Nat)) (fr:Fr) (σ:St) (K:Fr→St→Prop) (_:Hold (l,fr,σ,K)):Prop:=Fw P l dp fr σ K
theorem FB {l:List CI} {dp:List (List Nat)}:aC P (.inv l dp) fr σ Q=Ki P l dp fr σ (Q .normal) ⟨⟩:=rfl
theorem FC {t:AT}:aC P (.any t) fr σ Q=vM P t (Q .normal) fr σ:=rfl
theorem vN:vM P .done J fr σ=J fr σ:=rfl
theorem vO:vM P .stop J fr σ=True:=rfl
theorem yY {j:Nat} {i:CI} {sub oth:AT}:vM P (.alt j i sub oth) J fr σ=(cI P [i] fr σ (vM P sub J)∧vM P oth J fr σ):=rfl
theorem FD {l:List CI} {cls:List Nat}:aC P (.drw l cls) fr σ Q=aF P l cls fr σ (Q .normal):=rfl
theorem FE:aC P (.seq x y) fr σ Q=aC P x fr σ (Cs P y Q):=by
 simp only [aC]
 congr
theorem Cy {c:Od}:aC P (.cond c x y) fr σ Q=nP P (ev σ fr c) x y fr σ Q ⟨⟩:=rfl
theorem yZ {id:Nat}:aC P (.block id x) fr σ Q=aC P x fr σ (oP id Q):=by
 simp only [aC]
 congr
def FF (P:Program) (o:Option (Fr × St)) (x:CC) (fr:Fr) (σ:St) (Q:Exit→Fr→St→Prop) (_:Hold (x,fr,σ,Q)):Prop:=match o with
 | some q=>aC P x q.1 q.2 Q
 | none=>aC P x fr σ Q
theorem bd {t e:Nat}:aC P (.frz t e x) fr σ Q=FF P (cb t e fr σ) x fr σ Q ⟨⟩:=rfl
theorem az {f:Fr} {s:St} {h:Hold (x,fr,σ,Q)}:FF P (some (f,s)) x fr σ Q h=aC P x f s Q:=rfl
theorem aA {h:Hold (x,fr,σ,Q)}:FF P none x fr σ Q h=aC P x fr σ Q:=rfl
theorem Cz {ts:List Nat}:aC P (.keep ts x) fr σ Q=EW P (gJ ts fr) x σ Q ⟨⟩:=rfl
def EX (P:Program) (x:Od) (ps:List Nat) (asg body:CC) (fr:Fr) (σ:St) (Q:Exit→Fr→St→Prop) (_:Hold (asg,body,fr,σ,Q)):Prop:=aC P (.rfun x ps asg body) fr σ Q
theorem CA {c:Od} {ps:List Nat}:aC P (.rfun c ps x y) fr σ Q=EX P c ps x y fr σ Q ⟨⟩:=rfl
theorem CB:aC P (.loop x) fr σ Q=nQ P x fr σ Q ⟨⟩:=rfl
theorem CD {id:Nat}:aC P (.exit id) fr σ Q=Q (.exit id) fr σ:=rfl
theorem FG:aC P .ret fr σ Q=Q .ret fr σ:=rfl
theorem y1:cI P [] fr σ J=J fr σ:=rfl
theorem vP {op:CO}:cI P (⟨d,op,none⟩::r) fr σ J=aOp P (ev σ fr) σ (cS P d r fr J) op:=rfl
theorem sL {op:CO} {t:Nat} {want:Bool}:cI P (⟨d,op,some (t,want)⟩::r) fr σ J=gdV P (aY want (slot t fr)) d op r fr σ J ⟨⟩:=rfl
theorem vQ {kind:Nat} {neg:Bool} {x:Od}:aOp P ρ σ K (.isnil kind neg x)=yQ kind neg (ρ x) σ K ⟨⟩:=rfl
theorem vR:aOp P ρ σ K (.alloc cs)=yN cs σ K ⟨⟩:=rfl
theorem CE {x:Od}:aOp P ρ σ K (.box n x)=sD ((ρ x).fits=true∧(ρ x).cells.length=n) (ρ x).cells σ K ⟨⟩:=by
 simp only [aOp,sD,and_assoc]
theorem CG {p:Prop} {h:Hold (σ,K)}:Fx p n cs σ K h=(p∧∀ β,σ.box β=none→K (.psl β 0 n) (σ.ad β cs)):=rfl
theorem CH {es bytes:Nat} {z:List AV} {x:Od}:aOp P ρ σ K (.mkP es bytes z x)=Fx (cX (ρ x)∧0≤aG (ρ x)∧aG (ρ x)≤9223372036854775807∧(aG (ρ x)).toNat*bytes≤140737488355328) (aG (ρ x)).toNat (List.replicate (aG (ρ x)).toNat z).flatten σ K ⟨⟩:=by
 simp only [aOp,Fx,and_assoc]
theorem CJ {x}:aOp P ρ σ K (.s2b x)=ar (pf σ ρ (.s2b x)) (ps σ ρ (.s2b x)) σ K ⟨⟩:=rfl
theorem y2 {x}:aOp P ρ σ K (.lenP x)=ar (pf σ ρ (.lenP x)) (ps σ ρ (.lenP x)) σ K ⟨⟩:=rfl
def FH (p:Prop) (e es n:Nat) (cs:List AV) (σ:St) (K:AV→St→Prop) (_:Hold (σ,K)):Prop:=p∧∀ τ,σ.tip τ=none→K (.tsl τ n cs) (σ.ai τ (e,es,n))
theorem CK {p:Prop} {e es:Nat} {h:Hold (σ,K)}:FH p e es n cs σ K h=(p∧∀ τ,σ.tip τ=none→K (.tsl τ n cs) (σ.ai τ (e,es,n))):=rfl
theorem CL {e es n:Nat} {z:List AV} {q:List (Nat × Nat × Od)}:aOp P ρ σ K (.mkT e es n z q)=FH (dY ρ z.length q∧z.length=n*es) e es n (bp ρ z q) σ K ⟨⟩:=by
 simp only [aOp,FH,and_assoc]
def Ji (e es bytes:Nat) (a b:AV) (σ:St) (K:AV→St→Prop) (_:Hold (σ,K)):Prop:=uG e es bytes a b σ K
theorem y3 {e es bytes:Nat} {x y:Od}:aOp P ρ σ K (.appR e es bytes x y)=Ji e es bytes (ρ x) (ρ y) σ K ⟨⟩:=rfl
theorem CM {e x i}:aOp P ρ σ K (.ixQ e x i)=ar (pf σ ρ (.ixQ e x i)) (ps σ ρ (.ixQ e x i)) σ K ⟨⟩:=rfl
theorem FI {p x:Od}:aOp P ρ σ K (.st n p x)=stV (ρ p) (ρ x) n σ K ⟨⟩:=rfl
theorem y4 {args:List Od}:aOp P ρ σ K (.call f args)=yO P f (args.map ρ) σ K ⟨⟩:=rfl
theorem y5 {tbl:List (Nat × Nat)} {x:Od} {args:List Od}:aOp P ρ σ K (.invk tbl x args)=yP P tbl (ρ x) (args.map ρ) σ K ⟨⟩:=by
 simp only [aOp,yP]
 cases ρ x<;>rfl
theorem vS {x:Od} {args:List Od}:aOp P ρ σ K (.callv x args)=sF P (ρ x) (args.map ρ) σ K ⟨⟩:=rfl
theorem CN {tp:Bool} {e es bytes:Nat} {x y:Od}:aOp P ρ σ K (.app tp e es bytes x y)=k9 tp e es bytes (ρ x) (ρ y) σ K ⟨⟩:=by
 cases h:ρ x<;>simp only [aOp,k9,Cr,ps,pf,ab,h]<;>rfl
theorem qw {tp:Bool} {e es bytes τ m:Nat} {ds:List AV} {y:AV} {h:Hold (σ,K)} (hy:slv y=some (m,ds)):k9 tp e es bytes (.tsl τ n cs) y σ K h=(σ.tip τ=some (e,es,n)∧cs.length=n*es∧ds.length=m*es∧n+m≤maxLen∧(n+m)*bytes≤140737488355328∧K (.tsl τ (n+m) (cs++ds)) (σ.ai τ (e,es,n+m))):=by
 simp only [k9,hy]
theorem ct {e es bytes m:Nat} {ds:List AV} {x y:AV} {h:Hold (σ,K)} (hx:slv x=some (n,cs)) (hf:fresh x) (hy:slv y=some (m,ds)) (h1:cs.length=n*es) (h2:ds.length=m*es) (h3:n+m≤maxLen) (h4:(n+m)*bytes≤140737488355328) (hK:K (.sl false (n+m) (cs++ds)) σ):k9 false e es bytes x y σ K h:=by
 have:Cr e es bytes x y σ K ⟨⟩:=by
  simp only [Cr,ps,pf,ab,hx,hy]
  exact ⟨⟨hf,h1,h2,h3,h4⟩,hK⟩
 unfold k9
 split
 ·exact hf.elim
 ·exact this
theorem FJ {x}:aOp P ρ σ K (.mv x)=ar (pf σ ρ (.mv x)) (ps σ ρ (.mv x)) σ K ⟨⟩:=rfl
theorem y6 {c a b}:aOp P ρ σ K (.pick c a b)=ar (pf σ ρ (.pick c a b)) (ps σ ρ (.pick c a b)) σ K ⟨⟩:=rfl
theorem FK {u x}:aOp P ρ σ K (.un u x)=ar (pf σ ρ (.un u x)) (ps σ ρ (.un u x)) σ K ⟨⟩:=rfl
theorem CQ {u x y}:aOp P ρ σ K (.bin u x y)=ar (pf σ ρ (.bin u x y)) (ps σ ρ (.bin u x y)) σ K ⟨⟩:=rfl
theorem CR {n ks x y}:aOp P ρ σ K (.eqA n ks x y)=ar (pf σ ρ (.eqA n ks x y)) (ps σ ρ (.eqA n ks x y)) σ K ⟨⟩:=rfl
theorem CS {n x y}:aOp P ρ σ K (.eqb n x y)=ar (pf σ ρ (.eqb n x y)) (ps σ ρ (.eqb n x y)) σ K ⟨⟩:=rfl
theorem CT {k x}:aOp P ρ σ K (.cnv k x)=ar (pf σ ρ (.cnv k x)) (ps σ ρ (.cnv k x)) σ K ⟨⟩:=rfl
theorem y7 {x}:aOp P ρ σ K (.b2sP x)=ar (pf σ ρ (.b2sP x)) (ps σ ρ (.b2sP x)) σ K ⟨⟩:=rfl
theorem y8 {n e x}:aOp P ρ σ K (.slcP n e x)=ar (pf σ ρ (.slcP n e x)) (ps σ ρ (.slcP n e x)) σ K ⟨⟩:=rfl
theorem CU {x}:aOp P ρ σ K (.b2s x)=ar (pf σ ρ (.b2s x)) (ps σ ρ (.b2s x)) σ K ⟨⟩:=rfl
theorem CV {x}:aOp P ρ σ K (.len x)=ar (pf σ ρ (.len x)) (ps σ ρ (.len x)) σ K ⟨⟩:=rfl
theorem y9 {x}:aOp P ρ σ K (.lenS x)=ar (pf σ ρ (.lenS x)) (ps σ ρ (.lenS x)) σ K ⟨⟩:=rfl
theorem CW {o z x}:aOp P ρ σ K (.fld o z x)=ar (pf σ ρ (.fld o z x)) (ps σ ρ (.fld o z x)) σ K ⟨⟩:=rfl
theorem za {o x}:aOp P ρ σ K (.fldA o x)=ar (pf σ ρ (.fldA o x)) (ps σ ρ (.fldA o x)) σ K ⟨⟩:=rfl
theorem CY {e x i}:aOp P ρ σ K (.ixA e x i)=ar (pf σ ρ (.ixA e x i)) (ps σ ρ (.ixA e x i)) σ K ⟨⟩:=rfl
theorem CZ {n e x i}:aOp P ρ σ K (.ixP n e x i)=ar (pf σ ρ (.ixP n e x i)) (ps σ ρ (.ixP n e x i)) σ K ⟨⟩:=rfl
theorem C0 {x i}:aOp P ρ σ K (.ixS x i)=ar (pf σ ρ (.ixS x i)) (ps σ ρ (.ixS x i)) σ K ⟨⟩:=rfl
theorem C1 {n e z x i}:aOp P ρ σ K (.ixV n e z x i)=ar (pf σ ρ (.ixV n e z x i)) (ps σ ρ (.ixV n e z x i)) σ K ⟨⟩:=rfl
theorem C2 {ts ns k z x}:aOp P ρ σ K (.asT ts ns k z x)=ar (pf σ ρ (.asT ts ns k z x)) (ps σ ρ (.asT ts ns k z x)) σ K ⟨⟩:=rfl
theorem C3 {z x}:aOp P ρ σ K (.ldE z x)=ar (pf σ ρ (.ldE z x)) (ps σ ρ (.ldE z x)) σ K ⟨⟩:=rfl
theorem FL {z x}:aOp P ρ σ K (.ld z x)=ar (pf σ ρ (.ld z x)) (ps σ ρ (.ld z x)) σ K ⟨⟩:=rfl
theorem C4 {e x l h m}:aOp P ρ σ K (.slc e x l h m)=ar (pf σ ρ (.slc e x l h m)) (ps σ ρ (.slc e x l h m)) σ K ⟨⟩:=rfl
theorem zb {x l h}:aOp P ρ σ K (.slcS x l h)=ar (pf σ ρ (.slcS x l h)) (ps σ ρ (.slcS x l h)) σ K ⟨⟩:=rfl
theorem C5 {z q}:aOp P ρ σ K (.bld z q)=ar (pf σ ρ (.bld z q)) (ps σ ρ (.bld z q)) σ K ⟨⟩:=rfl
theorem zd {e n z q}:aOp P ρ σ K (.mkSl e n z q)=ar (pf σ ρ (.mkSl e n z q)) (ps σ ρ (.mkSl e n z q)) σ K ⟨⟩:=rfl
theorem C6 {t x}:aOp P ρ σ K (.mkI t x)=ar (pf σ ρ (.mkI t x)) (ps σ ρ (.mkI t x)) σ K ⟨⟩:=rfl
theorem C7 {f cs}:aOp P ρ σ K (.mkF f cs)=ar (pf σ ρ (.mkF f cs)) (ps σ ρ (.mkF f cs)) σ K ⟨⟩:=rfl
theorem C8 {x i}:aOp P ρ σ K (.ext x i)=ar (pf σ ρ (.ext x i)) (ps σ ρ (.ext x i)) σ K ⟨⟩:=rfl
theorem ze {x}:aOp P ρ σ K (.nilc x)=ar (pf σ ρ (.nilc x)) (ps σ ρ (.nilc x)) σ K ⟨⟩:=rfl
theorem FM {b x y}:aOp P ρ σ K (.mm b x y)=ar (pf σ ρ (.mm b x y)) (ps σ ρ (.mm b x y)) σ K ⟨⟩:=rfl
theorem aQ {c:Bool} {op:CO} {h:Hold (d,op,r,fr,σ,J)} (hq:op.quiet=true):gdV P (some c) d op r fr σ J h=ar (.opt c (pf σ (gEv op (ev σ fr)) op)) (c=true→ay c (ev σ fr) op.qa∧ps σ (gEv op (ev σ fr)) op) σ (cS P d r fr J) ⟨⟩:=by
 simp only [gdV,hq,cond_true,ar,cS]
theorem gu {op:CO} {h:Hold (d,op,r,fr,σ,J)} (hq:op.quiet=false):gdV P (some true) d op r fr σ J h=(ay true (ev σ fr) op.ods∧aOp P (evU (ev σ fr)) σ (cS P d r fr J) op):=by
 simp only [gdV,hq,cond_false,cS,forall_const,reduceCtorEq,false_implies,and_true]
 rfl
theorem iU {op:CO} {h:Hold (d,op,r,fr,σ,J)} (hq:op.quiet=false):gdV P (some false) d op r fr σ J h=cI P r (putF d (.opt false .junk) fr) σ J:=by
 simp [gdV,hq]
theorem FN {c:Bool} {x} {h:Hold (d,CO.mv x,r,fr,σ,J)}:gdV P (some c) d (.mv x) r fr σ J h=ar (.opt c (pf σ (evU (ev σ fr)) (.mv x))) (c=true→ay c (ev σ fr) (CO.ods (.mv x))∧ps σ (evU (ev σ fr)) (.mv x)) σ (cS P d r fr J) ⟨⟩:=aQ rfl
theorem zf {c:Bool} {x a b} {h:Hold (d,CO.pick x a b,r,fr,σ,J)}:gdV P (some c) d (.pick x a b) r fr σ J h=ar (.opt c (pf σ (ku x (ev σ fr)) (.pick x a b))) (c=true→ay c (ev σ fr) [x]∧ps σ (ku x (ev σ fr)) (.pick x a b)) σ (cS P d r fr J) ⟨⟩:=aQ rfl
theorem FO {c:Bool} {u x} {h:Hold (d,CO.un u x,r,fr,σ,J)}:gdV P (some c) d (.un u x) r fr σ J h=ar (.opt c (pf σ (evU (ev σ fr)) (.un u x))) (c=true→ay c (ev σ fr) (CO.ods (.un u x))∧ps σ (evU (ev σ fr)) (.un u x)) σ (cS P d r fr J) ⟨⟩:=aQ rfl
theorem C9 {c:Bool} {u x y} {h:Hold (d,CO.bin u x y,r,fr,σ,J)}:gdV P (some c) d (.bin u x y) r fr σ J h=ar (.opt c (pf σ (evU (ev σ fr)) (.bin u x y))) (c=true→ay c (ev σ fr) (CO.ods (.bin u x y))∧ps σ (evU (ev σ fr)) (.bin u x y)) σ (cS P d r fr J) ⟨⟩:=aQ rfl
theorem Da {c:Bool} {n ks x y} {h:Hold (d,CO.eqA n ks x y,r,fr,σ,J)}:gdV P (some c) d (.eqA n ks x y) r fr σ J h=ar (.opt c (pf σ (evU (ev σ fr)) (.eqA n ks x y))) (c=true→ay c (ev σ fr) (CO.ods (.eqA n ks x y))∧ps σ (evU (ev σ fr)) (.eqA n ks x y)) σ (cS P d r fr J) ⟨⟩:=aQ rfl
theorem Db {c:Bool} {n x y} {h:Hold (d,CO.eqb n x y,r,fr,σ,J)}:gdV P (some c) d (.eqb n x y) r fr σ J h=ar (.opt c (pf σ (evU (ev σ fr)) (.eqb n x y))) (c=true→ay c (ev σ fr) (CO.ods (.eqb n x y))∧ps σ (evU (ev σ fr)) (.eqb n x y)) σ (cS P d r fr J) ⟨⟩:=aQ rfl
theorem Dc {c:Bool} {k x} {h:Hold (d,CO.cnv k x,r,fr,σ,J)}:gdV P (some c) d (.cnv k x) r fr σ J h=ar (.opt c (pf σ (evU (ev σ fr)) (.cnv k x))) (c=true→ay c (ev σ fr) (CO.ods (.cnv k x))∧ps σ (evU (ev σ fr)) (.cnv k x)) σ (cS P d r fr J) ⟨⟩:=aQ rfl
theorem zg {c:Bool} {x} {h:Hold (d,CO.b2sP x,r,fr,σ,J)}:gdV P (some c) d (.b2sP x) r fr σ J h=ar (.opt c (pf σ (evU (ev σ fr)) (.b2sP x))) (c=true→ay c (ev σ fr) (CO.ods (.b2sP x))∧ps σ (evU (ev σ fr)) (.b2sP x)) σ (cS P d r fr J) ⟨⟩:=aQ rfl
theorem Dd {c:Bool} {x} {h:Hold (d,CO.b2s x,r,fr,σ,J)}:gdV P (some c) d (.b2s x) r fr σ J h=ar (.opt c (pf σ (evU (ev σ fr)) (.b2s x))) (c=true→ay c (ev σ fr) (CO.ods (.b2s x))∧ps σ (evU (ev σ fr)) (.b2s x)) σ (cS P d r fr J) ⟨⟩:=aQ rfl
theorem De {c:Bool} {x} {h:Hold (d,CO.len x,r,fr,σ,J)}:gdV P (some c) d (.len x) r fr σ J h=ar (.opt c (pf σ (evU (ev σ fr)) (.len x))) (c=true→ay c (ev σ fr) (CO.ods (.len x))∧ps σ (evU (ev σ fr)) (.len x)) σ (cS P d r fr J) ⟨⟩:=aQ rfl
theorem zh {c:Bool} {x} {h:Hold (d,CO.lenS x,r,fr,σ,J)}:gdV P (some c) d (.lenS x) r fr σ J h=ar (.opt c (pf σ (evU (ev σ fr)) (.lenS x))) (c=true→ay c (ev σ fr) (CO.ods (.lenS x))∧ps σ (evU (ev σ fr)) (.lenS x)) σ (cS P d r fr J) ⟨⟩:=aQ rfl
theorem Df {c:Bool} {o z x} {h:Hold (d,CO.fld o z x,r,fr,σ,J)}:gdV P (some c) d (.fld o z x) r fr σ J h=ar (.opt c (pf σ (evU (ev σ fr)) (.fld o z x))) (c=true→ay c (ev σ fr) (CO.ods (.fld o z x))∧ps σ (evU (ev σ fr)) (.fld o z x)) σ (cS P d r fr J) ⟨⟩:=aQ rfl
theorem zi {c:Bool} {o x} {h:Hold (d,CO.fldA o x,r,fr,σ,J)}:gdV P (some c) d (.fldA o x) r fr σ J h=ar (.opt c (pf σ (evU (ev σ fr)) (.fldA o x))) (c=true→ay c (ev σ fr) (CO.ods (.fldA o x))∧ps σ (evU (ev σ fr)) (.fldA o x)) σ (cS P d r fr J) ⟨⟩:=aQ rfl
theorem Dg {c:Bool} {e x i} {h:Hold (d,CO.ixA e x i,r,fr,σ,J)}:gdV P (some c) d (.ixA e x i) r fr σ J h=ar (.opt c (pf σ (evU (ev σ fr)) (.ixA e x i))) (c=true→ay c (ev σ fr) (CO.ods (.ixA e x i))∧ps σ (evU (ev σ fr)) (.ixA e x i)) σ (cS P d r fr J) ⟨⟩:=aQ rfl
theorem Dh {c:Bool} {n e x i} {h:Hold (d,CO.ixP n e x i,r,fr,σ,J)}:gdV P (some c) d (.ixP n e x i) r fr σ J h=ar (.opt c (pf σ (evU (ev σ fr)) (.ixP n e x i))) (c=true→ay c (ev σ fr) (CO.ods (.ixP n e x i))∧ps σ (evU (ev σ fr)) (.ixP n e x i)) σ (cS P d r fr J) ⟨⟩:=aQ rfl
theorem Di {c:Bool} {x i} {h:Hold (d,CO.ixS x i,r,fr,σ,J)}:gdV P (some c) d (.ixS x i) r fr σ J h=ar (.opt c (pf σ (evU (ev σ fr)) (.ixS x i))) (c=true→ay c (ev σ fr) (CO.ods (.ixS x i))∧ps σ (evU (ev σ fr)) (.ixS x i)) σ (cS P d r fr J) ⟨⟩:=aQ rfl
theorem Dj {c:Bool} {n e z x i} {h:Hold (d,CO.ixV n e z x i,r,fr,σ,J)}:gdV P (some c) d (.ixV n e z x i) r fr σ J h=ar (.opt c (pf σ (evU (ev σ fr)) (.ixV n e z x i))) (c=true→ay c (ev σ fr) (CO.ods (.ixV n e z x i))∧ps σ (evU (ev σ fr)) (.ixV n e z x i)) σ (cS P d r fr J) ⟨⟩:=aQ rfl
theorem FP {c:Bool} {z x} {h:Hold (d,CO.ld z x,r,fr,σ,J)}:gdV P (some c) d (.ld z x) r fr σ J h=ar (.opt c (pf σ (evU (ev σ fr)) (.ld z x))) (c=true→ay c (ev σ fr) (CO.ods (.ld z x))∧ps σ (evU (ev σ fr)) (.ld z x)) σ (cS P d r fr J) ⟨⟩:=aQ rfl
theorem Dk {c:Bool} {e x l hi m} {h:Hold (d,CO.slc e x l hi m,r,fr,σ,J)}:gdV P (some c) d (.slc e x l hi m) r fr σ J h=ar (.opt c (pf σ (evU (ev σ fr)) (.slc e x l hi m))) (c=true→ay c (ev σ fr) (CO.ods (.slc e x l hi m))∧ps σ (evU (ev σ fr)) (.slc e x l hi m)) σ (cS P d r fr J) ⟨⟩:=aQ rfl
theorem zj {c:Bool} {x l hi} {h:Hold (d,CO.slcS x l hi,r,fr,σ,J)}:gdV P (some c) d (.slcS x l hi) r fr σ J h=ar (.opt c (pf σ (evU (ev σ fr)) (.slcS x l hi))) (c=true→ay c (ev σ fr) (CO.ods (.slcS x l hi))∧ps σ (evU (ev σ fr)) (.slcS x l hi)) σ (cS P d r fr J) ⟨⟩:=aQ rfl
theorem Dl {c:Bool} {z q} {h:Hold (d,CO.bld z q,r,fr,σ,J)}:gdV P (some c) d (.bld z q) r fr σ J h=ar (.opt c (pf σ (evU (ev σ fr)) (.bld z q))) (c=true→ay c (ev σ fr) (CO.ods (.bld z q))∧ps σ (evU (ev σ fr)) (.bld z q)) σ (cS P d r fr J) ⟨⟩:=aQ rfl
theorem zk {c:Bool} {e n z q} {h:Hold (d,CO.mkSl e n z q,r,fr,σ,J)}:gdV P (some c) d (.mkSl e n z q) r fr σ J h=ar (.opt c (pf σ (evU (ev σ fr)) (.mkSl e n z q))) (c=true→ay c (ev σ fr) (CO.ods (.mkSl e n z q))∧ps σ (evU (ev σ fr)) (.mkSl e n z q)) σ (cS P d r fr J) ⟨⟩:=aQ rfl
theorem Dm {c:Bool} {t x} {h:Hold (d,CO.mkI t x,r,fr,σ,J)}:gdV P (some c) d (.mkI t x) r fr σ J h=ar (.opt c (pf σ (evU (ev σ fr)) (.mkI t x))) (c=true→ay c (ev σ fr) (CO.ods (.mkI t x))∧ps σ (evU (ev σ fr)) (.mkI t x)) σ (cS P d r fr J) ⟨⟩:=aQ rfl
theorem Dn {c:Bool} {g cs} {h:Hold (d,CO.mkF g cs,r,fr,σ,J)}:gdV P (some c) d (.mkF g cs) r fr σ J h=ar (.opt c (pf σ (evU (ev σ fr)) (.mkF g cs))) (c=true→ay c (ev σ fr) (CO.ods (.mkF g cs))∧ps σ (evU (ev σ fr)) (.mkF g cs)) σ (cS P d r fr J) ⟨⟩:=aQ rfl
theorem Dp {c:Bool} {x i} {h:Hold (d,CO.ext x i,r,fr,σ,J)}:gdV P (some c) d (.ext x i) r fr σ J h=ar (.opt c (pf σ (evU (ev σ fr)) (.ext x i))) (c=true→ay c (ev σ fr) (CO.ods (.ext x i))∧ps σ (evU (ev σ fr)) (.ext x i)) σ (cS P d r fr J) ⟨⟩:=aQ rfl
theorem zl {c:Bool} {x} {h:Hold (d,CO.nilc x,r,fr,σ,J)}:gdV P (some c) d (.nilc x) r fr σ J h=ar (.opt c (pf σ (evU (ev σ fr)) (.nilc x))) (c=true→ay c (ev σ fr) (CO.ods (.nilc x))∧ps σ (evU (ev σ fr)) (.nilc x)) σ (cS P d r fr J) ⟨⟩:=aQ rfl
theorem FQ {c:Bool} {b x y} {h:Hold (d,CO.mm b x y,r,fr,σ,J)}:gdV P (some c) d (.mm b x y) r fr σ J h=ar (.opt c (pf σ (evU (ev σ fr)) (.mm b x y))) (c=true→ay c (ev σ fr) (CO.ods (.mm b x y))∧ps σ (evU (ev σ fr)) (.mm b x y)) σ (cS P d r fr J) ⟨⟩:=aQ rfl
theorem Dq {c:Bool} {t e s b x y} {h:Hold (d,CO.app t e s b x y,r,fr,σ,J)}:gdV P (some c) d (.app t e s b x y) r fr σ J h=ar (.opt c (pf σ (evU (ev σ fr)) (.app t e s b x y))) (c=true→ay c (ev σ fr) (CO.ods (.app t e s b x y))∧ps σ (evU (ev σ fr)) (.app t e s b x y)) σ (cS P d r fr J) ⟨⟩:=aQ rfl
theorem vT {k n x} {h:Hold (d,CO.isnil k n x,r,fr,σ,J)}:gdV P (some true) d (.isnil k n x) r fr σ J h=(ay true (ev σ fr) (CO.ods (.isnil k n x))∧aOp P (evU (ev σ fr)) σ (cS P d r fr J) (.isnil k n x)):=gu rfl
theorem vU {k n x} {h:Hold (d,CO.isnil k n x,r,fr,σ,J)}:gdV P (some false) d (.isnil k n x) r fr σ J h=cI P r (putF d (.opt false .junk) fr) σ J:=iU rfl
theorem vV {z} {h:Hold (d,CO.alloc z,r,fr,σ,J)}:gdV P (some true) d (.alloc z) r fr σ J h=(ay true (ev σ fr) (CO.ods (.alloc z))∧aOp P (evU (ev σ fr)) σ (cS P d r fr J) (.alloc z)):=gu rfl
theorem vW {z} {h:Hold (d,CO.alloc z,r,fr,σ,J)}:gdV P (some false) d (.alloc z) r fr σ J h=cI P r (putF d (.opt false .junk) fr) σ J:=iU rfl
theorem Dr {n x} {h:Hold (d,CO.box n x,r,fr,σ,J)}:gdV P (some true) d (.box n x) r fr σ J h=(ay true (ev σ fr) (CO.ods (.box n x))∧aOp P (evU (ev σ fr)) σ (cS P d r fr J) (.box n x)):=gu rfl
theorem Ds {n x} {h:Hold (d,CO.box n x,r,fr,σ,J)}:gdV P (some false) d (.box n x) r fr σ J h=cI P r (putF d (.opt false .junk) fr) σ J:=iU rfl
theorem FT {n q x} {h:Hold (d,CO.st n q x,r,fr,σ,J)}:gdV P (some true) d (.st n q x) r fr σ J h=(ay true (ev σ fr) (CO.ods (.st n q x))∧aOp P (evU (ev σ fr)) σ (cS P d r fr J) (.st n q x)):=gu rfl
theorem FU {n q x} {h:Hold (d,CO.st n q x,r,fr,σ,J)}:gdV P (some false) d (.st n q x) r fr σ J h=cI P r (putF d (.opt false .junk) fr) σ J:=iU rfl
theorem zm {g xs} {h:Hold (d,CO.call g xs,r,fr,σ,J)}:gdV P (some true) d (.call g xs) r fr σ J h=(ay true (ev σ fr) (CO.ods (.call g xs))∧aOp P (evU (ev σ fr)) σ (cS P d r fr J) (.call g xs)):=gu rfl
theorem zn {g xs} {h:Hold (d,CO.call g xs,r,fr,σ,J)}:gdV P (some false) d (.call g xs) r fr σ J h=cI P r (putF d (.opt false .junk) fr) σ J:=iU rfl
theorem zo {t x xs} {h:Hold (d,CO.invk t x xs,r,fr,σ,J)}:gdV P (some true) d (.invk t x xs) r fr σ J h=(ay true (ev σ fr) (CO.ods (.invk t x xs))∧aOp P (evU (ev σ fr)) σ (cS P d r fr J) (.invk t x xs)):=gu rfl
theorem zp {t x xs} {h:Hold (d,CO.invk t x xs,r,fr,σ,J)}:gdV P (some false) d (.invk t x xs) r fr σ J h=cI P r (putF d (.opt false .junk) fr) σ J:=iU rfl
theorem vX {x xs} {h:Hold (d,CO.callv x xs,r,fr,σ,J)}:gdV P (some true) d (.callv x xs) r fr σ J h=(ay true (ev σ fr) (CO.ods (.callv x xs))∧aOp P (evU (ev σ fr)) σ (cS P d r fr J) (.callv x xs)):=gu rfl
theorem vY {x xs} {h:Hold (d,CO.callv x xs,r,fr,σ,J)}:gdV P (some false) d (.callv x xs) r fr σ J h=cI P r (putF d (.opt false .junk) fr) σ J:=iU rfl
theorem bQ {α:Type} (F:α→Fr) (S:α→St) (I:α→Prop) (μ:α→Nat) (a0:α) {h:Hold (x,σ,Q)} (hf:aE (F a0) fr) (hs:St.le (S a0) σ) (h0:I a0)
  (hr:∀ a,I a→aC P x (F a) (S a) (ff (fun fr' σ'=>∃ b,I b∧aE (F b) fr'∧St.le (S b) σ'∧μ b<μ a) Q)):nQ P x fr σ Q h:=by
 refine ⟨[],α,F,S,I,μ,a0,h0,hf,hs,fun a ha=>?_⟩
 have:=hr a ha
 unfold ff at this
 exact this
theorem bn (n:Nat) (F:Nat→Fr) (S:Nat→St) (I:Nat→Prop) {h:Hold (x,σ,Q)} (hf:aE (F 0) fr) (hs:St.le (S 0) σ) (h0:I 0)
  (hr:∀ k,k≤n→I k→aC P x (F k) (S k) (ff (fun fr' σ'=>k<n∧I (k+1)∧aE (F (k+1)) fr'∧St.le (S (k+1)) σ') Q)):nQ P x fr σ Q h:=by
 refine bQ F S (fun k=>k≤n∧I k) (fun k=>n - k) 0 hf hs ⟨Nat.zero_le _,h0⟩ (fun k ⟨hk,hI⟩=>?_)
 have:=hr k hk hI
 have e:(ff (fun fr' σ'=>k<n∧I (k+1)∧aE (F (k+1)) fr'∧St.le (S (k+1)) σ') Q)=(ff (fun fr' σ'=>k<n∧I (k+1)∧aE (F (k+1)) fr'∧St.le (S (k+1)) σ') Q):=rfl
 refine cz _ _ _ this ?_
 intro ex fr' σ' hx
 cases ex<;>simp only [ff] at hx ⊢ <;>try exact hx
 exact ⟨k+1,⟨hx.1,hx.2.1⟩,hx.2.2.1,hx.2.2.2,by omega⟩
theorem ir {c:Bool} {op:CO} {h:Hold (d,op,r,fr,σ,J)} (h1:c=true→gdV P (some true) d op r fr σ J ⟨⟩) (h2:c=false→gdV P (some false) d op r fr σ J ⟨⟩):gdV P (some c) d op r fr σ J h:=by
 cases c
 ·exact h2 rfl
 ·exact h1 rfl
end
def Pu (P:Program) (f:Nat) (as:List AV) (v:AV):Prop:=∀ σ,AC P f as σ (fun r s=>r=v∧s=σ)
section
variable {P:Program} {f:Nat} {as bs:List AV} {σ:St} {R K:AV→St→Prop} {v:AV}
theorem AC.wk (h:AC P f bs σ R) (hw:wkL as bs):AC P f as σ R:=fun g w vs hI hv=>h g w vs hI (jt hw hv)
theorem Pu.to (h:Pu P f bs v) (hw:wkL as bs) (hK:K v σ):AC P f as σ K :=
 AC.mono ((h σ).wk hw) (fun r s ⟨e1,e2⟩=>by subst e1;subst e2;exact hK)
theorem Pu.all (h:Pu P f bs v) (hw:wkL as bs):∀ σ2,St.le σ σ2→AC P f as σ2 (fun x s=>x=v∧s=σ2):=fun σ2 _=>(h σ2).wk hw
theorem aB {res:List RV} {R:AV→St→Prop} {e:Exit} {fr:Fr} {σ σ':St} {r:AV} (he:e= .ret∨e= .normal) (hs:aj σ fr res) (hw:wk (eN (res.map (rvV σ fr))) r) (hl:St.le σ' σ) (hR:R r σ'):fE res R e fr σ :=
 ⟨he,hs,r,σ',hw,hl,hR⟩
theorem qx (cf:CF) (hf:fB P f cf=true) (hn:as.length≤cf.n) (h:∀ σ,aC P cf.body (dQ 0 as) σ (fE cf.res (fun r s=>r=v∧s=σ))):Pu P f as v:=fun σ=>jv cf hf hn (h σ)
theorem Dt {res:List RV} {v:AV} {σ0:St} {e:Exit} {fr:Fr} {σ:St} (he:e= .ret∨e= .normal) (hs:aj σ fr res) (hw:wk (eN (res.map (rvV σ fr))) v) (hl:St.le σ0 σ):fE res (fun r s=>r=v∧s=σ0) e fr σ :=
 ⟨he,hs,v,σ0,hw,hl,rfl,rfl⟩
theorem qy {α:Type} {f:Nat→Option α} {k j:Nat} {v:α}:upd f k v j=none↔j≠k∧f j=none:=by
 unfold upd;split<;>simp_all
theorem St.set_set (σ:St) (β:Nat) (c d:List AV):(σ.ad β c).ad β d=σ.ad β d:=by
 simp only [St.ad,St.mk.injEq,and_true]
 funext j;simp only [upd];split<;>rfl
theorem St.set_comm (σ:St) {β γ:Nat} (h:β≠γ) (c d:List AV):(σ.ad β c).ad γ d=(σ.ad γ d).ad β c:=by
 simp only [St.ad,St.mk.injEq,and_true]
 funext j;simp only [upd]
 by_cases h1:j=γ<;>by_cases h2:j=β
 ·subst h1;subst h2;exact (h rfl).elim
 ·simp [h1,Ne.symm h]
 ·simp [h2,h]
 ·simp [h1,h2]
theorem St.bL (σ:St) (β:Nat) (c:List AV):(σ.ad β c).box β=some c:=by simp [St.ad,upd]
theorem St.vZ (σ:St) {β γ:Nat} (c:List AV) (h:γ≠β):(σ.ad β c).box γ=σ.box γ:=by simp [St.ad,upd,h]
theorem St.qz {σ:St} {β γ:Nat} {c:List AV}:(σ.ad β c).box γ=none↔γ≠β∧σ.box γ=none:=qy
theorem St.zq (σ:St) (β:Nat) (c:List AV):(σ.ad β c).glob=σ.glob:=rfl
theorem St.aM {σ σ':St} {β:Nat} {c:List AV} (h:St.le σ σ') (hn:σ.box β=none):St.le σ (σ'.ad β c):=St.aw h hn
end
abbrev sl {α:Type} (f:α→List AV) (l:List α):AV:= .sl false l.length (l.flatMap f)
section
variable {α:Type} {f:α→List AV} {s:Nat}
theorem aU (hf:∀ x,(f x).length=s):∀ l:List α,(l.flatMap f).length=l.length*s
 | []=>by simp
 | x::l=>by simp [List.flatMap_cons,hf,aU hf l,Nat.succ_mul,Nat.add_comm]
theorem nR (hf:∀ x,(f x).length=s):∀ (l:List α) (k:Nat),(l.flatMap f).drop (k*s)=(l.drop k).flatMap f
  | l,0=>by simp
  | [],k+1=>by simp
  | x :: l, k + 1 => by
    rw [List.flatMap_cons,Nat.succ_mul,Nat.add_comm,List.drop_append,hf]
    simp only [List.drop_succ_cons]
    rw [List.drop_eq_nil_of_le (by rw [hf];omega),List.nil_append,show s+k*s - s=k*s by omega,nR hf l k]
theorem flat_get (hf:∀ x,(f x).length=s) (l:List α) (k:Nat) (h:k<l.length):((l.flatMap f).drop (k*s)).take s=f l[k]:=by
 rw [nR hf,List.drop_eq_getElem_cons h,List.flatMap_cons,List.take_append,hf]
 simp only [Nat.sub_self,List.take_zero,List.append_nil]
 exact List.take_of_length_le (by rw [hf];omega)
end
theorem wrap64 {n:Int} (h1 : -9223372036854775808≤n) (h2:n≤9223372036854775807):IntKind.i64.wrap n=n:=by
 simp [IntKind.wrap,IntKind.bits,IntKind.signed]
 split<;>omega
theorem uL {n:Int} (h1:0≤n) (h2:n≤18446744073709551615):IntKind.u64.wrap n=n:=by
 simp [IntKind.wrap,IntKind.bits,IntKind.signed]
 omega
theorem v7 {k n:Nat} (h:k<n) (hn:n≤maxLen):IntKind.i64.wrap ((k:Int)+1)=((k+1:Nat):Int):=by
 unfold maxLen at hn
 rw [wrap64 (by omega) (by omega)]
 simp
def aR (P:Program) (d:Option Nat) (r:List CI) (cs:List Nat) (fr:Fr) (K:Fr→St→Prop) (v:AV) (σ:St):Prop:=aF P r cs (putF d v fr) σ K
def oS (P:Program) (f:Nat) (as:List AV) (σ:St) (K:AV→St→Prop) (_:Hold (σ,K)):Prop:=∃ v,(∀ σ2,St.le σ σ2→AC P f as σ2 (fun x s=>x=v∧s=σ2))∧K v σ
def sM (P:Program) (f:Nat) (as:List AV) (σ:St) (K:AV→St→Prop) (_:Hold (σ,K)):Prop:=∃ v σ',AC P f as σ (fun x s=>x=v∧s=σ')∧(σ'.glob=σ.glob∧(∀ γ,σ.box γ=none→σ'.box γ=none)∧∀ γ,σ.tip γ=none→σ'.tip γ=none)∧K v σ'
def l7 (P:Program) (b:Bool) (f:Nat) (p:Prop) (as:List AV) (σ:St) (K:AV→St→Prop) (_:Hold (σ,K)):Prop:=∃ v,(b=true→p∧∀ σ2,St.le σ σ2→AC P f as σ2 (fun x s=>x=v∧s=σ2))∧K (.opt b v) σ
def sO (kind:Nat) (neg:Bool) (v:AV) (σ:St) (K:AV→St→Prop) (_:Hold (σ,K)):Prop:=dx kind v=true∧∃ b0,(∀ b,fo kind v b→b=b0)∧K (.bool (bif neg then !b0 else b0)) σ
def appS (tp : Bool) (c : Nat) (e es bytes : Nat) (x y : AV) (σ : St) (K : AV → St → Prop) (β : Nat) : Prop := ∃ v σ', (match x with
    | .tsl τ n cs => (c = 2 ∨ c = 4) ∧ match slv y with
      | some (m,ds)=>σ.tip τ=some (e,es,n)∧cs.length=n*es∧ds.length=m*es∧n+m≤maxLen∧(n+m)*bytes≤140737488355328∧v= .tsl τ (n+m) (cs++ds)∧σ'=σ.ai τ (e,es,n+m)
      | none=>False
    | x => bif Nat.beq c 4 then (tp = true ∧ match slv x, slv y with
        | some (n,cs),some (m,ds)=>fresh x∧cs.length=n*es∧ds.length=m*es∧n+m≤maxLen∧(n+m)*bytes≤140737488355328∧v= .tsl β (n+m) (cs++ds)∧σ'=σ.ai β (e,es,n+m)
        | _,_=>False)
      else (c≤1∧ps σ (ab x y) (.app false e es bytes (.t 0) (.t 1))∧v=pf σ (ab x y) (.app false e es bytes (.t 0) (.t 1))∧σ'=σ))∧K v σ'
def Du (tp:Bool) (c:Nat) (e es bytes:Nat) (x y:AV) (σ:St) (K:AV→St→Prop) (_:Hold (σ,K)):Prop :=
 bif tp&&Nat.beq c 4 then ∀ β,σ.tip β=none→appS tp c e es bytes x y σ K β else appS tp c e es bytes x y σ K 0
def gdD (P:Program) (c:Nat) (gc:Option Bool) (d:Option Nat) (op:CO) (r:List CI) (cs:List Nat) (fr:Fr) (σ:St) (K:Fr→St→Prop) (_:Hold (d,op,r,cs,fr,σ,K)):Prop :=
  ∃ v σ', (match gc with
    | none=>False
    | some b => bif op.quiet then
        (isLd op=true→c=1)∧c≤1∧(b=true→ay b (ev σ fr) op.qa∧ps σ (gEv op (ev σ fr)) op)∧v= .opt b (bif b then pf σ (gEv op (ev σ fr)) op else .junk)∧σ'=σ
      else match op with
        | .call f args=>c=1∧σ'=σ∧∃ v0,v= .opt b v0∧(b=true→ay b (ev σ fr) args∧∀ σ2,St.le σ σ2→AC P f (args.map (evU (ev σ fr))) σ2 (fun x s=>x=v0∧s=σ2))
        | .callv x args => c = 1 ∧ σ' = σ ∧ ∃ v0, v = .opt b v0 ∧ (b = true → ay     b (ev σ fr) (x :: args) ∧ match evU (ev σ fr) x with
          | .fn f cap=>∀ σ2,St.le σ σ2→AC P f (args.map (evU (ev σ fr))++cap) σ2 (fun y s=>y=v0∧s=σ2)
          | _=>False)
        | _=>False)∧aF P r cs (putF d v fr) σ' K
section
variable {P:Program} {σ:St} {K:AV→St→Prop} {fr:Fr} {J:Fr→St→Prop} {d:Option Nat} {r:List CI} {cs:List Nat} {c n f:Nat} {v:AV} {as bs:List AV}
theorem Dv:aR P d r cs fr J v σ=aF P r cs (putF d v fr) σ J:=rfl
theorem zr:aF P [] cs fr σ J=J fr σ:=by simp only [aF]
theorem sP {z:List AV}:aF P (⟨d, .alloc z,none⟩::r) (c::cs) fr σ J=sD True z σ (fun v σ'=>(c=2∨c=3)∧aR P d r cs fr J v σ') ⟨⟩:=by
 simp only [aF,aH,cond_true,dStep,dOp,sD,aR]
 apply propext;constructor
 ·intro h
  exact ⟨trivial,fun β hβ=>by obtain ⟨_,_,⟨hc,rfl,rfl⟩,h2⟩:=h β hβ;exact ⟨hc,h2⟩⟩
 ·rintro ⟨_,h⟩ β hβ
  exact ⟨_,_,⟨(h β hβ).1,rfl,rfl⟩,(h β hβ).2⟩
theorem zt {x:Od}:aF P (⟨d, .box n x,none⟩::r) (c::cs) fr σ J=sD True (ev σ fr x).cells σ (fun v σ'=>(c=2∧(ev σ fr x).fits=true∧(ev σ fr x).cells.length=n)∧aR P d r cs fr J v σ') ⟨⟩:=by
 simp only [aF,aH,cond_true,dStep,dOp,sD,aR]
 apply propext;constructor
 ·intro h
  exact ⟨trivial,fun β hβ=>by obtain ⟨_,_,⟨hc,h3,h4,rfl,rfl⟩,h2⟩:=h β hβ;exact ⟨⟨hc,h3,h4⟩,h2⟩⟩
 ·rintro ⟨_,h⟩ β hβ
  obtain ⟨⟨h1,h3,h4⟩,h2⟩:=h β hβ
  exact ⟨_,_,⟨h1,h3,h4,rfl,rfl⟩,h2⟩
theorem Dw {p x:Od}:aF P (⟨d, .st n p x,none⟩::r) (c::cs) fr σ J=stV (ev σ fr p) (ev σ fr x) n σ (fun v σ'=>c=2∧aR P d r cs fr J v σ') ⟨⟩:=by
  simp only [aF,aH,aJ,cond_false,dStep,dOp,stV,aR]
  apply propext
  generalize ev σ fr p=vp
  cases vp
  case ptr γ off =>
    simp only
    cases hb:σ.box γ with
    | none=>simp
    | some cs' =>
      simp only
      constructor
      · rintro ⟨v,σ',⟨hc,q1,q2,q3,rfl,rfl⟩,h2⟩
        exact ⟨q1,q2,q3,hc,h2⟩
      · rintro ⟨q1,q2,q3,hc,h2⟩
        exact ⟨_,_,⟨hc,q1,q2,q3,rfl,rfl⟩,h2⟩
  all_goals simp
theorem v8 {args:List Od}:aF P (⟨d, .call f args,none⟩::r) (1::cs) fr σ J=oS P f (args.map (ev σ fr)) σ (fun v σ'=>aR P d r cs fr J v σ') ⟨⟩:=by
 show (∃ v σ',dOp P 1 0 (ev σ fr) σ (.call f args) v σ'∧aF P r cs (putF d v fr) σ' J)=_
 apply propext;constructor
 ·rintro ⟨v,σ',h|h,h2⟩
  ·obtain ⟨_,rfl,h⟩:=h;exact ⟨v,h,h2⟩
  ·exact absurd h.1 (by decide)
 ·rintro ⟨v,h,h2⟩;exact ⟨v,_, .inl ⟨rfl,rfl,h⟩,h2⟩
theorem sQ {args:List Od}:aF P (⟨d, .call f args,none⟩::r) (2::cs) fr σ J=sM P f (args.map (ev σ fr)) σ (fun v σ'=>aR P d r cs fr J v σ') ⟨⟩:=by
 show (∃ v σ',dOp P 2 0 (ev σ fr) σ (.call f args) v σ'∧aF P r cs (putF d v fr) σ' J)=_
 apply propext;constructor
 ·rintro ⟨v,σ',h|h,h2⟩
  ·exact absurd h.1 (by decide)
  ·exact ⟨v,σ',h.2.1,h.2.2,h2⟩
 ·rintro ⟨v,σ',h1,h,h2⟩;exact ⟨v,_, .inr ⟨rfl,h1,h⟩,h2⟩
theorem sR {kind:Nat} {neg:Bool} {x:Od}:aF P (⟨d, .isnil kind neg x,none⟩::r) (c::cs) fr σ J=sO kind neg (ev σ fr x) σ (fun v σ'=>c≤1∧aR P d r cs fr J v σ') ⟨⟩:=by
 simp only [aF,aH,aJ,cond_false,dStep,dOp,sO,aR]
 apply propext;constructor
 ·rintro ⟨v,σ',⟨hc,h1,rfl,b0,h3,rfl⟩,h2⟩;exact ⟨h1,b0,h3,hc,h2⟩
 ·rintro ⟨h1,b0,h3,hc,h2⟩;exact ⟨_,_,⟨hc,h1,rfl,b0,h3,rfl⟩,h2⟩
theorem zu {tp:Bool} {e es bytes:Nat} {x y:Od}:aF P (⟨d, .app tp e es bytes x y,none⟩::r) (c::cs) fr σ J=Du tp c e es bytes (ev σ fr x) (ev σ fr y) σ (aR P d r cs fr J) ⟨⟩:=by
 have h:∀ β,appS tp c e es bytes (ev σ fr x) (ev σ fr y) σ (aR P d r cs fr J) β=∃ v σ',dStep P c β ⟨d, .app tp e es bytes x y,none⟩ fr σ v σ'∧aF P r cs (putF d v fr) σ' J:=by
  intro β
  simp only [dStep,dOp,appS,aR]
  cases h:ev σ fr x<;>simp only [ps,pf,ab,h]<;>rfl
 simp only [aF,aH,aJ,cond_false,Du,h]
theorem qA {h:Hold (σ,K)} {σ':St} (hp:AC P f bs σ (fun x s=>x=v∧s=σ')) (hw:wkL as bs) (hs:σ'.glob=σ.glob∧(∀ γ,σ.box γ=none→σ'.box γ=none)∧∀ γ,σ.tip γ=none→σ'.tip γ=none) (hK:K v σ'):sM P f as σ K h:=⟨v,σ',hp.wk hw,hs,hK⟩
theorem aK {h:Hold (σ,K)} (hp:Pu P f bs v) (hw:wkL as bs) (hK:K v σ):oS P f as σ K h:=⟨v,hp.all hw,hK⟩
theorem iu {b:Bool} {p:Prop} {h:Hold (σ,K)} (hp:b=true→p∧Pu P f bs v∧wkL as bs) (hK:K (.opt b v) σ):l7 P b f p as σ K h:=⟨v,fun hb=>⟨(hp hb).1,(hp hb).2.1.all (hp hb).2.2⟩,hK⟩
theorem aL {op:CO} {t:Nat} {want:Bool} (hm:aH op=false) (hm2:aJ c op=false):aF P (⟨d,op,some (t,want)⟩::r) (c::cs) fr σ J=gdD P c (aY want (slot t fr)) d op r cs fr σ J ⟨⟩:=by
 simp only [aF,hm,hm2,cond_false,dStep,gdD]
 generalize aY want (slot t fr)=gc
 cases gc with
 | none=>rfl
 | some b=>cases op<;>rfl
theorem a7 {b:Bool} {op:CO} {h:Hold (d,op,r,cs,fr,σ,J)} (hq:op.quiet=true):gdD P c (some b) d op r cs fr σ J h=ar (.opt b (bif b then pf σ (gEv op (ev σ fr)) op else .junk)) (((isLd op=true→c=1)∧c≤1)∧(b=true→ay b (ev σ fr) op.qa∧ps σ (gEv op (ev σ fr)) op)) σ (aR P d r cs fr J) ⟨⟩:=by
 simp only [gdD,hq,cond_true,ar,aR]
 apply propext;constructor
 ·rintro ⟨v,σ',⟨h1,h2,h3,rfl,rfl⟩,h4⟩;exact ⟨⟨⟨h1,h2⟩,h3⟩,h4⟩
 ·rintro ⟨⟨⟨h1,h2⟩,h3⟩,h4⟩;exact ⟨_,_,⟨h1,h2,h3,rfl,rfl⟩,h4⟩
theorem zw {b:Bool} {args:List Od} {h:Hold (d,CO.call f args,r,cs,fr,σ,J)}:gdD P c (some b) d (.call f args) r cs fr σ J h=l7 P b f (ay b (ev σ fr) args) (args.map (evU (ev σ fr))) σ (fun v σ'=>c=1∧aR P d r cs fr J v σ') ⟨⟩:=by
 have hq:(CO.call f args).quiet=false:=rfl
 simp only [gdD,hq,cond_false,l7,aR]
 apply propext;constructor
 ·rintro ⟨v,σ',⟨hc,rfl,v0,rfl,h3⟩,h4⟩;exact ⟨v0,h3,hc,h4⟩
 ·rintro ⟨v0,h3,hc,h4⟩;exact ⟨_,_,⟨hc,rfl,v0,rfl,h3⟩,h4⟩
theorem zx {ts ns k z x}:aF P (⟨d, .asT ts ns k z x,none⟩::r) (c::cs) fr σ J=ar (pf σ (ev σ fr) (.asT ts ns k z x)) (c≤1∧ps σ (ev σ fr) (.asT ts ns k z x)) σ (aR P d r cs fr J) ⟨⟩:=by
 simp only [aF,aH,aJ,cond_false,dStep,dOp,ar,aR]
 apply propext;constructor
 ·rintro ⟨w,s,⟨h1,h2,h3,rfl,rfl⟩,h⟩;exact ⟨⟨h2,h3⟩,h⟩
 ·rintro ⟨⟨h2,h3⟩,h⟩;exact ⟨_,_,⟨(fun e=>by simp [isLd] at e),h2,h3,rfl,rfl⟩,h⟩
theorem zy {z x}:aF P (⟨d, .ldE z x,none⟩::r) (c::cs) fr σ J=ar (pf σ (ev σ fr) (.ldE z x)) (c≤1∧ps σ (ev σ fr) (.ldE z x)) σ (aR P d r cs fr J) ⟨⟩:=by
 simp only [aF,aH,aJ,cond_false,dStep,dOp,ar,aR]
 apply propext;constructor
 ·rintro ⟨w,s,⟨h1,h2,h3,rfl,rfl⟩,h⟩;exact ⟨⟨h2,h3⟩,h⟩
 ·rintro ⟨⟨h2,h3⟩,h⟩;exact ⟨_,_,⟨(fun e=>by simp [isLd] at e),h2,h3,rfl,rfl⟩,h⟩
theorem Dx {x}:aF P (⟨d, .mv x,none⟩::r) (c::cs) fr σ J=ar (pf σ (ev σ fr) (.mv x)) (c≤1∧ps σ (ev σ fr) (.mv x)) σ (aR P d r cs fr J) ⟨⟩:=by
 simp only [aF,aH,aJ,cond_false,dStep,dOp,ar,aR]
 apply propext;constructor
 ·rintro ⟨w,s,⟨h1,h2,h3,rfl,rfl⟩,h⟩;exact ⟨⟨h2,h3⟩,h⟩
 ·rintro ⟨⟨h2,h3⟩,h⟩;exact ⟨_,_,⟨(fun e=>by simp [isLd] at e),h2,h3,rfl,rfl⟩,h⟩
theorem zz {x} {tt:Nat} {want:Bool}:aF P (⟨d, .mv x,some (tt,want)⟩::r) (c::cs) fr σ J=gdD P c (aY want (slot tt fr)) d (.mv x) r cs fr σ J ⟨⟩:=aL rfl rfl
theorem Dy {bb:Bool} {x} {h:Hold (d,CO.mv x,r,cs,fr,σ,J)}:gdD P c (some bb) d (.mv x) r cs fr σ J h=ar (.opt bb (bif bb then pf σ (evU (ev σ fr)) (.mv x) else .junk)) (((isLd (.mv x)=true→c=1)∧c≤1)∧(bb=true→ay bb (ev σ fr) (CO.ods (.mv x))∧ps σ (evU (ev σ fr)) (.mv x))) σ (aR P d r cs fr J) ⟨⟩:=a7 rfl
theorem wa {x a b}:aF P (⟨d, .pick x a b,none⟩::r) (c::cs) fr σ J=ar (pf σ (ev σ fr) (.pick x a b)) (c≤1∧ps σ (ev σ fr) (.pick x a b)) σ (aR P d r cs fr J) ⟨⟩:=by
 simp only [aF,aH,aJ,cond_false,dStep,dOp,ar,aR]
 apply propext;constructor
 ·rintro ⟨w,s,⟨h1,h2,h3,rfl,rfl⟩,h⟩;exact ⟨⟨h2,h3⟩,h⟩
 ·rintro ⟨⟨h2,h3⟩,h⟩;exact ⟨_,_,⟨(fun e=>by simp [isLd] at e),h2,h3,rfl,rfl⟩,h⟩
theorem sS {x a b} {tt:Nat} {want:Bool}:aF P (⟨d, .pick x a b,some (tt,want)⟩::r) (c::cs) fr σ J=gdD P c (aY want (slot tt fr)) d (.pick x a b) r cs fr σ J ⟨⟩:=aL rfl rfl
theorem wb {bb:Bool} {x a b} {h:Hold (d,CO.pick x a b,r,cs,fr,σ,J)}:gdD P c (some bb) d (.pick x a b) r cs fr σ J h=ar (.opt bb (bif bb then pf σ (ku x (ev σ fr)) (.pick x a b) else .junk)) (((isLd (.pick x a b)=true→c=1)∧c≤1)∧(bb=true→ay bb (ev σ fr) [x]∧ps σ (ku x (ev σ fr)) (.pick x a b))) σ (aR P d r cs fr J) ⟨⟩:=a7 rfl
theorem Dz {u x}:aF P (⟨d, .un u x,none⟩::r) (c::cs) fr σ J=ar (pf σ (ev σ fr) (.un u x)) (c≤1∧ps σ (ev σ fr) (.un u x)) σ (aR P d r cs fr J) ⟨⟩:=by
 simp only [aF,aH,aJ,cond_false,dStep,dOp,ar,aR]
 apply propext;constructor
 ·rintro ⟨w,s,⟨h1,h2,h3,rfl,rfl⟩,h⟩;exact ⟨⟨h2,h3⟩,h⟩
 ·rintro ⟨⟨h2,h3⟩,h⟩;exact ⟨_,_,⟨(fun e=>by simp [isLd] at e),h2,h3,rfl,rfl⟩,h⟩
theorem zA {u x} {tt:Nat} {want:Bool}:aF P (⟨d, .un u x,some (tt,want)⟩::r) (c::cs) fr σ J=gdD P c (aY want (slot tt fr)) d (.un u x) r cs fr σ J ⟨⟩:=aL rfl rfl
theorem DA {bb:Bool} {u x} {h:Hold (d,CO.un u x,r,cs,fr,σ,J)}:gdD P c (some bb) d (.un u x) r cs fr σ J h=ar (.opt bb (bif bb then pf σ (evU (ev σ fr)) (.un u x) else .junk)) (((isLd (.un u x)=true→c=1)∧c≤1)∧(bb=true→ay bb (ev σ fr) (CO.ods (.un u x))∧ps σ (evU (ev σ fr)) (.un u x))) σ (aR P d r cs fr J) ⟨⟩:=a7 rfl
theorem zB {u x y}:aF P (⟨d, .bin u x y,none⟩::r) (c::cs) fr σ J=ar (pf σ (ev σ fr) (.bin u x y)) (c≤1∧ps σ (ev σ fr) (.bin u x y)) σ (aR P d r cs fr J) ⟨⟩:=by
 simp only [aF,aH,aJ,cond_false,dStep,dOp,ar,aR]
 apply propext;constructor
 ·rintro ⟨w,s,⟨h1,h2,h3,rfl,rfl⟩,h⟩;exact ⟨⟨h2,h3⟩,h⟩
 ·rintro ⟨⟨h2,h3⟩,h⟩;exact ⟨_,_,⟨(fun e=>by simp [isLd] at e),h2,h3,rfl,rfl⟩,h⟩
theorem we {u x y} {tt:Nat} {want:Bool}:aF P (⟨d, .bin u x y,some (tt,want)⟩::r) (c::cs) fr σ J=gdD P c (aY want (slot tt fr)) d (.bin u x y) r cs fr σ J ⟨⟩:=aL rfl rfl
theorem zC {bb:Bool} {u x y} {h:Hold (d,CO.bin u x y,r,cs,fr,σ,J)}:gdD P c (some bb) d (.bin u x y) r cs fr σ J h=ar (.opt bb (bif bb then pf σ (evU (ev σ fr)) (.bin u x y) else .junk)) (((isLd (.bin u x y)=true→c=1)∧c≤1)∧(bb=true→ay bb (ev σ fr) (CO.ods (.bin u x y))∧ps σ (evU (ev σ fr)) (.bin u x y))) σ (aR P d r cs fr J) ⟨⟩:=a7 rfl
theorem zD {n ks x y}:aF P (⟨d, .eqA n ks x y,none⟩::r) (c::cs) fr σ J=ar (pf σ (ev σ fr) (.eqA n ks x y)) (c≤1∧ps σ (ev σ fr) (.eqA n ks x y)) σ (aR P d r cs fr J) ⟨⟩:=by
 simp only [aF,aH,aJ,cond_false,dStep,dOp,ar,aR]
 apply propext;constructor
 ·rintro ⟨w,s,⟨h1,h2,h3,rfl,rfl⟩,h⟩;exact ⟨⟨h2,h3⟩,h⟩
 ·rintro ⟨⟨h2,h3⟩,h⟩;exact ⟨_,_,⟨(fun e=>by simp [isLd] at e),h2,h3,rfl,rfl⟩,h⟩
theorem wg {n ks x y} {tt:Nat} {want:Bool}:aF P (⟨d, .eqA n ks x y,some (tt,want)⟩::r) (c::cs) fr σ J=gdD P c (aY want (slot tt fr)) d (.eqA n ks x y) r cs fr σ J ⟨⟩:=aL rfl rfl
theorem zE {bb:Bool} {n ks x y} {h:Hold (d,CO.eqA n ks x y,r,cs,fr,σ,J)}:gdD P c (some bb) d (.eqA n ks x y) r cs fr σ J h=ar (.opt bb (bif bb then pf σ (evU (ev σ fr)) (.eqA n ks x y) else .junk)) (((isLd (.eqA n ks x y)=true→c=1)∧c≤1)∧(bb=true→ay bb (ev σ fr) (CO.ods (.eqA n ks x y))∧ps σ (evU (ev σ fr)) (.eqA n ks x y))) σ (aR P d r cs fr J) ⟨⟩:=a7 rfl
theorem zF {n x y}:aF P (⟨d, .eqb n x y,none⟩::r) (c::cs) fr σ J=ar (pf σ (ev σ fr) (.eqb n x y)) (c≤1∧ps σ (ev σ fr) (.eqb n x y)) σ (aR P d r cs fr J) ⟨⟩:=by
 simp only [aF,aH,aJ,cond_false,dStep,dOp,ar,aR]
 apply propext;constructor
 ·rintro ⟨w,s,⟨h1,h2,h3,rfl,rfl⟩,h⟩;exact ⟨⟨h2,h3⟩,h⟩
 ·rintro ⟨⟨h2,h3⟩,h⟩;exact ⟨_,_,⟨(fun e=>by simp [isLd] at e),h2,h3,rfl,rfl⟩,h⟩
theorem wh {n x y} {tt:Nat} {want:Bool}:aF P (⟨d, .eqb n x y,some (tt,want)⟩::r) (c::cs) fr σ J=gdD P c (aY want (slot tt fr)) d (.eqb n x y) r cs fr σ J ⟨⟩:=aL rfl rfl
theorem zG {bb:Bool} {n x y} {h:Hold (d,CO.eqb n x y,r,cs,fr,σ,J)}:gdD P c (some bb) d (.eqb n x y) r cs fr σ J h=ar (.opt bb (bif bb then pf σ (evU (ev σ fr)) (.eqb n x y) else .junk)) (((isLd (.eqb n x y)=true→c=1)∧c≤1)∧(bb=true→ay bb (ev σ fr) (CO.ods (.eqb n x y))∧ps σ (evU (ev σ fr)) (.eqb n x y))) σ (aR P d r cs fr J) ⟨⟩:=a7 rfl
theorem zH {k x}:aF P (⟨d, .cnv k x,none⟩::r) (c::cs) fr σ J=ar (pf σ (ev σ fr) (.cnv k x)) (c≤1∧ps σ (ev σ fr) (.cnv k x)) σ (aR P d r cs fr J) ⟨⟩:=by
 simp only [aF,aH,aJ,cond_false,dStep,dOp,ar,aR]
 apply propext;constructor
 ·rintro ⟨w,s,⟨h1,h2,h3,rfl,rfl⟩,h⟩;exact ⟨⟨h2,h3⟩,h⟩
 ·rintro ⟨⟨h2,h3⟩,h⟩;exact ⟨_,_,⟨(fun e=>by simp [isLd] at e),h2,h3,rfl,rfl⟩,h⟩
theorem wi {k x} {tt:Nat} {want:Bool}:aF P (⟨d, .cnv k x,some (tt,want)⟩::r) (c::cs) fr σ J=gdD P c (aY want (slot tt fr)) d (.cnv k x) r cs fr σ J ⟨⟩:=aL rfl rfl
theorem zI {bb:Bool} {k x} {h:Hold (d,CO.cnv k x,r,cs,fr,σ,J)}:gdD P c (some bb) d (.cnv k x) r cs fr σ J h=ar (.opt bb (bif bb then pf σ (evU (ev σ fr)) (.cnv k x) else .junk)) (((isLd (.cnv k x)=true→c=1)∧c≤1)∧(bb=true→ay bb (ev σ fr) (CO.ods (.cnv k x))∧ps σ (evU (ev σ fr)) (.cnv k x))) σ (aR P d r cs fr J) ⟨⟩:=a7 rfl
theorem zJ {x}:aF P (⟨d, .b2s x,none⟩::r) (c::cs) fr σ J=ar (pf σ (ev σ fr) (.b2s x)) (c≤1∧ps σ (ev σ fr) (.b2s x)) σ (aR P d r cs fr J) ⟨⟩:=by
 simp only [aF,aH,aJ,cond_false,dStep,dOp,ar,aR]
 apply propext;constructor
 ·rintro ⟨w,s,⟨h1,h2,h3,rfl,rfl⟩,h⟩;exact ⟨⟨h2,h3⟩,h⟩
 ·rintro ⟨⟨h2,h3⟩,h⟩;exact ⟨_,_,⟨(fun e=>by simp [isLd] at e),h2,h3,rfl,rfl⟩,h⟩
theorem wj {x} {tt:Nat} {want:Bool}:aF P (⟨d, .b2s x,some (tt,want)⟩::r) (c::cs) fr σ J=gdD P c (aY want (slot tt fr)) d (.b2s x) r cs fr σ J ⟨⟩:=aL rfl rfl
theorem zK {bb:Bool} {x} {h:Hold (d,CO.b2s x,r,cs,fr,σ,J)}:gdD P c (some bb) d (.b2s x) r cs fr σ J h=ar (.opt bb (bif bb then pf σ (evU (ev σ fr)) (.b2s x) else .junk)) (((isLd (.b2s x)=true→c=1)∧c≤1)∧(bb=true→ay bb (ev σ fr) (CO.ods (.b2s x))∧ps σ (evU (ev σ fr)) (.b2s x))) σ (aR P d r cs fr J) ⟨⟩:=a7 rfl
theorem zL {x}:aF P (⟨d, .len x,none⟩::r) (c::cs) fr σ J=ar (pf σ (ev σ fr) (.len x)) (c≤1∧ps σ (ev σ fr) (.len x)) σ (aR P d r cs fr J) ⟨⟩:=by
 simp only [aF,aH,aJ,cond_false,dStep,dOp,ar,aR]
 apply propext;constructor
 ·rintro ⟨w,s,⟨h1,h2,h3,rfl,rfl⟩,h⟩;exact ⟨⟨h2,h3⟩,h⟩
 ·rintro ⟨⟨h2,h3⟩,h⟩;exact ⟨_,_,⟨(fun e=>by simp [isLd] at e),h2,h3,rfl,rfl⟩,h⟩
theorem wo {x} {tt:Nat} {want:Bool}:aF P (⟨d, .len x,some (tt,want)⟩::r) (c::cs) fr σ J=gdD P c (aY want (slot tt fr)) d (.len x) r cs fr σ J ⟨⟩:=aL rfl rfl
theorem zM {bb:Bool} {x} {h:Hold (d,CO.len x,r,cs,fr,σ,J)}:gdD P c (some bb) d (.len x) r cs fr σ J h=ar (.opt bb (bif bb then pf σ (evU (ev σ fr)) (.len x) else .junk)) (((isLd (.len x)=true→c=1)∧c≤1)∧(bb=true→ay bb (ev σ fr) (CO.ods (.len x))∧ps σ (evU (ev σ fr)) (.len x))) σ (aR P d r cs fr J) ⟨⟩:=a7 rfl
theorem wq {x}:aF P (⟨d, .lenS x,none⟩::r) (c::cs) fr σ J=ar (pf σ (ev σ fr) (.lenS x)) (c≤1∧ps σ (ev σ fr) (.lenS x)) σ (aR P d r cs fr J) ⟨⟩:=by
 simp only [aF,aH,aJ,cond_false,dStep,dOp,ar,aR]
 apply propext;constructor
 ·rintro ⟨w,s,⟨h1,h2,h3,rfl,rfl⟩,h⟩;exact ⟨⟨h2,h3⟩,h⟩
 ·rintro ⟨⟨h2,h3⟩,h⟩;exact ⟨_,_,⟨(fun e=>by simp [isLd] at e),h2,h3,rfl,rfl⟩,h⟩
theorem sU {x} {tt:Nat} {want:Bool}:aF P (⟨d, .lenS x,some (tt,want)⟩::r) (c::cs) fr σ J=gdD P c (aY want (slot tt fr)) d (.lenS x) r cs fr σ J ⟨⟩:=aL rfl rfl
theorem wu {bb:Bool} {x} {h:Hold (d,CO.lenS x,r,cs,fr,σ,J)}:gdD P c (some bb) d (.lenS x) r cs fr σ J h=ar (.opt bb (bif bb then pf σ (evU (ev σ fr)) (.lenS x) else .junk)) (((isLd (.lenS x)=true→c=1)∧c≤1)∧(bb=true→ay bb (ev σ fr) (CO.ods (.lenS x))∧ps σ (evU (ev σ fr)) (.lenS x))) σ (aR P d r cs fr J) ⟨⟩:=a7 rfl
theorem zN {o z x}:aF P (⟨d, .fld o z x,none⟩::r) (c::cs) fr σ J=ar (pf σ (ev σ fr) (.fld o z x)) (c≤1∧ps σ (ev σ fr) (.fld o z x)) σ (aR P d r cs fr J) ⟨⟩:=by
 simp only [aF,aH,aJ,cond_false,dStep,dOp,ar,aR]
 apply propext;constructor
 ·rintro ⟨w,s,⟨h1,h2,h3,rfl,rfl⟩,h⟩;exact ⟨⟨h2,h3⟩,h⟩
 ·rintro ⟨⟨h2,h3⟩,h⟩;exact ⟨_,_,⟨(fun e=>by simp [isLd] at e),h2,h3,rfl,rfl⟩,h⟩
theorem wv {o z x} {tt:Nat} {want:Bool}:aF P (⟨d, .fld o z x,some (tt,want)⟩::r) (c::cs) fr σ J=gdD P c (aY want (slot tt fr)) d (.fld o z x) r cs fr σ J ⟨⟩:=aL rfl rfl
theorem zO {bb:Bool} {o z x} {h:Hold (d,CO.fld o z x,r,cs,fr,σ,J)}:gdD P c (some bb) d (.fld o z x) r cs fr σ J h=ar (.opt bb (bif bb then pf σ (evU (ev σ fr)) (.fld o z x) else .junk)) (((isLd (.fld o z x)=true→c=1)∧c≤1)∧(bb=true→ay bb (ev σ fr) (CO.ods (.fld o z x))∧ps σ (evU (ev σ fr)) (.fld o z x))) σ (aR P d r cs fr J) ⟨⟩:=a7 rfl
theorem wx {o x}:aF P (⟨d, .fldA o x,none⟩::r) (c::cs) fr σ J=ar (pf σ (ev σ fr) (.fldA o x)) (c≤1∧ps σ (ev σ fr) (.fldA o x)) σ (aR P d r cs fr J) ⟨⟩:=by
 simp only [aF,aH,aJ,cond_false,dStep,dOp,ar,aR]
 apply propext;constructor
 ·rintro ⟨w,s,⟨h1,h2,h3,rfl,rfl⟩,h⟩;exact ⟨⟨h2,h3⟩,h⟩
 ·rintro ⟨⟨h2,h3⟩,h⟩;exact ⟨_,_,⟨(fun e=>by simp [isLd] at e),h2,h3,rfl,rfl⟩,h⟩
theorem sW {o x} {tt:Nat} {want:Bool}:aF P (⟨d, .fldA o x,some (tt,want)⟩::r) (c::cs) fr σ J=gdD P c (aY want (slot tt fr)) d (.fldA o x) r cs fr σ J ⟨⟩:=aL rfl rfl
theorem wy {bb:Bool} {o x} {h:Hold (d,CO.fldA o x,r,cs,fr,σ,J)}:gdD P c (some bb) d (.fldA o x) r cs fr σ J h=ar (.opt bb (bif bb then pf σ (evU (ev σ fr)) (.fldA o x) else .junk)) (((isLd (.fldA o x)=true→c=1)∧c≤1)∧(bb=true→ay bb (ev σ fr) (CO.ods (.fldA o x))∧ps σ (evU (ev σ fr)) (.fldA o x))) σ (aR P d r cs fr J) ⟨⟩:=a7 rfl
theorem zP {e x i}:aF P (⟨d, .ixA e x i,none⟩::r) (c::cs) fr σ J=ar (pf σ (ev σ fr) (.ixA e x i)) (c≤1∧ps σ (ev σ fr) (.ixA e x i)) σ (aR P d r cs fr J) ⟨⟩:=by
 simp only [aF,aH,aJ,cond_false,dStep,dOp,ar,aR]
 apply propext;constructor
 ·rintro ⟨w,s,⟨h1,h2,h3,rfl,rfl⟩,h⟩;exact ⟨⟨h2,h3⟩,h⟩
 ·rintro ⟨⟨h2,h3⟩,h⟩;exact ⟨_,_,⟨(fun e=>by simp [isLd] at e),h2,h3,rfl,rfl⟩,h⟩
theorem wz {e x i} {tt:Nat} {want:Bool}:aF P (⟨d, .ixA e x i,some (tt,want)⟩::r) (c::cs) fr σ J=gdD P c (aY want (slot tt fr)) d (.ixA e x i) r cs fr σ J ⟨⟩:=aL rfl rfl
theorem zQ {bb:Bool} {e x i} {h:Hold (d,CO.ixA e x i,r,cs,fr,σ,J)}:gdD P c (some bb) d (.ixA e x i) r cs fr σ J h=ar (.opt bb (bif bb then pf σ (evU (ev σ fr)) (.ixA e x i) else .junk)) (((isLd (.ixA e x i)=true→c=1)∧c≤1)∧(bb=true→ay bb (ev σ fr) (CO.ods (.ixA e x i))∧ps σ (evU (ev σ fr)) (.ixA e x i))) σ (aR P d r cs fr J) ⟨⟩:=a7 rfl
theorem zR {n e x i}:aF P (⟨d, .ixP n e x i,none⟩::r) (c::cs) fr σ J=ar (pf σ (ev σ fr) (.ixP n e x i)) (c≤1∧ps σ (ev σ fr) (.ixP n e x i)) σ (aR P d r cs fr J) ⟨⟩:=by
 simp only [aF,aH,aJ,cond_false,dStep,dOp,ar,aR]
 apply propext;constructor
 ·rintro ⟨w,s,⟨h1,h2,h3,rfl,rfl⟩,h⟩;exact ⟨⟨h2,h3⟩,h⟩
 ·rintro ⟨⟨h2,h3⟩,h⟩;exact ⟨_,_,⟨(fun e=>by simp [isLd] at e),h2,h3,rfl,rfl⟩,h⟩
theorem wA {n e x i} {tt:Nat} {want:Bool}:aF P (⟨d, .ixP n e x i,some (tt,want)⟩::r) (c::cs) fr σ J=gdD P c (aY want (slot tt fr)) d (.ixP n e x i) r cs fr σ J ⟨⟩:=aL rfl rfl
theorem zS {bb:Bool} {n e x i} {h:Hold (d,CO.ixP n e x i,r,cs,fr,σ,J)}:gdD P c (some bb) d (.ixP n e x i) r cs fr σ J h=ar (.opt bb (bif bb then pf σ (evU (ev σ fr)) (.ixP n e x i) else .junk)) (((isLd (.ixP n e x i)=true→c=1)∧c≤1)∧(bb=true→ay bb (ev σ fr) (CO.ods (.ixP n e x i))∧ps σ (evU (ev σ fr)) (.ixP n e x i))) σ (aR P d r cs fr J) ⟨⟩:=a7 rfl
theorem zT {x i}:aF P (⟨d, .ixS x i,none⟩::r) (c::cs) fr σ J=ar (pf σ (ev σ fr) (.ixS x i)) (c≤1∧ps σ (ev σ fr) (.ixS x i)) σ (aR P d r cs fr J) ⟨⟩:=by
 simp only [aF,aH,aJ,cond_false,dStep,dOp,ar,aR]
 apply propext;constructor
 ·rintro ⟨w,s,⟨h1,h2,h3,rfl,rfl⟩,h⟩;exact ⟨⟨h2,h3⟩,h⟩
 ·rintro ⟨⟨h2,h3⟩,h⟩;exact ⟨_,_,⟨(fun e=>by simp [isLd] at e),h2,h3,rfl,rfl⟩,h⟩
theorem wB {x i} {tt:Nat} {want:Bool}:aF P (⟨d, .ixS x i,some (tt,want)⟩::r) (c::cs) fr σ J=gdD P c (aY want (slot tt fr)) d (.ixS x i) r cs fr σ J ⟨⟩:=aL rfl rfl
theorem zU {bb:Bool} {x i} {h:Hold (d,CO.ixS x i,r,cs,fr,σ,J)}:gdD P c (some bb) d (.ixS x i) r cs fr σ J h=ar (.opt bb (bif bb then pf σ (evU (ev σ fr)) (.ixS x i) else .junk)) (((isLd (.ixS x i)=true→c=1)∧c≤1)∧(bb=true→ay bb (ev σ fr) (CO.ods (.ixS x i))∧ps σ (evU (ev σ fr)) (.ixS x i))) σ (aR P d r cs fr J) ⟨⟩:=a7 rfl
theorem zV {n e z x i}:aF P (⟨d, .ixV n e z x i,none⟩::r) (c::cs) fr σ J=ar (pf σ (ev σ fr) (.ixV n e z x i)) (c≤1∧ps σ (ev σ fr) (.ixV n e z x i)) σ (aR P d r cs fr J) ⟨⟩:=by
 simp only [aF,aH,aJ,cond_false,dStep,dOp,ar,aR]
 apply propext;constructor
 ·rintro ⟨w,s,⟨h1,h2,h3,rfl,rfl⟩,h⟩;exact ⟨⟨h2,h3⟩,h⟩
 ·rintro ⟨⟨h2,h3⟩,h⟩;exact ⟨_,_,⟨(fun e=>by simp [isLd] at e),h2,h3,rfl,rfl⟩,h⟩
theorem wC {n e z x i} {tt:Nat} {want:Bool}:aF P (⟨d, .ixV n e z x i,some (tt,want)⟩::r) (c::cs) fr σ J=gdD P c (aY want (slot tt fr)) d (.ixV n e z x i) r cs fr σ J ⟨⟩:=aL rfl rfl
theorem zW {bb:Bool} {n e z x i} {h:Hold (d,CO.ixV n e z x i,r,cs,fr,σ,J)}:gdD P c (some bb) d (.ixV n e z x i) r cs fr σ J h=ar (.opt bb (bif bb then pf σ (evU (ev σ fr)) (.ixV n e z x i) else .junk)) (((isLd (.ixV n e z x i)=true→c=1)∧c≤1)∧(bb=true→ay bb (ev σ fr) (CO.ods (.ixV n e z x i))∧ps σ (evU (ev σ fr)) (.ixV n e z x i))) σ (aR P d r cs fr J) ⟨⟩:=a7 rfl
theorem DB {z x}:aF P (⟨d, .ld z x,none⟩::r) (c::cs) fr σ J=ar (pf σ (ev σ fr) (.ld z x)) (c=1∧ps σ (ev σ fr) (.ld z x)) σ (aR P d r cs fr J) ⟨⟩:=by
 simp only [aF,aH,aJ,cond_false,dStep,dOp,ar,aR]
 apply propext;constructor
 ·rintro ⟨w,s,⟨h1,h2,h3,rfl,rfl⟩,h⟩;exact ⟨⟨h1 rfl,h3⟩,h⟩
 ·rintro ⟨⟨h2,h3⟩,h⟩;exact ⟨_,_,⟨fun _=>h2,(by omega),h3,rfl,rfl⟩,h⟩
theorem zX {z x} {tt:Nat} {want:Bool}:aF P (⟨d, .ld z x,some (tt,want)⟩::r) (c::cs) fr σ J=gdD P c (aY want (slot tt fr)) d (.ld z x) r cs fr σ J ⟨⟩:=aL rfl rfl
theorem DC {bb:Bool} {z x} {h:Hold (d,CO.ld z x,r,cs,fr,σ,J)}:gdD P c (some bb) d (.ld z x) r cs fr σ J h=ar (.opt bb (bif bb then pf σ (evU (ev σ fr)) (.ld z x) else .junk)) (((isLd (.ld z x)=true→c=1)∧c≤1)∧(bb=true→ay bb (ev σ fr) (CO.ods (.ld z x))∧ps σ (evU (ev σ fr)) (.ld z x))) σ (aR P d r cs fr J) ⟨⟩:=a7 rfl
theorem zY {e x l hi m}:aF P (⟨d, .slc e x l hi m,none⟩::r) (c::cs) fr σ J=ar (pf σ (ev σ fr) (.slc e x l hi m)) (c≤1∧ps σ (ev σ fr) (.slc e x l hi m)) σ (aR P d r cs fr J) ⟨⟩:=by
 simp only [aF,aH,aJ,cond_false,dStep,dOp,ar,aR]
 apply propext;constructor
 ·rintro ⟨w,s,⟨h1,h2,h3,rfl,rfl⟩,h⟩;exact ⟨⟨h2,h3⟩,h⟩
 ·rintro ⟨⟨h2,h3⟩,h⟩;exact ⟨_,_,⟨(fun e=>by simp [isLd] at e),h2,h3,rfl,rfl⟩,h⟩
theorem wD {e x l hi m} {tt:Nat} {want:Bool}:aF P (⟨d, .slc e x l hi m,some (tt,want)⟩::r) (c::cs) fr σ J=gdD P c (aY want (slot tt fr)) d (.slc e x l hi m) r cs fr σ J ⟨⟩:=aL rfl rfl
theorem zZ {bb:Bool} {e x l hi m} {h:Hold (d,CO.slc e x l hi m,r,cs,fr,σ,J)}:gdD P c (some bb) d (.slc e x l hi m) r cs fr σ J h=ar (.opt bb (bif bb then pf σ (evU (ev σ fr)) (.slc e x l hi m) else .junk)) (((isLd (.slc e x l hi m)=true→c=1)∧c≤1)∧(bb=true→ay bb (ev σ fr) (CO.ods (.slc e x l hi m))∧ps σ (evU (ev σ fr)) (.slc e x l hi m))) σ (aR P d r cs fr J) ⟨⟩:=a7 rfl
theorem wE {x l hi}:aF P (⟨d, .slcS x l hi,none⟩::r) (c::cs) fr σ J=ar (pf σ (ev σ fr) (.slcS x l hi)) (c≤1∧ps σ (ev σ fr) (.slcS x l hi)) σ (aR P d r cs fr J) ⟨⟩:=by
 simp only [aF,aH,aJ,cond_false,dStep,dOp,ar,aR]
 apply propext;constructor
 ·rintro ⟨w,s,⟨h1,h2,h3,rfl,rfl⟩,h⟩;exact ⟨⟨h2,h3⟩,h⟩
 ·rintro ⟨⟨h2,h3⟩,h⟩;exact ⟨_,_,⟨(fun e=>by simp [isLd] at e),h2,h3,rfl,rfl⟩,h⟩
theorem sX {x l hi} {tt:Nat} {want:Bool}:aF P (⟨d, .slcS x l hi,some (tt,want)⟩::r) (c::cs) fr σ J=gdD P c (aY want (slot tt fr)) d (.slcS x l hi) r cs fr σ J ⟨⟩:=aL rfl rfl
theorem wF {bb:Bool} {x l hi} {h:Hold (d,CO.slcS x l hi,r,cs,fr,σ,J)}:gdD P c (some bb) d (.slcS x l hi) r cs fr σ J h=ar (.opt bb (bif bb then pf σ (evU (ev σ fr)) (.slcS x l hi) else .junk)) (((isLd (.slcS x l hi)=true→c=1)∧c≤1)∧(bb=true→ay bb (ev σ fr) (CO.ods (.slcS x l hi))∧ps σ (evU (ev σ fr)) (.slcS x l hi))) σ (aR P d r cs fr J) ⟨⟩:=a7 rfl
theorem z6 {z q}:aF P (⟨d, .bld z q,none⟩::r) (c::cs) fr σ J=ar (pf σ (ev σ fr) (.bld z q)) (c≤1∧ps σ (ev σ fr) (.bld z q)) σ (aR P d r cs fr J) ⟨⟩:=by
 simp only [aF,aH,aJ,cond_false,dStep,dOp,ar,aR]
 apply propext;constructor
 ·rintro ⟨w,s,⟨h1,h2,h3,rfl,rfl⟩,h⟩;exact ⟨⟨h2,h3⟩,h⟩
 ·rintro ⟨⟨h2,h3⟩,h⟩;exact ⟨_,_,⟨(fun e=>by simp [isLd] at e),h2,h3,rfl,rfl⟩,h⟩
theorem wG {z q} {tt:Nat} {want:Bool}:aF P (⟨d, .bld z q,some (tt,want)⟩::r) (c::cs) fr σ J=gdD P c (aY want (slot tt fr)) d (.bld z q) r cs fr σ J ⟨⟩:=aL rfl rfl
theorem z7 {bb:Bool} {z q} {h:Hold (d,CO.bld z q,r,cs,fr,σ,J)}:gdD P c (some bb) d (.bld z q) r cs fr σ J h=ar (.opt bb (bif bb then pf σ (evU (ev σ fr)) (.bld z q) else .junk)) (((isLd (.bld z q)=true→c=1)∧c≤1)∧(bb=true→ay bb (ev σ fr) (CO.ods (.bld z q))∧ps σ (evU (ev σ fr)) (.bld z q))) σ (aR P d r cs fr J) ⟨⟩:=a7 rfl
theorem wH {e n z q}:aF P (⟨d, .mkSl e n z q,none⟩::r) (c::cs) fr σ J=ar (pf σ (ev σ fr) (.mkSl e n z q)) (c≤1∧ps σ (ev σ fr) (.mkSl e n z q)) σ (aR P d r cs fr J) ⟨⟩:=by
 simp only [aF,aH,aJ,cond_false,dStep,dOp,ar,aR]
 apply propext;constructor
 ·rintro ⟨w,s,⟨h1,h2,h3,rfl,rfl⟩,h⟩;exact ⟨⟨h2,h3⟩,h⟩
 ·rintro ⟨⟨h2,h3⟩,h⟩;exact ⟨_,_,⟨(fun e=>by simp [isLd] at e),h2,h3,rfl,rfl⟩,h⟩
theorem sY {e n z q} {tt:Nat} {want:Bool}:aF P (⟨d, .mkSl e n z q,some (tt,want)⟩::r) (c::cs) fr σ J=gdD P c (aY want (slot tt fr)) d (.mkSl e n z q) r cs fr σ J ⟨⟩:=aL rfl rfl
theorem wJ {bb:Bool} {e n z q} {h:Hold (d,CO.mkSl e n z q,r,cs,fr,σ,J)}:gdD P c (some bb) d (.mkSl e n z q) r cs fr σ J h=ar (.opt bb (bif bb then pf σ (evU (ev σ fr)) (.mkSl e n z q) else .junk)) (((isLd (.mkSl e n z q)=true→c=1)∧c≤1)∧(bb=true→ay bb (ev σ fr) (CO.ods (.mkSl e n z q))∧ps σ (evU (ev σ fr)) (.mkSl e n z q))) σ (aR P d r cs fr J) ⟨⟩:=a7 rfl
theorem Aa {t x}:aF P (⟨d, .mkI t x,none⟩::r) (c::cs) fr σ J=ar (pf σ (ev σ fr) (.mkI t x)) (c≤1∧ps σ (ev σ fr) (.mkI t x)) σ (aR P d r cs fr J) ⟨⟩:=by
 simp only [aF,aH,aJ,cond_false,dStep,dOp,ar,aR]
 apply propext;constructor
 ·rintro ⟨w,s,⟨h1,h2,h3,rfl,rfl⟩,h⟩;exact ⟨⟨h2,h3⟩,h⟩
 ·rintro ⟨⟨h2,h3⟩,h⟩;exact ⟨_,_,⟨(fun e=>by simp [isLd] at e),h2,h3,rfl,rfl⟩,h⟩
theorem wK {t x} {tt:Nat} {want:Bool}:aF P (⟨d, .mkI t x,some (tt,want)⟩::r) (c::cs) fr σ J=gdD P c (aY want (slot tt fr)) d (.mkI t x) r cs fr σ J ⟨⟩:=aL rfl rfl
theorem Ab {bb:Bool} {t x} {h:Hold (d,CO.mkI t x,r,cs,fr,σ,J)}:gdD P c (some bb) d (.mkI t x) r cs fr σ J h=ar (.opt bb (bif bb then pf σ (evU (ev σ fr)) (.mkI t x) else .junk)) (((isLd (.mkI t x)=true→c=1)∧c≤1)∧(bb=true→ay bb (ev σ fr) (CO.ods (.mkI t x))∧ps σ (evU (ev σ fr)) (.mkI t x))) σ (aR P d r cs fr J) ⟨⟩:=a7 rfl
theorem Ac {g xs}:aF P (⟨d, .mkF g xs,none⟩::r) (c::cs) fr σ J=ar (pf σ (ev σ fr) (.mkF g xs)) (c≤1∧ps σ (ev σ fr) (.mkF g xs)) σ (aR P d r cs fr J) ⟨⟩:=by
 simp only [aF,aH,aJ,cond_false,dStep,dOp,ar,aR]
 apply propext;constructor
 ·rintro ⟨w,s,⟨h1,h2,h3,rfl,rfl⟩,h⟩;exact ⟨⟨h2,h3⟩,h⟩
 ·rintro ⟨⟨h2,h3⟩,h⟩;exact ⟨_,_,⟨(fun e=>by simp [isLd] at e),h2,h3,rfl,rfl⟩,h⟩
theorem wL {g xs} {tt:Nat} {want:Bool}:aF P (⟨d, .mkF g xs,some (tt,want)⟩::r) (c::cs) fr σ J=gdD P c (aY want (slot tt fr)) d (.mkF g xs) r cs fr σ J ⟨⟩:=aL rfl rfl
theorem Ad {bb:Bool} {g xs} {h:Hold (d,CO.mkF g xs,r,cs,fr,σ,J)}:gdD P c (some bb) d (.mkF g xs) r cs fr σ J h=ar (.opt bb (bif bb then pf σ (evU (ev σ fr)) (.mkF g xs) else .junk)) (((isLd (.mkF g xs)=true→c=1)∧c≤1)∧(bb=true→ay bb (ev σ fr) (CO.ods (.mkF g xs))∧ps σ (evU (ev σ fr)) (.mkF g xs))) σ (aR P d r cs fr J) ⟨⟩:=a7 rfl
theorem Ae {x i}:aF P (⟨d, .ext x i,none⟩::r) (c::cs) fr σ J=ar (pf σ (ev σ fr) (.ext x i)) (c≤1∧ps σ (ev σ fr) (.ext x i)) σ (aR P d r cs fr J) ⟨⟩:=by
 simp only [aF,aH,aJ,cond_false,dStep,dOp,ar,aR]
 apply propext;constructor
 ·rintro ⟨w,s,⟨h1,h2,h3,rfl,rfl⟩,h⟩;exact ⟨⟨h2,h3⟩,h⟩
 ·rintro ⟨⟨h2,h3⟩,h⟩;exact ⟨_,_,⟨(fun e=>by simp [isLd] at e),h2,h3,rfl,rfl⟩,h⟩
theorem wM {x i} {tt:Nat} {want:Bool}:aF P (⟨d, .ext x i,some (tt,want)⟩::r) (c::cs) fr σ J=gdD P c (aY want (slot tt fr)) d (.ext x i) r cs fr σ J ⟨⟩:=aL rfl rfl
theorem Af {bb:Bool} {x i} {h:Hold (d,CO.ext x i,r,cs,fr,σ,J)}:gdD P c (some bb) d (.ext x i) r cs fr σ J h=ar (.opt bb (bif bb then pf σ (evU (ev σ fr)) (.ext x i) else .junk)) (((isLd (.ext x i)=true→c=1)∧c≤1)∧(bb=true→ay bb (ev σ fr) (CO.ods (.ext x i))∧ps σ (evU (ev σ fr)) (.ext x i))) σ (aR P d r cs fr J) ⟨⟩:=a7 rfl
theorem wN {x}:aF P (⟨d, .nilc x,none⟩::r) (c::cs) fr σ J=ar (pf σ (ev σ fr) (.nilc x)) (c≤1∧ps σ (ev σ fr) (.nilc x)) σ (aR P d r cs fr J) ⟨⟩:=by
 simp only [aF,aH,aJ,cond_false,dStep,dOp,ar,aR]
 apply propext;constructor
 ·rintro ⟨w,s,⟨h1,h2,h3,rfl,rfl⟩,h⟩;exact ⟨⟨h2,h3⟩,h⟩
 ·rintro ⟨⟨h2,h3⟩,h⟩;exact ⟨_,_,⟨(fun e=>by simp [isLd] at e),h2,h3,rfl,rfl⟩,h⟩
theorem sZ {x} {tt:Nat} {want:Bool}:aF P (⟨d, .nilc x,some (tt,want)⟩::r) (c::cs) fr σ J=gdD P c (aY want (slot tt fr)) d (.nilc x) r cs fr σ J ⟨⟩:=aL rfl rfl
theorem wO {bb:Bool} {x} {h:Hold (d,CO.nilc x,r,cs,fr,σ,J)}:gdD P c (some bb) d (.nilc x) r cs fr σ J h=ar (.opt bb (bif bb then pf σ (evU (ev σ fr)) (.nilc x) else .junk)) (((isLd (.nilc x)=true→c=1)∧c≤1)∧(bb=true→ay bb (ev σ fr) (CO.ods (.nilc x))∧ps σ (evU (ev σ fr)) (.nilc x))) σ (aR P d r cs fr J) ⟨⟩:=a7 rfl
theorem DD {b x y}:aF P (⟨d, .mm b x y,none⟩::r) (c::cs) fr σ J=ar (pf σ (ev σ fr) (.mm b x y)) (c≤1∧ps σ (ev σ fr) (.mm b x y)) σ (aR P d r cs fr J) ⟨⟩:=by
 simp only [aF,aH,aJ,cond_false,dStep,dOp,ar,aR]
 apply propext;constructor
 ·rintro ⟨w,s,⟨h1,h2,h3,rfl,rfl⟩,h⟩;exact ⟨⟨h2,h3⟩,h⟩
 ·rintro ⟨⟨h2,h3⟩,h⟩;exact ⟨_,_,⟨(fun e=>by simp [isLd] at e),h2,h3,rfl,rfl⟩,h⟩
theorem Ag {b x y} {tt:Nat} {want:Bool}:aF P (⟨d, .mm b x y,some (tt,want)⟩::r) (c::cs) fr σ J=gdD P c (aY want (slot tt fr)) d (.mm b x y) r cs fr σ J ⟨⟩:=aL rfl rfl
theorem DE {bb:Bool} {b x y} {h:Hold (d,CO.mm b x y,r,cs,fr,σ,J)}:gdD P c (some bb) d (.mm b x y) r cs fr σ J h=ar (.opt bb (bif bb then pf σ (evU (ev σ fr)) (.mm b x y) else .junk)) (((isLd (.mm b x y)=true→c=1)∧c≤1)∧(bb=true→ay bb (ev σ fr) (CO.ods (.mm b x y))∧ps σ (evU (ev σ fr)) (.mm b x y))) σ (aR P d r cs fr J) ⟨⟩:=a7 rfl
theorem s6 {args:List Od} {tt:Nat} {want:Bool}:aF P (⟨d, .call f args,some (tt,want)⟩::r) (c::cs) fr σ J=gdD P c (aY want (slot tt fr)) d (.call f args) r cs fr σ J ⟨⟩:=aL rfl rfl
theorem wP {kind:Nat} {neg:Bool} {h:Hold (σ,K)}:sO kind neg v σ K h=(dx kind v=true∧∃ b0,(∀ b,fo kind v b→b=b0)∧K (.bool (bif neg then !b0 else b0)) σ):=rfl
theorem dr {α:Type} {g:α→List AV} {l:List α} {e es bytes:Nat} {h:Hold (σ,K)} (hf:(l.flatMap g).length=l.length*es) (hm:l.length≤maxLen) (hb:l.length*bytes≤140737488355328) (hK:K (sl g l) σ):k9 false e es bytes (.sl true 0 []) (sl g l) σ K h :=
 ct (n:=0) (cs:= []) rfl trivial rfl (by simp) hf (by omega) (by rw [Nat.zero_add];exact hb) (by simpa using hK)
end
def R1:=Cj (ax8 @yX @ng @qv @sJ @Cx @FA @FD @FE) (ax8 @Cy @yZ @Cz @CB @CD @FG @y1 @vP) (ax8 @sL @vQ @vR @CE @FI @y4 @vS @CN) (ax8 @Cw @qt @vK @yW @nf @qu @sI @oR) (ax8 @sK @vL @FJ @y6 @FK @CQ @CR @CS) (ax8 @CT @CU @CV @y9 @CW @za @CY @CZ) (ax8 @C0 @C1 @FL @C4 @zb @C5 @zd @C6) (ax8 @C7 @C8 @ze @FM @Dv @zr @sP @zt) (ax8 @Dw @v8 @sR @zu @s6 @Dx @wa @Dz) (ax8 @zB @zD @zF @zH @zJ @zL @wq @zN) (ax8 @wx @zP @zR @zT @zV @DB @zY @wE) (ax8 @z6 @wH @Aa @Ac @Ae @wN @DD @zz) (ax8 @sS @zA @we @wg @wh @wi @wj @wo) (ax8 @sU @wv @sW @wz @wA @wB @wC @zX) (ax8 @wD @sX @wG @sY @wK @wL @wM @sZ) @Ag
def R2:=Cj (ax5 @yR @yS @Cv @Fy @Fz) (ax5 @vI @vJ @sH @qs @yV) (ax5 @FN @zf @FO @C9 @Da) (ax5 @Db @Dc @Dd @De @zh) (ax5 @Df @zi @Dg @Dh @Di) (ax5 @Dj @FP @Dk @zj @Dl) (ax5 @zk @Dm @Dn @Dp @zl) (ax5 @FQ @Dq @vT @vV @Dr) (ax5 @FT @zm @vX @vU @vW) (ax5 @Ds @FU @zn @vY @zw) (ax5 @wP @Dy @wb @DA @zC) (ax5 @zE @zG @zI @zK @zM) (ax5 @wu @zO @wy @zQ @zS) (ax5 @zU @zW @DC @zZ @wF) (ax5 @z7 @wJ @Ab @Ad @Af) (ax2 @wO @DE)
def look {α:Type} (i:Nat):List (Nat × α)→Option α
 | []=>none
 | (j,x)::r=>bif Nat.beq i j then some x else look i r
end Go.Abs
