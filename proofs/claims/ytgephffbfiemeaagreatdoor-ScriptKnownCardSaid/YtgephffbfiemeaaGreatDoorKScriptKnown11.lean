/- Part 11 of the proof of ScriptKnown: an abstract semantics that is proved sound for the model, contracts of functions in it, and plain facts (Abs10 Abs11 Abs12 Abs13 Abs15). No condition. -/
import Derived.Test.YtgephffbfiemeaaGreatDoorKScriptKnown10
import Derived.Scope
import Derived.Control
import Derived.TacticsIn
import Derived.RangeFuncRecord
set_option linter.all false
namespace Go.Abs
inductive AT where
 | done
 | stop
 | alt (j:Nat) (i:CI) (sub oth:AT)
def qG (P:Program):AT→Fr→St→(Fr→St→Prop)→Prop
 | .done,fr,σ,K=>K fr σ
 | .stop,_,_,_=>True
 | .alt _ i sub oth,fr,σ,K=>cA P [i] fr σ (fun fr' σ'=>qG P sub fr' σ' K)∧qG P oth fr σ K
def qH (P:Program) (N:Nat) (ops:Array Oper):AT→Array Bool→Option (List Nat)→Bool
  | .done,listed,m=>m.isNone&&(Region.ready .any ops listed).isEmpty
  | .stop,_,m=>match m with|some []=>true|_=>false
  | .alt j i sub oth, listed, m => match m.getD (Region.ready .any ops listed) with
    | k :: r => Nat.beq j k && (match ops[k]? with
      | some o=>(o.dst == i.d)&&dB N i.d&&gdB ops o.guard i.gd&&lk2 P o.op i.op
      | none=>false)&&qH P N ops sub (listed.setIfInBounds k true) none&&qH P N ops oth listed (some r)
    | []=>false
inductive CC where
 | skip
 | ops (l:List CI)
 | drw (l:List CI) (cls:List Nat)
 | any (t:AT)
 | inv (l:List CI) (dp:List (List Nat))
 | seq (x y:CC)
 | cond (c:Od) (x y:CC)
 | block (id:Nat) (x:CC)
 | scope (x:CC)
 | loop (x:CC)
 | keep (ts:List Nat) (x:CC)
 | exit (id:Nat)
 | ret
 | rfun (x:Od) (ps:List Nat) (asg body:CC)
 | frz (t es:Nat) (x:CC)
def Mv (d s:Nat):CI:=⟨some d, .mv (.t s),none⟩
def Mi (d:Nat) (n:Int):CI:=⟨some d, .mv (.c (.int .i64 n)),none⟩
def Lv (d s:Nat):CI:=⟨some d, .ld none (.t s),none⟩
def Lw (d n s:Nat):CI:=⟨some d, .ld (some n) (.t s),none⟩
def Fa (d k s:Nat):CI:=⟨some d, .fldA k (.t s),none⟩
def Sv (n p s:Nat):CI:=⟨none, .st n (.t p) (.t s),none⟩
def Pa (d a b:Nat):CI:=⟨some d, .pick (.t a) (.t b) (.c (.bool false)),none⟩
def Po (d a b:Nat):CI:=⟨some d, .pick (.t a) (.c (.bool true)) (.t b),none⟩
def Ex (d s i:Nat):CI:=⟨some d, .ext (.t s) i,none⟩
def Ou (d:Nat) (o:CO):CI:=⟨some d,o,none⟩
def Ot (d:Nat) (o:CO) (j:Nat):CI:=⟨some d,o,some (j,true)⟩
def Of (d:Nat) (o:CO) (j:Nat):CI:=⟨some d,o,some (j,false)⟩
def Ik (n:Int):Od:= .c (.int .i64 n)
def Ko (ts:List Nat) (l:List CI):CC:= .keep ts (.ops l)
def Bk (d:Nat) (o:BinOp) (x:Nat) (k:Int):CI:=⟨some d, .bin o (.t x) (.c (.int .i64 k)),none⟩
def Bt (d:Nat) (o:BinOp) (x y:Nat):CI:=⟨some d, .bin o (.t x) (.t y),none⟩
def Ca (d f x:Nat):CI:=⟨some d, .call f [.t x],none⟩
def Cb (d f x y:Nat):CI:=⟨some d, .call f [.t x, .t y],none⟩
def Ms (d:Nat):CI:=⟨some d, .mv (.c (.str [])),none⟩
def Nc (d x:Nat):CI:=⟨some d, .nilc (.t x),none⟩
def Sk (ts:List Nat) (l:List CI) (y:CC):CC:= .seq (.keep ts (.ops l)) y
def Cd (c:Nat) (x y:CC):CC:= .cond (.t c) x y
theorem Kg (d s:Nat):Mv d s=⟨some d, .mv (.t s),none⟩:=rfl
theorem Kh (d:Nat) (n:Int):Mi d n=⟨some d, .mv (.c (.int .i64 n)),none⟩:=rfl
theorem Ki (d s:Nat):Lv d s=⟨some d, .ld none (.t s),none⟩:=rfl
theorem Kj (d n s:Nat):Lw d n s=⟨some d, .ld (some n) (.t s),none⟩:=rfl
theorem Kk (d k s:Nat):Fa d k s=⟨some d, .fldA k (.t s),none⟩:=rfl
theorem Kl (n p s:Nat):Sv n p s=⟨none, .st n (.t p) (.t s),none⟩:=rfl
theorem Km (d a b:Nat):Pa d a b=⟨some d, .pick (.t a) (.t b) (.c (.bool false)),none⟩:=rfl
theorem Kn (d a b:Nat):Po d a b=⟨some d, .pick (.t a) (.c (.bool true)) (.t b),none⟩:=rfl
theorem Kp (d s i:Nat):Ex d s i=⟨some d, .ext (.t s) i,none⟩:=rfl
theorem Kq (d:Nat) (o:CO):Ou d o=⟨some d,o,none⟩:=rfl
theorem Kr (d:Nat) (o:CO) (j:Nat):Ot d o j=⟨some d,o,some (j,true)⟩:=rfl
theorem Ks (d:Nat) (o:CO) (j:Nat):Of d o j=⟨some d,o,some (j,false)⟩:=rfl
theorem Kt (n:Int):Ik n= .c (.int .i64 n):=rfl
theorem Ku (ts:List Nat) (l:List CI):Ko ts l= .keep ts (.ops l):=rfl
theorem Kv (d:Nat) (o:BinOp) (x:Nat) (k:Int):Bk d o x k=⟨some d, .bin o (.t x) (.c (.int .i64 k)),none⟩:=rfl
theorem Kw (d:Nat) (o:BinOp) (x y:Nat):Bt d o x y=⟨some d, .bin o (.t x) (.t y),none⟩:=rfl
theorem Kx (d f x:Nat):Ca d f x=⟨some d, .call f [.t x],none⟩:=rfl
theorem Ky (d f x y:Nat):Cb d f x y=⟨some d, .call f [.t x, .t y],none⟩:=rfl
theorem Kz (d:Nat):Ms d=⟨some d, .mv (.c (.str [])),none⟩:=rfl
theorem KA (d x:Nat):Nc d x=⟨some d, .nilc (.t x),none⟩:=rfl
theorem KB (ts:List Nat) (l:List CI) (y:CC):Sk ts l y= .seq (.keep ts (.ops l)) y:=rfl
theorem KC (c:Nat) (x y:CC):Cd c x y= .cond (.t c) x y:=rfl
def R6:=LQ (ax2 Kg Kh) (ax2 Ki Kj) (ax2 Kk Kl) (ax2 Km Kn) (ax2 Kp Kq) (ax2 Kr Ks) (ax2 Kt Kv) (ax2 Kw Kx) (ax2 Ky Kz) (ax2 KA KB) (ax2 KC Ku)
def wk (v v':AV):Prop:=∀ g w u,Rel g w v u→Rel g w v' u
theorem ae (v:AV):wk v v:=fun _ _ _ h=>h
theorem af {v v':AV} (h:v=v'):wk v v':=h ▸ ae v
theorem DD (v:AV):wk v .junk:=fun _ _ u _=> .junk u
theorem dD (τ n:Nat) (cs:List AV):wk (.tsl τ n cs) (.sl false n cs):=by
 intro g w u h
 rcases h.bL (n:=n) (cs:=cs) rfl with ⟨_,rfl,rfl,rfl⟩|⟨b,off,cap,us,rfl,hnc,hl⟩
 ·exact .sl0 _ _
 ·exact .gU hnc OF hl
theorem cQ (n:Nat) (cs:List AV):wk (.sl true n cs) (.sl false n cs):=by
 intro g w u h
 rcases h.bL (n:=n) (cs:=cs) rfl with ⟨_,rfl,rfl,rfl⟩|⟨b,off,cap,us,rfl,hnc,hl⟩
 ·exact .sl0 _ _
 ·exact .gU hnc OF hl
theorem dc:wk .nils (.sl false 0 []):=by
 intro g w u h
 cases h;exact .sl0 _ _
inductive wkL:List AV→List AV→Prop where
 | nil:wkL [] []
 | cons {a b:AV} {as bs:List AV}:wk a b→wkL as bs→wkL (a::as) (b::bs)
theorem jJ {as bs:List AV} (h:wkL as bs):∀ {g w vs},bQ g w as vs→bQ g w bs vs:=by
  induction h with
  | nil=>intro g w vs h;exact h
  | cons h1 _ ih =>
    intro g w vs h
    obtain ⟨v,vs',rfl,k1,k2⟩:=h.cons_inv
    exact .cons (h1 _ _ _ k1) (ih k2)
theorem aa:∀ (as:List AV),wkL as as
 | []=> .nil
 | _::as=> .cons (ae _) (aa as)
theorem zt {as bs:List AV} (h:wkL as bs):wk (.tup as) (.tup bs):=by
 intro g w u hu
 obtain ⟨us,rfl,hr⟩:=hu.o6
 exact .dA (jJ h hr)
theorem mi {as bs:List AV} (h:wkL as bs):wk (.agg as) (.agg bs):=by
 intro g w u hu
 obtain ⟨us,rfl,hr⟩:=hu.dt
 exact .gV ⟨jJ h hr.1,hr.2⟩
def aK:Fr→Fr→Prop
 | [],_=>True
 | (t,v)::r,f=>wk (slot t f) v∧aK r f
theorem Inv.le {g:Gh} {s s':St} {w:World} (h:Inv g s' w) (hl:St.le s s'):Inv g s w :=
 ⟨fun β cs hb=>h.box β cs (hl.1 _ _ hb),fun β b hb=>⟨(h.boxcl β b hb).1,fun hn=>(h.boxcl β b hb).2 (fun hs=>hn (by cases hq:s.box β with|none=>rfl|some c=>rw [hl.1 _ _ hq] at hs;cases hs))⟩,h.boxinj,h.boxfresh,fun τ e s n ht=>h.tip τ e s n (hl.2.1 _ _ ht),fun τ τ' x x' v v' b h1 h2=>h.tipinj τ τ' x x' v v' b (hl.2.1 _ _ h1) (hl.2.1 _ _ h2),h.tipfresh,fun k cs hk=>h.glob k cs (hl.2.2.1 _ _ hk),fun l r hr=>h.lp l r (hl.2.2.2.1 _ _ hr),fun β T hb=>h.bty β T (hl.2.2.2.2 _ _ hb)⟩
theorem oa:∀ {r f:Fr} (t:Nat),aK r f→wk (slot t f) (slot t r)
  | [],_,_,_=>DD _
  | (s, v) :: r, f, t, h => by
    simp only [slot]
    split
    · rename_i e;subst e;exact h.1
    · exact oa t h.2
theorem Sim.le {g:Gh} {s s':St} {w:World} {fr fr':Fr} {a:Act} {N:Nat} (h:Sim g s' w fr' a N) (hs:St.le s s') (hf:aK fr fr'):Sim g s w fr a N :=
 ⟨h.inv.le hs,fun t=>oa t hf _ _ _ (h.rel t),h.size,h.defers⟩
def cb:List (Bool × Nat × Nat × Nat × Nat)→Fr→St→(Fr→St→Prop)→Prop
  | [],fr,σ,J=>J fr σ
  | (false, t, _, e, s) :: r, fr, σ, J => fresh (slot t fr) ∧ match slv (slot t fr) with
    | some (n,cs)=>∀ τ,σ.tip τ=none→cb r ((t, .tsl τ n cs)::fr) (σ.ai τ (e,s,n)) J
    | none=>False
  | (true, t, k, e, s) :: r, fr, σ, J => match slot t fr with
    | .ptr β o => match σ.box β with
      | some c0 => match c0[o + k]? with
        | some a => fresh a ∧ match slv a with
          | some (n,cs)=>∀ τ,σ.tip τ=none→cb r fr ((σ.ai τ (e,s,n)).ad β (c0.set (o+k) (.tsl τ n cs))) J
          | none=>False
        | none=>False
      | none=>False
    | _=>False
theorem eg:∀ (regs:List (Bool × Nat × Nat × Nat × Nat)) {g:Gh} {σ:St} {w:World} {fr:Fr} {a:Act} {N:Nat} {J:Fr→St→Prop},Sim g σ w fr a N→cb regs fr σ J →
    ∃ g' fr' σ',Sim g' σ' w fr' a N∧Ext g w g' w∧J fr' σ'
  | [],g,σ,w,fr,a,N,J,hS,h=>⟨g,fr,σ,hS, .refl g w,h⟩
  | (false, t, k, e, s) :: r, g, σ, w, fr, a, N, J, hS, h => by
    simp only [cb] at h
    obtain ⟨hf,h⟩:=h
    split at h
    · rename_i n cs hs
      obtain ⟨g1,hI1,he1,hr1⟩:=iw hS.inv e s (hS.rel t) hf hs
      have hS1:Sim g1 (σ.ai g.nt (e,s,n)) w ((t, .tsl g.nt n cs)::fr) a N:=by
        refine ⟨hI1,fun t'=>?_,hS.size,hS.defers.mono he1⟩
        simp only [slot]
        split
        · rename_i ht;subst ht;exact hr1
        · exact (hS.rel t').mono he1
      obtain ⟨g2,fr2,σ2,k1,k2,k3⟩:=eg r hS1 (h g.nt (fS hS.inv))
      exact ⟨g2,fr2,σ2,k1,he1.trans k2,k3⟩
    · exact h.elim
  | (true, t, k, e, s) :: r, g, σ, w, fr, a, N, J, hS, h => by
    simp only [cb] at h
    split at h
    · rename_i β o hp
      split at h
      · rename_i c0 hb
        split at h
        · rename_i x hk
          obtain ⟨hf,h⟩:=h
          split at h
          · rename_i n cs hs
            obtain ⟨b,vs,T,h1,h2,h3⟩:=hS.inv.box _ _ hb
            obtain ⟨v,hv,hr⟩:=h3.1.get hk
            obtain ⟨g1,hI1,he1,hr1⟩:=iw hS.inv e s hr hf hs
            have hb1:(σ.ai g.nt (e,s,n)).box β=some c0:=hb
            have hI2:Inv g1 ((σ.ai g.nt (e,s,n)).ad β (c0.set (o+k) (.tsl g.nt n cs))) w:=by
              refine ⟨fun β' cs' hb'=>?_,fun β' b' hb'=>⟨(hI1.boxcl β' b' hb').1,fun hl=>(hI1.boxcl β' b' hb').2 (fun hn=>hl (by
                by_cases hβ:β'=β
                · subst hβ;rw [hb1] at hn;cases hn
                · simpa [St.ad,upd,hβ] using hn))⟩,hI1.boxinj,hI1.boxfresh,hI1.tip,hI1.tipinj,hI1.tipfresh,hI1.glob,hI1.lp,hI1.bty⟩
              simp only [St.ad,upd] at hb'
              split at hb'
              · rename_i e';subst e'
                cases hb'
                refine ⟨b,vs,T,he1.box _ _ h1,h2,⟨⟨by have:=h3.1.1;simpa using this,fun i c u hc hu=>?_⟩,h3.2⟩⟩
                rw [List.getElem?_set] at hc
                split at hc
                · rename_i e';subst e'
                  rw [hv] at hu;cases hu
                  split at hc
                  · cases hc;exact hr1
                  · cases hc
                · exact (h3.1.2 _ _ _ hc hu).mono he1
              · exact hI1.box _ _ hb'
            obtain ⟨g2,fr2,σ2,k1,k2,k3⟩:=eg r ⟨hI2,hS.rel.mono he1,hS.size,hS.defers.mono he1⟩ (h g.nt (fS hS.inv))
            exact ⟨g2,fr2,σ2,k1,he1.trans k2,k3⟩
          · exact h.elim
        · exact h.elim
      · exact h.elim
    · exact h.elim
def gN:List Nat→Fr→Fr
 | [],_=> []
 | t::ts,fr=>(t,slot t fr)::gN ts fr
theorem jg (t:Nat) (fr:Fr):∀ ts,slot t (gN ts fr)=slot t fr∨slot t (gN ts fr)= .junk
  | []=> .inr rfl
  | s :: ts => by
    simp only [gN,slot]
    split
    · rename_i e;subst e;exact .inl rfl
    · exact jg t fr ts
def iL:List Nat→List AV→Fr→Fr
 | p::ps,a::xs,fr=>iL ps xs ((p,a)::fr)
 | _,_,fr=>fr
def busy (r:Loop):Loop:={ r with state:= .busy }
def left (r:Loop) (c:Code):Loop:={ r with state:= .done,pending:=some c }
def DE (P:Program) (f:Nat):Bool:=match P.funcs[f]? with
 | some fn=>fn.body.isSome&&fn.name != "runtime.NumGoroutine"
 | none=>false
def po (t es:Nat) (fr:Fr) (σ:St):Option (Fr × St):=match slot t fr with
  | .psl β 0 n => match σ.box β with
    | some cs=>bif Nat.ble (n*es) cs.length then some ((t, .sl false n (cs.take (n*es)))::fr,σ.bN β) else none
    | none=>none
  | .row β _ _ n => match σ.box β with
    | some cs=>bif Nat.ble (n*es) cs.length then some ((t, .sl false n (cs.take (n*es)))::fr,σ.bN β) else none
    | none=>none
  | _=>none
def GS (P:Program) (l:List CI) (dp:List (List Nat)) (fr:Fr) (σ:St) (K:Fr→St→Prop):Prop :=
  ∃ I : (Nat → Bool) → Fr → St → Prop, I (fun _ => false) fr σ ∧
    (∀ D j i,l[j]? =some i→D j=false→(dp.getD j []).all D=true→∀ fr σ,I D fr σ→cA P [i] fr σ (fun fr' σ'=>I (fun k=>D k||Nat.beq k j) fr' σ')) ∧
    ∀ D fr σ,(∀ j,j<l.length→D j=true∨(dp.getD j []).all D=false)→I D fr σ→K fr σ
def aC (P:Program):CC→Fr→St→(Exit→Fr→St→Prop)→Prop
  | .skip,fr,σ,Q=>Q .normal fr σ
  | .ops l,fr,σ,Q=>cA P l fr σ (Q .normal)
  | .drw l cls,fr,σ,Q=>aF P l cls fr σ (Q .normal)
  | .any t,fr,σ,Q=>qG P t fr σ (Q .normal)
  | .inv l dp,fr,σ,Q=>GS P l dp fr σ (Q .normal)
  | .seq x y, fr, σ, Q => aC P x fr σ (fun e fr' σ' => match e with
    | .normal=>aC P y fr' σ' Q
    | e=>Q e fr' σ')
  | .cond c x y, fr, σ, Q => match ev σ fr c with
    | .bool t=>(t=true→aC P x fr σ Q)∧(t=false→aC P y fr σ Q)
    | _=>False
  | .block id x, fr, σ, Q => aC P x fr σ (fun e fr' σ' => match e with
    | .exit j=>if j=id then Q .normal fr' σ' else Q (.exit j) fr' σ'
    | e=>Q e fr' σ')
  | .scope x, fr, σ, Q => aC P x fr σ (fun e fr' σ' => match e with
    | .goto _=>False
    | e=>Q e fr' σ')
  | .loop x,fr,σ,Q=>∃ regs,cb regs fr σ fun fr0 σ0=>∃ (α:Type) (F:α→Fr) (S:α→St) (I:α→Prop) (μ:α→Nat) (a0:α),I a0∧aK (F a0) fr0∧St.le (S a0) σ0 ∧
      ∀ a, I a → aC P x (F a) (S a) (fun e fr' σ' => match e with
        | .normal=>∃ b,I b∧aK (F b) fr'∧St.le (S b) σ'∧μ b<μ a
        | e=>Q e fr' σ')
  | .keep ts x,fr,σ,Q=>aC P x (gN ts fr) σ Q
  | .frz t es x, fr, σ, Q => match po   t es fr σ with
    | some q=>aC P x q.1 q.2 Q
    | none=>aC P x fr σ Q
  | .exit id,fr,σ,Q=>Q (.exit id) fr σ
  | .ret,fr,σ,Q=>Q .ret fr σ
  | .rfun x ps asg body, fr, σ, Q => ∃ regs, cb     regs fr σ fun fr σ => match ev σ fr x with
    | .fn f cap=>DE P f=true∧∀ (L:Nat) (r:Loop),σ.lp L=none→r.state= .ready→r.pending=none →
        (∀ (xs:List AV) (σ1:St) (K:AV→St→Prop),xs.length=ps.length→σ1.lp L=some (.loop r,fr) →
          aC P asg (iL ps xs fr) σ1 (fun e fr1 σ2=>e= .normal∧σ2.lp L=some (.loop r,fr)∧aC P body fr1 (σ2.au L (busy r,fr)) (fun e _ σ3=>σ3.lp L=some (.loop (busy r),fr)∧match e with
            | .normal=>K (.bool true) (σ3.au L (r,fr))
            | .ret=>K (.bool false) (σ3.au L (left r .ret,fr))
            | .exit id=>K (.bool false) (σ3.au L (left r (.exit id),fr))
            | _=>False))→YC P L xs σ1 K) →
        AC P f (.yld L::cap) (σ.au L (r,fr)) (fun _ s=>(s.lp L=some (.loop r,fr)∧Q .normal fr (s.dropLp L))∨(s.lp L=some (.loop (left r .ret),fr)∧Q .ret fr (s.dropLp L))∨∃ id,s.lp L=some (.loop (left r (.exit id)),fr)∧Q (.exit id) fr (s.dropLp L))
    | _=>False
def noR:CC→Bool
 | .rfun _ _ _ _=>false
 | .seq x y | .cond _ x y=>noR x&&noR y
 | .block _ x | .scope x | .loop x | .keep _ x | .frz _ _ x=>noR x
 | _=>true
def lkC (P:Program) (N:Nat):CC→Code→Bool
  | .keep _ x,c=>lkC P N x c
  | .frz _ _ x,c=>lkC P N x c
  | .scope x', c => match c with
    | .scope x=>lkC P N x' x
    | _=>false
  | .skip, c => match c with
    | .skip=>true
    | .label _=>true
    | _=>false
  | .ops l, c => match c with
    | .region _ ops false=>cE P N ops ops.toList l
    | _=>false
  | .drw l cls, c => match c with
    | .region _ ops true=>wv ops l cls&&cE P N ops ops.toList l&&P.follows .mixedOrders
    | _=>false
  | .inv l dp, c => match c with
    | .region _ ops true=>cE P N ops ops.toList l&&(dp == ops.toList.map bH)&&P.follows .mixedOrders
    | _=>false
  | .any t, c => match c with
    | .region _ ops true=>qH P N ops t (Array.replicate ops.size false) none&&P.follows .mixedOrders
    | _=>false
  | .seq x' y', c => match c with
    | .seq x y=>lkC P N x' x&&lkC P N y' y
    | _=>false
  | .cond c' x' y', c => match c with
    | .cond c x y=>odB c c'&&lkC P N x' x&&lkC P N y' y
    | _=>false
  | .block id' x', c => match c with
    | .block id x=>id == id'&&lkC P N x' x
    | _=>false
  | .loop x', c => match c with
    | .loop x=>lkC P N x' x
    | _=>false
  | .exit id', c => match c with
    | .exit id=>id == id'
    | _=>false
  | .ret, c => match c with
    | .ret=>true
    | _=>false
  | .rfun x ps asg' body', c => match c with
    | .rangeFunc g params asg body=>odB g x&&params.toList == ps&&(ps.all fun t=>decide (t<N))&&lkC P N asg' asg&&noR asg'&&lkC P N body' body&&noR body'
    | _=>false
section
variable {P:Program} {g:Gh} {σ:St} {w:World} {a:Act} {fr:Fr} {N:Nat}
theorem gy (ops:Array Oper) {rn:Option Nat} {nn:Nat} {Q:Exit→Act→World→Prop}:∀ (l:List Oper) (cl:List CI) (g:Gh) (σ:St) (w:World) (fr:Fr) (a:Act) (K:Fr→St→Prop),cE P N ops l cl=true→Sim g σ w fr a N→cA P cl fr σ K →
    (∀ fr' σ' g' w' a',K fr' σ'→Sim g' σ' w' fr' a' N→Ext g w g' w'→a'.defers=a.defers→Q .normal a' w')→wpListIn (Wd rn) nn P ops Q l a w
  | [],[],g,σ,w,fr,a,K,_,hS,h,hQ=>hQ fr σ g w a h hS (.refl g w) rfl
  | [],_::_,_,_,_,_,_,_,hl,_,_,_=>by simp [cE] at hl
  | _::_,[],_,_,_,_,_,_,hl,_,_,_=>by simp [cE] at hl
  | o :: l, ⟨d, op, gd⟩ :: cl, g, σ, w, fr, a, K, hl, hS, h, hQ => by
    simp only [cE,Bool.and_eq_true,beq_iff_eq] at hl
    obtain ⟨⟨⟨⟨hd,hdN⟩,hgd⟩,hop⟩,hrest⟩:=hl
    have hdN':∀ k,d=some k→k<N:=by
      intro k hk;subst hk;simpa [dB] using hdN
    have hdef:∀ u,(a.put o.dst u).defers=a.defers:=fun u=>by cases o.dst<;>rfl
    have step:∀ (v:AV) (σ':St) (u:Value) (w':World) (g':Gh),cA P cl (putF d v fr) σ' K→Inv g' σ' w'→Ext g w g' w'→Rel g' w' v u→wpListIn (Wd rn) nn P ops Q l (a.put o.dst u) w':=by
      intro v σ' u w' g' hK hI he hr
      have hd2:=hdef u
      rw [hd] at hd2 ⊢
      exact gy ops l cl g' σ' w' _ _ K hrest (hS.put hI he hdN' hr) hK (fun fr' σ2 g2 w2 a2 k1 k2 k3 k4=>hQ fr' σ2 g2 w2 a2 k1 k2 (he.trans k3) (k4.trans hd2))
    unfold wpListIn
    cases gd with
    | none =>
      have hw:Region.wanted o (yielded ops a.tmps)=true:=by
        unfold gdB at hgd
        split at hgd
        · rename_i e1 _;simp [Region.wanted,e1]
        · rename_i e2;cases e2
        · cases hgd
      rw [if_pos hw]
      simp only [cA] at h
      exact ff hS.inv hop (fun x y _ hb=>dC hS.inv hS.rel hb) h step
    | some gw =>
      obtain ⟨t,want⟩:=gw
      simp only [cA] at h
      cases hc:aV want (slot t fr) with
      | none=>rw [hc] at h;exact h.elim
      | some c =>
        simp only [hc] at h
        have hw:=n5 hS hgd hc
        rw [hw]
        cases hq:op.quiet with
        | true =>
          simp only [hq,cond_true] at h
          obtain ⟨h1,h2⟩:=h
          cases c with
          | true =>
            rw [if_pos rfl]
            obtain ⟨h3,h4⟩:=h1 rfl
            have hlk:lkB P o.op op=true:=by cases op<;>simp [CO.quiet] at hq<;>exact hop
            refine cP (b6 hop) (bP (eT hS.inv op hlk (vj hS rfl h3) h4) (fun u w' g' k1 k2 k3=>?_))
            exact step _ _ u w' g' h2 k1 k2 (.opt _ _ _ (fun _=>k3) (fun e=>by cases e))
          | false =>
            rw [if_neg OF]
            exact ⟨fun _ _=>trivial,step _ _ undef w g h2 hS.inv (.refl g w) (.opt _ _ _ (fun e=>by cases e) (fun _=>rfl))⟩
        | false =>
          simp only [hq,cond_false] at h
          obtain ⟨h1,h2⟩:=h
          cases c with
          | true =>
            rw [if_pos rfl]
            obtain ⟨h3,h4⟩:=h1 rfl
            exact ff hS.inv hop (vk hS rfl h3) h4 step
          | false =>
            rw [if_neg OF]
            exact ⟨fun _ _=>trivial,step _ _ undef w g (h2 rfl) hS.inv (.refl g w) (.opt _ _ _ (fun e=>by cases e) (fun _=>rfl))⟩
theorem hZ (ops:Array Oper) {rn:Option Nat} {nn:Nat} {Q:Exit→Act→World→Prop} {next:Act→World→Prop} {o:Oper} {d:Option Nat} {op:CO} {gd:Option (Nat × Bool)} {K:Fr→St→Prop} (hl:((o.dst == d)&&dB N d&&gdB ops o.guard gd&&lk2 P o.op op)=true) (hS:Sim g σ w fr a N) (h:cA P [⟨d,op,gd⟩] fr σ K)
    (hQ:∀ fr' σ' g' w' a',K fr' σ'→Sim g' σ' w' fr' a' N→Ext g w g' w'→a'.defers=a.defers→next a' w'):if Region.wanted o (yielded ops a.tmps)=true then Oper.wpIn (Wd rn) nn P o a w next Q else next (a.put o.dst undef) w:=by
  simp only [Bool.and_eq_true,beq_iff_eq] at hl
  obtain ⟨⟨⟨hd,hdN⟩,hgd⟩,hop⟩:=hl
  have hdN':∀ k,d=some k→k<N:=by
    intro k hk;subst hk;simpa [dB] using hdN
  have hdef:∀ u,(a.put o.dst u).defers=a.defers:=fun u=>by cases o.dst<;>rfl
  have step:∀ (v:AV) (σ':St) (u:Value) (w':World) (g':Gh),cA P [] (putF d v fr) σ' K→Inv g' σ' w'→Ext g w g' w'→Rel g' w' v u→next (a.put o.dst u) w':=by
    intro v σ' u w' g' hK hI he hr
    have hd2:=hdef u
    rw [hd] at hd2 ⊢
    exact hQ _ _ _ _ _ hK (hS.put hI he hdN' hr) he hd2
  cases gd with
  | none =>
    have hw:Region.wanted o (yielded ops a.tmps)=true:=by
      unfold gdB at hgd
      split at hgd
      · rename_i e1 _;simp [Region.wanted,e1]
      · rename_i e2;cases e2
      · cases hgd
    rw [if_pos hw]
    simp only [cA] at h
    exact ff hS.inv hop (fun x y _ hb=>dC hS.inv hS.rel hb) h step
  | some gw =>
    obtain ⟨t,want⟩:=gw
    simp only [cA] at h
    cases hc:aV want (slot t fr) with
    | none=>rw [hc] at h;exact h.elim
    | some c =>
      simp only [hc] at h
      have hw:=n5 hS hgd hc
      rw [hw]
      cases hq:op.quiet with
      | true =>
        simp only [hq,cond_true] at h
        obtain ⟨h1,h2⟩:=h
        cases c with
        | true =>
          rw [if_pos rfl]
          obtain ⟨h3,h4⟩:=h1 rfl
          have hlk:lkB P o.op op=true:=by cases op<;>simp [CO.quiet] at hq<;>exact hop
          refine cP (b6 hop) (bP (eT hS.inv op hlk (vj hS rfl h3) h4) (fun u w' g' k1 k2 k3=>?_))
          exact step _ _ u w' g' h2 k1 k2 (.opt _ _ _ (fun _=>k3) (fun e=>by cases e))
        | false =>
          rw [if_neg OF]
          exact step _ _ undef w g h2 hS.inv (.refl g w) (.opt _ _ _ (fun e=>by cases e) (fun _=>rfl))
      | false =>
        simp only [hq,cond_false] at h
        obtain ⟨h1,h2⟩:=h
        cases c with
        | true =>
          rw [if_pos rfl]
          obtain ⟨h3,h4⟩:=h1 rfl
          exact ff hS.inv hop (vk hS rfl h3) h4 step
        | false =>
          rw [if_neg OF]
          exact step _ _ undef w g (h2 rfl) hS.inv (.refl g w) (.opt _ _ _ (fun e=>by cases e) (fun _=>rfl))
theorem _root_.Pv {p:Prop} (h:p:=by simp [hx]):p:=h
theorem wA {ops:Array Oper} {r:Option Nat} {nn:Nat} {Q:Exit→Act→World→Prop} {g0:Gh} {w0:World} {a0:Act} {K:Fr→St→Prop} (hQ:∀ fr' σ' g' w' a',K fr' σ'→Sim g' σ' w' fr' a' N→Ext g0 w0 g' w'→a'.defers=a0.defers→Q .normal a' w') :
    ∀ (t : AT) (listed : Array Bool) (m : Option (List Nat)) (g : Gh) (σ : St) (w : World) (fr : Fr) (a : Act), qH   P N ops t listed m = true → listed.size = ops.size → Sim g σ w fr a N → Ext g0 w0 g w → a.defers = a0.defers → qG   P t fr σ K →
      (∀ rs,m=some rs→(∀ j∈rs,j∈Region.ready .any ops listed)→∀ j∈rs,∀ fuel,listed.toList.count false=fuel+1→wpOpIn (Wd r) nn P ops Q j (wpAnyIn (Wd r) nn P .any ops Q fuel (listed.setIfInBounds j true)) a w) ∧
      (m=none→∀ fuel,listed.toList.count false=fuel→wpAnyIn (Wd r) nn P .any ops Q fuel listed a w):=by
  intro t
  induction t with
  | done =>
    intro listed m g σ w fr a hB hsz hS he hd h
    simp only [qH,Bool.and_eq_true,Option.isNone_iff_eq_none,List.isEmpty_iff] at hB
    obtain ⟨rfl,hB⟩:=hB
    refine ⟨(fun rs hr=>by cases hr),fun _ fuel _=>?_⟩
    have hq:=hQ fr σ g w a h hS he hd
    cases fuel with
    | zero=>exact ⟨hB,hq⟩
    | succ fuel=>exact ⟨fun _=>hq,fun i hi=>by rw [hB] at hi;cases hi⟩
  | stop =>
    intro listed m g σ w fr a hB hsz hS he hd h
    simp only [qH] at hB
    split at hB
    · exact ⟨(fun rs hr _ j hj=>by cases hr;cases hj),(fun hr=>by cases hr)⟩
    · cases hB
  | alt j i sub oth ihs iho =>
    intro listed m g σ w fr a hB hsz hS he hd h
    obtain ⟨d,op,gd⟩:=i
    simp only [qH] at hB
    obtain ⟨h1,h2⟩:=h
    have key:∀ rs:List Nat,m.getD (Region.ready .any ops listed)=rs→(∀ j∈rs,j∈Region.ready .any ops listed)→∀ j∈rs,∀ fuel,listed.toList.count false=fuel+1→wpOpIn (Wd r) nn P ops Q j (wpAnyIn (Wd r) nn P .any ops Q fuel (listed.setIfInBounds j true)) a w:=by
      intro rs hrs hready j' hj' fuel hc
      rw [hrs] at hB
      cases rs with
      | nil=>cases hj'
      | cons k rs =>
        simp only [Bool.and_eq_true] at hB
        obtain ⟨⟨⟨b1,b2⟩,b3⟩,b4⟩:=hB
        have b1:=Nat.eq_of_beq_eq_true b1
        subst b1
        rcases List.mem_cons.1 hj' with rfl|hj'
        · obtain ⟨o,ho,l1,l2⟩:=(mem_ready hsz).1 (hready j' OF)
          rw [ho] at b2
          simp only at b2
          have hlt:j'<listed.size:=by
            rw [hsz]
            exact (Array.getElem?_eq_some_iff.1 ho).1
          refine fe ho (hZ ops (by simpa using b2) hS h1 (fun fr' σ' g' w' a' k1 k2 k3 k4=>?_))
          exact (ihs _ none g' σ' w' fr' a' b3 (by simp [hsz]) k2 (he.trans k3) (k4.trans hd) k1).2 rfl fuel (count_set hlt l1 hc)
        · exact (iho listed (some rs) g σ w fr a b4 hsz hS he hd h2).1 rs rfl (fun x hx=>hready x Pv) j' hj' fuel hc
    refine ⟨fun rs hr hready=>key rs (by rw [hr];rfl) hready,fun hm fuel hc=>?_⟩
    subst hm
    have hkey:=key _ rfl (fun _ h=>h)
    cases fuel with
    | zero =>
      cases hrd:Region.ready .any ops listed with
      | nil=>simp only [Option.getD_none,hrd] at hB;cases hB
      | cons k rs =>
        obtain ⟨o,ho,l1,l2⟩:=(mem_ready hsz).1 (show k∈Region.ready .any ops listed by rw [hrd];simp)
        have hlt:k<listed.size:=by
          rw [hsz]
          exact (Array.getElem?_eq_some_iff.1 ho).1
        rw [List.count_eq_zero] at hc
        rw [Array.getD_eq_getD_getElem?,Array.getElem?_eq_getElem hlt] at l1
        simp only [Option.getD_some] at l1
        exact (hc (by rw [←l1];simp)).elim
    | succ fuel =>
      refine ⟨fun hnil=>?_,fun i hi=>hkey i hi fuel hc⟩
      simp only [Option.getD_none,hnil] at hB;cases hB
theorem td {id:Nat} {ops:Array Oper} {t:AT} (hm:P.follows .mixedOrders=true) (hb:qH P N ops t (Array.replicate ops.size false) none=true) {K:Fr→St→Prop} {Q:Exit→Act→World→Prop} (hS:Sim g σ w fr a N) (h:qG P t fr σ K)
  {r:Option Nat} {nn:Nat} (hQ:∀ fr' σ' g' w' a',K fr' σ'→Sim g' σ' w' fr' a' N→Ext g w g' w'→a'.defers=a.defers→Q .normal a' w'):(Code.region id ops true).wpIn (Wd r) nn P Q a w:=by
 refine wpIn_region_any hm ?_
 have hExt:Ext g w g { w with drawn:=w.drawn+1 } :=
  ⟨rfl,rfl,rfl,Nat.le_refl _,fun _ _ h=>h,fun _ _=>rfl,Nat.le_refl _,Nat.le_refl _,fun _ _ _ h=>h,fun _ _ hc=>⟨hc,rfl⟩,fun _ F _ hc=>⟨F,hc,Nat.le_refl _,fun _ _=>rfl⟩,fun _ _ h=>h,fun _ us _ _ h=>⟨us,h,rfl⟩⟩
 have hI:=hS.inv
 have hInv:Inv g σ { w with drawn:=w.drawn+1 }:=by
  refine ⟨fun β cs hb=>?_,hI.boxcl,hI.boxinj,hI.boxfresh,hI.tip,hI.tipinj,hI.tipfresh,fun k cs hk=>(hI.glob k cs hk).mono hExt,fun l r hl=>⟨(hI.lp l r hl).1,(hI.lp l r hl).2.1,fun t=>((hI.lp l r hl).2.2 t).mono hExt⟩,hI.bty⟩
  obtain ⟨b,vs,T,h1,h2,h3⟩:=hI.box β cs hb
  exact ⟨b,vs,T,h1,h2,h3.mono hExt⟩
 have hS2:Sim g σ { w with drawn:=w.drawn+1 } fr a N:=⟨hInv,fun t=>(hS.rel t).mono hExt,hS.size,hS.defers.mono hExt⟩
 exact (wA (K:=K) hQ t _ none g σ _ fr a hb OF hS2 hExt rfl h).2 rfl _ OF
theorem kn {ops:Array Oper}:∀ {os:List Oper} {l:List CI},cE P N ops os l=true→l.length=os.length
  | [],[],_=>rfl
  | [],_::_,h=>by simp [cE] at h
  | _::_,[],h=>by simp [cE] at h
  | _ :: _, _ :: _, h => by
    simp only [cE,Bool.and_eq_true] at h
    simp [kn h.2]
theorem wB {ops:Array Oper} {l:List CI} {dp:List (List Nat)} (hl:cE P N ops ops.toList l=true) (hdp:dp=ops.toList.map bH) {r:Option Nat} {nn:Nat} {Q:Exit→Act→World→Prop} {g0:Gh} {w0:World} {a0:Act} {K:Fr→St→Prop}
    (hQ:∀ fr' σ' g' w' a',K fr' σ'→Sim g' σ' w' fr' a' N→Ext g0 w0 g' w'→a'.defers=a0.defers→Q .normal a' w') {I:(Nat→Bool)→Fr→St→Prop}
    (hstep:∀ D j i,l[j]? =some i→D j=false→(dp.getD j []).all D=true→∀ fr σ,I D fr σ→cA P [i] fr σ (fun fr' σ'=>I (fun k=>D k||Nat.beq k j) fr' σ'))
    (hend:∀ D fr σ,(∀ j,j<l.length→D j=true∨(dp.getD j []).all D=false)→I D fr σ→K fr σ) :
    ∀ (fuel : Nat) (listed : Array Bool) (g : Gh) (σ : St) (w : World) (fr : Fr) (a : Act), listed.size = ops.size → listed.toList.count false = fuel → Sim g σ w fr a N → Ext g0 w0 g w → a.defers = a0.defers → I (fun k => listed.getD k false) fr σ →
      wpAnyIn (Wd r) nn P .any ops Q fuel listed a w:=by
  have hlen:l.length=ops.size:=by rw [kn hl];simp
  have hd:∀ j o,ops[j]? =some o→dp.getD j []=bH o:=fun j o ho=>by
    rw [hdp,List.getD_eq_getElem?_getD,List.getElem?_map,Array.getElem?_toList,ho];rfl
  have fin:∀ (listed:Array Bool),listed.size=ops.size→Region.ready .any ops listed= []→∀ j,j<l.length→listed.getD j false=true∨(dp.getD j []).all (fun k=>listed.getD k false)=false:=by
    intro listed hsz hr j hj
    rw [hlen] at hj
    have ho:ops[j]? =some ops[j]:=Array.getElem?_eq_getElem hj
    by_cases h1:listed.getD j false=true
    · exact .inl h1
    · refine .inr ?_
      rw [hd j _ ho,←Bool.not_eq_true]
      intro h2
      have:j∈Region.ready .any ops listed:=(mem_ready hsz).2 ⟨_,ho,by simpa using h1,fun k hk=>by
        have:=List.all_eq_true.1 h2 k hk
        exact this⟩
      rw [hr] at this;cases this
  intro fuel
  induction fuel with
  | zero =>
    intro listed g σ w fr a hsz hc hS he hdf hI
    have hnil:Region.ready .any ops listed= []:=by
      rw [List.eq_nil_iff_forall_not_mem]
      intro j hj
      obtain ⟨o,ho,l1,_⟩:=(mem_ready hsz).1 hj
      have hlt:j<listed.size:=by rw [hsz];exact (Array.getElem?_eq_some_iff.1 ho).1
      rw [List.count_eq_zero] at hc
      rw [Array.getD_eq_getD_getElem?,Array.getElem?_eq_getElem hlt] at l1
      simp only [Option.getD_some] at l1
      exact hc (by rw [←l1];simp)
    exact ⟨hnil,hQ fr σ g w a (hend _ fr σ (fin listed hsz hnil) hI) hS he hdf⟩
  | succ fuel ih =>
    intro listed g σ w fr a hsz hc hS he hdf hI
    refine ⟨fun hnil=>hQ fr σ g w a (hend _ fr σ (fin listed hsz hnil) hI) hS he hdf,fun j hj=>?_⟩
    obtain ⟨o,ho,l1,l2⟩:=(mem_ready hsz).1 hj
    have hjo:j<ops.size:=(Array.getElem?_eq_some_iff.1 ho).1
    have hlt:j<listed.size:=by rw [hsz];exact hjo
    have hi:l[j]? =some l[j]:=List.getElem?_eq_getElem (by rw [hlen];exact hjo)
    have hat:=jI hl j o l[j] PI hi
    have hs:=hstep (fun k=>listed.getD k false) j l[j] hi l1 (by rw [hd j o ho];exact List.all_eq_true.2 l2) fr σ hI
    obtain ⟨i,hli⟩:∃ i,l[j]=i:=⟨_,rfl⟩
    rw [hli] at hs hat
    obtain ⟨d,op,gd⟩:=i
    refine fe ho (hZ ops (by simpa [Bool.and_eq_true,and_assoc] using hat) hS hs (fun fr' σ' g' w' a' k1 k2 k3 k4=>?_))
    refine ih _ g' σ' w' fr' a' (by simp [hsz]) (count_set hlt l1 hc) k2 (he.trans k3) (k4.trans hdf) ?_
    have:(fun k=>(listed.setIfInBounds j true).getD k false)=fun k=>listed.getD k false||Nat.beq k j:=by
      funext k
      simp only [Array.getD_eq_getD_getElem?,Array.getElem?_setIfInBounds]
      by_cases hk:j=k
      · subst hk;simp [hlt]
      · rw [if_neg hk]
        have:Nat.beq k j=false:=by
          rw [←Bool.not_eq_true]
          exact fun e=>hk (Nat.eq_of_beq_eq_true e).symm
        rw [this,Bool.or_false]
    rw [this]
    exact k1
theorem te {id:Nat} {ops:Array Oper} {l:List CI} {dp:List (List Nat)} (hm:P.follows .mixedOrders=true) (hl:cE P N ops ops.toList l=true) (hdp:dp=ops.toList.map bH) {K:Fr→St→Prop} {Q:Exit→Act→World→Prop} (hS:Sim g σ w fr a N) (h:GS P l dp fr σ K)
  {r:Option Nat} {nn:Nat} (hQ:∀ fr' σ' g' w' a',K fr' σ'→Sim g' σ' w' fr' a' N→Ext g w g' w'→a'.defers=a.defers→Q .normal a' w'):(Code.region id ops true).wpIn (Wd r) nn P Q a w:=by
 refine wpIn_region_any hm ?_
 have hExt:Ext g w g { w with drawn:=w.drawn+1 } :=
  ⟨rfl,rfl,rfl,Nat.le_refl _,fun _ _ h=>h,fun _ _=>rfl,Nat.le_refl _,Nat.le_refl _,fun _ _ _ h=>h,fun _ _ hc=>⟨hc,rfl⟩,fun _ F _ hc=>⟨F,hc,Nat.le_refl _,fun _ _=>rfl⟩,fun _ _ h=>h,fun _ us _ _ h=>⟨us,h,rfl⟩⟩
 have hI:=hS.inv
 have hInv:Inv g σ { w with drawn:=w.drawn+1 }:=by
  refine ⟨fun β cs hb=>?_,hI.boxcl,hI.boxinj,hI.boxfresh,hI.tip,hI.tipinj,hI.tipfresh,fun k cs hk=>(hI.glob k cs hk).mono hExt,fun l r hl=>⟨(hI.lp l r hl).1,(hI.lp l r hl).2.1,fun t=>((hI.lp l r hl).2.2 t).mono hExt⟩,hI.bty⟩
  obtain ⟨b,vs,T,h1,h2,h3⟩:=hI.box β cs hb
  exact ⟨b,vs,T,h1,h2,h3.mono hExt⟩
 have hS2:Sim g σ { w with drawn:=w.drawn+1 } fr a N:=⟨hInv,fun t=>(hS.rel t).mono hExt,hS.size,hS.defers.mono hExt⟩
 obtain ⟨I,h0,h1,h2⟩:=h
 refine wB hl hdp hQ h1 h2 ops.size _ g σ _ fr a OF OF hS2 hExt rfl ?_
 have:(fun k=>(Array.replicate ops.size false).getD k false)=fun _=>false:=by
  funext k
  simp only [Array.getD_eq_getD_getElem?,Array.getElem?_replicate]
  split<;>rfl
 rw [this];exact h0
def jK (w:World) (a a':Act):Prop:=∀ D,gv D∈a'.defers→gv D∈a.defers∨w.heap.size≤D
theorem jK.refl {w:World} {a:Act}:jK w a a:=fun _ h=> .inl h
theorem jK.of_eq {w:World} {a a':Act} (h:a'.defers=a.defers):jK w a a':=fun _ k=> .inl (h ▸ k)
theorem jK.trans {g g1:Gh} {w w1:World} {a b c:Act} (h:jK w a b) (he:Ext g w g1 w1) (k:jK w1 b c):jK w a c:=fun D hD =>
 (k D hD).elim (h D) (fun hh=> .inr (Nat.le_trans he.size hh))
def Gh.dO (g:Gh) (w:World):Gh:={ g with cl:=fun b=>if b=w.heap.size then none else if b=w.heap.size+1 then some 0 else g.cl b }
theorem ia (w:World) (o1 o2:Obj):((w.alloc o1).alloc o2).heap[w.heap.size]? =some o1∧((w.alloc o1).alloc o2).heap[w.heap.size+1]? =some o2∧∀ b,b<w.heap.size→((w.alloc o1).alloc o2).heap[b]? =w.heap[b]? :=by
 refine ⟨?_,?_,fun b hb=>?_⟩
 ·rw [RowKit.Below.heap_alloc (w.alloc o1) o2 _ OF];exact World.alloc_heap_new w o1
 ·have:=World.alloc_heap_new (w.alloc o1) o2;rwa [World.size_alloc] at this
 ·rw [RowKit.Below.heap_alloc (w.alloc o1) o2 _ OS,RowKit.Below.heap_alloc w o1 _ hb]
theorem Ext.dO (o1 o2:Obj):Ext g w (g.dO w) ((w.alloc o1).alloc o2):=by
 have hc:∀ b,b<w.heap.size→(g.dO w).cl b=g.cl b:=fun b hb=>by simp only [Gh.dO];rw [if_neg Oz,if_neg Oz]
 refine ⟨rfl,rfl,rfl,by simp;omega,fun _ _ h=>h,fun _ _=>rfl,Nat.le_refl _,Nat.le_refl _,fun _ _ _ h=>h,fun b hb h=>⟨by rw [hc b hb];exact h,(ia w o1 o2).2.2 b hb⟩,fun b F hb h=>⟨F,by rw [hc b hb];exact h,Nat.le_refl _,fun i _=>World.cell?_of_block ((ia w o1 o2).2.2 b hb)⟩,fun _ _ h=>h,fun b us T' _ h=>⟨us,by rw [(ia w o1 o2).2.2 b (Array.getElem?_eq_some_iff.1 h).1];exact h,rfl⟩⟩
theorem Inv.dO (hI:Inv g σ w) {r:Loop} (hR:∀ t,Rel g w (slot t fr) (r.tmps.getD t undef)):Inv (g.dO w) (σ.au (w.heap.size+1) (r,fr)) ((w.alloc (.deferred (some []))).alloc (.loop r)):=by
 have he:=Ext.dO (g:=g) (w:=w) (.deferred (some [])) (.loop r)
 have hc:∀ b,b<w.heap.size→(g.dO w).cl b=g.cl b:=fun b hb=>by simp only [Gh.dO];rw [if_neg Oz,if_neg Oz]
 have hh:=ia w (.deferred (some [])) (.loop r)
 refine ⟨fun β cs hb=>?_,fun β b hb=>?_,hI.boxinj,hI.boxfresh,fun τ e s n ht=>?_,hI.tipinj,hI.tipfresh,fun k cs hk=>(hI.glob k cs hk).mono he,fun l x hl=>?_,fun β T hb=>by
  obtain ⟨b,vs,h1,h2⟩:=hI.bty β T hb
  exact ⟨b,vs,h1,by rw [hh.2.2 b (hI.boxcl β b h1).1];exact h2⟩⟩
 ·obtain ⟨b,vs,T,h1,h2,h3⟩:=hI.box β cs hb
  exact ⟨b,vs,T,h1,by rw [hh.2.2 b (hI.boxcl β b h1).1];exact h2,h3.mono he⟩
 ·obtain ⟨h1,h2⟩:=hI.boxcl β b hb
  exact ⟨by simp;omega,fun hl=>by rw [hc b h1];exact h2 hl⟩
 ·obtain ⟨v,h1,h2,h4⟩:=hI.tip τ e s n ht
  refine ⟨v,h1,fun hs=>?_,h4⟩
  obtain ⟨xs,h2,h3⟩:=h2 hs
  refine ⟨xs,(h2.alloc _).alloc _,fun b hb=>?_⟩
  obtain ⟨h5,h6⟩:=h3 b hb
  exact ⟨by rw [hc b (h2.lt b hb).2];exact h5,h6.1,h6.2.same (hh.2.2 b (h2.lt b hb).2)⟩
 ·simp only [St.au,upd] at hl
  split at hl
  ·rename_i e;subst e;cases hl
   exact ⟨hh.2.1,by simp [Gh.dO],fun t=>(hR t).mono he⟩
  ·obtain ⟨q1,q2,q3⟩:=hI.lp l x hl
   have hlt:=(Array.getElem?_eq_some_iff.1 q1).1
   exact ⟨by rw [hh.2.2 l hlt];exact q1,by rw [hc l hlt];exact q2,fun t=>(q3 t).mono he⟩
theorem qI:∀ (ps:List Nat) (xs:List AV) (vs:List Value) (tmps:Array Value) (fr:Fr),RelF g w fr tmps→bQ g w xs vs→(∀ t∈ps,t<tmps.size)→xs.length=ps.length →
    RelF g w (iL ps xs fr) ((ps.zip vs).foldl (fun t (x:Nat × Value)=>t.setIfInBounds x.1 x.2) tmps)∧((ps.zip vs).foldl (fun t (x:Nat × Value)=>t.setIfInBounds x.1 x.2) tmps).size=tmps.size
  | [],[],vs,tmps,fr,hF,hv,ht,hn=>by rw [hv.bK];exact ⟨hF,rfl⟩
  | [],_::_,vs,tmps,fr,hF,hv,ht,hn=>by simp at hn
  | _::_,[],vs,tmps,fr,hF,hv,ht,hn=>by simp at hn
  | p :: ps, x :: xs, vs, tmps, fr, hF, hv, ht, hn => by
    obtain ⟨v,vs',rfl,h1,h2⟩:=hv.cons_inv
    have hput:=RelF.put (a:={ tmps:=tmps,defers:= [] }) (d:=some p) (v:=x) (u:=v) hF (fun k hk=>by cases hk;exact ht p OF) h1
    have:=qI ps xs vs' (tmps.setIfInBounds p v) ((p,x)::fr) hput h2 (fun t h=>by simp;exact ht t (by simp [h])) (by simpa using hn)
    simp only [List.zip_cons_cons,List.foldl_cons,iL]
    exact ⟨this.1,by rw [this.2];simp⟩
theorem mj {f:Nat} (h:DE P f=true) (args:Array Value) (w:World):(callFunc f args).run P w= .ok (.enter f args) w:=by
 unfold DE at h
 split at h
 ·rename_i fn hfn
  simp only [Bool.and_eq_true,bne_iff_ne,Option.isSome_iff_exists] at h
  obtain ⟨⟨c,hc⟩,hname⟩:=h
  simp [callFunc,hfn,hname,hc]
 ·cases h
theorem dS {b:Frame} {k:List Item} {cs:List Frame} {c:Code}:step P (lone (b.atR a (.code (.scope c)::k)) cs w)= .next (lone (b.atR a (.code c:: .inScope c::k)) cs w) :=
 step_lone_go (by simp [stepG,stepG.exec,Frame.atR])
theorem nA {b:Frame} {k:List Item} {cs:List Frame} {c:Code}:step P (lone (b.atR a (.inScope c::k)) cs w)= .next (lone (b.atR a k) cs w) :=
 step_lone_go (by simp [stepG,stepG.exec,Frame.atR])
theorem iM {F:Fence} {n:Nat} {c:Code} {Q:Exit→Act→World→Prop} (h:c.wpIn F n P (Exit.noGoto Q) a w):(Code.scope c).wpIn F n P Q a w:=by
 intro b k cs hro hb hr
 have h0:(lone (b.atR a (.code (.scope c)::k)) cs w).fenced P F:=fenced_calm hb hr rfl
 obtain ⟨e,a₁,w₁,hq,harr⟩:=h b (.inScope c::k) cs hro hb hr
 cases e with
 | normal=>exact ⟨.normal,a₁,w₁,hq, .head h0 dS (StepsIn.trans harr (.one (fenced_calm hb hr rfl) nA))⟩
 | exit id=>exact ⟨.exit id,a₁,w₁,hq,fun k' hk=> .head h0 dS (harr.1 k' (by simp [exitTo,hk])),fun hr' hk=>let ⟨k₁,h1,h2⟩:=harr.2 hr' (by simp [exitTo,hk]);⟨k₁,h1, .head h0 dS h2⟩⟩
 | goto l=>exact hq.elim
 | ret=>exact ⟨_,a₁,w₁,hq, .of_steps (.one h0 dS) harr⟩
 | panic ch=>exact ⟨_,a₁,w₁,hq, .of_steps (.one h0 dS) harr⟩
 | outgrown=>exact ⟨_,a₁,w₁,hq, .of_steps (.one h0 dS) harr⟩
theorem ml {g:Gh} {σ:St} {w:World} (hI:Inv g σ w) {β b:Nat} {cs:List AV} (hb:σ.box β=some cs) (hg:g.box β=some b) :
  Inv { g with cl:=fun x=>if x=b then some cs.length else g.cl x } (σ.bN β) w∧Ext g w { g with cl:=fun x=>if x=b then some cs.length else g.cl x } w:=by
 obtain ⟨b',vs,T,h1,h2,h3⟩:=hI.box β cs hb
 rw [hg] at h1;cases h1
 have hcl:=(hI.boxcl β b hg).2 (by rw [hb];simp)
 have he:Ext g w { g with cl:=fun x=>if x=b then some cs.length else g.cl x } w:=by
  refine ⟨rfl,rfl,rfl,Nat.le_refl _,fun _ _ h=>h,fun _ _=>rfl,Nat.le_refl _,Nat.le_refl _,fun _ _ _ h=>h,fun k hk hc=>⟨?_,rfl⟩,fun k F hk hc=>?_,fun _ _ h=>h,fun _ us _ _ h=>⟨us,h,rfl⟩⟩
  ·have:k≠b:=by rintro rfl;rw [hcl] at hc;cases hc
   simp only [if_neg this];exact hc
  ·by_cases hkb:k=b
   ·subst hkb
    rw [hcl] at hc;cases hc
    exact ⟨cs.length,by simp,Nat.zero_le _,fun _ _=>rfl⟩
   ·exact ⟨F,by simp only [if_neg hkb];exact hc,Nat.le_refl _,fun _ _=>rfl⟩
 have aux:∀ β' c,(σ.bN β).box β'=some c→β'≠β∧σ.box β'=some c:=by
  intro β' c h
  simp only [St.bN] at h
  split at h
  ·cases h
  ·rename_i hne;exact ⟨hne,h⟩
 refine ⟨⟨fun β' c hc=>?_,fun β' b' hb'=>⟨(hI.boxcl β' b' hb').1,fun hl=>?_⟩,hI.boxinj,hI.boxfresh,fun τ e s n ht=>?_,hI.tipinj,hI.tipfresh,fun k c hk=>(hI.glob k c hk).mono he,fun l r hl=>?_,hI.bty⟩,he⟩
 ·obtain ⟨k1,k2,k3,k4,k5,k6⟩:=hI.box β' c (aux β' c hc).2
  exact ⟨k1,k2,k3,k4,k5,k6.mono he⟩
 ·have hne:β'≠β:=by
   rintro rfl;exact hl (by simp [St.bN])
  have hl2:σ.box β'≠none:=by
   intro hn;exact hl (by simp [St.bN,hne,hn])
  have:b'≠b:=by
   rintro rfl;exact hne (hI.boxinj _ _ _ hb' hg)
  simp only [if_neg this]
  exact (hI.boxcl β' b' hb').2 hl2
 ·obtain ⟨v,k1,k2,k4⟩:=hI.tip τ e s n ht
  refine ⟨v,k1,fun hs=>?_,k4⟩
  obtain ⟨xs,q1,q2⟩:=k2 hs
  refine ⟨xs,q1,fun k hk=>?_⟩
  obtain ⟨q3,q4⟩:=q2 k hk
  have:k≠b:=by rintro rfl;exact q4.1 β hg
  exact ⟨by simp only [if_neg this];exact q3,q4⟩
 ·obtain ⟨q1,q2,q3⟩:=hI.lp l r hl
  have:l≠b:=by rintro rfl;rw [h2] at q1;exact r.1.gW q1
  exact ⟨q1,by simp only [if_neg this];exact q2,fun t=>(q3 t).mono he⟩
theorem wC {g:Gh} {σ:St} {w:World} {fr:Fr} {a:Act} {N t es:Nat} (hS:Sim g σ w fr a N) {q:Fr × St} (h:po t es fr σ=some q):∃ g',Sim g' q.2 w q.1 a N∧Ext g w g' w:=by
  unfold po at h
  split at h
  · rename_i β n hsl
    split at h
    · rename_i cs hb
      cases hle:Nat.ble (n*es) cs.length with
      | false=>rw [hle] at h;cases h
      | true =>
        rw [hle] at h
        cases h
        have hr:=hS.rel t
        rw [hsl] at hr
        obtain ⟨b,cap,e1,e2,e3⟩:=hr.lJ
        obtain ⟨hI,he⟩:=ml hS.inv hb e2
        refine ⟨_,⟨hI,fun t'=>?_,hS.size,hS.defers.mono he⟩,he⟩
        simp only [slot]
        split
        · rename_i ht
          subst ht
          rw [e1]
          obtain ⟨b',vs,T,k1,k2,k3⟩:=hS.inv.box β cs hb
          rw [e2] at k1;cases k1
          have hle2:=Nat.le_of_ble_eq_true hle
          refine .gU e3 (fun h=>by cases h) (u:=(vs.toList.take (n*es))) ⟨⟨(hS.inv.boxcl β b e2).1, .inr ⟨cs.length,by simp,by simp only [List.length_take];omega⟩⟩,(k3.take _).mono he,fun i v hv=>?_⟩
          rw [List.getElem?_take] at hv
          split at hv
          · simp only [World.cell?,k2,Nat.zero_add]
            simpa using hv
          · cases hv
        · exact (hS.rel t').mono he
    · cases h
  · rename_i β e0 es0 n hsl
    split at h
    · rename_i cs hb
      cases hle:Nat.ble (n*es) cs.length with
      | false=>rw [hle] at h;cases h
      | true =>
        rw [hle] at h
        cases h
        have hr:=hS.rel t
        rw [hsl] at hr
        obtain ⟨b,cap,_,e1,e2,e3,_⟩:=hr.lK
        obtain ⟨hI,he⟩:=ml hS.inv hb e2
        refine ⟨_,⟨hI,fun t'=>?_,hS.size,hS.defers.mono he⟩,he⟩
        simp only [slot]
        split
        · rename_i ht
          subst ht
          rw [e1]
          obtain ⟨b',vs,T,k1,k2,k3⟩:=hS.inv.box β cs hb
          rw [e2] at k1;cases k1
          have hle2:=Nat.le_of_ble_eq_true hle
          refine .gU e3 (fun h=>by cases h) (u:=(vs.toList.take (n*es))) ⟨⟨(hS.inv.boxcl β b e2).1, .inr ⟨cs.length,by simp,by simp only [List.length_take];omega⟩⟩,(k3.take _).mono he,fun i v hv=>?_⟩
          rw [List.getElem?_take] at hv
          split at hv
          · simp only [World.cell?,k2,Nat.zero_add]
            simpa using hv
          · cases hv
        · exact (hS.rel t').mono he
    · cases h
  · cases h
theorem qJ:∀ (cc:CC) (c:Code),lkC P N cc c=true→∀ (rn:Option Nat),(rn=none∨noR cc=true)→∀ (g:Gh) (σ:St) (w:World) (fr:Fr) (a:Act) (R:Exit→Fr→St→Prop) (Q:Exit→Act→World→Prop),Sim g σ w fr a N→aC P cc fr σ R →
    (∀ e fr' σ' g' w' a',R e fr' σ'→Sim g' σ' w' fr' a' N→Ext g w g' w'→jK w a a'→Q e a' w')→c.wpIn (Wd rn) 0 P Q a w:=by
  intro cc
  induction cc with
  | skip =>
    intro c hl rn hrn g σ w fr a R Q hS h hQ
    cases c<;>simp [lkC] at hl
    · exact wpIn_skip (hQ _ _ _ _ _ _ h hS (.refl g w) .refl)
    · exact wpIn_label (hQ _ _ _ _ _ _ h hS (.refl g w) .refl)
  | ops l =>
    intro c hl rn hrn g σ w fr a R Q hS h hQ
    cases c<;>try (simp [lkC] at hl;done)
    rename_i id ops draw
    cases draw<;>simp [lkC] at hl
    exact wpIn_region_list (gy ops _ _ g σ w fr a _ hl hS h (fun fr' σ' g' w' a' k1 k2 k3 k4=>hQ _ _ _ _ _ _ k1 k2 k3 (.of_eq k4)))
  | drw l cls =>
    intro c hl rn hrn g σ w fr a R Q hS h hQ
    cases c<;>try (simp [lkC] at hl;done)
    rename_i id ops draw
    cases draw<;>simp [lkC] at hl
    exact tc hl.2 hl.1.1 hl.1.2 hS h (fun fr' σ' g' w' a' k1 k2 k3 k4=>hQ _ _ _ _ _ _ k1 k2 k3 (.of_eq k4))
  | any t =>
    intro c hl rn hrn g σ w fr a R Q hS h hQ
    cases c<;>try (simp [lkC] at hl;done)
    rename_i id ops draw
    cases draw<;>simp [lkC] at hl
    exact td hl.2 hl.1 hS h (fun fr' σ' g' w' a' k1 k2 k3 k4=>hQ _ _ _ _ _ _ k1 k2 k3 (.of_eq k4))
  | inv l dp =>
    intro c hl rn hrn g σ w fr a R Q hS h hQ
    cases c<;>try (simp [lkC] at hl;done)
    rename_i id ops draw
    cases draw<;>simp only [lkC,Bool.and_eq_true,beq_iff_eq,Bool.false_eq_true] at hl
    exact te hl.2 hl.1.1 hl.1.2 hS h (fun fr' σ' g' w' a' k1 k2 k3 k4=>hQ _ _ _ _ _ _ k1 k2 k3 (.of_eq k4))
  | seq x y ihx ihy =>
    intro c hl rn hrn g σ w fr a R Q hS h hQ
    cases c<;>simp [lkC] at hl
    simp only [noR,Bool.and_eq_true] at hrn
    refine wpIn_seq (ihx _ hl.1 rn (hrn.imp id And.left) g σ w fr a _ _ hS h (fun e fr' σ' g' w' a' k1 k2 k3 k4=>?_))
    cases e with
    | normal=>exact ihy _ hl.2 rn (hrn.imp id And.right) g' σ' w' fr' a' R Q k2 k1 (fun e2 fr2 σ2 g2 w2 a2 q1 q2 q3 q4=>hQ _ _ _ _ _ _ q1 q2 (k3.trans q3) (k4.trans k3 q4))
    | _=>exact hQ _ _ _ _ _ _ k1 k2 k3 k4
  | cond b x y ihx ihy =>
    intro c hl rn hrn g σ w fr a R Q hS h hQ
    cases c<;>simp [lkC] at hl
    simp only [noR,Bool.and_eq_true] at hrn
    simp only [aC] at h
    have hr:=dC hS.inv hS.rel hl.1.1
    cases hv:ev σ fr b<;>simp only [hv] at h
    rw [hv] at hr
    exact wpIn_cond_split hr.cT (fun ht=>ihx _ hl.1.2 rn (hrn.imp id And.left) g σ w fr a R Q hS (h.1 ht) hQ) (fun ht=>ihy _ hl.2 rn (hrn.imp id And.right) g σ w fr a R Q hS (h.2 ht) hQ)
  | block id x ih =>
    intro c hl rn hrn g σ w fr a R Q hS h hQ
    cases c<;>simp [lkC] at hl
    obtain ⟨rfl,hl⟩:=hl
    refine wpIn_block (ih _ hl rn hrn g σ w fr a _ _ hS h (fun e fr' σ' g' w' a' k1 k2 k3 k4=>?_))
    cases e with
    | exit j =>
      simp only at k1
      simp only [Exit.inBlock]
      split
      · rename_i hj;rw [if_pos hj] at k1;exact hQ _ _ _ _ _ _ k1 k2 k3 k4
      · rename_i hj;rw [if_neg hj] at k1;exact hQ _ _ _ _ _ _ k1 k2 k3 k4
    | _=>exact hQ _ _ _ _ _ _ k1 k2 k3 k4
  | scope x ih =>
    intro c hl rn hrn g σ w fr a R Q hS h hQ
    cases c<;>simp [lkC] at hl
    simp only [aC] at h
    refine iM (ih _ hl rn hrn g σ w fr a _ _ hS h (fun e fr' σ' g' w' a' k1 k2 k3 k4=>?_))
    cases e with
    | goto l=>exact k1.elim
    | _=>exact hQ _ _ _ _ _ _ k1 k2 k3 k4
  | loop x ih =>
    intro c hl rn hrn g σ w fr a R Q hS h hQ
    cases c<;>simp [lkC] at hl
    rename_i body
    obtain ⟨regs,h⟩:=h
    obtain ⟨g0,fr0,σ0,hS0,he0,α,F,S,I,μ,a0,h0,hf0,hs0,hround⟩:=eg regs hS h
    have key:∀ (n:Nat) (g1:Gh) (z:α) (w1:World) (a1:Act),I z→Sim g1 (S z) w1 (F z) a1 N→Ext g w g1 w1→jK w a a1→μ z=n →
        ∀ (b:Frame) (k:List Item) (cs:List Frame),b.roundOf=(Wd rn).round→∃ e a' w',Q e a' w'∧ArrivesIn (Machine.fenced P (Wd rn)) P (lone (b.atR a1 (.code body:: .inLoop body::k)) cs w1) b k cs e a' w':=by
      intro n
      induction n using Nat.strongRecOn with
      | _ n ihn =>
        intro g1 z w1 a1 hI1 hS1 he1 hn1 hm
        have hb:=ih _ hl rn hrn g1 (S z) w1 (F z) a1 _ (Exit.then (fun a2 w2=>∀ (b:Frame) (k:List Item) (cs:List Frame),b.roundOf=(Wd rn).round→∃ e a' w',Q e a' w'∧ArrivesIn (Machine.fenced P (Wd rn)) P (lone (b.atR a2 (.code body:: .inLoop body::k)) cs w2) b k cs e a' w') Q) hS1 (hround z hI1) (fun e fr' σ' g' w' a' k1 k2 k3 k4=>by
          cases e with
          | normal =>
            obtain ⟨z2,q1,q2,q3,q4⟩:=k1
            exact ihn _ Oz g' z2 w' a' q1 (k2.le q3 q2) (he1.trans k3) (hn1.trans he1 k4) rfl
          | _=>exact hQ _ _ _ _ _ _ k1 k2 (he1.trans k3) (hn1.trans he1 k4))
        intro b k cs hro
        obtain ⟨e,a₁,w₁,hq,harr⟩:=hb b (.inLoop body::k) cs hro trivial lM
        cases e with
        | normal =>
          obtain ⟨e₂,a₂,w₂,hq₂,harr₂⟩:=hq b k cs hro
          exact ⟨e₂,a₂,w₂,hq₂, .of_steps (StepsIn.trans harr (.one (fenced_calm (n:=0) trivial lM rfl) stepR_inLoop)) harr₂⟩
        | exit id=>exact ⟨_,a₁,w₁,hq, .pass (x:= .inLoop body) rfl (fun _ _=> .inl OF) harr⟩
        | goto l=>exact ⟨_,a₁,w₁,hq, .pass (x:= .inLoop body) rfl (fun _ _=> .inl OF) harr⟩
        | ret=>exact ⟨_,a₁,w₁,hq, .pass (x:= .inLoop body) rfl (fun _ _=> .inl OF) harr⟩
        | panic ch=>exact ⟨_,a₁,w₁,hq, .pass (x:= .inLoop body) rfl (fun _ _=> .inl OF) harr⟩
        | outgrown=>exact ⟨_,a₁,w₁,hq, .pass (x:= .inLoop body) rfl (fun _ _=> .inl OF) harr⟩
    intro b k cs hro hb hr
    obtain ⟨e,a',w',hq,harr⟩:=key _ g0 a0 w a h0 (hS0.le hs0 hf0) he0 .refl rfl b k cs hro
    exact ⟨e,a',w',hq, .of_steps (.one (fenced_calm hb hr rfl) stepR_loop) harr⟩
  | keep ts x ih =>
    intro c hl rn hrn g σ w fr a R Q hS h hQ
    simp only [lkC] at hl
    refine ih c hl rn hrn g σ w (gN ts fr) a R Q ⟨hS.inv,fun t=>?_,hS.size,hS.defers⟩ h hQ
    rcases jg t fr ts with e|e
    · rw [e];exact hS.rel t
    · rw [e];exact .junk _
  | exit id =>
    intro c hl rn hrn g σ w fr a R Q hS h hQ
    cases c<;>simp [lkC] at hl
    subst hl
    exact wpIn_exit (hQ _ _ _ _ _ _ h hS (.refl g w) .refl)
  | ret =>
    intro c hl rn hrn g σ w fr a R Q hS h hQ
    cases c<;>simp [lkC] at hl
    exact wpIn_ret (hQ _ _ _ _ _ _ h hS (.refl g w) .refl)
  | frz t es x ih =>
    intro c hl rn hrn g σ w fr a R Q hS h hQ
    simp only [lkC] at hl
    simp only [aC] at h
    cases hq:po t es fr σ with
    | none=>rw [hq] at h;exact ih c hl rn hrn g σ w fr a R Q hS h hQ
    | some q =>
      rw [hq] at h
      obtain ⟨g',hS',he⟩:=wC hS hq
      exact ih c hl rn hrn g' q.2 w q.1 a R Q hS' h (fun e fr' σ' g2 w2 a2 k1 k2 k3 k4=>hQ e fr' σ' g2 w2 a2 k1 k2 (he.trans k3) k4)
  | rfun x ps asg body ihA ihB =>
    intro c hl rn hrn g σ w fr a R Q hS h hQ
    have hrn0:rn=none:=by simpa [noR] using hrn
    subst hrn0
    cases c<;>simp only [lkC] at hl<;>try (cases hl;done)
    rename_i gg params assign bodyc
    simp only [Bool.and_eq_true,beq_iff_eq] at hl
    obtain ⟨⟨⟨⟨⟨⟨hod,hps⟩,hpN⟩,hlA⟩,hnA⟩,hlB⟩,hnB⟩:=hl
    obtain ⟨regs,h⟩:=h
    obtain ⟨g0,fr0,σ0,hS0,he0,h⟩:=eg regs hS h
    have hx:=dC hS0.inv hS0.rel hod
    cases hv:ev σ0 fr0 x<;>simp only [hv] at h
    rename_i f cap
    rw [hv] at hx
    obtain ⟨us,hev,hus⟩:=hx.lY
    obtain ⟨hfn,h⟩:=h
    refine wpIn_rangeFunc (F:=Wd none) ?_
    intro fn _
    obtain ⟨rec,hrec⟩:∃ rec:Loop,rec={ state:= .ready,pending:=none,fn:=fn,tmps:=a.tmps,params:=params,assign:=assign,body:=bodyc,defers:=w.heap.size }:=⟨_,rfl⟩
    have hready:rec.state= .ready:=by rw [hrec]
    have hpend:rec.pending=none:=by rw [hrec]
    have htm:rec.tmps=a.tmps:=by rw [hrec]
    have hE1:=Ext.dO (g:=g0) (w:=w) (.deferred (some [])) (.loop rec)
    have hI1:=hS0.inv.dO (fr:=fr0) (r:=rec) (fun t=>by rw [htm];exact hS0.rel t)
    have hh:=ia w (.deferred (some [])) (.loop rec)
    have hnone:σ0.lp (w.heap.size+1)=none:=by
      cases hq:σ0.lp (w.heap.size+1) with
      | none=>rfl
      | some y=>have:=(Array.getElem?_eq_some_iff.1 (hS0.inv.lp _ _ hq).1).1;omega
    have hcD:(g0.dO w).cl w.heap.size=none:=by simp [Gh.dO]
    refine ⟨w.heap.size+1,[gv w.heap.size],(w.alloc (.deferred (some []))).alloc (.loop rec),{ target:= .fn (.func f) us.toArray,args:= #[.func (.yield (w.heap.size+1)) #[] #[]] },(w.alloc (.deferred (some []))).alloc (.loop rec),f,
      #[.func (.yield (w.heap.size+1)) #[] #[]]++us.toArray,(w.alloc (.deferred (some []))).alloc (.loop rec),?_,?_,fun _ _=>trivial,?_,fun e=>by simp [Wd,Fence.wide] at e,?_⟩
    · rw [hrec];exact run_enterLoop_outer _ _ _ _ _
    · simp only [resolve,hev]
      simp [Act.eval,Deferred.ofValue]
    · simp only [invoke]
      simp [mj hfn]
    · have hac:=h (w.heap.size+1) rec hnone hready hpend ?_
      ·
        rcases hac (g0.dO w) _ (Value.func (.yield (w.heap.size+1)) #[] #[]::us) hI1 (.cons (.yld _) (hus.mono hE1)) with ⟨_,hcalls⟩|⟨v,w',hrun,_⟩
        · have hcalls2:CallsIn (Wd none) (0 - 1) P f (#[.func (.yield (w.heap.size+1)) #[] #[]]++us.toArray) ((w.alloc (.deferred (some []))).alloc (.loop rec)) _:=qx (by simpa using hcalls)
          refine hcalls2.mono ?_
          rintro e W3 ⟨v,rr,σ3,g3,rfl,hpost,hI3,he3,_⟩
          have fin:∀ (x:Loop),σ3.lp (w.heap.size+1)=some (.loop x,fr0)→x.state≠ .busy→∃ W4,(Instr.endLoop (w.heap.size+1)).run P W3= .ok x.pending W4∧Sim g3 (σ3.dropLp (w.heap.size+1)) W4 fr0 { a with defers:= [gv w.heap.size]++a.defers } N∧Ext g w g3 W4∧jK w a { a with defers:= [gv w.heap.size]++a.defers }:=by
            intro x hx hb
            obtain ⟨q1,q2,_⟩:=hI3.lp _ _ hx
            have hE4:=ix (g:=g3) (w:=W3) (L:=w.heap.size+1) (.loop { x with state:= .exhausted }) q2 (by rw [q1];intro _ _ _ h;cases h)
            have hEx:Ext g0 w g3 (W3.putObj (w.heap.size+1) (.loop { x with state:= .exhausted })):=(hE1.trans he3).trans hE4
            refine ⟨_,run_endLoop q1 hb,⟨hI3.dropLp hx,fun t=>(hS0.rel t).mono hEx,hS0.size,?_⟩,he0.trans hEx,?_⟩
            · obtain ⟨l,hl1,hl2,hl3⟩:=hS0.defers
              have hE2:=he3.trans hE4
              obtain ⟨m1,m2⟩:=hE2.cln w.heap.size OS hcD
              refine ⟨w.heap.size::l,by simp [hl1],List.nodup_cons.2 ⟨fun hm=>?_,hl2⟩,fun D hD=>?_⟩
              · have:=(Array.getElem?_eq_some_iff.1 (hl3 _ hm).1).1;omega
              · rcases List.mem_cons.1 hD with rfl|hD
                · exact ⟨by rw [m2];exact hh.1,m1⟩
                · obtain ⟨h4,h5⟩:=hl3 D hD
                  obtain ⟨h6,h7⟩:=hEx.cln D (Array.getElem?_eq_some_iff.1 h4).1 h5
                  exact ⟨by rw [h7];exact h4,h6⟩
            · intro D hD
              simp only [List.cons_append,List.nil_append,List.mem_cons] at hD
              rcases hD with hD|hD
              · have:D=w.heap.size:=by simpa [gv] using hD
                exact .inr Oz
              · exact .inl hD
          rcases hpost with ⟨hl3,hQ3⟩|⟨hl3,hQ3⟩|⟨id,hl3,hQ3⟩
          · obtain ⟨W4,f1,f2,f3,f4⟩:=fin _ hl3 (by rw [hready];decide)
            exact ⟨none,W4,by rw [f1,hpend],hQ _ _ _ _ _ _ hQ3 f2 f3 f4⟩
          · obtain ⟨W4,f1,f2,f3,f4⟩:=fin _ hl3 (by simp [left])
            exact ⟨some .ret,W4,f1,wpIn_ret (hQ _ _ _ _ _ _ hQ3 f2 f3 f4)⟩
          · obtain ⟨W4,f1,f2,f3,f4⟩:=fin _ hl3 (by simp [left])
            exact ⟨some (.exit id),W4,f1,wpIn_exit (hQ _ _ _ _ _ _ hQ3 f2 f3 f4)⟩
        · rw [mj hfn] at hrun;cases hrun
      ·
        intro xs σ1 K hlen hlp hbody g2 w2 vs hI2 hv2
        obtain ⟨q1,q2,q3⟩:=hI2.lp _ _ hlp
        have hs:vs.toArray.size=rec.params.size:=by
          have:=hv2.1
          have e2:rec.params.size=ps.length:=by rw [hrec,←hps];simp
          simp only [List.size_toArray];omega
        have hy:=run_yield (P:=P) (args:=vs.toArray) q1 hs
        refine ⟨_,_,_,_,hy,roundIn_of_wpIn trivial ?_⟩
        have hput:=qI ps xs vs rec.tmps fr0 q3 hv2 (fun t ht=>by
          have:=List.all_eq_true.1 hpN t ht
          rw [htm,hS0.size];simpa using this) hlen
        have hfold:(rec.params.zip vs.toArray).foldl (fun tmps (x:Nat × Value)=>tmps.setIfInBounds x.1 x.2) rec.tmps=(ps.zip vs).foldl (fun t (x:Nat × Value)=>t.setIfInBounds x.1 x.2) rec.tmps:=by
          rw [←Array.foldl_toList,Array.toList_zip,←hps,hrec]
        have hS2:Sim g2 σ1 w2 (iL ps xs fr0) { tmps:=(rec.params.zip vs.toArray).foldl (fun tmps (x:Nat × Value)=>tmps.setIfInBounds x.1 x.2) rec.tmps,defers:= [] } N:=by
          refine ⟨hI2,?_,?_, .nil⟩
          · show RelF g2 w2 _ ((rec.params.zip vs.toArray).foldl (fun tmps (x:Nat × Value)=>tmps.setIfInBounds x.1 x.2) rec.tmps)
            rw [hfold];exact hput.1
          · show ((rec.params.zip vs.toArray).foldl (fun tmps (x:Nat × Value)=>tmps.setIfInBounds x.1 x.2) rec.tmps).size=N
            rw [hfold,hput.2,htm];exact hS0.size
        have ea:rec.assign=assign:=by rw [hrec]
        have eb:rec.body=bodyc:=by rw [hrec]
        rw [ea,eb]
        refine ihA _ hlA (some (w.heap.size+1)) (.inr hnA) g2 σ1 w2 _ _ _ _ hS2 hbody ?_
        rintro e fr1 σ2 g4 w4 a4 ⟨rfl,hl2,hb⟩ hS4 he4 hn4
        obtain ⟨u1,u2,u3⟩:=hS4.inv.lp _ _ hl2
        refine ⟨w4.putObj (w.heap.size+1) (.loop (busy rec)),run_beginRound u1 hready,?_⟩
        have hE5:=ix (g:=g4) (w:=w4) (L:=w.heap.size+1) (.loop (busy rec)) u2 (by rw [u1];intro _ _ _ h;cases h)
        refine ihB _ hlB (some (w.heap.size+1)) (.inr hnB) g4 _ _ fr1 a4 _ _ ⟨hS4.inv.au hl2 rfl,fun t=>(hS4.rel t).mono hE5,hS4.size,hS4.defers.mono hE5⟩ hb ?_
        rintro e fr3 σ3 g5 w5 a5 ⟨hl3,hK⟩ hS5 he5 hn5
        obtain ⟨v1,v2,v3⟩:=hS5.inv.lp _ _ hl3
        have fin:∀ (jump:Option Code) (r':Loop),r'={ busy rec with state:=if jump.isNone then .ready else .done,pending:=jump }→K (.bool jump.isNone) (σ3.au (w.heap.size+1) (r',fr0))→∃ v w',(Instr.endRound (w.heap.size+1) jump).run P w5= .ok v w'∧CP g2 w2 K (.returned v) w':=by
          rintro jump r' hr' hk
          have hE6:=ix (g:=g5) (w:=w5) (L:=w.heap.size+1) (.loop r') v2 (by rw [v1];intro _ _ _ h;cases h)
          refine ⟨_,_,run_endRound jump v1,_,_,_,g5,rfl,hk,?_,((he4.trans hE5).trans he5).trans (by rw [hr'] at hE6;exact hE6), .bool _⟩
          have:=hS5.inv.au (r':=r') hl3 (by rw [hr'])
          rw [hr'] at this ⊢;exact this
        cases e with
        | normal=>exact fin none rec (by rw [hrec];rfl) hK
        | ret=>exact fin (some .ret) _ rfl hK
        | exit id=>exact fin (some (.exit id)) _ rfl hK
        | goto l=>exact hK.elim
        | panic ch=>exact hK.elim
        | outgrown=>exact hK.elim
end
inductive RV where
 | t (s:Nat)
 | cl (s:Nat) (sz:Option Nat)
structure CF where
 body:CC
 res:List RV
 n:Nat
def ko (P:Program):List ResultVar→List RV→Bool
 | [],[]=>true
 | .tmp t::r, .t s::r'=>t == s&&ko P r r'
 | .cell t ty::r, .cl s sz::r'=>t == s&&kf P ty sz&&ko P r r'
 | _,_=>false
def fB (P:Program) (f:Nat) (cf:CF):Bool :=
 match P.funcs[f]? with
 | some fn=>(match fn.body with|some c=>lkC P cf.n cf.body c|none=>false)&&fn.ntmps == cf.n&&ko P fn.results.toList cf.res&&fn.name != "runtime.NumGoroutine"
 | none=>false
def dT:Nat→List AV→Fr
 | _,[]=> []
 | i,a::r=>(i,a)::dT (i+1) r
def rvV (σ:St) (fr:Fr):RV→AV
  | .t s=>slot s fr
  | .cl s sz => match cG     σ (slot s fr) with
    | some (cs,o)=>ldV cs o sz
    | none=> .junk
def rvS (σ:St) (fr:Fr):RV→Prop
  | .t _=>True
  | .cl s sz => match cG     σ (slot s fr) with
    | some (cs,o)=>ldS cs o sz
    | none=>False
def aw (σ:St) (fr:Fr):List RV→Prop
 | []=>True
 | r::rs=>rvS σ fr r∧aw σ fr rs
def eV:List AV→AV
 | [v]=>v
 | vs=> .tup vs
def fL (res:List RV) (R:AV→St→Prop) (e:Exit) (fr:Fr) (σ:St):Prop :=
 (e= .ret∨e= .normal)∧aw σ fr res∧∃ r σ',wk (eV (res.map (rvV σ fr))) r∧St.le σ' σ∧R r σ'
section
variable {P:Program} {g:Gh} {σ:St} {w:World} {a:Act} {fr:Fr} {N:Nat}
theorem oc {as:List AV} {vs:List Value}:∀ (i t:Nat),bQ g w as vs→(t<i→slot t (dT i as)= .junk)∧(i≤t→Rel g w (slot t (dT i as)) ((vs[t - i]?).getD undef)):=by
  induction as generalizing vs with
  | nil=>intro i t _;exact ⟨fun _=>rfl,fun _=> .junk _⟩
  | cons a as ih =>
    intro i t h
    obtain ⟨v,vs',rfl,h1,h2⟩:=h.cons_inv
    obtain ⟨k1,k2⟩:=ih (i+1) t h2
    simp only [dT,slot]
    refine ⟨fun hlt=>by rw [if_neg Oz];exact k1 Oz,fun hle=>?_⟩
    split
    · rename_i e;subst e;simpa using h1
    · have:=k2 Oz
      rw [show t - i=(t - (i+1))+1 by omega]
      simpa using this
def jh (tmps:Array Value) (x:ResultVar):Sem Value :=
 match x with
 | .tmp t=>pure (tmps.getD t undef)
 | .cell x t=>do loadVar t (←asAddr (tmps.getD x undef))
theorem kp (hS:Sim g σ w fr a N):∀ (rs:List ResultVar) (rv:List RV),ko P rs rv=true→aw σ fr rv →
    ∃ us,(rs.mapM (jh a.tmps)).run P w= .ok us w∧bQ g w (rv.map (rvV σ fr)) us
  | [],[],_,_=>⟨[],by simp, .nil⟩
  | .tmp t :: rs, .t s :: rv, h, hs => by
    simp only [ko,Bool.and_eq_true,beq_iff_eq] at h
    obtain ⟨rfl,h⟩:=h
    obtain ⟨us,hr,hu⟩:=kp hS rs rv h hs.2
    exact ⟨a.tmps.getD t undef::us,by simp [List.mapM_cons,jh,hr], .cons (hS.rel t) hu⟩
  | .cell x ty :: rs, .cl s sz :: rv, h, hs => by
    simp only [ko,Bool.and_eq_true,beq_iff_eq] at h
    obtain ⟨⟨rfl,h0⟩,h⟩:=h
    obtain ⟨us,hr,hu⟩:=kp hS rs rv h hs.2
    have hv:=hS.rel x
    have h1:=hs.1
    simp only [rvS] at h1
    cases hp:cG σ (slot x fr) with
    | none=>simp only [hp] at h1
    | some q =>
      obtain ⟨cs,k⟩:=q
      simp only [hp] at h1
      obtain ⟨b,base,us2,ex,hrel,hcell⟩:=l7 hS.inv hv hp
      obtain ⟨d,i,hd,hi,hc⟩:=kg h0
      have hl:=pd hrel h1
      have hld:∃ u,(loadVar ty ⟨b,base+k,none⟩).run P w= .ok u w∧Rel g w (ldV cs k sz) u:=by
        rcases hc with ⟨hrow,rfl⟩|⟨hrow,rfl,_⟩
        · simp only at hl
          have hlen:((us2.drop k).take i.size).length=i.size:=Pw
          exact ⟨_,run_loadVar_mid (P:=P) w b (base+k) ty ((us2.drop k).take i.size) d (fun j v hv=>by
            rw [List.getElem?_take] at hv
            split at hv
            · rw [List.getElem?_drop] at hv;rw [Nat.add_assoc];exact hcell _ v hv
            · cases hv) hd hrow (by rw [hi,hlen];rfl),hl.2⟩
        · simp only at hl
          obtain ⟨v,hv2,_,hrel2⟩:=hl
          exact ⟨v,by simp [loadVar,iu hd,hrow,hcell k v hv2],hrel2⟩
      obtain ⟨u,hu1,hu2⟩:=hld
      refine ⟨u::us,?_, .cons (by simpa only [rvV,hp] using hu2) hu⟩
      simp [List.mapM_cons,jh,ex,asAddr,hu1,hr]
  | [],_::_,h,_=>by simp [ko] at h
  | .tmp _::_,[],h,_=>by simp [ko] at h
  | .cell _ _::_,[],h,_=>by simp [ko] at h
  | .tmp _::_, .cl _ _::_,h,_=>by simp [ko] at h
  | .cell _ _::_, .t _::_,h,_=>by simp [ko] at h
def zu:List Value→Value
 | [u]=>u
 | us=> .tuple us.toArray
theorem qK {fn:Func} {us:List Value} {tmps:Array Value} (h:(fn.results.toList.mapM (jh tmps)).run P w= .ok us w) :
  (results fn tmps).run P w= .ok (zu us) w:=by
 have e:results fn tmps=(do let vs ←fn.results.mapM (jh tmps);pure (if h:vs.size=1 then vs[0] else .tuple vs)):=by
  unfold results
  congr 1
 have e2:fn.results.mapM (jh tmps)=List.toArray <$> fn.results.toList.mapM (jh tmps):=by rw [Array.mapM_eq_mapM_toList]
 rw [e,Sem.run_bind,e2,Sem.run_map,h]
 simp only [Result.andThen_ok]
 cases us with
 | nil=>rfl
 | cons u us=>cases us<;>simp [zu]
theorem Ext.zw {g0:Gh} {w0:World} {D:Nat} (o':Obj) (h:Ext g0 w0 g w) (hD:w0.heap.size≤D):Ext g0 w0 g (w.putObj D o'):=by
 have hh:∀ b,b<w0.heap.size→(w.putObj D o').heap[b]? =w.heap[b]? :=fun b hb=>World.putObj_heap_other Oz
 refine ⟨h.os,h.tape,h.output,by simpa using h.size,h.box,h.boxold,h.nb,h.nt,h.tip,fun b hb hc=>⟨(h.cln b hb hc).1,by rw [hh b hb];exact (h.cln b hb hc).2⟩,fun b F hb hc=>?_,h.tipn,fun b us T' hx hb=>by
  obtain ⟨us',h1,h2⟩:=h.rz b us T' hx hb
  exact ⟨us',by rw [hh b (Array.getElem?_eq_some_iff.1 hb).1];exact h1,h2⟩⟩
 obtain ⟨F',h1,h2,h3⟩:=h.cls b F hb hc
 exact ⟨F',h1,h2,fun i hi=>by rw [World.cell?_of_block (hh b hb)];exact h3 i hi⟩
theorem gz {fn:Func} {res:List RV} {RR:Ending→World→Prop} {g0:Gh} {w0:World} (hres:ko P fn.results.toList res=true)
    (hfin:∀ (w:World) (us:List Value),Inv g σ w→Ext g0 w0 g w→bQ g w (res.map (rvV σ fr)) us→RR (.returned (zu us)) w)
    (hrs:aw σ fr res):∀ (l:List Nat) (w:World) (tmps:Array Value),l.Nodup→(∀ D∈l,w.heap[D]? =some (.deferred (some []))∧g.cl D=none∧w0.heap.size≤D)→Inv g σ w→Ext g0 w0 g w→RelF g w fr tmps→tmps.size=N →
      LeavesInM Fence.wide 0 P fn tmps RR (l.map gv) .returning w
  | [], w, tmps, hn, hm, hI, hE, hF, hsz => by
    obtain ⟨us,hrun,hu⟩:=kp (P:=P) (a:={ tmps:=tmps,defers:= [] }) ⟨hI,hF,hsz, .nil⟩ _ _ hres hrs
    exact ⟨_,qK (P:=P) (fn:=fn) hrun,hfin w us hI hE hu⟩
  | D :: l, w, tmps, hn, hm, hI, hE, hF, hsz => by
    obtain ⟨h1,h2,h3⟩:=hm D OF
    have hnd:=List.nodup_cons.1 hn
    refine ⟨by simp, .inl ⟨D,w.putObj D (.deferred none),rfl,run_takeDeferred h1,?_⟩⟩
    have hI2:Inv g σ (w.putObj D (.deferred none)):=by
      have:=hI.gL (o':= .deferred none) h1 rfl (lp':=σ.lp) (fun k x hx=>by
        obtain ⟨q1,q2,q3⟩:=hI.lp k x hx
        have hk:k≠D:=by rintro rfl;rw [h1] at q1;exact x.1.yZ q1
        exact ⟨by rw [World.putObj_heap_other hk];exact q1,q2,q3⟩)
      exact this
    exact gz hres hfin hrs l _ tmps hnd.2 (fun D' hD'=>by
      obtain ⟨q1,q2,q3⟩:=hm D' (by simp [hD'])
      have:D'≠D:=by rintro rfl;exact hnd.1 hD'
      exact ⟨by rw [World.putObj_heap_other this];exact q1,q2,q3⟩) hI2 (hE.zw _ h3) (fun t=>(hF t).gL h1 rfl) hsz
theorem _root_.PF {p:Prop} (h:p:=by rw [hl1];exact List.mem_map_of_mem hD):p:=h
theorem jL {f:Nat} {as:List AV} {R:AV→St→Prop} (cf:CF) (hf:fB P f cf=true) (hn:as.length≤cf.n) (h:aC P cf.body (dT 0 as) σ (fL cf.res R)):AC P f as σ R:=by
  unfold fB at hf
  split at hf
  · rename_i fn hfn
    simp only [Bool.and_eq_true,beq_iff_eq,bne_iff_ne] at hf
    obtain ⟨⟨⟨hbody,hnt⟩,hres⟩,hname⟩:=hf
    split at hbody
    · rename_i c hc
      intro g w vs hI hv
      left
      constructor
      · simp [callFunc,hfn,hname,hc]
      · have hlen:=hv.1
        refine callsIn_wide.1 (callsIn_of_wp_marks (n:=0) hfn hc trivial (qJ cf.body c hbody none (.inl rfl) g σ w (dT 0 as) _ (fL cf.res R) _ ⟨hI,fun t=>?_,?_, .nil⟩ h ?_))
        · have:=(oc (g:=g) (w:=w) 0 t hv).2 (Nat.zero_le _)
          simp only [Nat.sub_zero] at this
          rw [Array.getD_eq_getD_getElem?]
          by_cases ht:t<vs.length
          · rw [Array.getElem?_append_left (by simpa using ht)]
            simpa using this
          · rw [List.getElem?_eq_none Oz] at this
            rw [Array.getElem?_append_right (by simpa using Nat.le_of_not_lt ht)]
            by_cases ht2:t - vs.length<fn.ntmps - vs.length
            · simp only [List.size_toArray,Array.getElem?_replicate,if_pos ht2];exact this
            · simp only [List.size_toArray,Array.getElem?_replicate,if_neg ht2];exact this
        · simp;omega
        · rintro e fr' σ' g' w' a' ⟨he,hs,r,σ2,hwk,hle,hR⟩ hS hext hnew
          obtain ⟨l,hl1,hl2,hl3⟩:=hS.defers
          have hfin:=gz (P:=P) (fn:=fn) (RR:=CP g w R) (g0:=g) (w0:=w) hres (fun w2 us hI2 hE2 hu=>by
            have hrel:Rel g' w2 (eV (cf.res.map (rvV σ' fr'))) (zu us):=by
              cases hm:cf.res.map (rvV σ' fr') with
              | nil=>rw [hm] at hu;have:=hu.bK;subst this;exact .dA .nil
              | cons x xs =>
                rw [hm] at hu
                obtain ⟨u,us',rfl,k1,k2⟩:=hu.cons_inv
                cases xs with
                | nil=>have:=k2.bK;subst this;exact k1
                | cons y ys =>
                  obtain ⟨u2,us2,rfl,k3,k4⟩:=k2.cons_inv
                  exact .dA (.cons k1 (.cons k3 k4))
            exact ⟨_,r,σ2,g',rfl,hR,hI2.le hle,hE2,hwk _ _ _ hrel⟩) hs l w' a'.tmps hl2 (fun D hD=>by
              obtain ⟨q1,q2⟩:=hl3 D hD
              refine ⟨q1,q2,?_⟩
              rcases hnew D PF with h|h
              · simp at h
              · exact h) hS.inv hext hS.rel hS.size
          rw [←hl1] at hfin
          rcases he with rfl|rfl
          · exact hfin
          · exact hfin
    · cases hbody
  · cases hf
end
structure Hold {α:Type} (x:α):Type where
def al (v:AV) (p:Prop) (σ:St) (K:AV→St→Prop) (_:Hold (σ,K)):Prop:=p∧K v σ
def zx (p:Prop) (β:Nat) (cs:List AV) (σ:St) (K:AV→St→Prop) (_:Hold (σ,K)):Prop:=p∧K .junk (σ.ad β cs)
def zy (cs:List AV) (σ:St) (K:AV→St→Prop) (_:Hold (σ,K)):Prop:=∀ β,σ.box β=none→K (.ptr β 0) (σ.ad β cs)
def tg (p:Prop) (cs:List AV) (σ:St) (K:AV→St→Prop) (_:Hold (σ,K)):Prop:=p∧∀ β,σ.box β=none→K (.ptr β 0) (σ.ad β cs)
def GU (p:Prop) (n:Nat) (cs:List AV) (σ:St) (K:AV→St→Prop) (_:Hold (σ,K)):Prop:=p∧∀ β,σ.box β=none→K (.psl β 0 n) (σ.ad β cs)
def stV (p x : AV) (n : Nat) (σ : St) (K : AV → St → Prop) (_ : Hold (σ, K)) : Prop := match p with
    | .ptr β off => match σ.box β with
      | some cs=>x.fits=true∧x.cells.length=n∧off+n≤cs.length∧K .junk (σ.ad β (cs.take off++x.cells++cs.drop (off+n)))
      | none=>False
    | _=>False
def stB (b:Option (List AV)) (β off n:Nat) (x:AV) (σ:St) (K:AV→St→Prop) (_:Hold (σ,K)):Prop:=match b with
   | some cs=>x.fits=true∧x.cells.length=n∧off+n≤cs.length∧K .junk (σ.ad β (cs.take off++x.cells++cs.drop (off+n)))
   | none=>False
def zz (P:Program) (f:Nat) (as:List AV) (σ:St) (K:AV→St→Prop) (_:Hold (σ,K)):Prop:=AC P f as σ K
def Ge    (P : Program) (f : Option Nat) (as : List AV) (σ : St) (K : AV → St → Prop) (_ : Hold (σ, K)) : Prop := match f with
    | some f=>AC P f as σ K
    | none=>False
def zA    (P : Program) (tbl : List (Nat × Nat)) (x : AV) (as : List AV) (σ : St) (K : AV → St → Prop) (_ : Hold (σ, K)) : Prop := match x with
    | .ifc t v => match kO    t tbl with
      | some f=>AC P f (v::as) σ K
      | none=>False
    | _=>False
def th     (P : Program) (x : AV) (as : List AV) (σ : St) (K : AV → St → Prop) (_ : Hold (σ, K)) : Prop := match x with
    | .fn f cap=>AC P f (as++cap) σ K
    | .yld l=>YC P l as σ K
    | _=>False
def zB (kind:Nat) (neg:Bool) (v:AV) (σ:St) (K:AV→St→Prop) (_:Hold (σ,K)):Prop:=dx kind v=true∧∀ b,fy kind v b→K (.bool (bif neg then !b else b)) σ
def ab (x y:AV):Od→AV
 | .t 0=>x
 | _=>y
def KD (e es bytes:Nat) (x y:AV) (σ:St) (K:AV→St→Prop) (_:Hold (σ,K)):Prop :=
 ps σ (ab x y) (.app false e es bytes (.t 0) (.t 1))∧K (pf σ (ab x y) (.app false e es bytes (.t 0) (.t 1))) σ
def pq   (tp : Bool) (e es bytes : Nat) (x y : AV) (σ : St) (K : AV → St → Prop) (_ : Hold (σ, K)) : Prop := match x with
    | .tsl τ n cs => match slv y with
      | some (m,ds)=>σ.tip τ=some (e,es,n)∧cs.length=n*es∧ds.length=m*es∧n+m≤maxLen∧(n+m)*bytes≤140737488355328∧K (.tsl τ (n+m) (cs++ds)) (σ.ai τ (e,es,n+m))
      | none=>False
    | a => bif tp then
        match slv a,slv y with
        | some (n,cs),some (m,ds)=>fresh a∧cs.length=n*es∧ds.length=m*es∧n+m≤maxLen∧(n+m)*bytes≤140737488355328∧∀ τ,σ.tip τ=none→K (.tsl τ (n+m) (cs++ds)) (σ.ai τ (e,es,n+m))
        | _,_=>False
      else KD e es bytes a y σ K ⟨⟩
def od    (P : Program) (v : AV) (x y : CC) (fr : Fr) (σ : St) (Q : Exit → Fr → St → Prop) (_ : Hold (x, y, fr, σ, Q)) : Prop := match v with
    | .bool t=>(t=true→aC P x fr σ Q)∧(t=false→aC P y fr σ Q)
    | _=>False
def Gf (P:Program) (fr:Fr) (x:CC) (σ:St) (Q:Exit→Fr→St→Prop) (_:Hold (x,σ,Q)):Prop:=aC P x fr σ Q
def oe (P:Program) (x:CC) (fr:Fr) (σ:St) (Q:Exit→Fr→St→Prop) (_:Hold (x,σ,Q)):Prop:=aC P (.loop x) fr σ Q
def cK (P:Program) (d:Option Nat) (r:List CI) (fr:Fr) (K:Fr→St→Prop) (v:AV) (σ:St):Prop:=cA P r (putF d v fr) σ K
def DF   (P : Program) (y : CC) (Q : Exit → Fr → St → Prop) (e : Exit) (fr : Fr) (σ : St) : Prop := match e with
    | .normal=>aC P y fr σ Q
    | e=>Q e fr σ
def pr     (id : Nat) (Q : Exit → Fr → St → Prop) (e : Exit) (fr : Fr) (σ : St) : Prop := match e with
    | .exit j=>if j=id then Q .normal fr σ else Q (.exit j) fr σ
    | e=>Q e fr σ
def pt     (Q : Exit → Fr → St → Prop) (e : Exit) (fr : Fr) (σ : St) : Prop := match e with
    | .goto _=>False
    | e=>Q e fr σ
def fl    (N : Fr → St → Prop) (Q : Exit → Fr → St → Prop) (e : Exit) (fr : Fr) (σ : St) : Prop := match e with
    | .normal=>N fr σ
    | e=>Q e fr σ
def gdV (P : Program) (c : Option Bool) (d : Option Nat) (op : CO) (r : List CI) (fr : Fr) (σ : St) (K : Fr → St → Prop) (_ : Hold (d, op, r, fr, σ, K)) : Prop :=
    match c with
    | none=>False
    | some c =>
      bif op.quiet then
        (c=true→az c (ev σ fr) op.qv∧ps σ (gEv op (ev σ fr)) op)∧cA P r (putF d (.opt c (pf σ (gEv op (ev σ fr)) op)) fr) σ K
      else
        (c=true→az c (ev σ fr) op.ods∧aOp P (evU (ev σ fr)) σ (fun v σ'=>cA P r (putF d v fr) σ' K) op)∧(c=false→cA P r (putF d (.opt false .junk) fr) σ K)
theorem qL {P:Program} {ρ:Od→AV} {σ:St} {K K':AV→St→Prop} (co:CO) (h:aOp P ρ σ K co) (hk:∀ v s,K v s→K' v s):aOp P ρ σ K' co:=by
 cases co<;>simp only [aOp] at h ⊢
 case isnil=>exact ⟨h.1,fun b hb=>hk _ _ (h.2 b hb)⟩
 case alloc=>exact fun β hβ=>hk _ _ (h β hβ)
 case mkM=>exact fun L hL=>hk _ _ (h L hL)
 case mgt =>
  split at h
  ·split at h
   ·exact hk _ _ h
   ·exact h
  ·exact h
 case mst =>
  split at h
  ·split at h
   ·exact hk _ _ h
   ·exact h
  ·exact h
 case allocT=>exact fun β hβ hβ2=>hk _ _ (h β hβ hβ2)
 case appS =>
  unfold vf at h ⊢
  split at h
  ·obtain ⟨a,b,c,d,e,f⟩:=h;exact ⟨a,b,c,d,e,hk _ _ f⟩
  ·obtain ⟨a,b,c,d⟩:=h;exact ⟨a,b,c,fun τ hτ=>hk _ _ (d τ hτ)⟩
  ·exact h
 case mkT=>exact ⟨h.1,h.2.1,fun τ hτ=>hk _ _ (h.2.2 τ hτ)⟩
 case appR =>
  unfold vg at h ⊢
  split at h
  ·split at h
   ·obtain ⟨a,b,c,d,e⟩:=h;exact ⟨a,b,c,d,fun β j hβ=>hk _ _ (e β j hβ)⟩
   ·obtain ⟨a,b,h⟩:=h
    refine ⟨a,b,?_⟩
    split at h
    ·obtain ⟨a,b,c,d,e,f⟩:=h;exact ⟨a,b,c,d,e,fun γ j hγ=>hk _ _ (f γ j hγ)⟩
    ·exact h
   ·exact h
  ·exact h
 case mkP=>exact ⟨h.1,h.2.1,h.2.2.1,h.2.2.2.1,fun β hβ=>hk _ _ (h.2.2.2.2 β hβ)⟩
 case box=>exact ⟨h.1,h.2.1,fun β hβ=>hk _ _ (h.2.2 β hβ)⟩
 case st =>
  split at h
  ·split at h
   ·exact ⟨h.1,h.2.1,h.2.2.1,hk _ _ h.2.2.2⟩
   ·exact h
  ·exact h
 case call=>exact AC.mono h hk
 case invk =>
  split at h
  ·split at h
   ·exact AC.mono h hk
   ·exact h
  ·exact h
 case callv =>
  split at h
  ·exact AC.mono h hk
  ·exact YC.mono h hk
  ·exact h
 case app tp e es bytes x y =>
  split at h
  ·split at h
   ·obtain ⟨a,b,c,d,e,f⟩:=h;exact ⟨a,b,c,d,e,hk _ _ f⟩
   ·exact h
  ·cases tp
   ·simp only [cond_false] at h ⊢;exact ⟨h.1,hk _ _ h.2⟩
   ·simp only [cond_true] at h ⊢
    split at h
    ·obtain ⟨a,b,c,d,e,f⟩:=h;exact ⟨a,b,c,d,e,fun τ hτ=>hk _ _ (f τ hτ)⟩
    ·exact h
 all_goals exact ⟨h.1,hk _ _ h.2⟩
theorem dU {P:Program}:∀ (l:List CI) {fr:Fr} {σ:St} {K K':Fr→St→Prop},cA P l fr σ K→(∀ f s,K f s→K' f s)→cA P l fr σ K'
  | [],_,_,_,_,h,hk=>hk _ _ h
  | ⟨d,op,none⟩::r,fr,σ,K,K',h,hk=>qL op h (fun v s h=>dU r h hk)
  | ⟨d, op, some (t, want)⟩ :: r, fr, σ, K, K', h, hk => by
    simp only [cA] at h ⊢
    generalize aV want (slot t fr)=gc at *
    cases gc with
    | none=>exact h
    | some c =>
      simp only at h ⊢
      cases hq:op.quiet<;>simp only [hq,cond_true,cond_false] at h ⊢
      · exact ⟨fun hc=>⟨(h.1 hc).1,qL op (h.1 hc).2 (fun v s h=>dU r h hk)⟩,fun hc=>dU r (h.2 hc) hk⟩
      · exact ⟨h.1,dU r h.2 hk⟩
theorem iy {P:Program}:∀ (l:List CI) (cs:List Nat) {fr:Fr} {σ:St} {K K':Fr→St→Prop},aF P l cs fr σ K→(∀ f s,K f s→K' f s)→aF P l cs fr σ K'
  | [],_,_,_,_,_,h,hk=>by simp only [aF] at h ⊢;exact hk _ _ h
  | _::_,[],_,_,_,_,h,_=>by simp only [aF] at h
  | i :: r, c :: cs, fr, σ, K, K', h, hk => by
    simp only [aF] at h ⊢
    cases hm:aJ i.op<;>simp only [hm,cond_true,cond_false] at h ⊢
    · cases hm2:aM c i.op<;>simp only [hm2,cond_true,cond_false] at h ⊢
      · obtain ⟨v,s,h1,h2⟩:=h;exact ⟨v,s,h1,iy r cs h2 hk⟩
      · intro β hβ;obtain ⟨v,s,h1,h2⟩:=h β hβ;exact ⟨v,s,h1,iy r cs h2 hk⟩
    · intro β hβ;obtain ⟨v,s,h1,h2⟩:=h β hβ;exact ⟨v,s,h1,iy r cs h2 hk⟩
theorem dj:∀ (regs:List (Bool × Nat × Nat × Nat × Nat)) {fr:Fr} {σ:St} {J J':Fr→St→Prop},cb regs fr σ J→(∀ f s,J f s→J' f s)→cb regs fr σ J'
  | [],_,_,_,_,h,hk=>hk _ _ h
  | (false, t, k, e, s) :: r, fr, σ, J, J', h, hk => by
    simp only [cb] at h ⊢
    refine ⟨h.1,?_⟩
    have h:=h.2
    split at h
    · exact fun τ hτ=>dj r (h τ hτ) hk
    · exact h
  | (true, t, k, e, s) :: r, fr, σ, J, J', h, hk => by
    simp only [cb] at h ⊢
    split at h
    · split at h
      · split at h
        · refine ⟨h.1,?_⟩
          have h:=h.2
          split at h
          · exact fun τ hτ=>dj r (h τ hτ) hk
          · exact h
        · exact h
      · exact h
    · exact h
theorem kq {P:Program}:∀ (t:AT) {fr:Fr} {σ:St} {K K':Fr→St→Prop},qG P t fr σ K→(∀ f s,K f s→K' f s)→qG P t fr σ K'
 | .done,_,_,_,_,h,hk=>hk _ _ h
 | .stop,_,_,_,_,_,_=>trivial
 | .alt _ _ sub oth,_,_,_,_,h,hk=>⟨dU _ h.1 (fun _ _ h=>kq sub h hk),kq oth h.2 hk⟩
theorem cg {P:Program}:∀ (c:CC) (fr:Fr) (σ:St) {Q Q':Exit→Fr→St→Prop},aC P c fr σ Q→(∀ e fr σ,Q e fr σ→Q' e fr σ)→aC P c fr σ Q'
  | .skip,fr,σ,Q,Q',h,hq=>hq _ _ _ h
  | .ops l,fr,σ,Q,Q',h,hq=>dU l h (fun f s=>hq _ f s)
  | .drw l cls,fr,σ,Q,Q',h,hq=>iy l cls h (fun f s=>hq _ f s)
  | .any t,fr,σ,Q,Q',h,hq=>kq t h (fun f s=>hq _ f s)
  | .inv l dp, fr, σ, Q, Q', h, hq => by
    obtain ⟨I,h0,h1,h2⟩:=h
    exact ⟨I,h0,h1,fun D f s hD hI=>hq _ _ _ (h2 D f s hD hI)⟩
  | .seq x y, fr, σ, Q, Q', h, hq => by
    simp only [aC] at h ⊢
    refine cg x fr σ h (fun e f s h=>?_)
    cases e<;>simp only at h ⊢ <;>first|exact cg y f s h hq|exact hq _ _ _ h
  | .cond c x y, fr, σ, Q, Q', h, hq => by
    simp only [aC] at h ⊢
    split at h
    · exact ⟨fun hc=>cg x fr σ (h.1 hc) hq,fun hc=>cg y fr σ (h.2 hc) hq⟩
    · exact h
  | .block id x, fr, σ, Q, Q', h, hq => by
    simp only [aC] at h ⊢
    refine cg x fr σ h (fun e f s h=>?_)
    cases e<;>simp only at h ⊢ <;>try exact hq _ _ _ h
    split at h
    · rename_i e;rw [if_pos e];exact hq _ _ _ h
    · rename_i e;rw [if_neg e];exact hq _ _ _ h
  | .scope x, fr, σ, Q, Q', h, hq => by
    simp only [aC] at h ⊢
    refine cg x fr σ h (fun e f s h=>?_)
    cases e<;>simp only at h ⊢ <;>exact hq _ _ _ h
  | .loop x, fr, σ, Q, Q', h, hq => by
    simp only [aC] at h ⊢
    obtain ⟨regs,h⟩:=h
    refine ⟨regs,dj regs h (fun f s h=>?_)⟩
    obtain ⟨α,F,S,I,μ,a0,h0,hf,hs,h⟩:=h
    refine ⟨α,F,S,I,μ,a0,h0,hf,hs,fun a ha=>cg x _ _ (h a ha) (fun e f s h=>?_)⟩
    cases e<;>simp only at h ⊢ <;>first|exact h|exact hq _ _ _ h
  | .keep ts x,fr,σ,Q,Q',h,hq=>cg x _ σ h hq
  | .frz t es x, fr, σ, Q, Q', h, hq => by
    simp only [aC] at h ⊢
    cases hz:po t es fr σ with
    | none=>rw [hz] at h;exact cg x _ _ h hq
    | some q=>rw [hz] at h;exact cg x _ _ h hq
  | .rfun x ps asg body, fr, σ, Q, Q', h, hq => by
    simp only [aC] at h ⊢
    obtain ⟨regs,h⟩:=h
    refine ⟨regs,dj regs h (fun f s h=>?_)⟩
    split at h
    · refine ⟨h.1,fun L r h1 h2 h3 hY=>(h.2 L r h1 h2 h3 hY).mono (fun _ s hp=>?_)⟩
      rcases hp with ⟨k1,k2⟩|⟨k1,k2⟩|⟨id,k1,k2⟩
      · exact .inl ⟨k1,hq _ _ _ k2⟩
      · exact .inr (.inl ⟨k1,hq _ _ _ k2⟩)
      · exact .inr (.inr ⟨id,k1,hq _ _ _ k2⟩)
    · exact h.elim
  | .exit id,fr,σ,Q,Q',h,hq=>hq _ _ _ h
  | .ret,fr,σ,Q,Q',h,hq=>hq _ _ _ h
section
variable {P:Program} {σ:St} {ρ:Od→AV} {K:AV→St→Prop} {fr:Fr} {Q:Exit→Fr→St→Prop} {J:Fr→St→Prop} {d:Option Nat} {r:List CI} {v:AV} {p:Prop} {β off n f:Nat} {cs as cap:List AV} {x y:CC}
theorem zC {h:Hold (σ,K)}:al v p σ K h=(p∧K v σ):=rfl
theorem zD {h:Hold (σ,K)}:zx p β cs σ K h=(p∧K .junk (σ.ad β cs)):=rfl
theorem ah {h:Hold (σ,K)}:zy cs σ K h=∀ β,σ.box β=none→K (.ptr β 0) (σ.ad β cs):=rfl
theorem DG {h:Hold (σ,K)}:tg p cs σ K h=(p∧∀ β,σ.box β=none→K (.ptr β 0) (σ.ad β cs)):=rfl
theorem GV {h:Hold (σ,K)} {x:AV}:stV (.ptr β off) x n σ K h=stB (σ.box β) β off n x σ K h:=rfl
theorem GW {h:Hold (σ,K)} {x:AV}:stB (some cs) β off n x σ K h=zx (x.fits=true∧x.cells.length=n∧off+n≤cs.length) β (cs.take off++x.cells++cs.drop (off+n)) σ K ⟨⟩:=by
 simp only [stB,zx,and_assoc]
theorem zE {h:Hold (σ,K)} {tbl:List (Nat × Nat)} {t:Nat} {v:AV}:zA P tbl (.ifc t v) as σ K h=Ge P (kO t tbl) (v::as) σ K ⟨⟩:=rfl
theorem zF {h:Hold (σ,K)}:Ge P (some f) as σ K h=zz P f as σ K ⟨⟩:=rfl
theorem ti {h:Hold (σ,K)} {l:Nat}:th P (.yld l) as σ K h=YC P l as σ K:=rfl
theorem wD {h:Hold (σ,K)}:th P (.fn f cap) as σ K h=zz P f (as++cap) σ K ⟨⟩:=rfl
theorem wE {kind:Nat} {neg:Bool} {h:Hold (σ,K)}:zB kind neg v σ K h=(dx kind v=true∧∀ b,fy kind v b→K (.bool (bif neg then !b else b)) σ):=rfl
theorem tj {h:Hold (x,y,fr,σ,Q)}:od P (.bool true) x y fr σ Q h=aC P x fr σ Q:=by simp [od]
theorem qM {h:Hold (x,y,fr,σ,Q)}:od P (.bool false) x y fr σ Q h=aC P y fr σ Q:=by simp [od]
theorem aj {b:Bool} {h:Hold (x,y,fr,σ,Q)} (h1:b=true→aC P x fr σ Q) (h2:b=false→aC P y fr σ Q):od P (.bool b) x y fr σ Q h:=⟨h1,h2⟩
theorem zG {h:Hold (x,σ,Q)}:Gf P fr x σ Q h=aC P x fr σ Q:=rfl
theorem DH:cK P d r fr J v σ=cA P r (putF d v fr) σ J:=rfl
theorem qN:DF P y Q .normal fr σ=aC P y fr σ Q:=rfl
theorem wF {j:Nat}:DF P y Q (.exit j) fr σ=Q (.exit j) fr σ:=rfl
theorem zH:DF P y Q .ret fr σ=Q .ret fr σ:=rfl
theorem nB {id:Nat}:pr id Q .normal fr σ=Q .normal fr σ:=rfl
theorem qO {id j:Nat}:pr id Q (.exit j) fr σ=if j=id then Q .normal fr σ else Q (.exit j) fr σ:=rfl
theorem tm {id:Nat}:pr id Q .ret fr σ=Q .ret fr σ:=rfl
theorem nC:pt Q .normal fr σ=Q .normal fr σ:=rfl
theorem qP {j:Nat}:pt Q (.exit j) fr σ=Q (.exit j) fr σ:=rfl
theorem tq:pt Q .ret fr σ=Q .ret fr σ:=rfl
theorem zI:aC P (.scope x) fr σ Q=aC P x fr σ (pt Q):=by
 simp only [aC]
 congr
theorem pw {N:Fr→St→Prop}:fl N Q .normal fr σ=N fr σ:=rfl
theorem tr {N:Fr→St→Prop} {j:Nat}:fl N Q (.exit j) fr σ=Q (.exit j) fr σ:=rfl
theorem wG {N:Fr→St→Prop}:fl N Q .ret fr σ=Q .ret fr σ:=rfl
theorem DI:aC P .skip fr σ Q=Q .normal fr σ:=rfl
theorem GX {l:List CI}:aC P (.ops l) fr σ Q=cA P l fr σ (Q .normal):=rfl
def wH (P:Program) (t:AT) (K:Fr→St→Prop) (fr:Fr) (σ:St):Prop:=qG P t fr σ K
def LW (P:Program) (l:List CI) (dp:List (List Nat)) (fr:Fr) (σ:St) (K:Fr→St→Prop) (_:Hold (l,fr,σ,K)):Prop:=GS P l dp fr σ K
theorem GY {l:List CI} {dp:List (List Nat)}:aC P (.inv l dp) fr σ Q=LW P l dp fr σ (Q .normal) ⟨⟩:=rfl
theorem GZ {t:AT}:aC P (.any t) fr σ Q=wH P t (Q .normal) fr σ:=rfl
theorem wJ:wH P .done J fr σ=J fr σ:=rfl
theorem wK:wH P .stop J fr σ=True:=rfl
theorem zJ {j:Nat} {i:CI} {sub oth:AT}:wH P (.alt j i sub oth) J fr σ=(cA P [i] fr σ (wH P sub J)∧wH P oth J fr σ):=rfl
theorem G0 {l:List CI} {cls:List Nat}:aC P (.drw l cls) fr σ Q=aF P l cls fr σ (Q .normal):=rfl
theorem G1:aC P (.seq x y) fr σ Q=aC P x fr σ (DF P y Q):=by
 simp only [aC]
 congr
theorem DJ {c:Od}:aC P (.cond c x y) fr σ Q=od P (ev σ fr c) x y fr σ Q ⟨⟩:=rfl
theorem zK {id:Nat}:aC P (.block id x) fr σ Q=aC P x fr σ (pr id Q):=by
 simp only [aC]
 congr
def G2 (P:Program) (o:Option (Fr × St)) (x:CC) (fr:Fr) (σ:St) (Q:Exit→Fr→St→Prop) (_:Hold (x,fr,σ,Q)):Prop:=match o with
 | some q=>aC P x q.1 q.2 Q
 | none=>aC P x fr σ Q
theorem tv {t e:Nat}:aC P (.frz t e x) fr σ Q=G2 P (po t e fr σ) x fr σ Q ⟨⟩:=rfl
theorem og {f:Fr} {s:St} {h:Hold (x,fr,σ,Q)}:G2 P (some (f,s)) x fr σ Q h=aC P x f s Q:=rfl
theorem oh {h:Hold (x,fr,σ,Q)}:G2 P none x fr σ Q h=aC P x fr σ Q:=rfl
theorem DK {ts:List Nat}:aC P (.keep ts x) fr σ Q=Gf P (gN ts fr) x σ Q ⟨⟩:=rfl
def Gg (P:Program) (x:Od) (ps:List Nat) (asg body:CC) (fr:Fr) (σ:St) (Q:Exit→Fr→St→Prop) (_:Hold (asg,body,fr,σ,Q)):Prop:=aC P (.rfun x ps asg body) fr σ Q
theorem DL {c:Od} {ps:List Nat}:aC P (.rfun c ps x y) fr σ Q=Gg P c ps x y fr σ Q ⟨⟩:=rfl
theorem DM:aC P (.loop x) fr σ Q=oe P x fr σ Q ⟨⟩:=rfl
theorem DN {id:Nat}:aC P (.exit id) fr σ Q=Q (.exit id) fr σ:=rfl
theorem G3:aC P .ret fr σ Q=Q .ret fr σ:=rfl
theorem zL:cA P [] fr σ J=J fr σ:=rfl
theorem wL {op:CO}:cA P (⟨d,op,none⟩::r) fr σ J=aOp P (ev σ fr) σ (cK P d r fr J) op:=rfl
theorem tx {op:CO} {t:Nat} {want:Bool}:cA P (⟨d,op,some (t,want)⟩::r) fr σ J=gdV P (aV want (slot t fr)) d op r fr σ J ⟨⟩:=rfl
theorem wM {kind:Nat} {neg:Bool} {x:Od}:aOp P ρ σ K (.isnil kind neg x)=zB kind neg (ρ x) σ K ⟨⟩:=rfl
theorem wN:aOp P ρ σ K (.alloc cs)=zy cs σ K ⟨⟩:=rfl
theorem DO {x:Od}:aOp P ρ σ K (.box n x)=tg ((ρ x).fits=true∧(ρ x).cells.length=n) (ρ x).cells σ K ⟨⟩:=by
 simp only [aOp,tg,and_assoc]
theorem DP {p:Prop} {h:Hold (σ,K)}:GU p n cs σ K h=(p∧∀ β,σ.box β=none→K (.psl β 0 n) (σ.ad β cs)):=rfl
theorem DQ {es bytes:Nat} {z:List AV} {x:Od}:aOp P ρ σ K (.mkP es bytes z x)=GU (cN (ρ x)∧0≤aI (ρ x)∧aI (ρ x)≤9223372036854775807∧(aI (ρ x)).toNat*bytes≤140737488355328) (aI (ρ x)).toNat (List.replicate (aI (ρ x)).toNat z).flatten σ K ⟨⟩:=by
 simp only [aOp,GU,and_assoc]
theorem DR {x}:aOp P ρ σ K (.s2b x)=al (pf σ ρ (.s2b x)) (ps σ ρ (.s2b x)) σ K ⟨⟩:=rfl
theorem zM {x}:aOp P ρ σ K (.lenP x)=al (pf σ ρ (.lenP x)) (ps σ ρ (.lenP x)) σ K ⟨⟩:=rfl
def G4 (p:Prop) (e es n:Nat) (cs:List AV) (σ:St) (K:AV→St→Prop) (_:Hold (σ,K)):Prop:=p∧∀ τ,σ.tip τ=none→K (.tsl τ n cs) (σ.ai τ (e,es,n))
theorem DS {p:Prop} {e es:Nat} {h:Hold (σ,K)}:G4 p e es n cs σ K h=(p∧∀ τ,σ.tip τ=none→K (.tsl τ n cs) (σ.ai τ (e,es,n))):=rfl
theorem DT {e es n:Nat} {z:List AV} {q:List (Nat × Nat × Od)}:aOp P ρ σ K (.mkT e es n z q)=G4 (ed ρ z.length q∧z.length=n*es) e es n (bm ρ z q) σ K ⟨⟩:=by
 simp only [aOp,G4,and_assoc]
def KE (e es bytes:Nat) (a b:AV) (σ:St) (K:AV→St→Prop) (_:Hold (σ,K)):Prop:=vg e es bytes a b σ K
theorem zN {e es bytes:Nat} {x y:Od}:aOp P ρ σ K (.appR e es bytes x y)=KE e es bytes (ρ x) (ρ y) σ K ⟨⟩:=rfl
theorem DU {e x i}:aOp P ρ σ K (.ixQ e x i)=al (pf σ ρ (.ixQ e x i)) (ps σ ρ (.ixQ e x i)) σ K ⟨⟩:=rfl
theorem G5 {p x:Od}:aOp P ρ σ K (.st n p x)=stV (ρ p) (ρ x) n σ K ⟨⟩:=rfl
theorem zO {args:List Od}:aOp P ρ σ K (.call f args)=zz P f (args.map ρ) σ K ⟨⟩:=rfl
theorem zP {tbl:List (Nat × Nat)} {x:Od} {args:List Od}:aOp P ρ σ K (.invk tbl x args)=zA P tbl (ρ x) (args.map ρ) σ K ⟨⟩:=by
 simp only [aOp,zA]
 cases ρ x<;>rfl
theorem wO {x:Od} {args:List Od}:aOp P ρ σ K (.callv x args)=th P (ρ x) (args.map ρ) σ K ⟨⟩:=rfl
theorem DV {tp:Bool} {e es bytes:Nat} {x y:Od}:aOp P ρ σ K (.app tp e es bytes x y)=pq tp e es bytes (ρ x) (ρ y) σ K ⟨⟩:=by
 cases h:ρ x<;>simp only [aOp,pq,KD,ps,pf,ab,h]<;>rfl
theorem qQ {tp:Bool} {e es bytes τ m:Nat} {ds:List AV} {y:AV} {h:Hold (σ,K)} (hy:slv y=some (m,ds)):pq tp e es bytes (.tsl τ n cs) y σ K h=(σ.tip τ=some (e,es,n)∧cs.length=n*es∧ds.length=m*es∧n+m≤maxLen∧(n+m)*bytes≤140737488355328∧K (.tsl τ (n+m) (cs++ds)) (σ.ai τ (e,es,n+m))):=by
 simp only [pq,hy]
theorem G6 {x}:aOp P ρ σ K (.mv x)=al (pf σ ρ (.mv x)) (ps σ ρ (.mv x)) σ K ⟨⟩:=rfl
theorem zQ {c a b}:aOp P ρ σ K (.pick c a b)=al (pf σ ρ (.pick c a b)) (ps σ ρ (.pick c a b)) σ K ⟨⟩:=rfl
theorem G7 {u x}:aOp P ρ σ K (.un u x)=al (pf σ ρ (.un u x)) (ps σ ρ (.un u x)) σ K ⟨⟩:=rfl
theorem DW {u x y}:aOp P ρ σ K (.bin u x y)=al (pf σ ρ (.bin u x y)) (ps σ ρ (.bin u x y)) σ K ⟨⟩:=rfl
theorem DX {n ks x y}:aOp P ρ σ K (.eqA n ks x y)=al (pf σ ρ (.eqA n ks x y)) (ps σ ρ (.eqA n ks x y)) σ K ⟨⟩:=rfl
theorem DY {n x y}:aOp P ρ σ K (.eqb n x y)=al (pf σ ρ (.eqb n x y)) (ps σ ρ (.eqb n x y)) σ K ⟨⟩:=rfl
theorem DZ {k x}:aOp P ρ σ K (.cnv k x)=al (pf σ ρ (.cnv k x)) (ps σ ρ (.cnv k x)) σ K ⟨⟩:=rfl
theorem zR {x}:aOp P ρ σ K (.b2sP x)=al (pf σ ρ (.b2sP x)) (ps σ ρ (.b2sP x)) σ K ⟨⟩:=rfl
theorem zS {n e x}:aOp P ρ σ K (.slcP n e x)=al (pf σ ρ (.slcP n e x)) (ps σ ρ (.slcP n e x)) σ K ⟨⟩:=rfl
theorem D0 {x}:aOp P ρ σ K (.b2s x)=al (pf σ ρ (.b2s x)) (ps σ ρ (.b2s x)) σ K ⟨⟩:=rfl
theorem D1 {x}:aOp P ρ σ K (.len x)=al (pf σ ρ (.len x)) (ps σ ρ (.len x)) σ K ⟨⟩:=rfl
theorem zT {x}:aOp P ρ σ K (.lenS x)=al (pf σ ρ (.lenS x)) (ps σ ρ (.lenS x)) σ K ⟨⟩:=rfl
theorem D2 {o z x}:aOp P ρ σ K (.fld o z x)=al (pf σ ρ (.fld o z x)) (ps σ ρ (.fld o z x)) σ K ⟨⟩:=rfl
theorem zU {o x}:aOp P ρ σ K (.fldA o x)=al (pf σ ρ (.fldA o x)) (ps σ ρ (.fldA o x)) σ K ⟨⟩:=rfl
theorem D3 {e x i}:aOp P ρ σ K (.ixA e x i)=al (pf σ ρ (.ixA e x i)) (ps σ ρ (.ixA e x i)) σ K ⟨⟩:=rfl
theorem D4 {n e x i}:aOp P ρ σ K (.ixP n e x i)=al (pf σ ρ (.ixP n e x i)) (ps σ ρ (.ixP n e x i)) σ K ⟨⟩:=rfl
theorem D5 {x i}:aOp P ρ σ K (.ixS x i)=al (pf σ ρ (.ixS x i)) (ps σ ρ (.ixS x i)) σ K ⟨⟩:=rfl
theorem D6 {n e z x i}:aOp P ρ σ K (.ixV n e z x i)=al (pf σ ρ (.ixV n e z x i)) (ps σ ρ (.ixV n e z x i)) σ K ⟨⟩:=rfl
theorem D7 {ts ns k z x}:aOp P ρ σ K (.asT ts ns k z x)=al (pf σ ρ (.asT ts ns k z x)) (ps σ ρ (.asT ts ns k z x)) σ K ⟨⟩:=rfl
theorem D8 {z x}:aOp P ρ σ K (.ldE z x)=al (pf σ ρ (.ldE z x)) (ps σ ρ (.ldE z x)) σ K ⟨⟩:=rfl
theorem G8 {z x}:aOp P ρ σ K (.ld z x)=al (pf σ ρ (.ld z x)) (ps σ ρ (.ld z x)) σ K ⟨⟩:=rfl
theorem D9 {e x l h m}:aOp P ρ σ K (.slc e x l h m)=al (pf σ ρ (.slc e x l h m)) (ps σ ρ (.slc e x l h m)) σ K ⟨⟩:=rfl
theorem zV {x l h}:aOp P ρ σ K (.slcS x l h)=al (pf σ ρ (.slcS x l h)) (ps σ ρ (.slcS x l h)) σ K ⟨⟩:=rfl
theorem Ea {z q}:aOp P ρ σ K (.bld z q)=al (pf σ ρ (.bld z q)) (ps σ ρ (.bld z q)) σ K ⟨⟩:=rfl
theorem zW {e n z q}:aOp P ρ σ K (.mkSl e n z q)=al (pf σ ρ (.mkSl e n z q)) (ps σ ρ (.mkSl e n z q)) σ K ⟨⟩:=rfl
theorem Eb {t x}:aOp P ρ σ K (.mkI t x)=al (pf σ ρ (.mkI t x)) (ps σ ρ (.mkI t x)) σ K ⟨⟩:=rfl
theorem Ec {f cs}:aOp P ρ σ K (.mkF f cs)=al (pf σ ρ (.mkF f cs)) (ps σ ρ (.mkF f cs)) σ K ⟨⟩:=rfl
theorem Ed {x i}:aOp P ρ σ K (.ext x i)=al (pf σ ρ (.ext x i)) (ps σ ρ (.ext x i)) σ K ⟨⟩:=rfl
theorem zX {x}:aOp P ρ σ K (.nilc x)=al (pf σ ρ (.nilc x)) (ps σ ρ (.nilc x)) σ K ⟨⟩:=rfl
theorem G9 {b x y}:aOp P ρ σ K (.mm b x y)=al (pf σ ρ (.mm b x y)) (ps σ ρ (.mm b x y)) σ K ⟨⟩:=rfl
theorem aP {c:Bool} {op:CO} {h:Hold (d,op,r,fr,σ,J)} (hq:op.quiet=true):gdV P (some c) d op r fr σ J h=al (.opt c (pf σ (gEv op (ev σ fr)) op)) (c=true→az c (ev σ fr) op.qv∧ps σ (gEv op (ev σ fr)) op) σ (cK P d r fr J) ⟨⟩:=by
 simp only [gdV,hq,cond_true,al,cK]
theorem gA {op:CO} {h:Hold (d,op,r,fr,σ,J)} (hq:op.quiet=false):gdV P (some true) d op r fr σ J h=(az true (ev σ fr) op.ods∧aOp P (evU (ev σ fr)) σ (cK P d r fr J) op):=by
 simp only [gdV,hq,cond_false,forall_const,reduceCtorEq,false_implies,and_true]
 rfl
theorem ji {op:CO} {h:Hold (d,op,r,fr,σ,J)} (hq:op.quiet=false):gdV P (some false) d op r fr σ J h=cA P r (putF d (.opt false .junk) fr) σ J:=by
 simp [gdV,hq]
theorem Ha {c:Bool} {x} {h:Hold (d,CO.mv x,r,fr,σ,J)}:gdV P (some c) d (.mv x) r fr σ J h=al (.opt c (pf σ (evU (ev σ fr)) (.mv x))) (c=true→az c (ev σ fr) (CO.ods (.mv x))∧ps σ (evU (ev σ fr)) (.mv x)) σ (cK P d r fr J) ⟨⟩:=aP rfl
theorem zY {c:Bool} {x a b} {h:Hold (d,CO.pick x a b,r,fr,σ,J)}:gdV P (some c) d (.pick x a b) r fr σ J h=al (.opt c (pf σ (kR x (ev σ fr)) (.pick x a b))) (c=true→az c (ev σ fr) [x]∧ps σ (kR x (ev σ fr)) (.pick x a b)) σ (cK P d r fr J) ⟨⟩:=aP rfl
theorem Hb {c:Bool} {u x} {h:Hold (d,CO.un u x,r,fr,σ,J)}:gdV P (some c) d (.un u x) r fr σ J h=al (.opt c (pf σ (evU (ev σ fr)) (.un u x))) (c=true→az c (ev σ fr) (CO.ods (.un u x))∧ps σ (evU (ev σ fr)) (.un u x)) σ (cK P d r fr J) ⟨⟩:=aP rfl
theorem Ee {c:Bool} {u x y} {h:Hold (d,CO.bin u x y,r,fr,σ,J)}:gdV P (some c) d (.bin u x y) r fr σ J h=al (.opt c (pf σ (evU (ev σ fr)) (.bin u x y))) (c=true→az c (ev σ fr) (CO.ods (.bin u x y))∧ps σ (evU (ev σ fr)) (.bin u x y)) σ (cK P d r fr J) ⟨⟩:=aP rfl
theorem Ef {c:Bool} {n ks x y} {h:Hold (d,CO.eqA n ks x y,r,fr,σ,J)}:gdV P (some c) d (.eqA n ks x y) r fr σ J h=al (.opt c (pf σ (evU (ev σ fr)) (.eqA n ks x y))) (c=true→az c (ev σ fr) (CO.ods (.eqA n ks x y))∧ps σ (evU (ev σ fr)) (.eqA n ks x y)) σ (cK P d r fr J) ⟨⟩:=aP rfl
theorem Eg {c:Bool} {n x y} {h:Hold (d,CO.eqb n x y,r,fr,σ,J)}:gdV P (some c) d (.eqb n x y) r fr σ J h=al (.opt c (pf σ (evU (ev σ fr)) (.eqb n x y))) (c=true→az c (ev σ fr) (CO.ods (.eqb n x y))∧ps σ (evU (ev σ fr)) (.eqb n x y)) σ (cK P d r fr J) ⟨⟩:=aP rfl
theorem Eh {c:Bool} {k x} {h:Hold (d,CO.cnv k x,r,fr,σ,J)}:gdV P (some c) d (.cnv k x) r fr σ J h=al (.opt c (pf σ (evU (ev σ fr)) (.cnv k x))) (c=true→az c (ev σ fr) (CO.ods (.cnv k x))∧ps σ (evU (ev σ fr)) (.cnv k x)) σ (cK P d r fr J) ⟨⟩:=aP rfl
theorem zZ {c:Bool} {x} {h:Hold (d,CO.b2sP x,r,fr,σ,J)}:gdV P (some c) d (.b2sP x) r fr σ J h=al (.opt c (pf σ (evU (ev σ fr)) (.b2sP x))) (c=true→az c (ev σ fr) (CO.ods (.b2sP x))∧ps σ (evU (ev σ fr)) (.b2sP x)) σ (cK P d r fr J) ⟨⟩:=aP rfl
theorem Ei {c:Bool} {x} {h:Hold (d,CO.b2s x,r,fr,σ,J)}:gdV P (some c) d (.b2s x) r fr σ J h=al (.opt c (pf σ (evU (ev σ fr)) (.b2s x))) (c=true→az c (ev σ fr) (CO.ods (.b2s x))∧ps σ (evU (ev σ fr)) (.b2s x)) σ (cK P d r fr J) ⟨⟩:=aP rfl
theorem Ej {c:Bool} {x} {h:Hold (d,CO.len x,r,fr,σ,J)}:gdV P (some c) d (.len x) r fr σ J h=al (.opt c (pf σ (evU (ev σ fr)) (.len x))) (c=true→az c (ev σ fr) (CO.ods (.len x))∧ps σ (evU (ev σ fr)) (.len x)) σ (cK P d r fr J) ⟨⟩:=aP rfl
theorem z6 {c:Bool} {x} {h:Hold (d,CO.lenS x,r,fr,σ,J)}:gdV P (some c) d (.lenS x) r fr σ J h=al (.opt c (pf σ (evU (ev σ fr)) (.lenS x))) (c=true→az c (ev σ fr) (CO.ods (.lenS x))∧ps σ (evU (ev σ fr)) (.lenS x)) σ (cK P d r fr J) ⟨⟩:=aP rfl
theorem Ek {c:Bool} {o z x} {h:Hold (d,CO.fld o z x,r,fr,σ,J)}:gdV P (some c) d (.fld o z x) r fr σ J h=al (.opt c (pf σ (evU (ev σ fr)) (.fld o z x))) (c=true→az c (ev σ fr) (CO.ods (.fld o z x))∧ps σ (evU (ev σ fr)) (.fld o z x)) σ (cK P d r fr J) ⟨⟩:=aP rfl
theorem z7 {c:Bool} {o x} {h:Hold (d,CO.fldA o x,r,fr,σ,J)}:gdV P (some c) d (.fldA o x) r fr σ J h=al (.opt c (pf σ (evU (ev σ fr)) (.fldA o x))) (c=true→az c (ev σ fr) (CO.ods (.fldA o x))∧ps σ (evU (ev σ fr)) (.fldA o x)) σ (cK P d r fr J) ⟨⟩:=aP rfl
theorem El {c:Bool} {e x i} {h:Hold (d,CO.ixA e x i,r,fr,σ,J)}:gdV P (some c) d (.ixA e x i) r fr σ J h=al (.opt c (pf σ (evU (ev σ fr)) (.ixA e x i))) (c=true→az c (ev σ fr) (CO.ods (.ixA e x i))∧ps σ (evU (ev σ fr)) (.ixA e x i)) σ (cK P d r fr J) ⟨⟩:=aP rfl
theorem Em {c:Bool} {n e x i} {h:Hold (d,CO.ixP n e x i,r,fr,σ,J)}:gdV P (some c) d (.ixP n e x i) r fr σ J h=al (.opt c (pf σ (evU (ev σ fr)) (.ixP n e x i))) (c=true→az c (ev σ fr) (CO.ods (.ixP n e x i))∧ps σ (evU (ev σ fr)) (.ixP n e x i)) σ (cK P d r fr J) ⟨⟩:=aP rfl
theorem En {c:Bool} {x i} {h:Hold (d,CO.ixS x i,r,fr,σ,J)}:gdV P (some c) d (.ixS x i) r fr σ J h=al (.opt c (pf σ (evU (ev σ fr)) (.ixS x i))) (c=true→az c (ev σ fr) (CO.ods (.ixS x i))∧ps σ (evU (ev σ fr)) (.ixS x i)) σ (cK P d r fr J) ⟨⟩:=aP rfl
theorem Eo {c:Bool} {n e z x i} {h:Hold (d,CO.ixV n e z x i,r,fr,σ,J)}:gdV P (some c) d (.ixV n e z x i) r fr σ J h=al (.opt c (pf σ (evU (ev σ fr)) (.ixV n e z x i))) (c=true→az c (ev σ fr) (CO.ods (.ixV n e z x i))∧ps σ (evU (ev σ fr)) (.ixV n e z x i)) σ (cK P d r fr J) ⟨⟩:=aP rfl
theorem Hc {c:Bool} {z x} {h:Hold (d,CO.ld z x,r,fr,σ,J)}:gdV P (some c) d (.ld z x) r fr σ J h=al (.opt c (pf σ (evU (ev σ fr)) (.ld z x))) (c=true→az c (ev σ fr) (CO.ods (.ld z x))∧ps σ (evU (ev σ fr)) (.ld z x)) σ (cK P d r fr J) ⟨⟩:=aP rfl
theorem Ep {c:Bool} {e x l hi m} {h:Hold (d,CO.slc e x l hi m,r,fr,σ,J)}:gdV P (some c) d (.slc e x l hi m) r fr σ J h=al (.opt c (pf σ (evU (ev σ fr)) (.slc e x l hi m))) (c=true→az c (ev σ fr) (CO.ods (.slc e x l hi m))∧ps σ (evU (ev σ fr)) (.slc e x l hi m)) σ (cK P d r fr J) ⟨⟩:=aP rfl
theorem Aa {c:Bool} {x l hi} {h:Hold (d,CO.slcS x l hi,r,fr,σ,J)}:gdV P (some c) d (.slcS x l hi) r fr σ J h=al (.opt c (pf σ (evU (ev σ fr)) (.slcS x l hi))) (c=true→az c (ev σ fr) (CO.ods (.slcS x l hi))∧ps σ (evU (ev σ fr)) (.slcS x l hi)) σ (cK P d r fr J) ⟨⟩:=aP rfl
theorem Er {c:Bool} {z q} {h:Hold (d,CO.bld z q,r,fr,σ,J)}:gdV P (some c) d (.bld z q) r fr σ J h=al (.opt c (pf σ (evU (ev σ fr)) (.bld z q))) (c=true→az c (ev σ fr) (CO.ods (.bld z q))∧ps σ (evU (ev σ fr)) (.bld z q)) σ (cK P d r fr J) ⟨⟩:=aP rfl
theorem Ab {c:Bool} {e n z q} {h:Hold (d,CO.mkSl e n z q,r,fr,σ,J)}:gdV P (some c) d (.mkSl e n z q) r fr σ J h=al (.opt c (pf σ (evU (ev σ fr)) (.mkSl e n z q))) (c=true→az c (ev σ fr) (CO.ods (.mkSl e n z q))∧ps σ (evU (ev σ fr)) (.mkSl e n z q)) σ (cK P d r fr J) ⟨⟩:=aP rfl
theorem Es {c:Bool} {t x} {h:Hold (d,CO.mkI t x,r,fr,σ,J)}:gdV P (some c) d (.mkI t x) r fr σ J h=al (.opt c (pf σ (evU (ev σ fr)) (.mkI t x))) (c=true→az c (ev σ fr) (CO.ods (.mkI t x))∧ps σ (evU (ev σ fr)) (.mkI t x)) σ (cK P d r fr J) ⟨⟩:=aP rfl
theorem Et {c:Bool} {g cs} {h:Hold (d,CO.mkF g cs,r,fr,σ,J)}:gdV P (some c) d (.mkF g cs) r fr σ J h=al (.opt c (pf σ (evU (ev σ fr)) (.mkF g cs))) (c=true→az c (ev σ fr) (CO.ods (.mkF g cs))∧ps σ (evU (ev σ fr)) (.mkF g cs)) σ (cK P d r fr J) ⟨⟩:=aP rfl
theorem Eu {c:Bool} {x i} {h:Hold (d,CO.ext x i,r,fr,σ,J)}:gdV P (some c) d (.ext x i) r fr σ J h=al (.opt c (pf σ (evU (ev σ fr)) (.ext x i))) (c=true→az c (ev σ fr) (CO.ods (.ext x i))∧ps σ (evU (ev σ fr)) (.ext x i)) σ (cK P d r fr J) ⟨⟩:=aP rfl
theorem Ac {c:Bool} {x} {h:Hold (d,CO.nilc x,r,fr,σ,J)}:gdV P (some c) d (.nilc x) r fr σ J h=al (.opt c (pf σ (evU (ev σ fr)) (.nilc x))) (c=true→az c (ev σ fr) (CO.ods (.nilc x))∧ps σ (evU (ev σ fr)) (.nilc x)) σ (cK P d r fr J) ⟨⟩:=aP rfl
theorem Hd {c:Bool} {b x y} {h:Hold (d,CO.mm b x y,r,fr,σ,J)}:gdV P (some c) d (.mm b x y) r fr σ J h=al (.opt c (pf σ (evU (ev σ fr)) (.mm b x y))) (c=true→az c (ev σ fr) (CO.ods (.mm b x y))∧ps σ (evU (ev σ fr)) (.mm b x y)) σ (cK P d r fr J) ⟨⟩:=aP rfl
theorem Ev {c:Bool} {t e s b x y} {h:Hold (d,CO.app t e s b x y,r,fr,σ,J)}:gdV P (some c) d (.app t e s b x y) r fr σ J h=al (.opt c (pf σ (evU (ev σ fr)) (.app t e s b x y))) (c=true→az c (ev σ fr) (CO.ods (.app t e s b x y))∧ps σ (evU (ev σ fr)) (.app t e s b x y)) σ (cK P d r fr J) ⟨⟩:=aP rfl
theorem wP {k n x} {h:Hold (d,CO.isnil k n x,r,fr,σ,J)}:gdV P (some true) d (.isnil k n x) r fr σ J h=(az true (ev σ fr) (CO.ods (.isnil k n x))∧aOp P (evU (ev σ fr)) σ (cK P d r fr J) (.isnil k n x)):=gA rfl
theorem wQ {k n x} {h:Hold (d,CO.isnil k n x,r,fr,σ,J)}:gdV P (some false) d (.isnil k n x) r fr σ J h=cA P r (putF d (.opt false .junk) fr) σ J:=ji rfl
theorem wR {z} {h:Hold (d,CO.alloc z,r,fr,σ,J)}:gdV P (some true) d (.alloc z) r fr σ J h=(az true (ev σ fr) (CO.ods (.alloc z))∧aOp P (evU (ev σ fr)) σ (cK P d r fr J) (.alloc z)):=gA rfl
theorem wS {z} {h:Hold (d,CO.alloc z,r,fr,σ,J)}:gdV P (some false) d (.alloc z) r fr σ J h=cA P r (putF d (.opt false .junk) fr) σ J:=ji rfl
theorem Ew {n x} {h:Hold (d,CO.box n x,r,fr,σ,J)}:gdV P (some true) d (.box n x) r fr σ J h=(az true (ev σ fr) (CO.ods (.box n x))∧aOp P (evU (ev σ fr)) σ (cK P d r fr J) (.box n x)):=gA rfl
theorem Ey {n x} {h:Hold (d,CO.box n x,r,fr,σ,J)}:gdV P (some false) d (.box n x) r fr σ J h=cA P r (putF d (.opt false .junk) fr) σ J:=ji rfl
theorem He {n q x} {h:Hold (d,CO.st n q x,r,fr,σ,J)}:gdV P (some true) d (.st n q x) r fr σ J h=(az true (ev σ fr) (CO.ods (.st n q x))∧aOp P (evU (ev σ fr)) σ (cK P d r fr J) (.st n q x)):=gA rfl
theorem Hf {n q x} {h:Hold (d,CO.st n q x,r,fr,σ,J)}:gdV P (some false) d (.st n q x) r fr σ J h=cA P r (putF d (.opt false .junk) fr) σ J:=ji rfl
theorem Ad {g xs} {h:Hold (d,CO.call g xs,r,fr,σ,J)}:gdV P (some true) d (.call g xs) r fr σ J h=(az true (ev σ fr) (CO.ods (.call g xs))∧aOp P (evU (ev σ fr)) σ (cK P d r fr J) (.call g xs)):=gA rfl
theorem Ae {g xs} {h:Hold (d,CO.call g xs,r,fr,σ,J)}:gdV P (some false) d (.call g xs) r fr σ J h=cA P r (putF d (.opt false .junk) fr) σ J:=ji rfl
theorem Af {t x xs} {h:Hold (d,CO.invk t x xs,r,fr,σ,J)}:gdV P (some true) d (.invk t x xs) r fr σ J h=(az true (ev σ fr) (CO.ods (.invk t x xs))∧aOp P (evU (ev σ fr)) σ (cK P d r fr J) (.invk t x xs)):=gA rfl
theorem Ag {t x xs} {h:Hold (d,CO.invk t x xs,r,fr,σ,J)}:gdV P (some false) d (.invk t x xs) r fr σ J h=cA P r (putF d (.opt false .junk) fr) σ J:=ji rfl
theorem wT {x xs} {h:Hold (d,CO.callv x xs,r,fr,σ,J)}:gdV P (some true) d (.callv x xs) r fr σ J h=(az true (ev σ fr) (CO.ods (.callv x xs))∧aOp P (evU (ev σ fr)) σ (cK P d r fr J) (.callv x xs)):=gA rfl
theorem wV {x xs} {h:Hold (d,CO.callv x xs,r,fr,σ,J)}:gdV P (some false) d (.callv x xs) r fr σ J h=cA P r (putF d (.opt false .junk) fr) σ J:=ji rfl
theorem cn {α:Type} (F:α→Fr) (S:α→St) (I:α→Prop) (μ:α→Nat) (a0:α) {h:Hold (x,σ,Q)} (hf:aK (F a0) fr) (hs:St.le (S a0) σ) (h0:I a0)
  (hr:∀ a,I a→aC P x (F a) (S a) (fl (fun fr' σ'=>∃ b,I b∧aK (F b) fr'∧St.le (S b) σ'∧μ b<μ a) Q)):oe P x fr σ Q h:=by
 refine ⟨[],α,F,S,I,μ,a0,h0,hf,hs,fun a ha=>?_⟩
 have:=hr a ha
 unfold fl at this
 exact this
theorem bq (n:Nat) (F:Nat→Fr) (S:Nat→St) (I:Nat→Prop) {h:Hold (x,σ,Q)} (hf:aK (F 0) fr) (hs:St.le (S 0) σ) (h0:I 0)
  (hr:∀ k,k≤n→I k→aC P x (F k) (S k) (fl (fun fr' σ'=>k<n∧I (k+1)∧aK (F (k+1)) fr'∧St.le (S (k+1)) σ') Q)):oe P x fr σ Q h:=by
 refine cn F S (fun k=>k≤n∧I k) (fun k=>n - k) 0 hf hs ⟨Nat.zero_le _,h0⟩ (fun k ⟨hk,hI⟩=>?_)
 have:=hr k hk hI
 have e:(fl (fun fr' σ'=>k<n∧I (k+1)∧aK (F (k+1)) fr'∧St.le (S (k+1)) σ') Q)=(fl (fun fr' σ'=>k<n∧I (k+1)∧aK (F (k+1)) fr'∧St.le (S (k+1)) σ') Q):=rfl
 refine cg _ _ _ this ?_
 intro ex fr' σ' hx
 cases ex<;>simp only [fl] at hx ⊢ <;>try exact hx
 exact ⟨k+1,⟨hx.1,hx.2.1⟩,hx.2.2.1,hx.2.2.2,by omega⟩
theorem b8 {c:Bool} {op:CO} {h:Hold (d,op,r,fr,σ,J)} (h1:c=true→gdV P (some true) d op r fr σ J ⟨⟩) (h2:c=false→gdV P (some false) d op r fr σ J ⟨⟩):gdV P (some c) d op r fr σ J h:=by
 cases c
 ·exact h2 rfl
 ·exact h1 rfl
end
def Pu (P:Program) (f:Nat) (as:List AV) (v:AV):Prop:=∀ σ,AC P f as σ (fun r s=>r=v∧s=σ)
section
variable {P:Program} {f:Nat} {as bs:List AV} {σ:St} {R K:AV→St→Prop} {v:AV}
theorem AC.wk (h:AC P f bs σ R) (hw:wkL as bs):AC P f as σ R:=fun g w vs hI hv=>h g w vs hI (jJ hw hv)
theorem Pu.to (h:Pu P f bs v) (hw:wkL as bs) (hK:K v σ):AC P f as σ K :=
 AC.mono ((h σ).wk hw) (fun r s ⟨e1,e2⟩=>by subst e1;subst e2;exact hK)
theorem Pu.all (h:Pu P f bs v) (hw:wkL as bs):∀ σ2,St.le σ σ2→AC P f as σ2 (fun x s=>x=v∧s=σ2):=fun σ2 _=>(h σ2).wk hw
theorem aA {res:List RV} {R:AV→St→Prop} {e:Exit} {fr:Fr} {σ σ':St} {r:AV} (he:e= .ret∨e= .normal) (hs:aw σ fr res) (hw:wk (eV (res.map (rvV σ fr))) r) (hl:St.le σ' σ) (hR:R r σ'):fL res R e fr σ :=
 ⟨he,hs,r,σ',hw,hl,hR⟩
theorem Ah (cf:CF) (hf:fB P f cf=true) (hn:as.length≤cf.n) (h:∀ σ,aC P cf.body (dT 0 as) σ (fL cf.res (fun r s=>r=v∧s=σ))):Pu P f as v:=fun σ=>jL cf hf hn (h σ)
theorem Ez {res:List RV} {v:AV} {σ0:St} {e:Exit} {fr:Fr} {σ:St} (he:e= .ret∨e= .normal) (hs:aw σ fr res) (hw:wk (eV (res.map (rvV σ fr))) v) (hl:St.le σ0 σ):fL res (fun r s=>r=v∧s=σ0) e fr σ :=
 ⟨he,hs,v,σ0,hw,hl,rfl,rfl⟩
theorem qR {α:Type} {f:Nat→Option α} {k j:Nat} {v:α}:upd f k v j=none↔j≠k∧f j=none:=by
 unfold upd;split<;>simp_all
theorem St.set_set (σ:St) (β:Nat) (c d:List AV):(σ.ad β c).ad β d=σ.ad β d:=by
 simp only [St.ad,St.mk.injEq,and_true]
 funext j;simp only [upd];split<;>rfl
theorem St.set_comm (σ:St) {β γ:Nat} (h:β≠γ) (c d:List AV):(σ.ad β c).ad γ d=(σ.ad γ d).ad β c:=by
 simp only [St.ad,St.mk.injEq,and_true]
 funext j;simp only [upd]
 by_cases h1:j=γ<;>by_cases h2:j=β
 ·subst h1;subst h2;exact (h rfl).elim
 ·simp [h1,Ne.symm h]
 ·simp [h2,h]
 ·simp [h1,h2]
theorem St.bo (σ:St) (β:Nat) (c:List AV):(σ.ad β c).box β=some c:=by simp [St.ad,upd]
theorem St.wW (σ:St) {β γ:Nat} (c:List AV) (h:γ≠β):(σ.ad β c).box γ=σ.box γ:=by simp [St.ad,upd,h]
theorem St.qS {σ:St} {β γ:Nat} {c:List AV}:(σ.ad β c).box γ=none↔γ≠β∧σ.box γ=none:=qR
theorem St.Ai (σ:St) (β:Nat) (c:List AV):(σ.ad β c).glob=σ.glob:=rfl
theorem St.aR {σ σ':St} {β:Nat} {c:List AV} (h:St.le σ σ') (hn:σ.box β=none):St.le σ (σ'.ad β c):=St.aL h hn
theorem St.EA {σ σ':St} {β:Nat} {c:List AV} (h:∀ γ d,γ≠β→σ.box γ=some d→σ'.box γ=some d) (ht:∀ τ x,σ.tip τ=some x→σ'.tip τ=some x) (hg:∀ k d,σ.glob k=some d→σ'.glob k=some d) (hl:∀ k d,σ.lp k=some d→σ'.lp k=some d) (hbt:∀ k d,σ.bt k=some d→σ'.bt k=some d):St.le (σ.ad β c) (σ'.ad β c):=by
 refine ⟨fun γ d hd=>?_,ht,hg,hl,hbt⟩
 simp only [St.ad,upd] at hd ⊢
 split
 ·rename_i e;subst e;simpa using hd
 ·rename_i e;rw [if_neg e] at hd;exact h γ d e hd
theorem St.EB {σ σ':St} (β:Nat) (c:List AV) (h:St.le σ σ'):St.le (σ.ad β c) (σ'.ad β c) :=
 St.EA (fun γ d _ hd=>h.1 γ d hd) h.2.1 h.2.2.1 h.2.2.2.1 h.2.2.2.2
end
section
variable {α:Type} {f:α→List AV} {s:Nat}
theorem aD (hf:∀ x,(f x).length=s):∀ l:List α,(l.flatMap f).length=l.length*s
 | []=>by simp
 | x::l=>by simp [List.flatMap_cons,hf,aD hf l,Nat.succ_mul,Nat.add_comm]
theorem oi (hf:∀ x,(f x).length=s):∀ (l:List α) (k:Nat),(l.flatMap f).drop (k*s)=(l.drop k).flatMap f
  | l,0=>by simp
  | [],k+1=>by simp
  | x :: l, k + 1 => by
    rw [List.flatMap_cons,Nat.succ_mul,Nat.add_comm,List.drop_append,hf]
    simp only [List.drop_succ_cons]
    rw [List.drop_eq_nil_of_le (by rw [hf];omega),List.nil_append,show s+k*s - s=k*s by omega,oi hf l k]
theorem flat_get (hf:∀ x,(f x).length=s) (l:List α) (k:Nat) (h:k<l.length):((l.flatMap f).drop (k*s)).take s=f l[k]:=by
 rw [oi hf,List.drop_eq_getElem_cons h,List.flatMap_cons,List.take_append,hf]
 simp only [Nat.sub_self,List.take_zero,List.append_nil]
 exact List.take_of_length_le (by rw [hf];omega)
end
theorem wrap64 {n:Int} (h1 : -9223372036854775808≤n) (h2:n≤9223372036854775807):IntKind.i64.wrap n=n:=by
 simp [IntKind.wrap,IntKind.bits,IntKind.signed]
 split<;>omega
theorem vl {n:Int} (h1:0≤n) (h2:n≤18446744073709551615):IntKind.u64.wrap n=n:=by
 simp [IntKind.wrap,IntKind.bits,IntKind.signed]
 omega
theorem wX {k n:Nat} (h:k<n) (hn:n≤maxLen):IntKind.i64.wrap ((k:Int)+1)=((k+1:Nat):Int):=by
 unfold maxLen at hn
 rw [wrap64 Oz Oz]
 simp
def aQ (P:Program) (d:Option Nat) (r:List CI) (cs:List Nat) (fr:Fr) (K:Fr→St→Prop) (v:AV) (σ:St):Prop:=aF P r cs (putF d v fr) σ K
def px (P:Program) (f:Nat) (as:List AV) (σ:St) (K:AV→St→Prop) (_:Hold (σ,K)):Prop:=∃ v,(∀ σ2,St.le σ σ2→AC P f as σ2 (fun x s=>x=v∧s=σ2))∧K v σ
def tz (P:Program) (f:Nat) (as:List AV) (σ:St) (K:AV→St→Prop) (_:Hold (σ,K)):Prop:=∃ v σ',AC P f as σ (fun x s=>x=v∧s=σ')∧(σ'.glob=σ.glob∧(∀ γ,σ.box γ=none→σ'.box γ=none)∧∀ γ,σ.tip γ=none→σ'.tip γ=none)∧K v σ'
def mn (P:Program) (b:Bool) (f:Nat) (p:Prop) (as:List AV) (σ:St) (K:AV→St→Prop) (_:Hold (σ,K)):Prop:=∃ v,(b=true→p∧∀ σ2,St.le σ σ2→AC P f as σ2 (fun x s=>x=v∧s=σ2))∧K (.opt b v) σ
def tC (kind:Nat) (neg:Bool) (v:AV) (σ:St) (K:AV→St→Prop) (_:Hold (σ,K)):Prop:=dx kind v=true∧∃ b0,(∀ b,fy kind v b→b=b0)∧K (.bool (bif neg then !b0 else b0)) σ
def appS (tp : Bool) (c : Nat) (e es bytes : Nat) (x y : AV) (σ : St) (K : AV → St → Prop) (β : Nat) : Prop := ∃ v σ', (match x with
    | .tsl τ n cs => (c = 2 ∨ c = 4) ∧ match slv y with
      | some (m,ds)=>σ.tip τ=some (e,es,n)∧cs.length=n*es∧ds.length=m*es∧n+m≤maxLen∧(n+m)*bytes≤140737488355328∧v= .tsl τ (n+m) (cs++ds)∧σ'=σ.ai τ (e,es,n+m)
      | none=>False
    | x => bif Nat.beq c 4 then (tp = true ∧ match slv x, slv y with
        | some (n,cs),some (m,ds)=>fresh x∧cs.length=n*es∧ds.length=m*es∧n+m≤maxLen∧(n+m)*bytes≤140737488355328∧v= .tsl β (n+m) (cs++ds)∧σ'=σ.ai β (e,es,n+m)
        | _,_=>False)
      else (c≤1∧ps σ (ab x y) (.app false e es bytes (.t 0) (.t 1))∧v=pf σ (ab x y) (.app false e es bytes (.t 0) (.t 1))∧σ'=σ))∧K v σ'
def EC (tp:Bool) (c:Nat) (e es bytes:Nat) (x y:AV) (σ:St) (K:AV→St→Prop) (_:Hold (σ,K)):Prop :=
 bif tp&&Nat.beq c 4 then ∀ β,σ.tip β=none→appS tp c e es bytes x y σ K β else appS tp c e es bytes x y σ K 0
def gdD (P:Program) (c:Nat) (gc:Option Bool) (d:Option Nat) (op:CO) (r:List CI) (cs:List Nat) (fr:Fr) (σ:St) (K:Fr→St→Prop) (_:Hold (d,op,r,cs,fr,σ,K)):Prop :=
  ∃ v σ', (match gc with
    | none=>False
    | some b => bif op.quiet then
        (isLd op=true→c=1)∧c≤1∧(b=true→az b (ev σ fr) op.qv∧ps σ (gEv op (ev σ fr)) op)∧v= .opt b (bif b then pf σ (gEv op (ev σ fr)) op else .junk)∧σ'=σ
      else match op with
        | .call f args=>c=1∧σ'=σ∧∃ v0,v= .opt b v0∧(b=true→az b (ev σ fr) args∧∀ σ2,St.le σ σ2→AC P f (args.map (evU (ev σ fr))) σ2 (fun x s=>x=v0∧s=σ2))
        | .callv x args => c = 1 ∧ σ' = σ ∧ ∃ v0, v = .opt b v0 ∧ (b = true → az     b (ev σ fr) (x :: args) ∧ match evU (ev σ fr) x with
          | .fn f cap=>∀ σ2,St.le σ σ2→AC P f (args.map (evU (ev σ fr))++cap) σ2 (fun y s=>y=v0∧s=σ2)
          | _=>False)
        | _=>False)∧aF P r cs (putF d v fr) σ' K
section
variable {P:Program} {σ:St} {K:AV→St→Prop} {fr:Fr} {J:Fr→St→Prop} {d:Option Nat} {r:List CI} {cs:List Nat} {c n f:Nat} {v:AV} {as bs:List AV}
theorem ED:aQ P d r cs fr J v σ=aF P r cs (putF d v fr) σ J:=rfl
theorem Aj:aF P [] cs fr σ J=J fr σ:=by simp only [aF]
theorem tD {z:List AV}:aF P (⟨d, .alloc z,none⟩::r) (c::cs) fr σ J=tg True z σ (fun v σ'=>(c=2∨c=3)∧aQ P d r cs fr J v σ') ⟨⟩:=by
 simp only [aF,aJ,cond_true,dStep,dOp,tg,aQ]
 apply propext;constructor
 ·intro h
  exact ⟨trivial,fun β hβ=>by obtain ⟨_,_,⟨hc,rfl,rfl⟩,h2⟩:=h β hβ;exact ⟨hc,h2⟩⟩
 ·rintro ⟨_,h⟩ β hβ
  exact ⟨_,_,⟨(h β hβ).1,rfl,rfl⟩,(h β hβ).2⟩
theorem Ak {x:Od}:aF P (⟨d, .box n x,none⟩::r) (c::cs) fr σ J=tg True (ev σ fr x).cells σ (fun v σ'=>(c=2∧(ev σ fr x).fits=true∧(ev σ fr x).cells.length=n)∧aQ P d r cs fr J v σ') ⟨⟩:=by
 simp only [aF,aJ,cond_true,dStep,dOp,tg,aQ]
 apply propext;constructor
 ·intro h
  exact ⟨trivial,fun β hβ=>by obtain ⟨_,_,⟨hc,h3,h4,rfl,rfl⟩,h2⟩:=h β hβ;exact ⟨⟨hc,h3,h4⟩,h2⟩⟩
 ·rintro ⟨_,h⟩ β hβ
  obtain ⟨⟨h1,h3,h4⟩,h2⟩:=h β hβ
  exact ⟨_,_,⟨h1,h3,h4,rfl,rfl⟩,h2⟩
theorem EE {p x:Od}:aF P (⟨d, .st n p x,none⟩::r) (c::cs) fr σ J=stV (ev σ fr p) (ev σ fr x) n σ (fun v σ'=>c=2∧aQ P d r cs fr J v σ') ⟨⟩:=by
  simp only [aF,aJ,aM,cond_false,dStep,dOp,stV,aQ]
  apply propext
  generalize ev σ fr p=vp
  cases vp
  case ptr γ off =>
    simp only
    cases hb:σ.box γ with
    | none=>simp
    | some cs' =>
      simp only
      constructor
      · rintro ⟨v,σ',⟨hc,q1,q2,q3,rfl,rfl⟩,h2⟩
        exact ⟨q1,q2,q3,hc,h2⟩
      · rintro ⟨q1,q2,q3,hc,h2⟩
        exact ⟨_,_,⟨hc,q1,q2,q3,rfl,rfl⟩,h2⟩
  all_goals simp
theorem wY {args:List Od}:aF P (⟨d, .call f args,none⟩::r) (1::cs) fr σ J=px P f (args.map (ev σ fr)) σ (fun v σ'=>aQ P d r cs fr J v σ') ⟨⟩:=by
 show (∃ v σ',dOp P 1 0 (ev σ fr) σ (.call f args) v σ'∧aF P r cs (putF d v fr) σ' J)=_
 apply propext;constructor
 ·rintro ⟨v,σ',h|h,h2⟩
  ·obtain ⟨_,rfl,h⟩:=h;exact ⟨v,h,h2⟩
  ·exact absurd h.1 OK
 ·rintro ⟨v,h,h2⟩;exact ⟨v,_, .inl ⟨rfl,rfl,h⟩,h2⟩
theorem tE {args:List Od}:aF P (⟨d, .call f args,none⟩::r) (2::cs) fr σ J=tz P f (args.map (ev σ fr)) σ (fun v σ'=>aQ P d r cs fr J v σ') ⟨⟩:=by
 show (∃ v σ',dOp P 2 0 (ev σ fr) σ (.call f args) v σ'∧aF P r cs (putF d v fr) σ' J)=_
 apply propext;constructor
 ·rintro ⟨v,σ',h|h,h2⟩
  ·exact absurd h.1 OK
  ·exact ⟨v,σ',h.2.1,h.2.2,h2⟩
 ·rintro ⟨v,σ',h1,h,h2⟩;exact ⟨v,_, .inr ⟨rfl,h1,h⟩,h2⟩
theorem tF {kind:Nat} {neg:Bool} {x:Od}:aF P (⟨d, .isnil kind neg x,none⟩::r) (c::cs) fr σ J=tC kind neg (ev σ fr x) σ (fun v σ'=>c≤1∧aQ P d r cs fr J v σ') ⟨⟩:=by
 simp only [aF,aJ,aM,cond_false,dStep,dOp,tC,aQ]
 apply propext;constructor
 ·rintro ⟨v,σ',⟨hc,h1,rfl,b0,h3,rfl⟩,h2⟩;exact ⟨h1,b0,h3,hc,h2⟩
 ·rintro ⟨h1,b0,h3,hc,h2⟩;exact ⟨_,_,⟨hc,h1,rfl,b0,h3,rfl⟩,h2⟩
theorem Al {tp:Bool} {e es bytes:Nat} {x y:Od}:aF P (⟨d, .app tp e es bytes x y,none⟩::r) (c::cs) fr σ J=EC tp c e es bytes (ev σ fr x) (ev σ fr y) σ (aQ P d r cs fr J) ⟨⟩:=by
 have h:∀ β,appS tp c e es bytes (ev σ fr x) (ev σ fr y) σ (aQ P d r cs fr J) β=∃ v σ',dStep P c β ⟨d, .app tp e es bytes x y,none⟩ fr σ v σ'∧aF P r cs (putF d v fr) σ' J:=by
  intro β
  simp only [dStep,dOp,appS,aQ]
  cases h:ev σ fr x<;>simp only [ps,pf,ab,h]<;>rfl
 simp only [aF,aJ,aM,cond_false,EC,h]
theorem qT {h:Hold (σ,K)} {σ':St} (hp:AC P f bs σ (fun x s=>x=v∧s=σ')) (hw:wkL as bs) (hs:σ'.glob=σ.glob∧(∀ γ,σ.box γ=none→σ'.box γ=none)∧∀ γ,σ.tip γ=none→σ'.tip γ=none) (hK:K v σ'):tz P f as σ K h:=⟨v,σ',hp.wk hw,hs,hK⟩
theorem bd {h:Hold (σ,K)} (hp:Pu P f bs v) (hw:wkL as bs) (hK:K v σ):px P f as σ K h:=⟨v,hp.all hw,hK⟩
theorem iz {b:Bool} {p:Prop} {h:Hold (σ,K)} (hp:b=true→p∧Pu P f bs v∧wkL as bs) (hK:K (.opt b v) σ):mn P b f p as σ K h:=⟨v,fun hb=>⟨(hp hb).1,(hp hb).2.1.all (hp hb).2.2⟩,hK⟩
theorem aN {op:CO} {t:Nat} {want:Bool} (hm:aJ op=false) (hm2:aM c op=false):aF P (⟨d,op,some (t,want)⟩::r) (c::cs) fr σ J=gdD P c (aV want (slot t fr)) d op r cs fr σ J ⟨⟩:=by
 simp only [aF,hm,hm2,cond_false,dStep,gdD]
 generalize aV want (slot t fr)=gc
 cases gc with
 | none=>rfl
 | some b=>cases op<;>rfl
theorem aZ {b:Bool} {op:CO} {h:Hold (d,op,r,cs,fr,σ,J)} (hq:op.quiet=true):gdD P c (some b) d op r cs fr σ J h=al (.opt b (bif b then pf σ (gEv op (ev σ fr)) op else .junk)) (((isLd op=true→c=1)∧c≤1)∧(b=true→az b (ev σ fr) op.qv∧ps σ (gEv op (ev σ fr)) op)) σ (aQ P d r cs fr J) ⟨⟩:=by
 simp only [gdD,hq,cond_true,al,aQ]
 apply propext;constructor
 ·rintro ⟨v,σ',⟨h1,h2,h3,rfl,rfl⟩,h4⟩;exact ⟨⟨⟨h1,h2⟩,h3⟩,h4⟩
 ·rintro ⟨⟨⟨h1,h2⟩,h3⟩,h4⟩;exact ⟨_,_,⟨h1,h2,h3,rfl,rfl⟩,h4⟩
theorem Am {b:Bool} {args:List Od} {h:Hold (d,CO.call f args,r,cs,fr,σ,J)}:gdD P c (some b) d (.call f args) r cs fr σ J h=mn P b f (az b (ev σ fr) args) (args.map (evU (ev σ fr))) σ (fun v σ'=>c=1∧aQ P d r cs fr J v σ') ⟨⟩:=by
 have hq:(CO.call f args).quiet=false:=rfl
 simp only [gdD,hq,cond_false,mn,aQ]
 apply propext;constructor
 ·rintro ⟨v,σ',⟨hc,rfl,v0,rfl,h3⟩,h4⟩;exact ⟨v0,h3,hc,h4⟩
 ·rintro ⟨v0,h3,hc,h4⟩;exact ⟨_,_,⟨hc,rfl,v0,rfl,h3⟩,h4⟩
theorem An {ts ns k z x}:aF P (⟨d, .asT ts ns k z x,none⟩::r) (c::cs) fr σ J=al (pf σ (ev σ fr) (.asT ts ns k z x)) (c≤1∧ps σ (ev σ fr) (.asT ts ns k z x)) σ (aQ P d r cs fr J) ⟨⟩:=by
 simp only [aF,aJ,aM,cond_false,dStep,dOp,al,aQ]
 apply propext;constructor
 ·rintro ⟨w,s,⟨h1,h2,h3,rfl,rfl⟩,h⟩;exact ⟨⟨h2,h3⟩,h⟩
 ·rintro ⟨⟨h2,h3⟩,h⟩;exact ⟨_,_,⟨(fun e=>by simp [isLd] at e),h2,h3,rfl,rfl⟩,h⟩
theorem Ao {z x}:aF P (⟨d, .ldE z x,none⟩::r) (c::cs) fr σ J=al (pf σ (ev σ fr) (.ldE z x)) (c≤1∧ps σ (ev σ fr) (.ldE z x)) σ (aQ P d r cs fr J) ⟨⟩:=by
 simp only [aF,aJ,aM,cond_false,dStep,dOp,al,aQ]
 apply propext;constructor
 ·rintro ⟨w,s,⟨h1,h2,h3,rfl,rfl⟩,h⟩;exact ⟨⟨h2,h3⟩,h⟩
 ·rintro ⟨⟨h2,h3⟩,h⟩;exact ⟨_,_,⟨(fun e=>by simp [isLd] at e),h2,h3,rfl,rfl⟩,h⟩
theorem EF {x}:aF P (⟨d, .mv x,none⟩::r) (c::cs) fr σ J=al (pf σ (ev σ fr) (.mv x)) (c≤1∧ps σ (ev σ fr) (.mv x)) σ (aQ P d r cs fr J) ⟨⟩:=by
 simp only [aF,aJ,aM,cond_false,dStep,dOp,al,aQ]
 apply propext;constructor
 ·rintro ⟨w,s,⟨h1,h2,h3,rfl,rfl⟩,h⟩;exact ⟨⟨h2,h3⟩,h⟩
 ·rintro ⟨⟨h2,h3⟩,h⟩;exact ⟨_,_,⟨(fun e=>by simp [isLd] at e),h2,h3,rfl,rfl⟩,h⟩
theorem Ap {x} {tt:Nat} {want:Bool}:aF P (⟨d, .mv x,some (tt,want)⟩::r) (c::cs) fr σ J=gdD P c (aV want (slot tt fr)) d (.mv x) r cs fr σ J ⟨⟩:=aN rfl rfl
theorem EG {bb:Bool} {x} {h:Hold (d,CO.mv x,r,cs,fr,σ,J)}:gdD P c (some bb) d (.mv x) r cs fr σ J h=al (.opt bb (bif bb then pf σ (evU (ev σ fr)) (.mv x) else .junk)) (((isLd (.mv x)=true→c=1)∧c≤1)∧(bb=true→az bb (ev σ fr) (CO.ods (.mv x))∧ps σ (evU (ev σ fr)) (.mv x))) σ (aQ P d r cs fr J) ⟨⟩:=aZ rfl
theorem wZ {x a b}:aF P (⟨d, .pick x a b,none⟩::r) (c::cs) fr σ J=al (pf σ (ev σ fr) (.pick x a b)) (c≤1∧ps σ (ev σ fr) (.pick x a b)) σ (aQ P d r cs fr J) ⟨⟩:=by
 simp only [aF,aJ,aM,cond_false,dStep,dOp,al,aQ]
 apply propext;constructor
 ·rintro ⟨w,s,⟨h1,h2,h3,rfl,rfl⟩,h⟩;exact ⟨⟨h2,h3⟩,h⟩
 ·rintro ⟨⟨h2,h3⟩,h⟩;exact ⟨_,_,⟨(fun e=>by simp [isLd] at e),h2,h3,rfl,rfl⟩,h⟩
theorem tG {x a b} {tt:Nat} {want:Bool}:aF P (⟨d, .pick x a b,some (tt,want)⟩::r) (c::cs) fr σ J=gdD P c (aV want (slot tt fr)) d (.pick x a b) r cs fr σ J ⟨⟩:=aN rfl rfl
theorem w7 {bb:Bool} {x a b} {h:Hold (d,CO.pick x a b,r,cs,fr,σ,J)}:gdD P c (some bb) d (.pick x a b) r cs fr σ J h=al (.opt bb (bif bb then pf σ (kR x (ev σ fr)) (.pick x a b) else .junk)) (((isLd (.pick x a b)=true→c=1)∧c≤1)∧(bb=true→az bb (ev σ fr) [x]∧ps σ (kR x (ev σ fr)) (.pick x a b))) σ (aQ P d r cs fr J) ⟨⟩:=aZ rfl
theorem EH {u x}:aF P (⟨d, .un u x,none⟩::r) (c::cs) fr σ J=al (pf σ (ev σ fr) (.un u x)) (c≤1∧ps σ (ev σ fr) (.un u x)) σ (aQ P d r cs fr J) ⟨⟩:=by
 simp only [aF,aJ,aM,cond_false,dStep,dOp,al,aQ]
 apply propext;constructor
 ·rintro ⟨w,s,⟨h1,h2,h3,rfl,rfl⟩,h⟩;exact ⟨⟨h2,h3⟩,h⟩
 ·rintro ⟨⟨h2,h3⟩,h⟩;exact ⟨_,_,⟨(fun e=>by simp [isLd] at e),h2,h3,rfl,rfl⟩,h⟩
theorem Aq {u x} {tt:Nat} {want:Bool}:aF P (⟨d, .un u x,some (tt,want)⟩::r) (c::cs) fr σ J=gdD P c (aV want (slot tt fr)) d (.un u x) r cs fr σ J ⟨⟩:=aN rfl rfl
theorem EI {bb:Bool} {u x} {h:Hold (d,CO.un u x,r,cs,fr,σ,J)}:gdD P c (some bb) d (.un u x) r cs fr σ J h=al (.opt bb (bif bb then pf σ (evU (ev σ fr)) (.un u x) else .junk)) (((isLd (.un u x)=true→c=1)∧c≤1)∧(bb=true→az bb (ev σ fr) (CO.ods (.un u x))∧ps σ (evU (ev σ fr)) (.un u x))) σ (aQ P d r cs fr J) ⟨⟩:=aZ rfl
theorem Ar {u x y}:aF P (⟨d, .bin u x y,none⟩::r) (c::cs) fr σ J=al (pf σ (ev σ fr) (.bin u x y)) (c≤1∧ps σ (ev σ fr) (.bin u x y)) σ (aQ P d r cs fr J) ⟨⟩:=by
 simp only [aF,aJ,aM,cond_false,dStep,dOp,al,aQ]
 apply propext;constructor
 ·rintro ⟨w,s,⟨h1,h2,h3,rfl,rfl⟩,h⟩;exact ⟨⟨h2,h3⟩,h⟩
 ·rintro ⟨⟨h2,h3⟩,h⟩;exact ⟨_,_,⟨(fun e=>by simp [isLd] at e),h2,h3,rfl,rfl⟩,h⟩
theorem w8 {u x y} {tt:Nat} {want:Bool}:aF P (⟨d, .bin u x y,some (tt,want)⟩::r) (c::cs) fr σ J=gdD P c (aV want (slot tt fr)) d (.bin u x y) r cs fr σ J ⟨⟩:=aN rfl rfl
theorem As {bb:Bool} {u x y} {h:Hold (d,CO.bin u x y,r,cs,fr,σ,J)}:gdD P c (some bb) d (.bin u x y) r cs fr σ J h=al (.opt bb (bif bb then pf σ (evU (ev σ fr)) (.bin u x y) else .junk)) (((isLd (.bin u x y)=true→c=1)∧c≤1)∧(bb=true→az bb (ev σ fr) (CO.ods (.bin u x y))∧ps σ (evU (ev σ fr)) (.bin u x y))) σ (aQ P d r cs fr J) ⟨⟩:=aZ rfl
theorem At {n ks x y}:aF P (⟨d, .eqA n ks x y,none⟩::r) (c::cs) fr σ J=al (pf σ (ev σ fr) (.eqA n ks x y)) (c≤1∧ps σ (ev σ fr) (.eqA n ks x y)) σ (aQ P d r cs fr J) ⟨⟩:=by
 simp only [aF,aJ,aM,cond_false,dStep,dOp,al,aQ]
 apply propext;constructor
 ·rintro ⟨w,s,⟨h1,h2,h3,rfl,rfl⟩,h⟩;exact ⟨⟨h2,h3⟩,h⟩
 ·rintro ⟨⟨h2,h3⟩,h⟩;exact ⟨_,_,⟨(fun e=>by simp [isLd] at e),h2,h3,rfl,rfl⟩,h⟩
theorem w9 {n ks x y} {tt:Nat} {want:Bool}:aF P (⟨d, .eqA n ks x y,some (tt,want)⟩::r) (c::cs) fr σ J=gdD P c (aV want (slot tt fr)) d (.eqA n ks x y) r cs fr σ J ⟨⟩:=aN rfl rfl
theorem Au {bb:Bool} {n ks x y} {h:Hold (d,CO.eqA n ks x y,r,cs,fr,σ,J)}:gdD P c (some bb) d (.eqA n ks x y) r cs fr σ J h=al (.opt bb (bif bb then pf σ (evU (ev σ fr)) (.eqA n ks x y) else .junk)) (((isLd (.eqA n ks x y)=true→c=1)∧c≤1)∧(bb=true→az bb (ev σ fr) (CO.ods (.eqA n ks x y))∧ps σ (evU (ev σ fr)) (.eqA n ks x y))) σ (aQ P d r cs fr J) ⟨⟩:=aZ rfl
theorem Av {n x y}:aF P (⟨d, .eqb n x y,none⟩::r) (c::cs) fr σ J=al (pf σ (ev σ fr) (.eqb n x y)) (c≤1∧ps σ (ev σ fr) (.eqb n x y)) σ (aQ P d r cs fr J) ⟨⟩:=by
 simp only [aF,aJ,aM,cond_false,dStep,dOp,al,aQ]
 apply propext;constructor
 ·rintro ⟨w,s,⟨h1,h2,h3,rfl,rfl⟩,h⟩;exact ⟨⟨h2,h3⟩,h⟩
 ·rintro ⟨⟨h2,h3⟩,h⟩;exact ⟨_,_,⟨(fun e=>by simp [isLd] at e),h2,h3,rfl,rfl⟩,h⟩
theorem xq {n x y} {tt:Nat} {want:Bool}:aF P (⟨d, .eqb n x y,some (tt,want)⟩::r) (c::cs) fr σ J=gdD P c (aV want (slot tt fr)) d (.eqb n x y) r cs fr σ J ⟨⟩:=aN rfl rfl
theorem Aw {bb:Bool} {n x y} {h:Hold (d,CO.eqb n x y,r,cs,fr,σ,J)}:gdD P c (some bb) d (.eqb n x y) r cs fr σ J h=al (.opt bb (bif bb then pf σ (evU (ev σ fr)) (.eqb n x y) else .junk)) (((isLd (.eqb n x y)=true→c=1)∧c≤1)∧(bb=true→az bb (ev σ fr) (CO.ods (.eqb n x y))∧ps σ (evU (ev σ fr)) (.eqb n x y))) σ (aQ P d r cs fr J) ⟨⟩:=aZ rfl
theorem Ax {k x}:aF P (⟨d, .cnv k x,none⟩::r) (c::cs) fr σ J=al (pf σ (ev σ fr) (.cnv k x)) (c≤1∧ps σ (ev σ fr) (.cnv k x)) σ (aQ P d r cs fr J) ⟨⟩:=by
 simp only [aF,aJ,aM,cond_false,dStep,dOp,al,aQ]
 apply propext;constructor
 ·rintro ⟨w,s,⟨h1,h2,h3,rfl,rfl⟩,h⟩;exact ⟨⟨h2,h3⟩,h⟩
 ·rintro ⟨⟨h2,h3⟩,h⟩;exact ⟨_,_,⟨(fun e=>by simp [isLd] at e),h2,h3,rfl,rfl⟩,h⟩
theorem xr {k x} {tt:Nat} {want:Bool}:aF P (⟨d, .cnv k x,some (tt,want)⟩::r) (c::cs) fr σ J=gdD P c (aV want (slot tt fr)) d (.cnv k x) r cs fr σ J ⟨⟩:=aN rfl rfl
theorem Ay {bb:Bool} {k x} {h:Hold (d,CO.cnv k x,r,cs,fr,σ,J)}:gdD P c (some bb) d (.cnv k x) r cs fr σ J h=al (.opt bb (bif bb then pf σ (evU (ev σ fr)) (.cnv k x) else .junk)) (((isLd (.cnv k x)=true→c=1)∧c≤1)∧(bb=true→az bb (ev σ fr) (CO.ods (.cnv k x))∧ps σ (evU (ev σ fr)) (.cnv k x))) σ (aQ P d r cs fr J) ⟨⟩:=aZ rfl
theorem Az {x}:aF P (⟨d, .b2s x,none⟩::r) (c::cs) fr σ J=al (pf σ (ev σ fr) (.b2s x)) (c≤1∧ps σ (ev σ fr) (.b2s x)) σ (aQ P d r cs fr J) ⟨⟩:=by
 simp only [aF,aJ,aM,cond_false,dStep,dOp,al,aQ]
 apply propext;constructor
 ·rintro ⟨w,s,⟨h1,h2,h3,rfl,rfl⟩,h⟩;exact ⟨⟨h2,h3⟩,h⟩
 ·rintro ⟨⟨h2,h3⟩,h⟩;exact ⟨_,_,⟨(fun e=>by simp [isLd] at e),h2,h3,rfl,rfl⟩,h⟩
theorem xt {x} {tt:Nat} {want:Bool}:aF P (⟨d, .b2s x,some (tt,want)⟩::r) (c::cs) fr σ J=gdD P c (aV want (slot tt fr)) d (.b2s x) r cs fr σ J ⟨⟩:=aN rfl rfl
theorem AA {bb:Bool} {x} {h:Hold (d,CO.b2s x,r,cs,fr,σ,J)}:gdD P c (some bb) d (.b2s x) r cs fr σ J h=al (.opt bb (bif bb then pf σ (evU (ev σ fr)) (.b2s x) else .junk)) (((isLd (.b2s x)=true→c=1)∧c≤1)∧(bb=true→az bb (ev σ fr) (CO.ods (.b2s x))∧ps σ (evU (ev σ fr)) (.b2s x))) σ (aQ P d r cs fr J) ⟨⟩:=aZ rfl
theorem AB {x}:aF P (⟨d, .len x,none⟩::r) (c::cs) fr σ J=al (pf σ (ev σ fr) (.len x)) (c≤1∧ps σ (ev σ fr) (.len x)) σ (aQ P d r cs fr J) ⟨⟩:=by
 simp only [aF,aJ,aM,cond_false,dStep,dOp,al,aQ]
 apply propext;constructor
 ·rintro ⟨w,s,⟨h1,h2,h3,rfl,rfl⟩,h⟩;exact ⟨⟨h2,h3⟩,h⟩
 ·rintro ⟨⟨h2,h3⟩,h⟩;exact ⟨_,_,⟨(fun e=>by simp [isLd] at e),h2,h3,rfl,rfl⟩,h⟩
theorem xu {x} {tt:Nat} {want:Bool}:aF P (⟨d, .len x,some (tt,want)⟩::r) (c::cs) fr σ J=gdD P c (aV want (slot tt fr)) d (.len x) r cs fr σ J ⟨⟩:=aN rfl rfl
theorem AD {bb:Bool} {x} {h:Hold (d,CO.len x,r,cs,fr,σ,J)}:gdD P c (some bb) d (.len x) r cs fr σ J h=al (.opt bb (bif bb then pf σ (evU (ev σ fr)) (.len x) else .junk)) (((isLd (.len x)=true→c=1)∧c≤1)∧(bb=true→az bb (ev σ fr) (CO.ods (.len x))∧ps σ (evU (ev σ fr)) (.len x))) σ (aQ P d r cs fr J) ⟨⟩:=aZ rfl
theorem xv {x}:aF P (⟨d, .lenS x,none⟩::r) (c::cs) fr σ J=al (pf σ (ev σ fr) (.lenS x)) (c≤1∧ps σ (ev σ fr) (.lenS x)) σ (aQ P d r cs fr J) ⟨⟩:=by
 simp only [aF,aJ,aM,cond_false,dStep,dOp,al,aQ]
 apply propext;constructor
 ·rintro ⟨w,s,⟨h1,h2,h3,rfl,rfl⟩,h⟩;exact ⟨⟨h2,h3⟩,h⟩
 ·rintro ⟨⟨h2,h3⟩,h⟩;exact ⟨_,_,⟨(fun e=>by simp [isLd] at e),h2,h3,rfl,rfl⟩,h⟩
theorem tH {x} {tt:Nat} {want:Bool}:aF P (⟨d, .lenS x,some (tt,want)⟩::r) (c::cs) fr σ J=gdD P c (aV want (slot tt fr)) d (.lenS x) r cs fr σ J ⟨⟩:=aN rfl rfl
theorem xw {bb:Bool} {x} {h:Hold (d,CO.lenS x,r,cs,fr,σ,J)}:gdD P c (some bb) d (.lenS x) r cs fr σ J h=al (.opt bb (bif bb then pf σ (evU (ev σ fr)) (.lenS x) else .junk)) (((isLd (.lenS x)=true→c=1)∧c≤1)∧(bb=true→az bb (ev σ fr) (CO.ods (.lenS x))∧ps σ (evU (ev σ fr)) (.lenS x))) σ (aQ P d r cs fr J) ⟨⟩:=aZ rfl
theorem AE {o z x}:aF P (⟨d, .fld o z x,none⟩::r) (c::cs) fr σ J=al (pf σ (ev σ fr) (.fld o z x)) (c≤1∧ps σ (ev σ fr) (.fld o z x)) σ (aQ P d r cs fr J) ⟨⟩:=by
 simp only [aF,aJ,aM,cond_false,dStep,dOp,al,aQ]
 apply propext;constructor
 ·rintro ⟨w,s,⟨h1,h2,h3,rfl,rfl⟩,h⟩;exact ⟨⟨h2,h3⟩,h⟩
 ·rintro ⟨⟨h2,h3⟩,h⟩;exact ⟨_,_,⟨(fun e=>by simp [isLd] at e),h2,h3,rfl,rfl⟩,h⟩
theorem xx {o z x} {tt:Nat} {want:Bool}:aF P (⟨d, .fld o z x,some (tt,want)⟩::r) (c::cs) fr σ J=gdD P c (aV want (slot tt fr)) d (.fld o z x) r cs fr σ J ⟨⟩:=aN rfl rfl
theorem AF {bb:Bool} {o z x} {h:Hold (d,CO.fld o z x,r,cs,fr,σ,J)}:gdD P c (some bb) d (.fld o z x) r cs fr σ J h=al (.opt bb (bif bb then pf σ (evU (ev σ fr)) (.fld o z x) else .junk)) (((isLd (.fld o z x)=true→c=1)∧c≤1)∧(bb=true→az bb (ev σ fr) (CO.ods (.fld o z x))∧ps σ (evU (ev σ fr)) (.fld o z x))) σ (aQ P d r cs fr J) ⟨⟩:=aZ rfl
theorem xy {o x}:aF P (⟨d, .fldA o x,none⟩::r) (c::cs) fr σ J=al (pf σ (ev σ fr) (.fldA o x)) (c≤1∧ps σ (ev σ fr) (.fldA o x)) σ (aQ P d r cs fr J) ⟨⟩:=by
 simp only [aF,aJ,aM,cond_false,dStep,dOp,al,aQ]
 apply propext;constructor
 ·rintro ⟨w,s,⟨h1,h2,h3,rfl,rfl⟩,h⟩;exact ⟨⟨h2,h3⟩,h⟩
 ·rintro ⟨⟨h2,h3⟩,h⟩;exact ⟨_,_,⟨(fun e=>by simp [isLd] at e),h2,h3,rfl,rfl⟩,h⟩
theorem tI {o x} {tt:Nat} {want:Bool}:aF P (⟨d, .fldA o x,some (tt,want)⟩::r) (c::cs) fr σ J=gdD P c (aV want (slot tt fr)) d (.fldA o x) r cs fr σ J ⟨⟩:=aN rfl rfl
theorem xz {bb:Bool} {o x} {h:Hold (d,CO.fldA o x,r,cs,fr,σ,J)}:gdD P c (some bb) d (.fldA o x) r cs fr σ J h=al (.opt bb (bif bb then pf σ (evU (ev σ fr)) (.fldA o x) else .junk)) (((isLd (.fldA o x)=true→c=1)∧c≤1)∧(bb=true→az bb (ev σ fr) (CO.ods (.fldA o x))∧ps σ (evU (ev σ fr)) (.fldA o x))) σ (aQ P d r cs fr J) ⟨⟩:=aZ rfl
theorem AG {e x i}:aF P (⟨d, .ixA e x i,none⟩::r) (c::cs) fr σ J=al (pf σ (ev σ fr) (.ixA e x i)) (c≤1∧ps σ (ev σ fr) (.ixA e x i)) σ (aQ P d r cs fr J) ⟨⟩:=by
 simp only [aF,aJ,aM,cond_false,dStep,dOp,al,aQ]
 apply propext;constructor
 ·rintro ⟨w,s,⟨h1,h2,h3,rfl,rfl⟩,h⟩;exact ⟨⟨h2,h3⟩,h⟩
 ·rintro ⟨⟨h2,h3⟩,h⟩;exact ⟨_,_,⟨(fun e=>by simp [isLd] at e),h2,h3,rfl,rfl⟩,h⟩
theorem xA {e x i} {tt:Nat} {want:Bool}:aF P (⟨d, .ixA e x i,some (tt,want)⟩::r) (c::cs) fr σ J=gdD P c (aV want (slot tt fr)) d (.ixA e x i) r cs fr σ J ⟨⟩:=aN rfl rfl
theorem AH {bb:Bool} {e x i} {h:Hold (d,CO.ixA e x i,r,cs,fr,σ,J)}:gdD P c (some bb) d (.ixA e x i) r cs fr σ J h=al (.opt bb (bif bb then pf σ (evU (ev σ fr)) (.ixA e x i) else .junk)) (((isLd (.ixA e x i)=true→c=1)∧c≤1)∧(bb=true→az bb (ev σ fr) (CO.ods (.ixA e x i))∧ps σ (evU (ev σ fr)) (.ixA e x i))) σ (aQ P d r cs fr J) ⟨⟩:=aZ rfl
theorem AI {n e x i}:aF P (⟨d, .ixP n e x i,none⟩::r) (c::cs) fr σ J=al (pf σ (ev σ fr) (.ixP n e x i)) (c≤1∧ps σ (ev σ fr) (.ixP n e x i)) σ (aQ P d r cs fr J) ⟨⟩:=by
 simp only [aF,aJ,aM,cond_false,dStep,dOp,al,aQ]
 apply propext;constructor
 ·rintro ⟨w,s,⟨h1,h2,h3,rfl,rfl⟩,h⟩;exact ⟨⟨h2,h3⟩,h⟩
 ·rintro ⟨⟨h2,h3⟩,h⟩;exact ⟨_,_,⟨(fun e=>by simp [isLd] at e),h2,h3,rfl,rfl⟩,h⟩
theorem xB {n e x i} {tt:Nat} {want:Bool}:aF P (⟨d, .ixP n e x i,some (tt,want)⟩::r) (c::cs) fr σ J=gdD P c (aV want (slot tt fr)) d (.ixP n e x i) r cs fr σ J ⟨⟩:=aN rfl rfl
theorem AJ {bb:Bool} {n e x i} {h:Hold (d,CO.ixP n e x i,r,cs,fr,σ,J)}:gdD P c (some bb) d (.ixP n e x i) r cs fr σ J h=al (.opt bb (bif bb then pf σ (evU (ev σ fr)) (.ixP n e x i) else .junk)) (((isLd (.ixP n e x i)=true→c=1)∧c≤1)∧(bb=true→az bb (ev σ fr) (CO.ods (.ixP n e x i))∧ps σ (evU (ev σ fr)) (.ixP n e x i))) σ (aQ P d r cs fr J) ⟨⟩:=aZ rfl
theorem AK {x i}:aF P (⟨d, .ixS x i,none⟩::r) (c::cs) fr σ J=al (pf σ (ev σ fr) (.ixS x i)) (c≤1∧ps σ (ev σ fr) (.ixS x i)) σ (aQ P d r cs fr J) ⟨⟩:=by
 simp only [aF,aJ,aM,cond_false,dStep,dOp,al,aQ]
 apply propext;constructor
 ·rintro ⟨w,s,⟨h1,h2,h3,rfl,rfl⟩,h⟩;exact ⟨⟨h2,h3⟩,h⟩
 ·rintro ⟨⟨h2,h3⟩,h⟩;exact ⟨_,_,⟨(fun e=>by simp [isLd] at e),h2,h3,rfl,rfl⟩,h⟩
theorem xC {x i} {tt:Nat} {want:Bool}:aF P (⟨d, .ixS x i,some (tt,want)⟩::r) (c::cs) fr σ J=gdD P c (aV want (slot tt fr)) d (.ixS x i) r cs fr σ J ⟨⟩:=aN rfl rfl
theorem AL {bb:Bool} {x i} {h:Hold (d,CO.ixS x i,r,cs,fr,σ,J)}:gdD P c (some bb) d (.ixS x i) r cs fr σ J h=al (.opt bb (bif bb then pf σ (evU (ev σ fr)) (.ixS x i) else .junk)) (((isLd (.ixS x i)=true→c=1)∧c≤1)∧(bb=true→az bb (ev σ fr) (CO.ods (.ixS x i))∧ps σ (evU (ev σ fr)) (.ixS x i))) σ (aQ P d r cs fr J) ⟨⟩:=aZ rfl
theorem AM {n e z x i}:aF P (⟨d, .ixV n e z x i,none⟩::r) (c::cs) fr σ J=al (pf σ (ev σ fr) (.ixV n e z x i)) (c≤1∧ps σ (ev σ fr) (.ixV n e z x i)) σ (aQ P d r cs fr J) ⟨⟩:=by
 simp only [aF,aJ,aM,cond_false,dStep,dOp,al,aQ]
 apply propext;constructor
 ·rintro ⟨w,s,⟨h1,h2,h3,rfl,rfl⟩,h⟩;exact ⟨⟨h2,h3⟩,h⟩
 ·rintro ⟨⟨h2,h3⟩,h⟩;exact ⟨_,_,⟨(fun e=>by simp [isLd] at e),h2,h3,rfl,rfl⟩,h⟩
theorem xD {n e z x i} {tt:Nat} {want:Bool}:aF P (⟨d, .ixV n e z x i,some (tt,want)⟩::r) (c::cs) fr σ J=gdD P c (aV want (slot tt fr)) d (.ixV n e z x i) r cs fr σ J ⟨⟩:=aN rfl rfl
theorem AN {bb:Bool} {n e z x i} {h:Hold (d,CO.ixV n e z x i,r,cs,fr,σ,J)}:gdD P c (some bb) d (.ixV n e z x i) r cs fr σ J h=al (.opt bb (bif bb then pf σ (evU (ev σ fr)) (.ixV n e z x i) else .junk)) (((isLd (.ixV n e z x i)=true→c=1)∧c≤1)∧(bb=true→az bb (ev σ fr) (CO.ods (.ixV n e z x i))∧ps σ (evU (ev σ fr)) (.ixV n e z x i))) σ (aQ P d r cs fr J) ⟨⟩:=aZ rfl
theorem EJ {z x}:aF P (⟨d, .ld z x,none⟩::r) (c::cs) fr σ J=al (pf σ (ev σ fr) (.ld z x)) (c=1∧ps σ (ev σ fr) (.ld z x)) σ (aQ P d r cs fr J) ⟨⟩:=by
 simp only [aF,aJ,aM,cond_false,dStep,dOp,al,aQ]
 apply propext;constructor
 ·rintro ⟨w,s,⟨h1,h2,h3,rfl,rfl⟩,h⟩;exact ⟨⟨h1 rfl,h3⟩,h⟩
 ·rintro ⟨⟨h2,h3⟩,h⟩;exact ⟨_,_,⟨fun _=>h2,Oz,h3,rfl,rfl⟩,h⟩
theorem AO {z x} {tt:Nat} {want:Bool}:aF P (⟨d, .ld z x,some (tt,want)⟩::r) (c::cs) fr σ J=gdD P c (aV want (slot tt fr)) d (.ld z x) r cs fr σ J ⟨⟩:=aN rfl rfl
theorem EK {bb:Bool} {z x} {h:Hold (d,CO.ld z x,r,cs,fr,σ,J)}:gdD P c (some bb) d (.ld z x) r cs fr σ J h=al (.opt bb (bif bb then pf σ (evU (ev σ fr)) (.ld z x) else .junk)) (((isLd (.ld z x)=true→c=1)∧c≤1)∧(bb=true→az bb (ev σ fr) (CO.ods (.ld z x))∧ps σ (evU (ev σ fr)) (.ld z x))) σ (aQ P d r cs fr J) ⟨⟩:=aZ rfl
theorem AP {e x l hi m}:aF P (⟨d, .slc e x l hi m,none⟩::r) (c::cs) fr σ J=al (pf σ (ev σ fr) (.slc e x l hi m)) (c≤1∧ps σ (ev σ fr) (.slc e x l hi m)) σ (aQ P d r cs fr J) ⟨⟩:=by
 simp only [aF,aJ,aM,cond_false,dStep,dOp,al,aQ]
 apply propext;constructor
 ·rintro ⟨w,s,⟨h1,h2,h3,rfl,rfl⟩,h⟩;exact ⟨⟨h2,h3⟩,h⟩
 ·rintro ⟨⟨h2,h3⟩,h⟩;exact ⟨_,_,⟨(fun e=>by simp [isLd] at e),h2,h3,rfl,rfl⟩,h⟩
theorem xE {e x l hi m} {tt:Nat} {want:Bool}:aF P (⟨d, .slc e x l hi m,some (tt,want)⟩::r) (c::cs) fr σ J=gdD P c (aV want (slot tt fr)) d (.slc e x l hi m) r cs fr σ J ⟨⟩:=aN rfl rfl
theorem AQ {bb:Bool} {e x l hi m} {h:Hold (d,CO.slc e x l hi m,r,cs,fr,σ,J)}:gdD P c (some bb) d (.slc e x l hi m) r cs fr σ J h=al (.opt bb (bif bb then pf σ (evU (ev σ fr)) (.slc e x l hi m) else .junk)) (((isLd (.slc e x l hi m)=true→c=1)∧c≤1)∧(bb=true→az bb (ev σ fr) (CO.ods (.slc e x l hi m))∧ps σ (evU (ev σ fr)) (.slc e x l hi m))) σ (aQ P d r cs fr J) ⟨⟩:=aZ rfl
theorem xF {x l hi}:aF P (⟨d, .slcS x l hi,none⟩::r) (c::cs) fr σ J=al (pf σ (ev σ fr) (.slcS x l hi)) (c≤1∧ps σ (ev σ fr) (.slcS x l hi)) σ (aQ P d r cs fr J) ⟨⟩:=by
 simp only [aF,aJ,aM,cond_false,dStep,dOp,al,aQ]
 apply propext;constructor
 ·rintro ⟨w,s,⟨h1,h2,h3,rfl,rfl⟩,h⟩;exact ⟨⟨h2,h3⟩,h⟩
 ·rintro ⟨⟨h2,h3⟩,h⟩;exact ⟨_,_,⟨(fun e=>by simp [isLd] at e),h2,h3,rfl,rfl⟩,h⟩
theorem tJ {x l hi} {tt:Nat} {want:Bool}:aF P (⟨d, .slcS x l hi,some (tt,want)⟩::r) (c::cs) fr σ J=gdD P c (aV want (slot tt fr)) d (.slcS x l hi) r cs fr σ J ⟨⟩:=aN rfl rfl
theorem xG {bb:Bool} {x l hi} {h:Hold (d,CO.slcS x l hi,r,cs,fr,σ,J)}:gdD P c (some bb) d (.slcS x l hi) r cs fr σ J h=al (.opt bb (bif bb then pf σ (evU (ev σ fr)) (.slcS x l hi) else .junk)) (((isLd (.slcS x l hi)=true→c=1)∧c≤1)∧(bb=true→az bb (ev σ fr) (CO.ods (.slcS x l hi))∧ps σ (evU (ev σ fr)) (.slcS x l hi))) σ (aQ P d r cs fr J) ⟨⟩:=aZ rfl
theorem AR {z q}:aF P (⟨d, .bld z q,none⟩::r) (c::cs) fr σ J=al (pf σ (ev σ fr) (.bld z q)) (c≤1∧ps σ (ev σ fr) (.bld z q)) σ (aQ P d r cs fr J) ⟨⟩:=by
 simp only [aF,aJ,aM,cond_false,dStep,dOp,al,aQ]
 apply propext;constructor
 ·rintro ⟨w,s,⟨h1,h2,h3,rfl,rfl⟩,h⟩;exact ⟨⟨h2,h3⟩,h⟩
 ·rintro ⟨⟨h2,h3⟩,h⟩;exact ⟨_,_,⟨(fun e=>by simp [isLd] at e),h2,h3,rfl,rfl⟩,h⟩
theorem xH {z q} {tt:Nat} {want:Bool}:aF P (⟨d, .bld z q,some (tt,want)⟩::r) (c::cs) fr σ J=gdD P c (aV want (slot tt fr)) d (.bld z q) r cs fr σ J ⟨⟩:=aN rfl rfl
theorem AS {bb:Bool} {z q} {h:Hold (d,CO.bld z q,r,cs,fr,σ,J)}:gdD P c (some bb) d (.bld z q) r cs fr σ J h=al (.opt bb (bif bb then pf σ (evU (ev σ fr)) (.bld z q) else .junk)) (((isLd (.bld z q)=true→c=1)∧c≤1)∧(bb=true→az bb (ev σ fr) (CO.ods (.bld z q))∧ps σ (evU (ev σ fr)) (.bld z q))) σ (aQ P d r cs fr J) ⟨⟩:=aZ rfl
theorem xI {e n z q}:aF P (⟨d, .mkSl e n z q,none⟩::r) (c::cs) fr σ J=al (pf σ (ev σ fr) (.mkSl e n z q)) (c≤1∧ps σ (ev σ fr) (.mkSl e n z q)) σ (aQ P d r cs fr J) ⟨⟩:=by
 simp only [aF,aJ,aM,cond_false,dStep,dOp,al,aQ]
 apply propext;constructor
 ·rintro ⟨w,s,⟨h1,h2,h3,rfl,rfl⟩,h⟩;exact ⟨⟨h2,h3⟩,h⟩
 ·rintro ⟨⟨h2,h3⟩,h⟩;exact ⟨_,_,⟨(fun e=>by simp [isLd] at e),h2,h3,rfl,rfl⟩,h⟩
theorem tK {e n z q} {tt:Nat} {want:Bool}:aF P (⟨d, .mkSl e n z q,some (tt,want)⟩::r) (c::cs) fr σ J=gdD P c (aV want (slot tt fr)) d (.mkSl e n z q) r cs fr σ J ⟨⟩:=aN rfl rfl
theorem xJ {bb:Bool} {e n z q} {h:Hold (d,CO.mkSl e n z q,r,cs,fr,σ,J)}:gdD P c (some bb) d (.mkSl e n z q) r cs fr σ J h=al (.opt bb (bif bb then pf σ (evU (ev σ fr)) (.mkSl e n z q) else .junk)) (((isLd (.mkSl e n z q)=true→c=1)∧c≤1)∧(bb=true→az bb (ev σ fr) (CO.ods (.mkSl e n z q))∧ps σ (evU (ev σ fr)) (.mkSl e n z q))) σ (aQ P d r cs fr J) ⟨⟩:=aZ rfl
theorem AU {t x}:aF P (⟨d, .mkI t x,none⟩::r) (c::cs) fr σ J=al (pf σ (ev σ fr) (.mkI t x)) (c≤1∧ps σ (ev σ fr) (.mkI t x)) σ (aQ P d r cs fr J) ⟨⟩:=by
 simp only [aF,aJ,aM,cond_false,dStep,dOp,al,aQ]
 apply propext;constructor
 ·rintro ⟨w,s,⟨h1,h2,h3,rfl,rfl⟩,h⟩;exact ⟨⟨h2,h3⟩,h⟩
 ·rintro ⟨⟨h2,h3⟩,h⟩;exact ⟨_,_,⟨(fun e=>by simp [isLd] at e),h2,h3,rfl,rfl⟩,h⟩
theorem xK {t x} {tt:Nat} {want:Bool}:aF P (⟨d, .mkI t x,some (tt,want)⟩::r) (c::cs) fr σ J=gdD P c (aV want (slot tt fr)) d (.mkI t x) r cs fr σ J ⟨⟩:=aN rfl rfl
theorem AW {bb:Bool} {t x} {h:Hold (d,CO.mkI t x,r,cs,fr,σ,J)}:gdD P c (some bb) d (.mkI t x) r cs fr σ J h=al (.opt bb (bif bb then pf σ (evU (ev σ fr)) (.mkI t x) else .junk)) (((isLd (.mkI t x)=true→c=1)∧c≤1)∧(bb=true→az bb (ev σ fr) (CO.ods (.mkI t x))∧ps σ (evU (ev σ fr)) (.mkI t x))) σ (aQ P d r cs fr J) ⟨⟩:=aZ rfl
theorem AY {g xs}:aF P (⟨d, .mkF g xs,none⟩::r) (c::cs) fr σ J=al (pf σ (ev σ fr) (.mkF g xs)) (c≤1∧ps σ (ev σ fr) (.mkF g xs)) σ (aQ P d r cs fr J) ⟨⟩:=by
 simp only [aF,aJ,aM,cond_false,dStep,dOp,al,aQ]
 apply propext;constructor
 ·rintro ⟨w,s,⟨h1,h2,h3,rfl,rfl⟩,h⟩;exact ⟨⟨h2,h3⟩,h⟩
 ·rintro ⟨⟨h2,h3⟩,h⟩;exact ⟨_,_,⟨(fun e=>by simp [isLd] at e),h2,h3,rfl,rfl⟩,h⟩
theorem xL {g xs} {tt:Nat} {want:Bool}:aF P (⟨d, .mkF g xs,some (tt,want)⟩::r) (c::cs) fr σ J=gdD P c (aV want (slot tt fr)) d (.mkF g xs) r cs fr σ J ⟨⟩:=aN rfl rfl
theorem AZ {bb:Bool} {g xs} {h:Hold (d,CO.mkF g xs,r,cs,fr,σ,J)}:gdD P c (some bb) d (.mkF g xs) r cs fr σ J h=al (.opt bb (bif bb then pf σ (evU (ev σ fr)) (.mkF g xs) else .junk)) (((isLd (.mkF g xs)=true→c=1)∧c≤1)∧(bb=true→az bb (ev σ fr) (CO.ods (.mkF g xs))∧ps σ (evU (ev σ fr)) (.mkF g xs))) σ (aQ P d r cs fr J) ⟨⟩:=aZ rfl
theorem A0 {x i}:aF P (⟨d, .ext x i,none⟩::r) (c::cs) fr σ J=al (pf σ (ev σ fr) (.ext x i)) (c≤1∧ps σ (ev σ fr) (.ext x i)) σ (aQ P d r cs fr J) ⟨⟩:=by
 simp only [aF,aJ,aM,cond_false,dStep,dOp,al,aQ]
 apply propext;constructor
 ·rintro ⟨w,s,⟨h1,h2,h3,rfl,rfl⟩,h⟩;exact ⟨⟨h2,h3⟩,h⟩
 ·rintro ⟨⟨h2,h3⟩,h⟩;exact ⟨_,_,⟨(fun e=>by simp [isLd] at e),h2,h3,rfl,rfl⟩,h⟩
theorem xM {x i} {tt:Nat} {want:Bool}:aF P (⟨d, .ext x i,some (tt,want)⟩::r) (c::cs) fr σ J=gdD P c (aV want (slot tt fr)) d (.ext x i) r cs fr σ J ⟨⟩:=aN rfl rfl
theorem A1 {bb:Bool} {x i} {h:Hold (d,CO.ext x i,r,cs,fr,σ,J)}:gdD P c (some bb) d (.ext x i) r cs fr σ J h=al (.opt bb (bif bb then pf σ (evU (ev σ fr)) (.ext x i) else .junk)) (((isLd (.ext x i)=true→c=1)∧c≤1)∧(bb=true→az bb (ev σ fr) (CO.ods (.ext x i))∧ps σ (evU (ev σ fr)) (.ext x i))) σ (aQ P d r cs fr J) ⟨⟩:=aZ rfl
theorem xN {x}:aF P (⟨d, .nilc x,none⟩::r) (c::cs) fr σ J=al (pf σ (ev σ fr) (.nilc x)) (c≤1∧ps σ (ev σ fr) (.nilc x)) σ (aQ P d r cs fr J) ⟨⟩:=by
 simp only [aF,aJ,aM,cond_false,dStep,dOp,al,aQ]
 apply propext;constructor
 ·rintro ⟨w,s,⟨h1,h2,h3,rfl,rfl⟩,h⟩;exact ⟨⟨h2,h3⟩,h⟩
 ·rintro ⟨⟨h2,h3⟩,h⟩;exact ⟨_,_,⟨(fun e=>by simp [isLd] at e),h2,h3,rfl,rfl⟩,h⟩
theorem tL {x} {tt:Nat} {want:Bool}:aF P (⟨d, .nilc x,some (tt,want)⟩::r) (c::cs) fr σ J=gdD P c (aV want (slot tt fr)) d (.nilc x) r cs fr σ J ⟨⟩:=aN rfl rfl
theorem xO {bb:Bool} {x} {h:Hold (d,CO.nilc x,r,cs,fr,σ,J)}:gdD P c (some bb) d (.nilc x) r cs fr σ J h=al (.opt bb (bif bb then pf σ (evU (ev σ fr)) (.nilc x) else .junk)) (((isLd (.nilc x)=true→c=1)∧c≤1)∧(bb=true→az bb (ev σ fr) (CO.ods (.nilc x))∧ps σ (evU (ev σ fr)) (.nilc x))) σ (aQ P d r cs fr J) ⟨⟩:=aZ rfl
theorem EL {b x y}:aF P (⟨d, .mm b x y,none⟩::r) (c::cs) fr σ J=al (pf σ (ev σ fr) (.mm b x y)) (c≤1∧ps σ (ev σ fr) (.mm b x y)) σ (aQ P d r cs fr J) ⟨⟩:=by
 simp only [aF,aJ,aM,cond_false,dStep,dOp,al,aQ]
 apply propext;constructor
 ·rintro ⟨w,s,⟨h1,h2,h3,rfl,rfl⟩,h⟩;exact ⟨⟨h2,h3⟩,h⟩
 ·rintro ⟨⟨h2,h3⟩,h⟩;exact ⟨_,_,⟨(fun e=>by simp [isLd] at e),h2,h3,rfl,rfl⟩,h⟩
theorem A2 {b x y} {tt:Nat} {want:Bool}:aF P (⟨d, .mm b x y,some (tt,want)⟩::r) (c::cs) fr σ J=gdD P c (aV want (slot tt fr)) d (.mm b x y) r cs fr σ J ⟨⟩:=aN rfl rfl
theorem EM {bb:Bool} {b x y} {h:Hold (d,CO.mm b x y,r,cs,fr,σ,J)}:gdD P c (some bb) d (.mm b x y) r cs fr σ J h=al (.opt bb (bif bb then pf σ (evU (ev σ fr)) (.mm b x y) else .junk)) (((isLd (.mm b x y)=true→c=1)∧c≤1)∧(bb=true→az bb (ev σ fr) (CO.ods (.mm b x y))∧ps σ (evU (ev σ fr)) (.mm b x y))) σ (aQ P d r cs fr J) ⟨⟩:=aZ rfl
theorem tM {args:List Od} {tt:Nat} {want:Bool}:aF P (⟨d, .call f args,some (tt,want)⟩::r) (c::cs) fr σ J=gdD P c (aV want (slot tt fr)) d (.call f args) r cs fr σ J ⟨⟩:=aN rfl rfl
theorem xP {kind:Nat} {neg:Bool} {h:Hold (σ,K)}:tC kind neg v σ K h=(dx kind v=true∧∃ b0,(∀ b,fy kind v b→b=b0)∧K (.bool (bif neg then !b0 else b0)) σ):=rfl
end
def R1:=Dy (ax8 @zI @nC @qP @tq @DI @GX @G0 @G1) (ax8 @DJ @zK @DK @DM @DN @G3 @zL @wL) (ax8 @tx @wM @wN @DO @G5 @zO @wO @DV) (ax8 @DH @qN @wF @zH @nB @qO @tm @pw) (ax8 @tr @wG @G6 @zQ @G7 @DW @DX @DY) (ax8 @DZ @D0 @D1 @zT @D2 @zU @D3 @D4) (ax8 @D5 @D6 @G8 @D9 @zV @Ea @zW @Eb) (ax8 @Ec @Ed @zX @G9 @ED @Aj @tD @Ak) (ax8 @EE @wY @tF @Al @tM @EF @wZ @EH) (ax8 @Ar @At @Av @Ax @Az @AB @xv @AE) (ax8 @xy @AG @AI @AK @AM @EJ @AP @xF) (ax8 @AR @xI @AU @AY @A0 @xN @EL @Ap) (ax8 @tG @Aq @w8 @w9 @xq @xr @xt @xu) (ax8 @tH @xx @tI @xA @xB @xC @xD @AO) (ax8 @xE @tJ @xH @tK @xK @xL @xM @tL) @A2
def R2:=Dy (ax5 @zC @zD @DG @GV @GW) (ax5 @wD @wE @tj @qM @zG) (ax5 @Ha @zY @Hb @Ee @Ef) (ax5 @Eg @Eh @Ei @Ej @z6) (ax5 @Ek @z7 @El @Em @En) (ax5 @Eo @Hc @Ep @Aa @Er) (ax5 @Ab @Es @Et @Eu @Ac) (ax5 @Hd @Ev @wP @wR @Ew) (ax5 @He @Ad @wT @wQ @wS) (ax5 @Ey @Hf @Ae @wV @Am) (ax5 @xP @EG @w7 @EI @As) (ax5 @Au @Aw @Ay @AA @AD) (ax5 @xw @AF @xz @AH @AJ) (ax5 @AL @AN @EK @AQ @xG) (ax5 @AS @xJ @AW @AZ @A1) (ax2 @xO @EM)
def look {α:Type} (i:Nat):List (Nat × α)→Option α
 | []=>none
 | (j,x)::r=>bif Nat.beq i j then some x else look i r
end Go.Abs
