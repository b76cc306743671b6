/- Part 9 of the proof of ScriptKnown: an abstract semantics that is proved sound for the model, contracts of functions in it, and plain facts (Abs9d Abs9e). No condition. -/
import Derived.Test.YtgephffbfiemeaaGreatDoorKScriptKnown8
import Derived.Orders
set_option linter.all false
namespace Go.Abs
def St.le (s s':St):Prop:=(∀ β c,s.box β=some c→s'.box β=some c)∧(∀ τ x,s.tip τ=some x→s'.tip τ=some x)∧(∀ k c,s.glob k=some c→s'.glob k=some c)∧(∀ l r,s.lp l=some r→s'.lp l=some r)∧(∀ β T,s.bt β=some T→s'.bt β=some T)
theorem St.le_refl (s:St):St.le s s:=⟨fun _ _ h=>h,fun _ _ h=>h,fun _ _ h=>h,fun _ _ h=>h,fun _ _ h=>h⟩
theorem St.le_trans {a b c:St} (h:St.le a b) (k:St.le b c):St.le a c:=⟨fun β x hx=>k.1 β x (h.1 β x hx),fun τ x hx=>k.2.1 τ x (h.2.1 τ x hx),fun τ x hx=>k.2.2.1 τ x (h.2.2.1 τ x hx),fun τ x hx=>k.2.2.2.1 τ x (h.2.2.2.1 τ x hx),fun τ x hx=>k.2.2.2.2 τ x (h.2.2.2.2 τ x hx)⟩
theorem St.aL {s s':St} {β:Nat} {c:List AV} (h:St.le s s') (hn:s.box β=none):St.le s (s'.ad β c):=by
 refine ⟨fun β' x hx=>?_,h.2⟩
 simp only [St.ad,upd]
 rw [if_neg]
 ·exact h.1 _ _ hx
 ·rintro rfl;rw [hn] at hx;cases hx
theorem St.fg {s s':St} {τ:Nat} {c:Nat × Nat × Nat} (h:St.le s s') (hn:s.tip τ=none):St.le s (s'.ai τ c):=by
 refine ⟨h.1,fun β' x hx=>?_,h.2.2⟩
 simp only [St.ai,upd]
 rw [if_neg]
 ·exact h.2.1 _ _ hx
 ·rintro rfl;rw [hn] at hx;cases hx
def isLd:CO→Bool
 | .ld _ _ | .b2sP _=>true
 | _=>false
def dOp (P:Program) (c β:Nat) (ρ:Od→AV) (σ:St) (op:CO) (v:AV) (σ':St):Prop :=
  match op with
  | .alloc cells=>(c=2∨c=3)∧v= .ptr β 0∧σ'=σ.ad β cells
  | .box n x=>c=2∧(ρ x).fits=true∧(ρ x).cells.length=n∧v= .ptr β 0∧σ'=σ.ad β (ρ x).cells
  | .st n p x => c = 2 ∧ match ρ p with
    | .ptr γ off => match σ.box γ with
      | some cs=>(ρ x).fits=true∧(ρ x).cells.length=n∧off+n≤cs.length∧v= .junk∧σ'=σ.ad γ (cs.take off++(ρ x).cells++cs.drop (off+n))
      | none=>False
    | _=>False
  | .call f args => (c = 1 ∧ σ' = σ ∧ ∀ σ2, St.le σ σ2 → AC P f (args.map ρ) σ2 (fun x s => x = v ∧ s = σ2)) ∨
    (c=2∧AC P f (args.map ρ) σ (fun x s=>x=v∧s=σ')∧σ'.glob=σ.glob∧(∀ γ,σ.box γ=none→σ'.box γ=none)∧∀ γ,σ.tip γ=none→σ'.tip γ=none)
  | .callv x args => c = 1 ∧ σ' = σ ∧ match ρ x with
    | .fn f cap=>∀ σ2,St.le σ σ2→AC P f (args.map ρ++cap) σ2 (fun x s=>x=v∧s=σ2)
    | _=>False
  | .isnil kind neg x=>c≤1∧dx kind (ρ x)=true∧σ'=σ∧∃ b0,(∀ b,fy kind (ρ x) b→b=b0)∧v= .bool (bif neg then !b0 else b0)
  | .bad=>False
  | .app tp e es bytes x y => match ρ x with
    | .tsl τ n cs => (c = 2 ∨ c = 4) ∧ match slv (ρ y) with
      | some (m,ds)=>σ.tip τ=some (e,es,n)∧cs.length=n*es∧ds.length=m*es∧n+m≤maxLen∧(n+m)*bytes≤140737488355328∧v= .tsl τ (n+m) (cs++ds)∧σ'=σ.ai τ (e,es,n+m)
      | none=>False
    | a => bif Nat.beq c 4 then (tp = true ∧ match slv a, slv (ρ y) with
        | some (n,cs),some (m,ds)=>fresh a∧cs.length=n*es∧ds.length=m*es∧n+m≤maxLen∧(n+m)*bytes≤140737488355328∧v= .tsl β (n+m) (cs++ds)∧σ'=σ.ai β (e,es,n+m)
        | _,_=>False)
      else (c≤1∧ps σ ρ (.app tp e es bytes x y)∧v=pf σ ρ (.app tp e es bytes x y)∧σ'=σ)
  | op=>(isLd op=true→c=1)∧c≤1∧ps σ ρ op∧v=pf σ ρ op∧σ'=σ
def dStep (P:Program) (c β:Nat) (i:CI) (fr:Fr) (σ:St) (v:AV) (σ':St):Prop :=
  match i.gd with
  | none=>dOp P c β (ev σ fr) σ i.op v σ'
  | some (t, want) => match aV     want (slot t fr) with
    | none=>False
    | some b => bif i.op.quiet then
        (isLd i.op=true→c=1)∧c≤1∧(b=true→az b (ev σ fr) i.op.qv∧ps σ (gEv i.op (ev σ fr)) i.op)∧v= .opt b (bif b then pf σ (gEv i.op (ev σ fr)) i.op else .junk)∧σ'=σ
      else match i.op with
        | .call f args=>c=1∧σ'=σ∧∃ v0,v= .opt b v0∧(b=true→az b (ev σ fr) args∧∀ σ2,St.le σ σ2→AC P f (args.map (evU (ev σ fr))) σ2 (fun x s=>x=v0∧s=σ2))
        | .callv x args => c = 1 ∧ σ' = σ ∧ ∃ v0, v = .opt b v0 ∧ (b = true → az     b (ev σ fr) (x :: args) ∧ match evU (ev σ fr) x with
          | .fn f cap=>∀ σ2,St.le σ σ2→AC P f (args.map (evU (ev σ fr))++cap) σ2 (fun y s=>y=v0∧s=σ2)
          | _=>False)
        | _=>False
def aJ:CO→Bool
 | .alloc _ | .box _ _=>true
 | _=>false
def aM (c:Nat):CO→Bool
 | .app tp _ _ _ _ _=>tp&&Nat.beq c 4
 | _=>false
def aF (P:Program):List CI→List Nat→Fr→St→(Fr→St→Prop)→Prop
  | [],_,fr,σ,K=>K fr σ
  | i :: r, c :: cs, fr, σ, K =>
    bif aJ i.op then ∀ β,σ.box β=none→∃ v σ',dStep P c β i fr σ v σ'∧aF P r cs (putF i.d v fr) σ' K
    else bif aM c i.op then ∀ β,σ.tip β=none→∃ v σ',dStep P c β i fr σ v σ'∧aF P r cs (putF i.d v fr) σ' K
    else ∃ v σ',dStep P c 0 i fr σ v σ'∧aF P r cs (putF i.d v fr) σ' K
  | _::_,[],_,_,_=>False
def bH (o:Oper):List Nat:=(o.after.toList.filter (Region.binds .any)).map (·.on)
def dd (l:List Nat):List Nat:=l.foldr (fun x a=>bif a.contains x then a else x::a) []
theorem s8 {x:Nat}:∀ {l:List Nat},x∈dd l→x∈l
  | [],h=>h
  | y :: l, h => by
    have e:dd (y::l)=bif (dd l).contains y then dd l else y::dd l:=rfl
    rw [e] at h
    cases hc:(dd l).contains y with
    | true=>rw [hc] at h;exact List.mem_cons_of_mem _ (s8 h)
    | false =>
      rw [hc] at h
      rcases List.mem_cons.1 h with rfl|h
      · exact List.mem_cons_self
      · exact List.mem_cons_of_mem _ (s8 h)
def gx:List (List Nat)→List (List Nat)→List (List Nat)
 | acc,[]=>acc
 | acc,d::r=>gx (acc++ [dd (d++d.flatMap fun k=>acc.getD k [])]) r
def readsOf (i:CI):List Nat :=
 (i.op.ods.filterMap fun | .t t=>some t|_=>none)++(match i.gd with|some (t,_)=> [t]|none=> [])
def zi (bj:List Nat) (i:Nat) (x y:CI) (cx cy:Nat):Bool :=
  bj.contains i ||
  ((Nat.ble cx 1 || cy == 0 || (cx == 4 && cy == 1 && isLd y.op)) && ((cy != 2 && cy != 4) || cx == 0 || (cy == 4 && cx == 1 && isLd x.op)) &&
   (match x.d with|some t=> !(readsOf y).contains t&&y.d != some t|none=>true) &&
   (match y.d with|some t=> !(readsOf x).contains t|none=>true))
def zj (l:List CI) (cls:List Nat) (bs:List (List Nat)):Bool :=
 (List.range l.length).all fun j=>(List.range j).all fun i =>
  match l[i]?,l[j]?,cls[i]?,cls[j]?,bs[j]? with
  | some x,some y,some cx,some cy,some bj=>zi bj i x y cx cy&&(x.d == none||x.d != y.d)
  | _,_,_,_,_=>false
def Gd (ds:List (List Nat)):Bool:=(List.range ds.length).all fun j=>(ds.getD j []).all fun k=>decide (k<j)
def wv (ops:Array Oper) (l:List CI) (cls:List Nat):Bool :=
 l.length == ops.size&&cls.length == l.length&&Gd (ops.toList.map bH)&&zj l cls (gx [] (ops.toList.map bH))&&cls.all (fun c=>Nat.ble c 4)
theorem hU {α β:Type} {f g:α→List β}:∀ (l:List α),(∀ x∈l,f x=g x)→l.flatMap f=l.flatMap g
 | [],_=>rfl
 | x::l,h=>by rw [List.flatMap_cons,List.flatMap_cons,h x OF,hU l (fun y hy=>h y (by simp [hy]))]
section
theorem qz:∀ (ds acc:List (List Nat)),(gx acc ds).length=acc.length+ds.length
 | [],acc=>by simp [gx]
 | d::r,acc=>by rw [gx,qz r];simp;omega
theorem mg:∀ (ds acc:List (List Nat)) (k:Nat),k<acc.length→(gx acc ds)[k]? =acc[k]?
  | [],acc,k,_=>rfl
  | d :: r, acc, k, h => by
    rw [gx,mg r _ k OS,List.getElem?_append_left h]
theorem vi:∀ (ds acc:List (List Nat)) (k:Nat) (d:List Nat),ds[k]? =some d→(∀ x∈d,x<acc.length+k) →
    (gx acc ds)[acc.length+k]? =some (dd (d++d.flatMap fun x=>(gx acc ds).getD x []))
  | [],_,_,_,h,_=>by simp at h
  | e :: r, acc, 0, d, h, hd => by
    simp at h;subst h
    rw [gx,Nat.add_zero,mg r _ _ OF]
    rw [List.getElem?_append_right (Nat.le_refl _),Nat.sub_self]
    simp only [List.getElem?_cons_zero,Option.some.injEq]
    refine congrArg dd (congrArg (e++ ·) ?_)
    refine hU _ (fun x hx=>?_)
    have hx':=hd x hx
    rw [List.getD_eq_getElem?_getD,List.getD_eq_getElem?_getD,mg r _ x OS,List.getElem?_append_left Oz]
  | e :: r, acc, k + 1, d, h, hd => by
    simp at h
    have:=vi r (acc++ [dd (e++e.flatMap fun k=>acc.getD k [])]) k d h (fun x hx=>by have:=hd x hx;simp;omega)
    simp only [List.length_append,List.length_cons,List.length_nil] at this
    rw [gx,show acc.length+(k+1)=acc.length+(0+1)+k by omega]
    exact this
variable {P:Program} {g:Gh} {σ σ':St} {w:World} {a:Act} {o:Oper} {fr:Fr} {c β:Nat} {i:CI} {v:AV}
theorem qA {ρ:Od→AV} {op:CO} (h:dOp P c β ρ σ op v σ') (hc:c≤1):σ'=σ:=by
 have b4:Nat.beq c 4=false:=by rcases (by omega:c=0∨c=1) with rfl|rfl<;>rfl
 unfold dOp at h
 split at h
 ·exact absurd h.1 Oz
 ·exact absurd h.1 Oz
 ·exact absurd h.1 Oz
 ·rcases h with h|h
  ·exact h.2.1
  ·exact absurd h.1 Oz
 ·exact h.2.1
 ·exact h.2.2.1
 ·exact h.elim
 ·split at h
  ·exact absurd h.1 Oz
  ·simp only [b4,cond_false] at h;exact h.2.2.2
 ·exact h.2.2.2.2
theorem fk (h:dStep P c β i fr σ v σ') (hc:c≤1):σ'=σ:=by
 unfold dStep at h
 split at h
 ·exact qA h hc
 ·split at h
  ·exact h.elim
  ·cases hq:i.op.quiet<;>simp only [hq,cond_true,cond_false] at h
   ·split at h
    ·exact h.2.1
    ·exact h.2.1
    ·exact h.elim
   ·exact h.2.2.2.2
theorem zk {ρ:Od→AV} {op:CO} (h:dOp P c β ρ σ op v σ'):σ'.glob=σ.glob∧(∀ γ,γ≠β→σ.box γ=none→σ'.box γ=none)∧∀ γ,γ≠β→σ.tip γ=none→σ'.tip γ=none:=by
 by_cases hc:c≤1
 ·rw [qA h hc];exact ⟨rfl,fun _ _ h=>h,fun _ _ h=>h⟩
 ·unfold dOp at h
  split at h
  ·obtain ⟨_,_,rfl⟩:=h
   exact ⟨rfl,fun γ hγ hn=>by simp only [St.ad,upd,if_neg hγ];exact hn,fun _ _ h=>h⟩
  ·obtain ⟨_,_,_,_,rfl⟩:=h
   exact ⟨rfl,fun γ hγ hn=>by simp only [St.ad,upd,if_neg hγ];exact hn,fun _ _ h=>h⟩
  ·obtain ⟨_,h⟩:=h
   split at h
   ·split at h
    ·rename_i δ off cs hb
     obtain ⟨_,_,_,_,rfl⟩:=h
     refine ⟨rfl,fun γ _ hn=>?_,fun _ _ h=>h⟩
     simp only [St.ad,upd]
     rw [if_neg]
     ·exact hn
     ·rintro rfl;rw [hn] at hb;cases hb
    ·exact h.elim
   ·exact h.elim
  ·rcases h with h|⟨_,_,h1,h2,h3⟩
   ·rw [h.2.1];exact ⟨rfl,fun _ _ h=>h,fun _ _ h=>h⟩
   ·exact ⟨h1,fun γ _=>h2 γ,fun γ _=>h3 γ⟩
  ·rw [h.2.1];exact ⟨rfl,fun _ _ h=>h,fun _ _ h=>h⟩
  ·rw [h.2.2.1];exact ⟨rfl,fun _ _ h=>h,fun _ _ h=>h⟩
  ·exact h.elim
  ·split at h
   ·obtain ⟨_,h⟩:=h
    split at h
    ·obtain ⟨ht,_,_,_,_,_,rfl⟩:=h
     refine ⟨rfl,fun _ _ h=>h,fun γ _ hn=>?_⟩
     simp only [St.ai,upd]
     rw [if_neg]
     ·exact hn
     ·rintro rfl;rw [hn] at ht;cases ht
    ·exact h.elim
   ·cases hb:Nat.beq c 4<;>simp only [hb,cond_true,cond_false] at h
    ·rw [h.2.2.2];exact ⟨rfl,fun _ _ h=>h,fun _ _ h=>h⟩
    ·obtain ⟨_,h⟩:=h
     split at h
     ·obtain ⟨_,_,_,_,_,_,rfl⟩:=h
      exact ⟨rfl,fun _ _ h=>h,fun γ hγ hn=>by simp only [St.ai,upd,if_neg hγ];exact hn⟩
     ·exact h.elim
  ·rw [h.2.2.2.2];exact ⟨rfl,fun _ _ h=>h,fun _ _ h=>h⟩
theorem jf (h:dStep P c β i fr σ v σ'):σ'.glob=σ.glob∧(∀ γ,γ≠β→σ.box γ=none→σ'.box γ=none)∧∀ γ,γ≠β→σ.tip γ=none→σ'.tip γ=none:=by
 by_cases hc:c≤1
 ·rw [fk h hc];exact ⟨rfl,fun _ _ h=>h,fun _ _ h=>h⟩
 ·unfold dStep at h
  split at h
  ·exact zk h
  ·split at h
   ·exact h.elim
   ·cases hq:i.op.quiet<;>simp only [hq,cond_true,cond_false] at h
    ·split at h
     ·rw [h.2.1];exact ⟨rfl,fun _ _ h=>h,fun _ _ h=>h⟩
     ·rw [h.2.1];exact ⟨rfl,fun _ _ h=>h,fun _ _ h=>h⟩
     ·exact h.elim
    ·rw [h.2.2.2.2];exact ⟨rfl,fun _ _ h=>h,fun _ _ h=>h⟩
theorem zm {ρ:Od→AV} {op:CO} (h:dOp P c β ρ σ op v σ') (hc:c=3) (hn:σ.box β=none):St.le σ σ':=by
 unfold dOp at h
 split at h
 ·obtain ⟨_,_,rfl⟩:=h;exact St.aL (St.le_refl σ) hn
 ·exact absurd h.1 Oz
 ·exact absurd h.1 Oz
 ·rcases h with h|h
  ·rw [h.2.1];exact St.le_refl σ
  ·exact absurd h.1 Oz
 ·rw [h.2.1];exact St.le_refl σ
 ·rw [h.2.2.1];exact St.le_refl σ
 ·exact h.elim
 ·split at h
  ·exact absurd h.1 Oz
  ·subst hc;simp only [show Nat.beq 3 4=false from rfl,cond_false] at h;rw [h.2.2.2];exact St.le_refl σ
 ·rw [h.2.2.2.2];exact St.le_refl σ
theorem mh (h:dStep P c β i fr σ v σ') (hc:c=3) (hn:σ.box β=none):St.le σ σ':=by
 unfold dStep at h
 split at h
 ·exact zm h hc hn
 ·split at h
  ·exact h.elim
  ·cases hq:i.op.quiet<;>simp only [hq,cond_true,cond_false] at h
   ·split at h
    ·rw [h.2.1];exact St.le_refl σ
    ·rw [h.2.1];exact St.le_refl σ
    ·exact h.elim
   ·rw [h.2.2.2.2];exact St.le_refl σ
theorem s9 (hb:aJ i.op=false) (ht:aM c i.op=false) (β':Nat) (h:dStep P c β i fr σ v σ'):dStep P c β' i fr σ v σ':=by
 unfold dStep at h ⊢
 split at h
 ·cases hop:i.op<;>rw [hop] at h hb ht
  case app tp e es bytes x y =>
   simp only [dOp] at h ⊢
   split at h
   ·exact h
   ·cases hb4:Nat.beq c 4<;>simp only [hb4,cond_true,cond_false] at h ⊢
    ·exact h
    ·obtain ⟨rfl,_⟩:=h
     simp [aM,hb4] at ht
  all_goals first|exact h|(simp [aJ] at hb)
 ·exact h
theorem jH {ρ:Od→AV} {op:CO} (h:isLd op=false) (σ σ2:St):ps σ ρ op=ps σ2 ρ op∧pf σ ρ op=pf σ2 ρ op:=by
 cases op<;>first|exact ⟨rfl,rfl⟩|(simp [isLd] at h)
theorem pn {σ σ2:St} (h:σ2.glob=σ.glob):ev σ2 fr=ev σ fr:=by
 funext y
 cases y<;>simp [ev,h]
theorem wx {σ2:St} (hl:St.le σ σ2) {x:AV} {q:List AV × Nat} (h:cG σ x=some q):cG σ2 x=some q:=by
 cases x<;>simp only [cG] at h ⊢ <;>try exact h
 all_goals (try (rename_i β off;cases hb:σ.box β with
  | none=>rw [hb] at h;cases h
  | some cs=>rw [hb] at h;rw [hl.1 β cs hb];exact h))
theorem zn {ρ:Od→AV} {op:CO} {σ2:St} (hl:St.le σ σ2) (h:ps σ ρ op):ps σ2 ρ op∧pf σ2 ρ op=pf σ ρ op:=by
  cases hi:isLd op with
  | false=>have q:=jH (ρ:=ρ) hi σ σ2;exact ⟨q.1 ▸ h,q.2.symm⟩
  | true =>
    cases op<;>simp [isLd] at hi
    · simp only [ps,pf] at h ⊢
      split at h
      · rename_i γ off n hx
        split at h
        · rename_i cs hc
          simp only [hl.1 _ _ hc]
          exact ⟨h,trivial⟩
        · exact h.elim
      · exact h.elim
    simp only [ps,pf] at h ⊢
    split at h
    · rename_i cs o hp
      simp only [wx hl hp]
      exact ⟨h,trivial⟩
    · exact h.elim
theorem GQ {ρ:Od→AV} {op:CO} (h:dOp P c β ρ σ op v σ') (hc:c≤1) {σ2:St} (hl:St.le σ σ2):dOp P c β ρ σ2 op v σ2:=by
 have b4:Nat.beq c 4=false:=by rcases (by omega:c=0∨c=1) with rfl|rfl<;>rfl
 unfold dOp at h ⊢
 split at h
 ·exact absurd h.1 Oz
 ·exact absurd h.1 Oz
 ·exact absurd h.1 Oz
 ·rcases h with h|h
  ·exact .inl ⟨h.1,rfl,fun σ3 h3=>h.2.2 σ3 (St.le_trans hl h3)⟩
  ·exact absurd h.1 Oz
 ·obtain ⟨h1,_,h2⟩:=h
  refine ⟨h1,rfl,?_⟩
  split at h2
  ·rename_i f cap hx;exact fun σ3 h3=>h2 σ3 (St.le_trans hl h3)
  ·exact h2.elim
 ·exact ⟨h.1,h.2.1,rfl,h.2.2.2⟩
 ·exact h.elim
 ·split at h
  ·exact absurd h.1 Oz
  ·simp only [b4,cond_false] at h ⊢
   obtain ⟨h1,h2,h3,_⟩:=h
   have q:=zn hl h2
   exact ⟨h1,q.1,q.2 ▸ h3,trivial⟩
 ·obtain ⟨h1,h2,h3,h4,_⟩:=h
  have q:=zn hl h3
  exact ⟨h1,h2,q.1,q.2 ▸ h4,rfl⟩
theorem zo (h:dStep P c β i fr σ v σ') (hc:c≤1) {σ2:St} (hl:St.le σ σ2) (hg:σ2.glob=σ.glob):dStep P c β i fr σ2 v σ2:=by
  unfold dStep at h ⊢
  rw [pn hg]
  split at h
  · exact GQ h hc hl
  · rename_i t want _
    generalize aV want (slot t fr)=gc at *
    cases gc with
    | none=>exact h.elim
    | some b =>
      simp only at h ⊢
      cases hq:i.op.quiet<;>simp only [hq,cond_true,cond_false] at h ⊢
      · split at h
        · obtain ⟨h1,_,v0,h2,h3⟩:=h
          exact ⟨h1,trivial,v0,h2,fun hb=>⟨(h3 hb).1,fun σ3 k3=>(h3 hb).2 σ3 (St.le_trans hl k3)⟩⟩
        · rename_i x args _
          obtain ⟨h1,_,v0,h2,h3⟩:=h
          refine ⟨h1,trivial,v0,h2,fun hb=>⟨(h3 hb).1,?_⟩⟩
          have h4:=(h3 hb).2
          cases hx:evU (ev σ fr) x<;>rw [hx] at h4<;>first|exact h4.elim|exact fun σ3 k3=>h4 σ3 (St.le_trans hl k3)
        · exact h.elim
      · obtain ⟨h1,h2,h3,h4,_⟩:=h
        cases b with
        | true =>
          have q:=zn hl (h3 rfl).2
          simp only [cond_true] at h4 ⊢
          exact ⟨h1,h2,fun _=>⟨(h3 rfl).1,q.1⟩,q.2 ▸ h4,trivial⟩
        | false=>exact ⟨h1,h2,fun hb=>(by cases hb),h4,trivial⟩
theorem DC {ρ:Od→AV} {op:CO} (h:dOp P c β ρ σ op v σ') (hc:c=4):σ'.box=σ.box:=by
 unfold dOp at h
 split at h
 ·exact absurd h.1 Oz
 ·exact absurd h.1 Oz
 ·exact absurd h.1 Oz
 ·rcases h with h|h
  ·rw [h.2.1]
  ·exact absurd h.1 Oz
 ·rw [h.2.1]
 ·rw [h.2.2.1]
 ·exact h.elim
 ·split at h
  ·obtain ⟨_,h⟩:=h
   split at h
   ·obtain ⟨_,_,_,_,_,_,rfl⟩:=h;rfl
   ·exact h.elim
  ·subst hc
   simp only [show Nat.beq 4 4=true from rfl,cond_true] at h
   obtain ⟨_,h⟩:=h
   split at h
   ·obtain ⟨_,_,_,_,_,_,rfl⟩:=h;rfl
   ·exact h.elim
 ·rw [h.2.2.2.2]
theorem n3 (h:dStep P c β i fr σ v σ') (hc:c=4):σ'.box=σ.box:=by
 unfold dStep at h
 split at h
 ·exact DC h hc
 ·split at h
  ·exact h.elim
  ·cases hq:i.op.quiet<;>simp only [hq,cond_true,cond_false] at h
   ·split at h
    ·rw [h.2.1]
    ·rw [h.2.1]
    ·exact h.elim
   ·rw [h.2.2.2.2]
theorem ta {σ2:St} (hl:∀ β c,σ.box β=some c→σ2.box β=some c) {x:AV} {q:List AV × Nat} (h:cG σ x=some q):cG σ2 x=some q:=by
 cases x<;>simp only [cG] at h ⊢ <;>try exact h
 all_goals (try (rename_i β off;cases hb:σ.box β with
  | none=>rw [hb] at h;cases h
  | some cs=>rw [hb] at h;rw [hl β cs hb];exact h))
theorem zp {ρ:Od→AV} {op:CO} {σ2:St} (hi:isLd op=true) (hl:∀ β c,σ.box β=some c→σ2.box β=some c) (h:ps σ ρ op):ps σ2 ρ op∧pf σ2 ρ op=pf σ ρ op:=by
 cases op<;>simp [isLd] at hi
 ·simp only [ps,pf] at h ⊢
  split at h
  ·rename_i γ off n hx
   split at h
   ·rename_i cs hc
    simp only [hl _ _ hc]
    exact ⟨h,trivial⟩
   ·exact h.elim
  ·exact h.elim
 simp only [ps,pf] at h ⊢
 split at h
 ·rename_i cs o hp
  simp only [ta hl hp]
  exact ⟨h,trivial⟩
 ·exact h.elim
theorem zq (hi:isLd i.op=true) (h:dStep P c β i fr σ v σ') {σ2:St} (hl:∀ β c,σ.box β=some c→σ2.box β=some c) (hg:σ2.glob=σ.glob):dStep P c β i fr σ2 v σ2:=by
  unfold dStep at h ⊢
  rw [pn hg]
  obtain ⟨d,op,gd⟩:=i
  cases op<;>simp [isLd] at hi
  all_goals cases gd with
  | none =>
    simp only [dOp] at h ⊢
    obtain ⟨h1,h2,h3,h4,_⟩:=h
    have q:=zp (σ:=σ) rfl hl h3
    exact ⟨h1,h2,q.1,q.2 ▸ h4,trivial⟩
  | some tw =>
    obtain ⟨t,want⟩:=tw
    simp only at h ⊢
    generalize aV want (slot t fr)=gc at *
    cases gc with
    | none=>exact h.elim
    | some b =>
      simp only [CO.quiet,cond_true] at h ⊢
      obtain ⟨h1,h2,h3,h4,_⟩:=h
      cases b with
      | true =>
        have q:=zp (σ:=σ) rfl hl (h3 rfl).2
        simp only [cond_true] at h4 ⊢
        exact ⟨h1,h2,fun _=>⟨(h3 rfl).1,q.1⟩,q.2 ▸ h4,trivial⟩
      | false=>exact ⟨h1,h2,fun hb=>(by cases hb),h4,trivial⟩
theorem qB (h:dStep P 0 β i fr σ v σ') {σ2:St} (hg:σ2.glob=σ.glob):dStep P 0 β i fr σ2 v σ2:=by
 unfold dStep at h ⊢
 rw [pn hg]
 split at h
 ·unfold dOp at h ⊢
  split at h
  ·exact absurd h.1 OK
  ·exact absurd h.1 OK
  ·exact absurd h.1 OK
  ·rcases h with h|h<;>exact absurd h.1 OK
  ·exact absurd h.1 OK
  ·exact ⟨h.1,h.2.1,rfl,h.2.2.2⟩
  ·exact h.elim
  ·rename_i tp e es bytes x y hop
   simp only [hop]
   split at h
   ·exact absurd h.1 OK
   ·rename_i hx
    simp only [show Nat.beq 0 4=false from rfl,cond_false] at h ⊢
    obtain ⟨h1,h2,h3,_⟩:=h
    have q:=jH (ρ:=ev σ fr) (op:= .app tp e es bytes x y) rfl σ σ2
    exact ⟨h1,q.1 ▸ h2,q.2 ▸ h3,trivial⟩
  ·obtain ⟨h1,h2,h3,h4,_⟩:=h
   have hl:isLd i.op=false:=by
    cases hl:isLd i.op with
    | false=>rfl
    | true=>exact absurd (h1 hl) OK
   have q:=jH (ρ:=ev σ fr) hl σ σ2
   exact ⟨h1,h2,q.1 ▸ h3,q.2 ▸ h4,rfl⟩
 ·split at h
  ·exact h.elim
  ·cases hq:i.op.quiet<;>simp only [hq,cond_true,cond_false] at h ⊢
   ·split at h
    ·exact absurd h.1 OK
    ·exact absurd h.1 OK
    ·exact h.elim
   ·obtain ⟨h1,h2,h3,h4,_⟩:=h
    have hl:isLd i.op=false:=by
     cases hl:isLd i.op with
     | false=>rfl
     | true=>exact absurd (h1 hl) OK
    have q:=jH (ρ:=gEv i.op (ev σ fr)) hl σ σ2
    rw [q.2] at h4
    exact ⟨h1,h2,fun hb=>⟨(h3 hb).1,q.1 ▸ (h3 hb).2⟩,h4,trivial⟩
end
def dB (N:Nat):Option Nat→Bool
 | none=>true
 | some d=>decide (d<N)
def gdB (ops:Array Oper) (x:Option (Nat × Bool)) (y:Option (Nat × Bool)):Bool :=
 match x,y with
 | none,none=>true
 | some (j,want),some (t,want')=>want == want'&&(match (ops[j]?).bind (·.dst) with|some t'=>t' == t|none=>false)
 | _,_=>false
def cE (P:Program) (N:Nat) (ops:Array Oper):List Oper→List CI→Bool
 | [],[]=>true
 | o::r,i::r'=>(o.dst == i.d)&&dB N i.d&&gdB ops o.guard i.gd&&lk2 P o.op i.op&&cE P N ops r r'
 | _,_=>false
section
variable {P:Program} {g:Gh} {σ σ':St} {w:World} {a:Act} {fr:Fr} {N:Nat}
theorem n4 {ops:Array Oper} {o:Oper} {t:Nat} {want c:Bool} (hrt:Rel g w (slot t fr) (a.tmps.getD t undef)) (hg:gdB ops o.guard (some (t,want))=true) (hc:aV want (slot t fr)=some c):Region.wanted o (yielded ops a.tmps)=c:=by
  unfold gdB at hg
  split at hg
  · rename_i e2;cases e2
  · rename_i j want0 t0 want' e1 e2
    cases e2
    simp only [Bool.and_eq_true,beq_iff_eq] at hg
    obtain ⟨rfl,hg⟩:=hg
    split at hg
    · rename_i t' ht'
      have:t'=t:=by simpa using hg
      subst this
      simp only [Region.wanted,e1,yielded,ht',Option.bind_some]
      have hr:=hrt
      have hget:∀ b,a.tmps.getD t' undef= .bool b→a.tmps[t']? =some (.bool b):=by
        intro b hb
        rw [Array.getD_eq_getD_getElem?] at hb
        cases hq:a.tmps[t']? with
        | none=>rw [hq] at hb;cases hb
        | some v=>rw [hq] at hb;simp at hb;rw [hb]
      have hget0:a.tmps.getD t' undef=undef→a.tmps[t']? =none∨a.tmps[t']? =some undef:=by
        intro hb
        rw [Array.getD_eq_getD_getElem?] at hb
        cases hq:a.tmps[t']? with
        | none=>exact .inl rfl
        | some v=>rw [hq] at hb;simp at hb;subst hb;exact .inr rfl
      cases hl:slot t' fr<;>rw [hl] at hc hr<;>simp only [aV,reduceCtorEq] at hc
      · rename_i b
        cases hc
        rw [hget b hr.cT]
        cases b<;>cases want0<;>rfl
      · rename_i c0 v
        cases hr with
        | opt _ _ _ h1 h2 =>
          cases c0
          · have:c=false:=by
              have:=wj want0 v
              simp only [aV] at this
              rw [this] at hc
              exact (Option.some.inj hc).symm
            subst this
            rcases hget0 (h2 rfl) with e|e<;>rw [e]<;>rfl
          · cases v<;>simp only [reduceCtorEq] at hc
            cases hc
            rename_i b
            rw [hget b (h1 rfl).cT];cases b<;>cases want0<;>rfl
    · cases hg
  · cases hg
theorem n5 {ops:Array Oper} {o:Oper} {t:Nat} {want c:Bool} (h:Sim g σ w fr a N) (hg:gdB ops o.guard (some (t,want))=true) (hc:aV want (slot t fr)=some c):Region.wanted o (yielded ops a.tmps)=c :=
 n4 (h.rel t) hg hc
theorem kj {ρ:Od→AV} {c:Bool} (hc:c=true):∀ {L:List Od},az c ρ L→(∀ x y,y∈L→odB x y=true→Rel g w (ρ y) (a.eval x))→∀ x y,y∈L→odB x y=true→Rel g w (evU ρ y) (a.eval x)
  | [],_,_,_,_,hy,_=>by simp at hy
  | z :: L, ho, hh, x, y, hy, hb => by
    obtain ⟨h1,h2⟩:=ho
    rcases List.mem_cons.1 hy with rfl|hy
    · have hr:=hh x y OF hb
      unfold evU
      cases hv:ρ y<;>rw [hv] at hr<;>try exact hr
      rw [hv] at h1
      cases hr with
      | opt _ _ _ k1 _=>exact k1 (h1 hc)
    · exact kj hc h2 (fun x y hy=>hh x y (by simp [hy])) x y hy hb
theorem zr {ρ:Od→AV} {c:Bool} (hc:c=true) {op:CO} (ho:az c ρ op.qv) (hh:∀ x y,y∈op.ods→odB x y=true→Rel g w (ρ y) (a.eval x)):∀ x y,y∈op.ods→odB x y=true→Rel g w (gEv op ρ y) (a.eval x):=by
  cases op with
  | pick b x1 x2 =>
    intro x y hy hb
    simp only [gEv]
    unfold kR
    split
    · rename_i s t
      split
      · rename_i e;subst e
        exact kj (L:= [.t s]) hc ho (fun x y hy hb=>hh x y (by simp at hy;subst hy;simp [CO.ods]) hb) x (.t s) OF hb
      · exact hh x _ hy hb
    · exact hh x y hy hb
  | _=>exact kj hc ho hh
theorem vj (h:Sim g σ w fr a N) {c:Bool} (hc:c=true) {op:CO} (ho:az c (ev σ fr) op.qv):∀ x y,y∈op.ods→odB x y=true→Rel g w (gEv op (ev σ fr) y) (a.eval x) :=
 zr hc ho (fun _ _ _ hb=>dC h.inv h.rel hb)
theorem vk (h:Sim g σ w fr a N) {c:Bool} (hc:c=true) {L:List Od} (ho:az c (ev σ fr) L):∀ x y,y∈L→odB x y=true→Rel g w (evU (ev σ fr) y) (a.eval x) :=
 kj hc ho (fun _ _ _ hb=>dC h.inv h.rel hb)
structure DExt (k β:Nat) (g:Gh) (w:World) (g':Gh) (w':World):Prop where
 ext:Ext { g with nb:=k,nt:=k } w g' w'
 nb:g.nb≤g'.nb
 pend:∀ β',β'<g.nb→β'≠β→g'.box β'=g.box β'
 nt:g.nt≤g'.nt
 tpend:∀ τ,τ<g.nt→τ≠β→(∀ n,g.tip τ n=none)→∀ n,g'.tip τ n=none
theorem Ext.low {g':Gh} {w':World} (h:Ext g w g' w') {k:Nat} (hk:k≤g.nb) (hk':k≤g.nt):Ext { g with nb:=k,nt:=k } w g' w' :=
 ⟨h.os,h.tape,h.output,h.size,h.box,fun β hβ=>h.boxold β (Nat.lt_of_lt_of_le hβ hk),Nat.le_trans hk h.nb,Nat.le_trans hk' h.nt,h.tip,h.cln,h.cls,fun m hm=>h.tipn m (Nat.lt_of_lt_of_le hm hk'),h.rz⟩
theorem Ext.LV {g0:Gh} {w0:World} (h:Ext g0 w0 g w):Ext g0 w0 { g with nb:=g0.nb,nt:=g0.nt } w :=
 ⟨h.os,h.tape,h.output,h.size,h.box,h.boxold,Nat.le_refl _,Nat.le_refl _,h.tip,h.cln,h.cls,h.tipn,h.rz⟩
theorem Ext.qC {g':Gh} {w':World} (h:Ext g w g' w') {k:Nat} (β:Nat) (hk:k≤g.nb) (hk':k≤g.nt):DExt k β g w g' w' :=
 ⟨h.low hk hk',h.nb,fun β' hβ _=>h.boxold β' hβ,h.nt,fun τ hτ _=>h.tipn τ hτ⟩
def Gh.cH (g:Gh) (w:World) (β0:Nat):Gh :=
 { g with box:=fun β=>if β=β0 then some w.heap.size else g.box β,cl:=fun b=>if b=w.heap.size then some 0 else g.cl b }
theorem DExt.cH {k β0:Nat} (hk:k≤β0) (hn:g.box β0=none) (hkn:k≤g.nb) (hkt:k≤g.nt) (ob:Obj):DExt k β0 g w (g.cH w β0) (w.alloc ob):=by
 refine ⟨⟨rfl,rfl,rfl,by simp,fun β b hb=>?_,fun β hβ=>?_,hkn,hkt,fun _ _ _ h=>h,fun b hb hc=>⟨?_,RowKit.Below.heap_alloc w _ b hb⟩,fun b F' hb hc=>⟨F',?_,Nat.le_refl _,fun i _=>World.cell?_alloc_lt w _ _ hb⟩,fun _ _ h=>h,fun b us _ _ h=>⟨us,by rw [RowKit.Below.heap_alloc w _ b (Array.getElem?_eq_some_iff.1 h).1];exact h,rfl⟩⟩,Nat.le_refl _,fun β' _ hβ=>?_,Nat.le_refl _,fun _ _ _ h=>h⟩
 ·simp only [Gh.cH]
  rw [if_neg]
  ·exact hb
  ·rintro rfl;simp only at hb;rw [hn] at hb;cases hb
 ·simp only at hβ;simp only [Gh.cH];rw [if_neg Oz]
 ·simp only [Gh.cH,if_neg (Nat.ne_of_lt hb)];exact hc
 ·simp only [Gh.cH,if_neg (Nat.ne_of_lt hb)];exact hc
 ·simp only [Gh.cH,if_neg hβ]
theorem Inv.cH (hI:Inv g σ w) {β0:Nat} (hn:g.box β0=none) (hlt:β0<g.nb) {cs:List AV} {vs:Array Value} {T:TypeId} (hr:RelC g w cs vs.toList):Inv (g.cH w β0) (σ.ad β0 cs) (w.alloc (.cells vs T)):=by
 have he:=(DExt.cH (w:=w) (k:=0) (Nat.zero_le _) hn (Nat.zero_le _) (Nat.zero_le _) (.cells vs T)).ext
 have mono:∀ {c v},Rel g w c v→Rel (g.cH w β0) (w.alloc (.cells vs T)) c v:=fun h=>(h.qs 0 0).mono he
 have monoC:∀ {c v},RelC g w c v→RelC (g.cH w β0) (w.alloc (.cells vs T)) c v:=fun h=>⟨⟨h.1.1,fun i c v h1 h2=>mono (h.1.2 i c v h1 h2)⟩,h.2⟩
 refine ⟨fun β cs' hb=>?_,fun β b hb=>?_,fun β β' b h1 h2=>?_,fun β hβ=>?_,fun τ e s n ht=>?_,hI.tipinj,hI.tipfresh,fun k cs hk=>GlobOk.mono (g:={ g with nb:=0,nt:=0 }) ⟨(hI.glob k cs hk).rel.qs 0 0,(hI.glob k cs hk).cl,(hI.glob k cs hk).row⟩ he,fun l r hl=>?_,fun β T hb=>by
  obtain ⟨b,us,h1,h2⟩:=hI.bty β T hb
  have hβ:β≠β0:=by rintro rfl;rw [hn] at h1;cases h1
  exact ⟨b,us,by simp only [Gh.cH,if_neg hβ];exact h1,by rw [RowKit.Below.heap_alloc w _ b (hI.boxcl β b h1).1];exact h2⟩⟩
 ·simp only [St.ad,upd] at hb
  by_cases hβ:β=β0
  ·subst hβ
   simp at hb;subst hb
   exact ⟨w.heap.size,vs,T,by simp [Gh.cH],heap_alloc_new w _,monoC hr⟩
  ·rw [if_neg hβ] at hb
   obtain ⟨b,us,T',h1,h2,h3⟩:=hI.box β cs' hb
   exact ⟨b,us,T',by simp only [Gh.cH,if_neg hβ];exact h1,by rw [RowKit.Below.heap_alloc w _ b (hI.boxcl β b h1).1];exact h2,monoC h3⟩
 ·simp only [Gh.cH] at hb ⊢
  by_cases hβ:β=β0
  ·rw [if_pos hβ] at hb;cases hb;exact ⟨by simp,fun _=>by simp⟩
  ·rw [if_neg hβ] at hb
   obtain ⟨h1,h2⟩:=hI.boxcl β b hb
   exact ⟨by simp;omega,fun hl=>by rw [if_neg (Nat.ne_of_lt h1)];exact h2 PU⟩
 ·simp only [Gh.cH] at h1 h2
  by_cases hβ:β=β0<;>by_cases hβ':β'=β0
  ·rw [hβ,hβ']
  ·rw [if_pos hβ] at h1;rw [if_neg hβ'] at h2;cases h1;have:=(hI.boxcl β' _ h2).1;omega
  ·rw [if_neg hβ] at h1;rw [if_pos hβ'] at h2;cases h2;have:=(hI.boxcl β _ h1).1;omega
  ·rw [if_neg hβ] at h1;rw [if_neg hβ'] at h2;exact hI.boxinj _ _ _ h1 h2
 ·simp only [Gh.cH] at hβ ⊢
  rw [if_neg Oz]
  exact hI.boxfresh β Oz
 ·obtain ⟨v,h1,h2,h4⟩:=hI.tip τ e s n ht
  refine ⟨v,h1,fun hs=>?_,h4⟩
  obtain ⟨xs,h2,h3⟩:=h2 hs
  refine ⟨xs,h2.alloc _,fun b hb=>?_⟩
  have hlt:=(h2.lt b hb).2
  obtain ⟨h5,h6⟩:=h3 b hb
  refine ⟨by simp only [Gh.cH,if_neg (Nat.ne_of_lt hlt)];exact h5,fun β=>?_,h6.2.same (RowKit.Below.heap_alloc w _ b hlt)⟩
  simp only [Gh.cH]
  split
  ·intro e';cases e';omega
  ·exact h6.1 β
 ·obtain ⟨h1,h2,h3⟩:=hI.lp l r hl
  have hlt:=(Array.getElem?_eq_some_iff.1 h1).1
  exact ⟨by rw [RowKit.Below.heap_alloc w _ l hlt];exact h1,by simp only [Gh.cH,if_neg (Nat.ne_of_lt hlt)];exact h2,fun t=>mono (h3 t)⟩
theorem wy {o:Oper} {ρ:Od→AV} (hI:Inv g σ w) {co:CO} (hl:lk2 P o.op co=true) (hρ:∀ x y,y∈co.ods→odB x y=true→Rel g w (ρ y) (a.eval x)) {c β k:Nat} {v:AV} (h:dOp P c β ρ σ co v σ')
    (hn0:g.box β=none) (hlt:β<g.nb) (ht0:∀ n,g.tip β n=none) (htl:β<g.nt) (hkβ:k≤β) {next:Act→World→Prop} {Q:Exit→Act→World→Prop}
    (hn:∀ u w' g',Inv g' σ' w'→DExt k β g w g' w'→Rel g' w' v u→next (a.put o.dst u) w'):o.wp P a w next Q:=by
  have hkn:k≤g.nb:=Oz
  have hkt:k≤g.nt:=Oz
  have viaA:(∀ x args l,co= .callv x args→ρ x≠ .yld l)→aOp P ρ σ (fun x s=>x=v∧s=σ') co→o.wp P a w next Q:=fun hny h2 =>
    mf hI hl hρ h2 hny (fun v2 s2 u w' g' k0 k1 k2 k3=>by obtain ⟨rfl,rfl⟩:=k0;exact hn u w' g' k1 (k2.qC β hkn hkt) k3)
  cases co<;>simp only [dOp] at h
  case alloc cells =>
    obtain ⟨_,rfl,rfl⟩:=h
    simp only [lk2] at hl
    split at hl
    · rename_i t ho
      split at hl
      · rename_i i hi
        split at hl
        · rename_i z hz
          have hc:=fb g w _ _ hl
          have hrun:(execOp a.eval o).run P w= .ok (.value (.pointer (some ⟨w.heap.size,0,none⟩))) (w.alloc (.cells z.cells t)):=by
            simp [execOp,ho,Instr.alloc,zeroValue,typeInfo,hi,hz,newVar,newRow]
          unfold Oper.wp
          rw [hrun,Oper.upon_value]
          exact hn _ _ _ (hI.cH hn0 hlt hc) (DExt.cH hkβ hn0 hkn hkt _) (.ptr _ _ _ (by simp [Gh.cH]))
        · cases hl
      · cases hl
    · cases hl
  case box n x =>
    obtain ⟨_,q1,q2,rfl,rfl⟩:=h
    simp only [lk2] at hl
    split at hl
    · rename_i t x' ho
      have rx:=hρ x' x OG hl
      have hc:=rx.cells q1
      have hrun:(execOp a.eval o).run P w= .ok (.value (.pointer (some ⟨w.heap.size,0,none⟩))) (w.alloc (.cells (a.eval x').cells t)):=by
        simp [execOp,ho,Instr.box,newVar,newRow]
      unfold Oper.wp
      rw [hrun,Oper.upon_value]
      exact hn _ _ _ (hI.cH hn0 hlt hc) (DExt.cH hkβ hn0 hkn hkt _) (.ptr _ _ _ (by simp [Gh.cH]))
    · cases hl
  case st n p x =>
    refine viaA (fun _ _ _ e=>by cases e) ?_
    obtain ⟨_,h⟩:=h
    simp only [aOp]
    split at h
    · rename_i γ off hp
      split at h
      · rename_i cs hb
        obtain ⟨q1,q2,q3,rfl,rfl⟩:=h
        simp only [hp,hb]
        exact ⟨q1,q2,q3,trivial,trivial⟩
      · exact h.elim
    · exact h.elim
  case isnil kind neg x =>
    obtain ⟨_,h1,rfl,b0,h2,rfl⟩:=h
    refine viaA (fun _ _ _ e=>by cases e) ?_
    simp only [aOp]
    exact ⟨h1,fun b hb=>by rw [h2 b hb];simp⟩
  case call f args =>
    rcases h with ⟨_,rfl,h⟩|⟨_,h,_⟩
    · exact viaA (fun _ _ _ e=>by cases e) (h _ (St.le_refl _))
    · exact viaA (fun _ _ _ e=>by cases e) h
  case invk=>exact h.2.2.1.elim
  case callv x args =>
    obtain ⟨_,rfl,h⟩:=h
    refine viaA (fun x2 args2 l e hx=>by cases e;rw [hx] at h;exact h) ?_
    simp only [aOp]
    split at h
    · rename_i f cap hx;simp only [hx];exact h _ (St.le_refl _)
    · exact h.elim
  case app tp e es bytes x y =>
    split at h
    · rename_i τ n cs hx
      obtain ⟨_,h⟩:=h
      refine viaA (fun _ _ _ e=>by cases e) ?_
      simp only [aOp,hx]
      split at h
      · rename_i m ds hy
        obtain ⟨q1,q2,q3,q4,q5,rfl,rfl⟩:=h
        simp only [hy]
        exact ⟨q1,q2,q3,q4,q5,trivial,trivial⟩
      · exact h.elim
    · rename_i hx
      have hlb:lkB P o.op (.app tp e es bytes x y)=true:=by
        simp only [lk2] at hl;exact hl
      cases hb4:Nat.beq c 4 with
      | true =>
        simp only [hb4,cond_true] at h
        obtain ⟨_,h⟩:=h
        split at h
        · rename_i n cs m ds hx hy
          obtain ⟨q0,q2,q3,q4,q5,rfl,rfl⟩:=h
          simp only [lkB] at hlb
          split at hlb
          · rename_i x' y' t t' ho
            simp only [Bool.and_eq_true,beq_iff_eq] at hlb
            obtain ⟨⟨⟨rfl,h1⟩,h2⟩,h3⟩:=hlb
            have rx:=hρ x' x OG h2
            have ry:=hρ y' y OG h3
            obtain ⟨hI',rx'⟩:=y9 hI e es ht0 htl rx q0 hx
            have hset:(σ.ai β (e,es,n)).tip β=some (e,es,n):=Pz
            have hσ:(σ.ai β (e,es,n)).ai β (e,es,n+m)=σ.ai β (e,es,n+m):=by
              simp only [St.ai,St.mk.injEq,true_and,and_true]
              funext j
              simp only [upd]
              split<;>rfl
            have hy':=je (P:=P) hI' ho h1 rx' (gu (ht0 n) ry) hy hset q2 q3 q4 q5
            rw [hσ] at hy'
            refine bP hy' (fun u w' g2 k1 k2 k3=>hn _ _ _ k1 ⟨(ma (v:=a.eval x') (ht0 n) hkβ).trans (k2.low hkn hkt),k2.nb,fun β' hβ _=>k2.boxold β' hβ,k2.nt,fun τ hτ hne h0=>k2.tipn τ hτ (fun n'=>?_)⟩ k3)
            simp only [Gh.bA]
            rw [if_neg (fun q=>hne q.1)]
            exact h0 n'
          · cases hlb
        · exact h.elim
      | false =>
      simp only [hb4,cond_false] at h
      obtain ⟨_,h1,rfl,rfl⟩:=h
      exact bP (eT hI (.app tp e es bytes x y) hlb hρ h1) (fun u w' g' k1 k2 k3=>hn u w' g' k1 (k2.qC β hkn hkt) k3)
  all_goals first
    | exact h.elim
    | (obtain ⟨_,_,h1,rfl,rfl⟩:=h;exact (show False from h1).elim)
    | (obtain ⟨_,_,h1,rfl,rfl⟩:=h;exact viaA (fun _ _ _ e=>by cases e) ⟨h1,rfl,rfl⟩)
theorem qD {ops:Array Oper} {o:Oper} {i:CI} (hI:Inv g σ w) (hgd:gdB ops o.guard i.gd=true) (hl:lk2 P o.op i.op=true) (hrd:∀ t∈readsOf i,Rel g w (slot t fr) (a.tmps.getD t undef))
    {c β k:Nat} {v:AV} (h:dStep P c β i fr σ v σ') (hn0:g.box β=none) (hlt:β<g.nb) (ht0:∀ n,g.tip β n=none) (htl:β<g.nt) (hkβ:k≤β) {r:Option Nat} {nn:Nat} {next:Act→World→Prop} {Q:Exit→Act→World→Prop}
    (hn:∀ u w' g',Inv g' σ' w'→DExt k β g w g' w'→Rel g' w' v u→next (a.put o.dst u) w') :
    if Region.wanted o (yielded ops a.tmps) then o.wpIn (Wd r) nn P a w next Q else next (a.put o.dst undef) w:=by
  have hkn:k≤g.nb:=Oz
  have hkt:k≤g.nt:=Oz
  have hρ:∀ x y,y∈i.op.ods→odB x y=true→Rel g w (ev σ fr y) (a.eval x):=by
    intro x y hy hb
    cases y with
    | t t =>
      have ht:t∈readsOf i:=by
        simp only [readsOf,List.mem_append,List.mem_filterMap]
        exact .inl ⟨.t t,hy,rfl⟩
      have hr:=hrd t ht
      cases x<;>simp [odB] at hb
      subst hb;exact hr
    | c v=>exact dC (fr:= []) (σ:=σ) hI (fun t=> .junk _) hb
    | g k=>exact dC (fr:= []) (σ:=σ) hI (fun t=> .junk _) hb
    | f k=>exact dC (fr:= []) (σ:=σ) hI (fun t=> .junk _) hb
  obtain ⟨d,op,gd⟩:=i
  cases gd with
  | none =>
    have hw:Region.wanted o (yielded ops a.tmps)=true:=by
      unfold gdB at hgd
      split at hgd
      · rename_i e1 _;simp [Region.wanted,e1]
      · rename_i e2;cases e2
      · cases hgd
    rw [if_pos hw]
    simp only [dStep] at h
    exact cP (b6 hl) (wy hI hl hρ h hn0 hlt ht0 htl hkβ hn)
  | some gw =>
    obtain ⟨t,want⟩:=gw
    simp only [dStep] at h
    have hrt:=hrd t (by simp [readsOf])
    cases hc:aV want (slot t fr) with
    | none=>rw [hc] at h;exact h.elim
    | some b =>
      simp only [hc] at h
      rw [n4 hrt hgd hc]
      cases hq:op.quiet with
      | true =>
        simp only [hq,cond_true] at h
        obtain ⟨_,_,h1,rfl,rfl⟩:=h
        cases b with
        | true =>
          rw [if_pos rfl]
          obtain ⟨h3,h4⟩:=h1 rfl
          have hlk:lkB P o.op op=true:=by cases op<;>simp [CO.quiet] at hq<;>exact hl
          exact cP (b6 hl) (bP (eT hI op hlk (zr rfl h3 hρ) h4) (fun u w' g' k1 k2 k3=>hn _ _ _ k1 (k2.qC β hkn hkt) (.opt _ _ _ (fun _=>k3) (fun e=>by cases e))))
        | false =>
          rw [if_neg OF]
          exact hn _ _ _ hI ((Ext.refl g w).qC β hkn hkt) (.opt _ _ _ (fun e=>by cases e) (fun _=>rfl))
      | false =>
        simp only [hq,cond_false] at h
        split at h
        · rename_i f args
          obtain ⟨_,rfl,v0,rfl,h⟩:=h
          cases b with
          | true =>
            rw [if_pos rfl]
            obtain ⟨h3,h4⟩:=h rfl
            exact (ff hI hl (kj rfl h3 hρ) (h4 _ (St.le_refl _)) (fun v2 s2 u w' g' k0 k1 k2 k3=>by
              obtain ⟨rfl,rfl⟩:=k0
              exact hn _ _ _ k1 (k2.qC β hkn hkt) (.opt _ _ _ (fun _=>k3) (fun e=>by cases e))))
          | false =>
            rw [if_neg OF]
            exact hn _ _ _ hI ((Ext.refl g w).qC β hkn hkt) (.opt _ _ _ (fun e=>by cases e) (fun _=>rfl))
        · rename_i x args
          obtain ⟨_,rfl,v0,rfl,h⟩:=h
          cases b with
          | true =>
            rw [if_pos rfl]
            obtain ⟨h3,h4⟩:=h rfl
            have h5:aOp P (evU (ev σ' fr)) σ' (fun y s=>y=v0∧s=σ') (.callv x args):=by
              simp only [aOp]
              cases hx:evU (ev σ' fr) x<;>rw [hx] at h4<;>first|exact h4.elim|exact h4 _ (St.le_refl _)
            exact (ff hI hl (kj rfl h3 hρ) h5 (fun v2 s2 u w' g' k0 k1 k2 k3=>by
              obtain ⟨rfl,rfl⟩:=k0
              exact hn _ _ _ k1 (k2.qC β hkn hkt) (.opt _ _ _ (fun _=>k3) (fun e=>by cases e))))
          | false =>
            rw [if_neg OF]
            exact hn _ _ _ hI ((Ext.refl g w).qC β hkn hkt) (.opt _ _ _ (fun e=>by cases e) (fun _=>rfl))
        · exact h.elim
end
end Go.Abs
