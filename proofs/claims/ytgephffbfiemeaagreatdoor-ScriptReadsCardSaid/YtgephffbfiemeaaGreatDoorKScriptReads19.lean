/- Part 19 of the proof of ScriptReads: an abstract semantics that is proved sound for the model, contracts of functions in it, and plain facts (RU RQ1 RQ2 RQ3 RQ4). No condition. -/
import Derived.Test.YtgephffbfiemeaaGreatDoorKScriptReads18
import Derived.Lib.Join
set_option linter.all false
namespace Go.Proofs.YtgephffbfiemeaaGreatDoor
open Go.Abs
set_option linter.all false
set_option maxRecDepth 100000
def nX (n:Nat):UInt8:=([48,49,50,51,52,53,54,55,56,57,97,98,99,100,101,102]:List UInt8).getD n 0
def fm (b:UInt8):List UInt8:=if dy b then [b] else if b=34∨b=92 then [92,b] else [92,120,nX (b.toNat / 16),nX (b.toNat % 16)]
def bareS (l:List UInt8):Bool:=l.all aT&&(match l with | []=>false|c::_=>c != 35)
def dN (q:Bool) (t:List UInt8):Option (List UInt8):=if q then some (34::(t.flatMap fm++ [34])) else if bareS t then some t else none
structure WI where
 q:Bool
 t:List UInt8
 a:Int
structure RI where
 a:Int
 ws:List WI
def cWI (w:WI):List AV:= [.bool w.q, .str w.t, .int .i64 w.a]
def cRI (r:RI):List AV:= [.int .i64 r.a, .sl false r.ws.length (r.ws.flatMap cWI)]
theorem cM (l:List WI):(l.flatMap cWI).length=l.length*3:=aS (f:=cWI) (fun _=>rfl) l
theorem cV (l:List RI):(l.flatMap cRI).length=l.length*2:=aS (f:=cRI) (fun _=>rfl) l
def da:List WI→Option (List (List UInt8))
  | []=>some []
  | w :: ws => match dN    w.q w.t, da     ws with
    | some x,some l=>some (x::l)
    | _,_=>none
def gI (out:List UInt8):List RI→Except Nat (List UInt8)
  | []=> .ok out
  | r :: rs => if r.ws.length = 0 then .error 7 else match da     r.ws with
    | none=> .error 3
    | some l=>if 1000<(Lib.join l [32]).length∨20000<(out++(Lib.join l [32]++ [10])).length then .error 4 else gI (out++(Lib.join l [32]++ [10])) rs
def rL (l:List RI):Except Nat (List UInt8):=gI [] l
def Fp:Except Nat (List UInt8)→AV
 | .error e=> .tup [.str [], .int .i64 (e:Nat)]
 | .ok t=> .tup [.str t, .int .i64 0]
def BA:Option (List UInt8)→AV
 | none=> .tup [.str [], .int .i64 3]
 | some t=> .tup [.str t, .int .i64 0]
theorem BB (b:UInt8):(fm b).length≤4∧1≤(fm b).length:=by
 unfold fm;split
 ·simp
 ·split<;>simp
theorem vA (l:List UInt8):(l.flatMap fm).length≤4*l.length:=by
 induction l with
 | nil=>simp
 | cons b l ih=>have:=(BB b).1;simp only [List.flatMap_cons,List.length_append,List.length_cons];omega
theorem yj {q:Bool} {t x:List UInt8} (h:dN q t=some x):x.length≤4*t.length+2:=by
 unfold dN at h
 have:=vA t
 split at h
 ·cases h;simp only [List.length_cons,List.length_append,List.length_nil];omega
 ·split at h
  ·cases h;omega
  ·cases h
def HV (ws:List WI):Prop:=ws.length≤1000∧∀ w∈ws,w.t.length≤20000
def BC (l:List RI):Prop:=l.length≤1000∧∀ r∈l,HV r.ws
theorem lC:∀ (ws:List WI) (w:WI),da (ws++ [w])=match da ws,dN w.q w.t with
    | some l,some x=>some (l++ [x])
    | _,_=>none
  | [],w=>by simp only [List.nil_append,da];cases dN w.q w.t<;>rfl
  | v :: ws, w => by
    simp only [List.cons_append,da]
    rw [lC ws w]
    cases dN v.q v.t<;>cases da ws<;>cases dN w.q w.t<;>rfl
theorem mY:∀ (ws:List WI) (k:Nat) (h:k<ws.length),dN ws[k].q ws[k].t=none→da ws=none
  | w::ws,0,_,h=>by simp only [List.getElem_cons_zero] at h;simp [da,h]
  | w :: ws, k + 1, hk, h => by
    simp only [List.getElem_cons_succ] at h
    have:=mY ws k (by simpa using hk) h
    simp only [da,this]
    cases dN w.q w.t<;>rfl
theorem rM {ws:List WI} {l:List (List UInt8)} {k:Nat} (hk:k<ws.length) (h:da (ws.take k)=some l) {x:List UInt8} (hx:dN ws[k].q ws[k].t=some x):da (ws.take (k+1))=some (l++ [x]):=by
 rw [←List.take_append_getElem hk,lC,h,hx]
theorem mZ:∀ (ws:List WI) {l:List (List UInt8)},da ws=some l→l.length=ws.length∧(∀ n,(∀ w∈ws,w.t.length≤n)→∀ x∈l,x.length≤4*n+2)
  | [],l,h=>by cases h;simp
  | w :: ws, l, h => by
    simp only [da] at h
    cases hx:dN w.q w.t with
    | none=>rw [hx] at h;cases h
    | some x =>
      cases hl:da ws with
      | none=>rw [hx,hl] at h;cases h
      | some l' =>
        rw [hx,hl] at h;cases h
        obtain ⟨h1,h2⟩:=mZ ws hl
        refine ⟨by simp [h1],fun n hn y hy=>?_⟩
        rcases List.mem_cons.1 hy with rfl|hy
        · have:=yj hx;have:=hn w (by simp);omega
        · exact h2 n (fun w hw=>hn w (by simp [hw])) y hy
theorem BD (m:Nat):∀ (l:List (List UInt8)),(∀ x∈l,x.length≤m)→(Lib.join l [32]).length≤(m+1)*l.length:=by
  have lens:∀ (l:List (List UInt8)),(∀ x∈l,x.length≤m)→Lib.lens l≤m*l.length:=by
    intro l
    induction l with
    | nil=>intro _;simp [Lib.lens]
    | cons x l ih =>
      intro h
      have h1:=h x (by simp)
      have h2:=ih (fun y hy=>h y (by simp [hy]))
      simp only [Lib.lens,List.map_cons,List.sum_cons,List.length_cons,Nat.mul_add,Nat.mul_one] at h2 ⊢
      omega
  intro l h
  cases l with
  | nil=>simp [Lib.join_nil]
  | cons x l =>
    have:=lens (x::l) h
    rw [Lib.join_length]
    simp only [List.length_cons,List.length_nil,Nat.add_mul,Nat.mul_add,Nat.mul_one,Nat.one_mul] at this ⊢
    omega
def ki (ws:List Wd):List (Bool × List UInt8):=ws.map fun w=>(w.q,w.t)
def rN (rs:List Rw):List (List (Bool × List UInt8)):=rs.map fun r=>ki r.ws
def k8:Except Nat (List Wd)→Option (List (Bool × List UInt8))
 | .error _=>none
 | .ok ws=>some (ki ws)
theorem rO (w:Wd) (e:Except Nat (List Wd)):k8 (jz w e)=(k8 e).map ((w.q,w.t):: ·):=by
 cases e<;>rfl
abbrev Body:=List (Bool × List UInt8)
def lD:Except (Nat × Nat) (List Rw)→Option (List Body)
 | .error _=>none
 | .ok rs=>some (rN rs)
def oK (x:List UInt8):Option (List Body):=if 1000<x.length then none else match k8 (cL x) with
 | none=>none
 | some []=>some []
 | some (w::ws)=>some [w::ws]
def oL:List (List UInt8)→Option (List Body)
 | []=>some []
 | x::r=>(oK x).bind fun p=>(oL r).map (p++ ·)
theorem uv (x y:Except (Nat × Nat) (List Rw)):lD (dM x y)=(lD x).bind fun p=>(lD y).map (p++ ·):=by
 cases x<;>cases y<;>simp [dM,lD,rN]
theorem rP (a:Nat) (ws:List Wd):ki (ws.map (dz a))=ki ws:=by
 simp [ki,dz,Function.comp_def]
theorem uw (x:List UInt8) (a:Nat):lD (ca x a)=oK x:=by
  unfold ca oK
  split
  · rfl
  · cases cL x with
    | error b=>rfl
    | ok ws =>
      cases ws with
      | nil=>rfl
      | cons w ws =>
        show some [ki ((w::ws).map (dz a))]=_
        rw [rP];rfl
theorem lE:∀ (l:List (List UInt8)) (a:Nat),lD (cJ l a)=oL l
 | [],_=>rfl
 | x::l,a=>by rw [cJ,uv,uw,lE l];rfl
theorem rQ {s:List UInt8} (h:s.length≤20000):lD (dt s)=oL (lines s):=by
 unfold dt;rw [if_neg (by omega),lE]
theorem iC (p:UInt8→Bool):∀ l:List UInt8,∀ x∈l.takeWhile p,p x=true
  | [],x,h=>by simp at h
  | c :: l, x, h => by
    rw [List.takeWhile_cons] at h
    split at h
    · rename_i hc
      rcases List.mem_cons.1 h with rfl|h
      · exact hc
      · exact iC p l x h
    · cases h
def Fq (w:Wd):Prop:=(dN w.q w.t).isSome=true
theorem ux {c:UInt8} {l:List UInt8} {q:Bool} {t r:List UInt8} (h35:c≠35) (h:cI (c::l)=some (q,t,r)):(dN q t).isSome=true:=by
 simp only [cI] at h
 split at h
 ·split at h
  ·split at h
   ·cases h;rfl
   ·cases h
  ·cases h
 ·split at h
  ·cases h
  ·rename_i hne
   split at h
   ·cases h
    have hb:bareS ((c::l).takeWhile aT)=true:=by
     unfold bareS
     rw [Bool.and_eq_true]
     refine ⟨List.all_eq_true.2 fun x hx=>?_,?_⟩
     ·exact iC _ _ x hx
     ·rw [List.takeWhile_cons] at hne ⊢
      split
      ·rename_i he;split at he<;>simp_all
      ·rename_i d u he
       split at he
       ·cases he;simpa using h35
       ·cases he
    unfold dN
    rw [if_neg (by decide),if_pos hb];rfl
   ·cases h
theorem rR:∀ (n:Nat) (l:List UInt8) (a:Nat) (ws:List Wd),l.length≤n→b8 l a= .ok ws→∀ w∈ws,Fq w:=by
  intro n
  induction n with
  | zero =>
    intro l a ws h hw
    have:l= []:=List.eq_nil_of_length_eq_zero (by omega)
    subst this
    cases hw;intro w hw;cases hw
  | succ n ih =>
    intro l a ws h hw
    rw [c7] at hw
    have hd:=cz aL l
    cases hl:l.dropWhile aL with
    | nil=>rw [hl] at hw;cases hw;intro w hw;cases hw
    | cons c r =>
      rw [hl] at hd hw
      simp only at hw
      by_cases h35:c=35
      · rw [if_pos h35] at hw;cases hw;intro w hw;cases hw
      · rw [if_neg h35] at hw
        cases hws:cI (c::r) with
        | none=>rw [hws] at hw;cases hw
        | some q =>
          obtain ⟨q,t,r'⟩:=q
          have hlen:=dS hws
          rw [hws] at hw
          simp only at hw
          cases hr:b8 r' (a+(l.length - r'.length)) with
          | error b=>rw [hr] at hw;cases hw
          | ok vs =>
            rw [hr] at hw;cases hw
            intro w hw
            rcases List.mem_cons.1 hw with rfl|hw
            · exact ux h35 hws
            · exact ih r' _ vs (by omega) hr w hw
def BE (rs:List Rw):Prop:=∀ r∈rs,r.ws≠ []∧∀ w∈r.ws,Fq w
theorem pR {x:List UInt8} {a:Nat} {rs:List Rw} (h:ca x a= .ok rs):BE rs:=by
  unfold ca at h
  split at h
  · cases h
  · cases hw:cL x with
    | error b=>rw [hw] at h;cases h
    | ok ws =>
      have hg:=rR _ _ _ _ (Nat.le_refl _) hw
      rw [hw] at h
      cases ws with
      | nil=>cases h;intro r hr;cases hr
      | cons w ws =>
        cases h
        intro r hr
        have e:=List.mem_singleton.1 hr
        subst e
        refine ⟨by simp,fun v hv=>?_⟩
        obtain ⟨u,hu,rfl⟩:=List.mem_map.1 hv
        exact hg u hu
theorem na:∀ (l:List (List UInt8)) (a:Nat) (rs:List Rw),cJ l a= .ok rs→BE rs
  | [],_,rs,h=>by cases h;intro r hr;cases hr
  | x :: l, a, rs, h => by
    rw [cJ] at h
    cases h1:ca x a with
    | error e=>rw [h1] at h;cases h
    | ok p =>
      cases h2:cJ l (a+x.length+1) with
      | error e=>rw [h1,h2] at h;cases h
      | ok q =>
        rw [h1,h2] at h;cases h
        intro r hr
        rcases List.mem_append.1 hr with hr|hr
        · exact pR h1 r hr
        · exact na l _ q h2 r hr
theorem uy {s:List UInt8} {rs:List Rw} (h:dt s= .ok rs):BE rs:=by
 unfold dt at h
 split at h
 ·cases h
 ·exact na _ _ _ h
theorem k9:∀ (s:List UInt8),(∀ x∈lines s,x.length≤s.length)∧(lines s).length≤s.length+1
  | []=>by simp [lines]
  | c :: s => by
    obtain ⟨h1,h2⟩:=k9 s
    simp only [lines]
    split
    · refine ⟨fun x hx=>?_,by simp;omega⟩
      rcases List.mem_cons.1 hx with rfl|hx
      · simp
      · have:=h1 x hx;simp;omega
    · cases hl:lines s with
      | nil=>exact absurd hl (Bz s)
      | cons y r =>
        rw [hl] at h1 h2
        refine ⟨fun x hx=>?_,by simp at h2 ⊢;omega⟩
        rcases List.mem_cons.1 hx with rfl|hx
        · have:=h1 y (by simp);simp;omega
        · have:=h1 x (by simp [hx]);simp;omega
theorem jS:∀ (n:Nat) (l:List UInt8) {t r:List UInt8},dD n l=some (t,r)→t.length≤l.length
  | 0,_,_,_,h=>by simp [dD] at h
  | _+1,[],_,_,h=>by simp [dD] at h
  | n + 1, c :: l, t, r, h => by
    simp only [dD] at h
    split at h
    · cases h;simp
    · split at h
      · split at h
        · rename_i x r' he
          have h1:=iT he
          cases hq:dD n r' with
          | none=>rw [hq] at h;cases h
          | some q =>
            rw [hq] at h;simp only [Option.map_some,Option.some.injEq,Prod.mk.injEq] at h
            have h2:=jS n r' hq
            rw [←h.1];simp;omega
        · cases h
      · split at h
        · cases hq:dD n l with
          | none=>rw [hq] at h;cases h
          | some q =>
            rw [hq] at h;simp only [Option.map_some,Option.some.injEq,Prod.mk.injEq] at h
            have h2:=jS n l hq
            rw [←h.1];simp;omega
        · cases h
theorem nc (p:UInt8→Bool) (l:List UInt8):(l.takeWhile p).length≤l.length:=by
 have h:=congrArg List.length (List.takeWhile_append_dropWhile (p:=p) (l:=l))
 rw [List.length_append] at h;omega
theorem uz {l:List UInt8} {q:Bool} {t r:List UInt8} (h:cI l=some (q,t,r)):t.length≤l.length:=by
 unfold cI at h
 split at h
 ·cases h
 ·rename_i c l
  split at h
  ·split at h
   ·rename_i t' r' hq
    split at h
    ·cases h
     have:=jS _ _ hq
     simp;omega
    ·cases h
   ·cases h
  ·split at h
   ·cases h
   ·split at h
    ·cases h
     exact nc _ _
    ·cases h
def uA (n:Nat) (b:Body):Prop:=b.length≤n∧∀ w∈b,w.2.length≤n
theorem nY:∀ (n:Nat) (l:List UInt8) (a:Nat) (b:Body),l.length≤n→k8 (b8 l a)=some b→uA l.length b:=by
  intro n
  induction n with
  | zero =>
    intro l a b h hb
    have:l= []:=List.eq_nil_of_length_eq_zero (by omega)
    subst this;cases hb;exact ⟨Nat.zero_le _,fun w hw=>by cases hw⟩
  | succ n ih =>
    intro l a b h hb
    rw [c7] at hb
    have hd:=cz aL l
    cases hl:l.dropWhile aL with
    | nil=>rw [hl] at hb;cases hb;exact ⟨Nat.zero_le _,fun w hw=>by cases hw⟩
    | cons c r =>
      rw [hl] at hd hb
      simp only at hb
      by_cases h35:c=35
      · rw [if_pos h35] at hb;cases hb;exact ⟨Nat.zero_le _,fun w hw=>by cases hw⟩
      · rw [if_neg h35] at hb
        cases hw:cI (c::r) with
        | none=>rw [hw] at hb;cases hb
        | some q =>
          obtain ⟨q,t,r'⟩:=q
          have hlen:=dS hw
          have htl:=uz hw
          rw [hw] at hb
          simp only at hb
          rw [rO] at hb
          cases hr:k8 (b8 r' (a+(l.length - r'.length))) with
          | none=>rw [hr] at hb;cases hb
          | some b' =>
            rw [hr] at hb;cases hb
            obtain ⟨i1,i2⟩:=ih r' _ b' (by omega) hr
            refine ⟨by simp;omega,fun w hw=>?_⟩
            rcases List.mem_cons.1 hw with rfl|hw
            · show t.length≤_;omega
            · have:=i2 w hw;omega
theorem rS {x:List UInt8} {p:List Body} (h:oK x=some p):p.length≤1∧∀ b∈p,uA x.length b:=by
  unfold oK at h
  split at h
  · cases h
  · cases hw:k8 (cL x) with
    | none=>rw [hw] at h;cases h
    | some b =>
      have hl:=nY _ _ _ _ (Nat.le_refl _) hw
      rw [hw] at h
      cases b with
      | nil=>cases h;exact ⟨Nat.zero_le _,fun w hw=>by cases hw⟩
      | cons w ws=>cases h;exact ⟨by simp,fun b hb=>by rw [List.mem_singleton.1 hb];exact hl⟩
theorem lF {n:Nat}:∀ {ls:List (List UInt8)} {p:List Body},(∀ x∈ls,x.length≤n)→oL ls=some p→p.length≤ls.length∧∀ b∈p,uA n b
  | [],p,_,h=>by cases h;exact ⟨Nat.zero_le _,fun w hw=>by cases hw⟩
  | x :: ls, p, hx, h => by
    rw [oL] at h
    cases hy:oK x with
    | none=>rw [hy] at h;cases h
    | some p1 =>
      cases hq:oL ls with
      | none=>rw [hy,hq] at h;cases h
      | some p2 =>
        rw [hy,hq] at h;cases h
        obtain ⟨a1,a2⟩:=rS hy
        obtain ⟨b1,b2⟩:=lF (fun z hz=>hx z (by simp [hz])) hq
        refine ⟨by simp;omega,fun b hb=>?_⟩
        rcases List.mem_append.1 hb with hb|hb
        · have:=a2 b hb
          have hn:=hx x (by simp)
          exact ⟨by have:=this.1;omega,fun w hw=>by have:=this.2 w hw;omega⟩
        · exact b2 b hb
theorem pS {x:List UInt8} {a c b:Nat} (h:ca x a= .error (c,b)):c=3∨c=4:=by
  unfold ca at h
  split at h
  · cases h;exact .inr rfl
  · cases hw:cL x with
    | error d=>rw [hw] at h;cases h;exact .inl rfl
    | ok ws =>
      rw [hw] at h
      cases ws<;>cases h
theorem nf:∀ {l:List (List UInt8)} {a c b:Nat},cJ l a= .error (c,b)→c=3∨c=4
  | [],_,_,_,h=>by cases h
  | x :: l, a, c, b, h => by
    rw [cJ] at h
    cases h1:ca x a with
    | error e =>
      rw [h1] at h
      obtain ⟨e1,e2⟩:=e
      cases h;exact pS h1
    | ok p =>
      cases h2:cJ l (a+x.length+1) with
      | error e =>
        rw [h1,h2] at h
        obtain ⟨e1,e2⟩:=e
        cases h;exact nf h2
      | ok q=>rw [h1,h2] at h;cases h
theorem uB {s:List UInt8} {c b:Nat} (h:dt s= .error (c,b)):c=3∨c=4:=by
 unfold dt at h
 split at h
 ·cases h;exact .inr rfl
 ·exact nf h
end Go.Proofs.YtgephffbfiemeaaGreatDoor
