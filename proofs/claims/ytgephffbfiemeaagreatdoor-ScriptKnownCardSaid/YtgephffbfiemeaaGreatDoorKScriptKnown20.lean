/- Part 20 of the proof of ScriptKnown: an abstract semantics that is proved sound for the model, contracts of functions in it, and plain facts (RU RQ1 RQ2 RQ3 RQ4). No condition. -/
import Derived.Test.YtgephffbfiemeaaGreatDoorKScriptKnown19
import Derived.Lib.Join
set_option linter.all false
namespace Go.Proofs.YtgephffbfiemeaaGreatDoor
open Go.Abs
set_option linter.all false
set_option maxRecDepth 100000
def nI (n:Nat):UInt8:=([48,49,50,51,52,53,54,55,56,57,97,98,99,100,101,102]:List UInt8).getD n 0
def e7 (b:UInt8):List UInt8:=if eP b then [b] else if b=34∨b=92 then [92,b] else [92,120,nI (b.toNat / 16),nI (b.toNat % 16)]
def bareS (l:List UInt8):Bool:=l.all cd&&(match l with | []=>false|c::_=>c != 35)
def dq (q:Bool) (t:List UInt8):Option (List UInt8):=if q then some (34::(t.flatMap e7++ [34])) else if bareS t then some t else none
structure WI where
 q:Bool
 t:List UInt8
 a:Int
structure RI where
 a:Int
 ws:List WI
def cWI (w:WI):List AV:= [.bool w.q, .str w.t, .int .i64 w.a]
def cRI (r:RI):List AV:= [.int .i64 r.a, .sl false r.ws.length (r.ws.flatMap cWI)]
theorem cj (l:List WI):(l.flatMap cWI).length=l.length*3:=aD (f:=cWI) (fun _=>rfl) l
theorem ct (l:List RI):(l.flatMap cRI).length=l.length*2:=aD (f:=cRI) (fun _=>rfl) l
def cD:List WI→Option (List (List UInt8))
  | []=>some []
  | w :: ws => match dq    w.q w.t, cD     ws with
    | some x,some l=>some (x::l)
    | _,_=>none
def fF (out:List UInt8):List RI→Except Nat (List UInt8)
  | []=> .ok out
  | r :: rs => if r.ws.length = 0 then .error 7 else match cD     r.ws with
    | none=> .error 3
    | some l=>if 1000<(Lib.join l [32]).length∨20000<(out++(Lib.join l [32]++ [10])).length then .error 4 else fF (out++(Lib.join l [32]++ [10])) rs
def fW (l:List RI):Except Nat (List UInt8):=fF [] l
def rJ:Except Nat (List UInt8)→AV
 | .error e=> .tup [.str [], .int .i64 (e:Nat)]
 | .ok t=> .tup [.str t, .int .i64 0]
def BQ:Option (List UInt8)→AV
 | none=> .tup [.str [], .int .i64 3]
 | some t=> .tup [.str t, .int .i64 0]
theorem BR (b:UInt8):(e7 b).length≤4∧1≤(e7 b).length:=by
 unfold e7;split
 ·simp
 ·split<;>simp
theorem vu (l:List UInt8):(l.flatMap e7).length≤4*l.length:=by
 induction l with
 | nil=>simp
 | cons b l ih=>have:=(BR b).1;simp only [List.flatMap_cons,List.length_append,List.length_cons];omega
theorem yn {q:Bool} {t x:List UInt8} (h:dq q t=some x):x.length≤4*t.length+2:=by
 unfold dq at h
 have:=vu t
 split at h
 ·cases h;simp only [List.length_cons,List.length_append,List.length_nil];omega
 ·split at h
  ·cases h;omega
  ·cases h
def I2 (ws:List WI):Prop:=ws.length≤1000∧∀ w∈ws,w.t.length≤20000
def uu (l:List RI):Prop:=l.length≤1000∧∀ r∈l,I2 r.ws
theorem kX:∀ (ws:List WI) (w:WI),cD (ws++ [w])=match cD ws,dq w.q w.t with
    | some l,some x=>some (l++ [x])
    | _,_=>none
  | [],w=>by simp only [List.nil_append,cD];cases dq w.q w.t<;>rfl
  | v :: ws, w => by
    simp only [List.cons_append,cD]
    rw [kX ws w]
    cases dq v.q v.t<;>cases cD ws<;>cases dq w.q w.t<;>rfl
theorem mG:∀ (ws:List WI) (k:Nat) (h:k<ws.length),dq ws[k].q ws[k].t=none→cD ws=none
  | w::ws,0,_,h=>by simp only [List.getElem_cons_zero] at h;simp [cD,h]
  | w :: ws, k + 1, hk, h => by
    simp only [List.getElem_cons_succ] at h
    have:=mG ws k (by simpa using hk) h
    simp only [cD,this]
    cases dq w.q w.t<;>rfl
theorem rK {ws:List WI} {l:List (List UInt8)} {k:Nat} (hk:k<ws.length) (h:cD (ws.take k)=some l) {x:List UInt8} (hx:dq ws[k].q ws[k].t=some x):cD (ws.take (k+1))=some (l++ [x]):=by
 rw [←List.take_append_getElem hk,kX,h,hx]
theorem mH:∀ (ws:List WI) {l:List (List UInt8)},cD ws=some l→l.length=ws.length∧(∀ n,(∀ w∈ws,w.t.length≤n)→∀ x∈l,x.length≤4*n+2)
  | [],l,h=>by cases h;simp
  | w :: ws, l, h => by
    simp only [cD] at h
    cases hx:dq w.q w.t with
    | none=>rw [hx] at h;cases h
    | some x =>
      cases hl:cD ws with
      | none=>rw [hx,hl] at h;cases h
      | some l' =>
        rw [hx,hl] at h;cases h
        obtain ⟨h1,h2⟩:=mH ws hl
        refine ⟨by simp [h1],fun n hn y hy=>?_⟩
        rcases List.mem_cons.1 hy with rfl|hy
        · have:=yn hx;have:=hn w OF;omega
        · exact h2 n (fun w hw=>hn w (by simp [hw])) y hy
theorem BS (m:Nat):∀ (l:List (List UInt8)),(∀ x∈l,x.length≤m)→(Lib.join l [32]).length≤(m+1)*l.length:=by
  have lens:∀ (l:List (List UInt8)),(∀ x∈l,x.length≤m)→Lib.lens l≤m*l.length:=by
    intro l
    induction l with
    | nil=>intro _;simp [Lib.lens]
    | cons x l ih =>
      intro h
      have h1:=h x OF
      have h2:=ih (fun y hy=>h y (by simp [hy]))
      simp only [Lib.lens,List.map_cons,List.sum_cons,List.length_cons,Nat.mul_add,Nat.mul_one] at h2 ⊢
      omega
  intro l h
  cases l with
  | nil=>simp [Lib.join_nil]
  | cons x l =>
    have:=lens (x::l) h
    rw [Lib.join_length]
    simp only [List.length_cons,List.length_nil,Nat.add_mul,Nat.mul_add,Nat.mul_one,Nat.one_mul] at this ⊢
    omega
def jT (ws:List Wd):List (Bool × List UInt8):=ws.map fun w=>(w.q,w.t)
def rL (rs:List Rw):List (List (Bool × List UInt8)):=rs.map fun r=>jT r.ws
def kA:Except Nat (List Wd)→Option (List (Bool × List UInt8))
 | .error _=>none
 | .ok ws=>some (jT ws)
theorem rM (w:Wd) (e:Except Nat (List Wd)):kA (rB w e)=(kA e).map ((w.q,w.t):: ·):=by
 cases e<;>rfl
abbrev Body:=List (Bool × List UInt8)
def kY:Except (Nat × Nat) (List Rw)→Option (List Body)
 | .error _=>none
 | .ok rs=>some (rL rs)
def oF (x:List UInt8):Option (List Body):=if 1000<x.length then none else match kA (cI x) with
 | none=>none
 | some []=>some []
 | some (w::ws)=>some [w::ws]
def oG:List (List UInt8)→Option (List Body)
 | []=>some []
 | x::r=>(oF x).bind fun p=>(oG r).map (p++ ·)
theorem uv (x y:Except (Nat × Nat) (List Rw)):kY (e9 x y)=(kY x).bind fun p=>(kY y).map (p++ ·):=by
 cases x<;>cases y<;>simp [e9,kY,rL]
theorem rN (a:Nat) (ws:List Wd):jT (ws.map (dP a))=jT ws:=by
 simp [jT,dP,Function.comp_def]
theorem uw (x:List UInt8) (a:Nat):kY (cr x a)=oF x:=by
  unfold cr oF
  split
  · rfl
  · cases cI x with
    | error b=>rfl
    | ok ws =>
      cases ws with
      | nil=>rfl
      | cons w ws =>
        show some [jT ((w::ws).map (dP a))]=_
        rw [rN];rfl
theorem kZ:∀ (l:List (List UInt8)) (a:Nat),kY (dn l a)=oG l
 | [],_=>rfl
 | x::l,a=>by rw [dn,uv,uw,kZ l];rfl
theorem rO {s:List UInt8} (h:s.length≤20000):kY (e6 s)=oG (lines s):=by
 unfold e6;rw [if_neg Oz,kZ]
theorem gP (p:UInt8→Bool):∀ l:List UInt8,∀ x∈l.takeWhile p,p x=true
  | [],x,h=>by simp at h
  | c :: l, x, h => by
    rw [List.takeWhile_cons] at h
    split at h
    · rename_i hc
      rcases List.mem_cons.1 h with rfl|h
      · exact hc
      · exact gP p l x h
    · cases h
def Gp (w:Wd):Prop:=(dq w.q w.t).isSome=true
theorem ux {c:UInt8} {l:List UInt8} {q:Bool} {t r:List UInt8} (h35:c≠35) (h:cV (c::l)=some (q,t,r)):(dq q t).isSome=true:=by
 simp only [cV] at h
 split at h
 ·split at h
  ·split at h
   ·cases h;rfl
   ·cases h
  ·cases h
 ·split at h
  ·cases h
  ·rename_i hne
   split at h
   ·cases h
    have hb:bareS ((c::l).takeWhile cd)=true:=by
     unfold bareS
     rw [Bool.and_eq_true]
     refine ⟨List.all_eq_true.2 fun x hx=>?_,?_⟩
     ·exact gP _ _ x hx
     ·rw [List.takeWhile_cons] at hne ⊢
      split
      ·rename_i he;split at he<;>simp_all
      ·rename_i d u he
       split at he
       ·cases he;simpa using h35
       ·cases he
    unfold dq
    rw [if_neg OK,if_pos hb];rfl
   ·cases h
theorem rP:∀ (n:Nat) (l:List UInt8) (a:Nat) (ws:List Wd),l.length≤n→dE l a= .ok ws→∀ w∈ws,Gp w:=by
  intro n
  induction n with
  | zero =>
    intro l a ws h hw
    have:l= []:=List.eq_nil_of_length_eq_zero Oz
    subst this
    cases hw;intro w hw;cases hw
  | succ n ih =>
    intro l a ws h hw
    rw [eE] at hw
    have hd:=cC aU l
    cases hl:l.dropWhile aU with
    | nil=>rw [hl] at hw;cases hw;intro w hw;cases hw
    | cons c r =>
      rw [hl] at hd hw
      simp only at hw
      by_cases h35:c=35
      · rw [if_pos h35] at hw;cases hw;intro w hw;cases hw
      · rw [if_neg h35] at hw
        cases hws:cV (c::r) with
        | none=>rw [hws] at hw;cases hw
        | some q =>
          obtain ⟨q,t,r'⟩:=q
          have hlen:=eD hws
          rw [hws] at hw
          simp only at hw
          cases hr:dE r' (a+(l.length - r'.length)) with
          | error b=>rw [hr] at hw;cases hw
          | ok vs =>
            rw [hr] at hw;cases hw
            intro w hw
            rcases List.mem_cons.1 hw with rfl|hw
            · exact ux h35 hws
            · exact ih r' _ vs Oz hr w hw
def BT (rs:List Rw):Prop:=∀ r∈rs,r.ws≠ []∧∀ w∈r.ws,Gp w
theorem pL {x:List UInt8} {a:Nat} {rs:List Rw} (h:cr x a= .ok rs):BT rs:=by
  unfold cr at h
  split at h
  · cases h
  · cases hw:cI x with
    | error b=>rw [hw] at h;cases h
    | ok ws =>
      have hg:=rP _ _ _ _ (Nat.le_refl _) hw
      rw [hw] at h
      cases ws with
      | nil=>cases h;intro r hr;cases hr
      | cons w ws =>
        cases h
        intro r hr
        have e:=List.mem_singleton.1 hr
        subst e
        refine ⟨by simp,fun v hv=>?_⟩
        obtain ⟨u,hu,rfl⟩:=List.mem_map.1 hv
        exact hg u hu
theorem mI:∀ (l:List (List UInt8)) (a:Nat) (rs:List Rw),dn l a= .ok rs→BT rs
  | [],_,rs,h=>by cases h;intro r hr;cases hr
  | x :: l, a, rs, h => by
    rw [dn] at h
    cases h1:cr x a with
    | error e=>rw [h1] at h;cases h
    | ok p =>
      cases h2:dn l (a+x.length+1) with
      | error e=>rw [h1,h2] at h;cases h
      | ok q =>
        rw [h1,h2] at h;cases h
        intro r hr
        rcases List.mem_append.1 hr with hr|hr
        · exact pL h1 r hr
        · exact mI l _ q h2 r hr
theorem uy {s:List UInt8} {rs:List Rw} (h:e6 s= .ok rs):BT rs:=by
 unfold e6 at h
 split at h
 ·cases h
 ·exact mI _ _ _ h
theorem kB:∀ (s:List UInt8),(∀ x∈lines s,x.length≤s.length)∧(lines s).length≤s.length+1
  | []=>by simp [lines]
  | c :: s => by
    obtain ⟨h1,h2⟩:=kB s
    simp only [lines]
    split
    · refine ⟨fun x hx=>?_,by simp;omega⟩
      rcases List.mem_cons.1 hx with rfl|hx
      · simp
      · have:=h1 x hx;simp;omega
    · cases hl:lines s with
      | nil=>exact absurd hl (BP s)
      | cons y r =>
        rw [hl] at h1 h2
        refine ⟨fun x hx=>?_,by simp at h2 ⊢;omega⟩
        rcases List.mem_cons.1 hx with rfl|hx
        · have:=h1 y OF;simp;omega
        · have:=h1 x Pv;simp;omega
theorem jn:∀ (n:Nat) (l:List UInt8) {t r:List UInt8},cU n l=some (t,r)→t.length≤l.length
  | 0,_,_,_,h=>by simp [cU] at h
  | _+1,[],_,_,h=>by simp [cU] at h
  | n + 1, c :: l, t, r, h => by
    simp only [cU] at h
    split at h
    · cases h;simp
    · split at h
      · split at h
        · rename_i x r' he
          have h1:=ic he
          cases hq:cU n r' with
          | none=>rw [hq] at h;cases h
          | some q =>
            rw [hq] at h;simp only [Option.map_some,Option.some.injEq,Prod.mk.injEq] at h
            have h2:=jn n r' hq
            rw [←h.1];simp;omega
        · cases h
      · split at h
        · cases hq:cU n l with
          | none=>rw [hq] at h;cases h
          | some q =>
            rw [hq] at h;simp only [Option.map_some,Option.some.injEq,Prod.mk.injEq] at h
            have h2:=jn n l hq
            rw [←h.1];simp;omega
        · cases h
theorem mJ (p:UInt8→Bool) (l:List UInt8):(l.takeWhile p).length≤l.length:=by
 have h:=congrArg List.length (List.takeWhile_append_dropWhile (p:=p) (l:=l))
 rw [List.length_append] at h;omega
theorem uz {l:List UInt8} {q:Bool} {t r:List UInt8} (h:cV l=some (q,t,r)):t.length≤l.length:=by
 unfold cV at h
 split at h
 ·cases h
 ·rename_i c l
  split at h
  ·split at h
   ·rename_i t' r' hq
    split at h
    ·cases h
     have:=jn _ _ hq
     simp;omega
    ·cases h
   ·cases h
  ·split at h
   ·cases h
   ·split at h
    ·cases h
     exact mJ _ _
    ·cases h
def uA (n:Nat) (b:Body):Prop:=b.length≤n∧∀ w∈b,w.2.length≤n
theorem nJ:∀ (n:Nat) (l:List UInt8) (a:Nat) (b:Body),l.length≤n→kA (dE l a)=some b→uA l.length b:=by
  intro n
  induction n with
  | zero =>
    intro l a b h hb
    have:l= []:=List.eq_nil_of_length_eq_zero Oz
    subst this;cases hb;exact ⟨Nat.zero_le _,fun w hw=>by cases hw⟩
  | succ n ih =>
    intro l a b h hb
    rw [eE] at hb
    have hd:=cC aU l
    cases hl:l.dropWhile aU with
    | nil=>rw [hl] at hb;cases hb;exact ⟨Nat.zero_le _,fun w hw=>by cases hw⟩
    | cons c r =>
      rw [hl] at hd hb
      simp only at hb
      by_cases h35:c=35
      · rw [if_pos h35] at hb;cases hb;exact ⟨Nat.zero_le _,fun w hw=>by cases hw⟩
      · rw [if_neg h35] at hb
        cases hw:cV (c::r) with
        | none=>rw [hw] at hb;cases hb
        | some q =>
          obtain ⟨q,t,r'⟩:=q
          have hlen:=eD hw
          have htl:=uz hw
          rw [hw] at hb
          simp only at hb
          rw [rM] at hb
          cases hr:kA (dE r' (a+(l.length - r'.length))) with
          | none=>rw [hr] at hb;cases hb
          | some b' =>
            rw [hr] at hb;cases hb
            obtain ⟨i1,i2⟩:=ih r' _ b' Oz hr
            refine ⟨by simp;omega,fun w hw=>?_⟩
            rcases List.mem_cons.1 hw with rfl|hw
            · show t.length≤_;omega
            · have:=i2 w hw;omega
theorem rQ {x:List UInt8} {p:List Body} (h:oF x=some p):p.length≤1∧∀ b∈p,uA x.length b:=by
  unfold oF at h
  split at h
  · cases h
  · cases hw:kA (cI x) with
    | none=>rw [hw] at h;cases h
    | some b =>
      have hl:=nJ _ _ _ _ (Nat.le_refl _) hw
      rw [hw] at h
      cases b with
      | nil=>cases h;exact ⟨Nat.zero_le _,fun w hw=>by cases hw⟩
      | cons w ws=>cases h;exact ⟨by simp,fun b hb=>by rw [List.mem_singleton.1 hb];exact hl⟩
theorem k7 {n:Nat}:∀ {ls:List (List UInt8)} {p:List Body},(∀ x∈ls,x.length≤n)→oG ls=some p→p.length≤ls.length∧∀ b∈p,uA n b
  | [],p,_,h=>by cases h;exact ⟨Nat.zero_le _,fun w hw=>by cases hw⟩
  | x :: ls, p, hx, h => by
    rw [oG] at h
    cases hy:oF x with
    | none=>rw [hy] at h;cases h
    | some p1 =>
      cases hq:oG ls with
      | none=>rw [hy,hq] at h;cases h
      | some p2 =>
        rw [hy,hq] at h;cases h
        obtain ⟨a1,a2⟩:=rQ hy
        obtain ⟨b1,b2⟩:=k7 (fun z hz=>hx z (by simp [hz])) hq
        refine ⟨by simp;omega,fun b hb=>?_⟩
        rcases List.mem_append.1 hb with hb|hb
        · have:=a2 b hb
          have hn:=hx x OF
          exact ⟨by have:=this.1;omega,fun w hw=>by have:=this.2 w hw;omega⟩
        · exact b2 b hb
theorem pM {x:List UInt8} {a c b:Nat} (h:cr x a= .error (c,b)):c=3∨c=4:=by
  unfold cr at h
  split at h
  · cases h;exact .inr rfl
  · cases hw:cI x with
    | error d=>rw [hw] at h;cases h;exact .inl rfl
    | ok ws =>
      rw [hw] at h
      cases ws<;>cases h
theorem mK:∀ {l:List (List UInt8)} {a c b:Nat},dn l a= .error (c,b)→c=3∨c=4
  | [],_,_,_,h=>by cases h
  | x :: l, a, c, b, h => by
    rw [dn] at h
    cases h1:cr x a with
    | error e =>
      rw [h1] at h
      obtain ⟨e1,e2⟩:=e
      cases h;exact pM h1
    | ok p =>
      cases h2:dn l (a+x.length+1) with
      | error e =>
        rw [h1,h2] at h
        obtain ⟨e1,e2⟩:=e
        cases h;exact mK h2
      | ok q=>rw [h1,h2] at h;cases h
theorem uB {s:List UInt8} {c b:Nat} (h:e6 s= .error (c,b)):c=3∨c=4:=by
 unfold e6 at h
 split at h
 ·cases h;exact .inr rfl
 ·exact mK h
end Go.Proofs.YtgephffbfiemeaaGreatDoor
