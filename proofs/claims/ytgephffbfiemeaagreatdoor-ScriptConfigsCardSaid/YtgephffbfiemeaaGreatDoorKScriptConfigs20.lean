/- Part 20 of the proof of ScriptConfigs: an abstract semantics that is proved sound for the model, contracts of functions in it, and plain facts (RU RQ1 RQ2 RQ3 RQ4). No condition. -/
import Derived.Test.YtgephffbfiemeaaGreatDoorKScriptConfigs19
import Derived.Lib.Join
set_option linter.all false
namespace Go.Proofs.YtgephffbfiemeaaGreatDoor
open Go.Abs
set_option linter.all false
set_option maxRecDepth 100000
def mP (n:Nat):UInt8:=([48,49,50,51,52,53,54,55,56,57,97,98,99,100,101,102]:List UInt8).getD n 0
def eV (b:UInt8):List UInt8:=if cv b then [b] else if b=34∨b=92 then [92,b] else [92,120,mP (b.toNat / 16),mP (b.toNat % 16)]
def bareS (l:List UInt8):Bool:=l.all aG&&(match l with | []=>false|c::_=>c != 35)
def cd (q:Bool) (t:List UInt8):Option (List UInt8):=if q then some (34::(t.flatMap eV++ [34])) else if bareS t then some t else none
structure WI where
 q:Bool
 t:List UInt8
 a:Int
structure RI where
 a:Int
 ws:List WI
def cWI (w:WI):List AV:= [.bool w.q, .str w.t, .int .i64 w.a]
def cRI (r:RI):List AV:= [.int .i64 r.a, .sl false r.ws.length (r.ws.flatMap cWI)]
theorem bm (l:List WI):(l.flatMap cWI).length=l.length*3:=a8 (f:=cWI) (fun _=>rfl) l
theorem bo (l:List RI):(l.flatMap cRI).length=l.length*2:=a8 (f:=cRI) (fun _=>rfl) l
def cQ:List WI→Option (List (List UInt8))
  | []=>some []
  | w :: ws => match cd    w.q w.t, cQ     ws with
    | some x,some l=>some (x::l)
    | _,_=>none
def gA (out:List UInt8):List RI→Except Nat (List UInt8)
  | []=> .ok out
  | r :: rs => if r.ws.length = 0 then .error 7 else match cQ     r.ws with
    | none=> .error 3
    | some l=>if 1000<(Lib.join l [32]).length∨20000<(out++(Lib.join l [32]++ [10])).length then .error 4 else gA (out++(Lib.join l [32]++ [10])) rs
def mq (l:List RI):Except Nat (List UInt8):=gA [] l
def wX:Except Nat (List UInt8)→AV
 | .error e=> .tup [.str [], .int .i64 (e:Nat)]
 | .ok t=> .tup [.str t, .int .i64 0]
def nX:Option (List UInt8)→AV
 | none=> .tup [.str [], .int .i64 3]
 | some t=> .tup [.str t, .int .i64 0]
theorem Dj (b:UInt8):(eV b).length≤4∧1≤(eV b).length:=by
 unfold eV;split
 ·simp
 ·split<;>simp
theorem qT (l:List UInt8):(l.flatMap eV).length≤4*l.length:=by
 induction l with
 | nil=>simp
 | cons b l ih=>have:=(Dj b).1;simp only [List.flatMap_cons,List.length_append,List.length_cons];omega
theorem pU {q:Bool} {t x:List UInt8} (h:cd q t=some x):x.length≤4*t.length+2:=by
 unfold cd at h
 have:=qT t
 split at h
 ·cases h;simp only [List.length_cons,List.length_append,List.length_nil];omega
 ·split at h
  ·cases h;omega
  ·cases h
def Kl (ws:List WI):Prop:=ws.length≤1000∧∀ w∈ws,w.t.length≤20000
def qU (l:List RI):Prop:=l.length≤1000∧∀ r∈l,Kl r.ws
theorem mr:∀ (ws:List WI) (w:WI),cQ (ws++ [w])=match cQ ws,cd w.q w.t with
    | some l,some x=>some (l++ [x])
    | _,_=>none
  | [],w=>by simp only [List.nil_append,cQ];cases cd w.q w.t<;>rfl
  | v :: ws, w => by
    simp only [List.cons_append,cQ]
    rw [mr ws w]
    cases cd v.q v.t<;>cases cQ ws<;>cases cd w.q w.t<;>rfl
theorem kb:∀ (ws:List WI) (k:Nat) (h:k<ws.length),cd ws[k].q ws[k].t=none→cQ ws=none
  | w::ws,0,_,h=>by simp only [List.getElem_cons_zero] at h;simp [cQ,h]
  | w :: ws, k + 1, hk, h => by
    simp only [List.getElem_cons_succ] at h
    have:=kb ws k (by simpa using hk) h
    simp only [cQ,this]
    cases cd w.q w.t<;>rfl
theorem ji {ws:List WI} {l:List (List UInt8)} {k:Nat} (hk:k<ws.length) (h:cQ (ws.take k)=some l) {x:List UInt8} (hx:cd ws[k].q ws[k].t=some x):cQ (ws.take (k+1))=some (l++ [x]):=by
 rw [←List.take_append_getElem hk,mr,h,hx]
theorem nY:∀ (ws:List WI) {l:List (List UInt8)},cQ ws=some l→l.length=ws.length∧(∀ n,(∀ w∈ws,w.t.length≤n)→∀ x∈l,x.length≤4*n+2)
  | [],l,h=>by cases h;simp
  | w :: ws, l, h => by
    simp only [cQ] at h
    cases hx:cd w.q w.t with
    | none=>rw [hx] at h;cases h
    | some x =>
      cases hl:cQ ws with
      | none=>rw [hx,hl] at h;cases h
      | some l' =>
        rw [hx,hl] at h;cases h
        obtain ⟨h1,h2⟩:=nY ws hl
        refine ⟨by simp [h1],fun n hn y hy=>?_⟩
        rcases List.mem_cons.1 hy with rfl|hy
        · have:=pU hx;have:=hn w Qd;omega
        · exact h2 n (fun w hw=>hn w (by simp [hw])) y hy
theorem Dk (m:Nat):∀ (l:List (List UInt8)),(∀ x∈l,x.length≤m)→(Lib.join l [32]).length≤(m+1)*l.length:=by
  have lens:∀ (l:List (List UInt8)),(∀ x∈l,x.length≤m)→Lib.lens l≤m*l.length:=by
    intro l
    induction l with
    | nil=>intro _;simp [Lib.lens]
    | cons x l ih =>
      intro h
      have h1:=h x Qd
      have h2:=ih (fun y hy=>h y (by simp [hy]))
      simp only [Lib.lens,List.map_cons,List.sum_cons,List.length_cons,Nat.mul_add,Nat.mul_one] at h2 ⊢
      omega
  intro l h
  cases l with
  | nil=>simp [Lib.join_nil]
  | cons x l =>
    have:=lens (x::l) h
    rw [Lib.join_length]
    simp only [List.length_cons,List.length_nil,Nat.add_mul,Nat.mul_add,Nat.mul_one,Nat.one_mul] at this ⊢
    omega
def kM (ws:List Wd):List (Bool × List UInt8):=ws.map fun w=>(w.q,w.t)
def td (rs:List Rw):List (List (Bool × List UInt8)):=rs.map fun r=>kM r.ws
def lU:Except Nat (List Wd)→Option (List (Bool × List UInt8))
 | .error _=>none
 | .ok ws=>some (kM ws)
theorem te (w:Wd) (e:Except Nat (List Wd)):lU (jQ w e)=(lU e).map ((w.q,w.t):: ·):=by
 cases e<;>rfl
abbrev Body:=List (Bool × List UInt8)
def mu:Except (Nat × Nat) (List Rw)→Option (List Body)
 | .error _=>none
 | .ok rs=>some (td rs)
def pV (x:List UInt8):Option (List Body):=if 1000<x.length then none else match lU (cK x) with
 | none=>none
 | some []=>some []
 | some (w::ws)=>some [w::ws]
def pW:List (List UInt8)→Option (List Body)
 | []=>some []
 | x::r=>(pV x).bind fun p=>(pW r).map (p++ ·)
theorem vG (x y:Except (Nat × Nat) (List Rw)):mu (dO x y)=(mu x).bind fun p=>(mu y).map (p++ ·):=by
 cases x<;>cases y<;>simp [dO,mu,td]
theorem tg (a:Nat) (ws:List Wd):kM (ws.map (dx a))=kM ws:=by
 simp [kM,dx,Function.comp_def]
theorem vH (x:List UInt8) (a:Nat):mu (bV x a)=pV x:=by
  unfold bV pV
  split
  · rfl
  · cases cK x with
    | error b=>rfl
    | ok ws =>
      cases ws with
      | nil=>rfl
      | cons w ws =>
        show some [kM ((w::ws).map (dx a))]=_
        rw [tg];rfl
theorem mw:∀ (l:List (List UInt8)) (a:Nat),mu (cE l a)=pW l
 | [],_=>rfl
 | x::l,a=>by rw [cE,vG,vH,mw l];rfl
theorem th {s:List UInt8} (h:s.length≤20000):mu (dE s)=pW (lines s):=by
 unfold dE;rw [if_neg P6,mw]
theorem iN (p:UInt8→Bool):∀ l:List UInt8,∀ x∈l.takeWhile p,p x=true
  | [],x,h=>by simp at h
  | c :: l, x, h => by
    rw [List.takeWhile_cons] at h
    split at h
    · rename_i hc
      rcases List.mem_cons.1 h with rfl|h
      · exact hc
      · exact iN p l x h
    · cases h
def HF (w:Wd):Prop:=(cd w.q w.t).isSome=true
theorem vI {c:UInt8} {l:List UInt8} {q:Bool} {t r:List UInt8} (h35:c≠35) (h:cD (c::l)=some (q,t,r)):(cd q t).isSome=true:=by
 simp only [cD] at h
 split at h
 ·split at h
  ·split at h
   ·cases h;rfl
   ·cases h
  ·cases h
 ·split at h
  ·cases h
  ·rename_i hne
   split at h
   ·cases h
    have hb:bareS ((c::l).takeWhile aG)=true:=by
     unfold bareS
     rw [Bool.and_eq_true]
     refine ⟨List.all_eq_true.2 fun x hx=>?_,?_⟩
     ·exact iN _ _ x hx
     ·rw [List.takeWhile_cons] at hne ⊢
      split
      ·rename_i he;split at he<;>simp_all
      ·rename_i d u he
       split at he
       ·cases he;simpa using h35
       ·cases he
    unfold cd
    rw [if_neg Qg,if_pos hb];rfl
   ·cases h
theorem ti:∀ (n:Nat) (l:List UInt8) (a:Nat) (ws:List Wd),l.length≤n→bQ l a= .ok ws→∀ w∈ws,HF w:=by
  intro n
  induction n with
  | zero =>
    intro l a ws h hw
    have:l= []:=List.eq_nil_of_length_eq_zero P6
    subst this
    cases hw;intro w hw;cases hw
  | succ n ih =>
    intro l a ws h hw
    rw [cU] at hw
    have hd:=cn aH l
    cases hl:l.dropWhile aH with
    | nil=>rw [hl] at hw;cases hw;intro w hw;cases hw
    | cons c r =>
      rw [hl] at hd hw
      simp only at hw
      by_cases h35:c=35
      · rw [if_pos h35] at hw;cases hw;intro w hw;cases hw
      · rw [if_neg h35] at hw
        cases hws:cD (c::r) with
        | none=>rw [hws] at hw;cases hw
        | some q =>
          obtain ⟨q,t,r'⟩:=q
          have hlen:=dW hws
          rw [hws] at hw
          simp only at hw
          cases hr:bQ r' (a+(l.length - r'.length)) with
          | error b=>rw [hr] at hw;cases hw
          | ok vs =>
            rw [hr] at hw;cases hw
            intro w hw
            rcases List.mem_cons.1 hw with rfl|hw
            · exact vI h35 hws
            · exact ih r' _ vs P6 hr w hw
def Dl (rs:List Rw):Prop:=∀ r∈rs,r.ws≠ []∧∀ w∈r.ws,HF w
theorem qV {x:List UInt8} {a:Nat} {rs:List Rw} (h:bV x a= .ok rs):Dl rs:=by
  unfold bV at h
  split at h
  · cases h
  · cases hw:cK x with
    | error b=>rw [hw] at h;cases h
    | ok ws =>
      have hg:=ti _ _ _ _ (Nat.le_refl _) hw
      rw [hw] at h
      cases ws with
      | nil=>cases h;intro r hr;cases hr
      | cons w ws =>
        cases h
        intro r hr
        have e:=List.mem_singleton.1 hr
        subst e
        refine ⟨by simp,fun v hv=>?_⟩
        obtain ⟨u,hu,rfl⟩:=List.mem_map.1 hv
        exact hg u hu
theorem nZ:∀ (l:List (List UInt8)) (a:Nat) (rs:List Rw),cE l a= .ok rs→Dl rs
  | [],_,rs,h=>by cases h;intro r hr;cases hr
  | x :: l, a, rs, h => by
    rw [cE] at h
    cases h1:bV x a with
    | error e=>rw [h1] at h;cases h
    | ok p =>
      cases h2:cE l (a+x.length+1) with
      | error e=>rw [h1,h2] at h;cases h
      | ok q =>
        rw [h1,h2] at h;cases h
        intro r hr
        rcases List.mem_append.1 hr with hr|hr
        · exact qV h1 r hr
        · exact nZ l _ q h2 r hr
theorem vJ {s:List UInt8} {rs:List Rw} (h:dE s= .ok rs):Dl rs:=by
 unfold dE at h
 split at h
 ·cases h
 ·exact nZ _ _ _ h
theorem lW:∀ (s:List UInt8),(∀ x∈lines s,x.length≤s.length)∧(lines s).length≤s.length+1
  | []=>by simp [lines]
  | c :: s => by
    obtain ⟨h1,h2⟩:=lW s
    simp only [lines]
    split
    · refine ⟨fun x hx=>?_,by simp;omega⟩
      rcases List.mem_cons.1 hx with rfl|hx
      · simp
      · have:=h1 x hx;simp;omega
    · cases hl:lines s with
      | nil=>exact absurd hl (Di s)
      | cons y r =>
        rw [hl] at h1 h2
        refine ⟨fun x hx=>?_,by simp at h2 ⊢;omega⟩
        rcases List.mem_cons.1 hx with rfl|hx
        · have:=h1 y Qd;simp;omega
        · have:=h1 x QT;simp;omega
theorem kc:∀ (n:Nat) (l:List UInt8) {t r:List UInt8},dD n l=some (t,r)→t.length≤l.length
  | 0,_,_,_,h=>by simp [dD] at h
  | _+1,[],_,_,h=>by simp [dD] at h
  | n + 1, c :: l, t, r, h => by
    simp only [dD] at h
    split at h
    · cases h;simp
    · split at h
      · split at h
        · rename_i x r' he
          have h1:=jh he
          cases hq:dD n r' with
          | none=>rw [hq] at h;cases h
          | some q =>
            rw [hq] at h;simp only [Option.map_some,Option.some.injEq,Prod.mk.injEq] at h
            have h2:=kc n r' hq
            rw [←h.1];simp;omega
        · cases h
      · split at h
        · cases hq:dD n l with
          | none=>rw [hq] at h;cases h
          | some q =>
            rw [hq] at h;simp only [Option.map_some,Option.some.injEq,Prod.mk.injEq] at h
            have h2:=kc n l hq
            rw [←h.1];simp;omega
        · cases h
theorem n3 (p:UInt8→Bool) (l:List UInt8):(l.takeWhile p).length≤l.length:=by
 have h:=congrArg List.length (List.takeWhile_append_dropWhile (p:=p) (l:=l))
 rw [List.length_append] at h;omega
theorem vK {l:List UInt8} {q:Bool} {t r:List UInt8} (h:cD l=some (q,t,r)):t.length≤l.length:=by
 unfold cD at h
 split at h
 ·cases h
 ·rename_i c l
  split at h
  ·split at h
   ·rename_i t' r' hq
    split at h
    ·cases h
     have:=kc _ _ hq
     simp;omega
    ·cases h
   ·cases h
  ·split at h
   ·cases h
   ·split at h
    ·cases h
     exact n3 _ _
    ·cases h
def vL (n:Nat) (b:Body):Prop:=b.length≤n∧∀ w∈b,w.2.length≤n
theorem o4:∀ (n:Nat) (l:List UInt8) (a:Nat) (b:Body),l.length≤n→lU (bQ l a)=some b→vL l.length b:=by
  intro n
  induction n with
  | zero =>
    intro l a b h hb
    have:l= []:=List.eq_nil_of_length_eq_zero P6
    subst this;cases hb;exact ⟨Nat.zero_le _,fun w hw=>by cases hw⟩
  | succ n ih =>
    intro l a b h hb
    rw [cU] at hb
    have hd:=cn aH l
    cases hl:l.dropWhile aH with
    | nil=>rw [hl] at hb;cases hb;exact ⟨Nat.zero_le _,fun w hw=>by cases hw⟩
    | cons c r =>
      rw [hl] at hd hb
      simp only at hb
      by_cases h35:c=35
      · rw [if_pos h35] at hb;cases hb;exact ⟨Nat.zero_le _,fun w hw=>by cases hw⟩
      · rw [if_neg h35] at hb
        cases hw:cD (c::r) with
        | none=>rw [hw] at hb;cases hb
        | some q =>
          obtain ⟨q,t,r'⟩:=q
          have hlen:=dW hw
          have htl:=vK hw
          rw [hw] at hb
          simp only at hb
          rw [te] at hb
          cases hr:lU (bQ r' (a+(l.length - r'.length))) with
          | none=>rw [hr] at hb;cases hb
          | some b' =>
            rw [hr] at hb;cases hb
            obtain ⟨i1,i2⟩:=ih r' _ b' P6 hr
            refine ⟨by simp;omega,fun w hw=>?_⟩
            rcases List.mem_cons.1 hw with rfl|hw
            · show t.length≤_;omega
            · have:=i2 w hw;omega
theorem tj {x:List UInt8} {p:List Body} (h:pV x=some p):p.length≤1∧∀ b∈p,vL x.length b:=by
  unfold pV at h
  split at h
  · cases h
  · cases hw:lU (cK x) with
    | none=>rw [hw] at h;cases h
    | some b =>
      have hl:=o4 _ _ _ _ (Nat.le_refl _) hw
      rw [hw] at h
      cases b with
      | nil=>cases h;exact ⟨Nat.zero_le _,fun w hw=>by cases hw⟩
      | cons w ws=>cases h;exact ⟨by simp,fun b hb=>by rw [List.mem_singleton.1 hb];exact hl⟩
theorem my {n:Nat}:∀ {ls:List (List UInt8)} {p:List Body},(∀ x∈ls,x.length≤n)→pW ls=some p→p.length≤ls.length∧∀ b∈p,vL n b
  | [],p,_,h=>by cases h;exact ⟨Nat.zero_le _,fun w hw=>by cases hw⟩
  | x :: ls, p, hx, h => by
    rw [pW] at h
    cases hy:pV x with
    | none=>rw [hy] at h;cases h
    | some p1 =>
      cases hq:pW ls with
      | none=>rw [hy,hq] at h;cases h
      | some p2 =>
        rw [hy,hq] at h;cases h
        obtain ⟨a1,a2⟩:=tj hy
        obtain ⟨b1,b2⟩:=my (fun z hz=>hx z (by simp [hz])) hq
        refine ⟨by simp;omega,fun b hb=>?_⟩
        rcases List.mem_append.1 hb with hb|hb
        · have:=a2 b hb
          have hn:=hx x Qd
          exact ⟨by have:=this.1;omega,fun w hw=>by have:=this.2 w hw;omega⟩
        · exact b2 b hb
theorem qW {x:List UInt8} {a c b:Nat} (h:bV x a= .error (c,b)):c=3∨c=4:=by
  unfold bV at h
  split at h
  · cases h;exact .inr rfl
  · cases hw:cK x with
    | error d=>rw [hw] at h;cases h;exact .inl rfl
    | ok ws =>
      rw [hw] at h
      cases ws<;>cases h
theorem n4:∀ {l:List (List UInt8)} {a c b:Nat},cE l a= .error (c,b)→c=3∨c=4
  | [],_,_,_,h=>by cases h
  | x :: l, a, c, b, h => by
    rw [cE] at h
    cases h1:bV x a with
    | error e =>
      rw [h1] at h
      obtain ⟨e1,e2⟩:=e
      cases h;exact qW h1
    | ok p =>
      cases h2:cE l (a+x.length+1) with
      | error e =>
        rw [h1,h2] at h
        obtain ⟨e1,e2⟩:=e
        cases h;exact n4 h2
      | ok q=>rw [h1,h2] at h;cases h
theorem vM {s:List UInt8} {c b:Nat} (h:dE s= .error (c,b)):c=3∨c=4:=by
 unfold dE at h
 split at h
 ·cases h;exact .inr rfl
 ·exact n4 h
end Go.Proofs.YtgephffbfiemeaaGreatDoor
