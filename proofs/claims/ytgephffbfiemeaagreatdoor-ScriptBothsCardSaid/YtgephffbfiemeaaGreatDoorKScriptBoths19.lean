/- Part 19 of the proof of ScriptBoths: an abstract semantics that is proved sound for the model, contracts of functions in it, and plain facts (RU RQ1 RQ2 RQ3 RQ4). No condition. -/
import Derived.Test.YtgephffbfiemeaaGreatDoorKScriptBoths18
import Derived.Lib.Join
set_option linter.all false
namespace Go.Proofs.YtgephffbfiemeaaGreatDoor
open Go.Abs
set_option linter.all false
set_option maxRecDepth 100000
def lI (n:Nat):UInt8:=([48,49,50,51,52,53,54,55,56,57,97,98,99,100,101,102]:List UInt8).getD n 0
def er (b:UInt8):List UInt8:=if cb b then [b] else if b=34∨b=92 then [92,b] else [92,120,lI (b.toNat / 16),lI (b.toNat % 16)]
def bareS (l:List UInt8):Bool:=l.all aI&&(match l with | []=>false|c::_=>c != 35)
def bV (q:Bool) (t:List UInt8):Option (List UInt8):=if q then some (34::(t.flatMap er++ [34])) else if bareS t then some t else none
structure WI where
 q:Bool
 t:List UInt8
 a:Int
structure RI where
 a:Int
 ws:List WI
def cWI (w:WI):List AV:= [.bool w.q, .str w.t, .int .i64 w.a]
def cRI (r:RI):List AV:= [.int .i64 r.a, .sl false r.ws.length (r.ws.flatMap cWI)]
theorem a8 (l:List WI):(l.flatMap cWI).length=l.length*3:=aF (f:=cWI) (fun _=>rfl) l
theorem bg (l:List RI):(l.flatMap cRI).length=l.length*2:=aF (f:=cRI) (fun _=>rfl) l
def cA:List WI→Option (List (List UInt8))
  | []=>some []
  | w :: ws => match bV    w.q w.t, cA     ws with
    | some x,some l=>some (x::l)
    | _,_=>none
def fy (out:List UInt8):List RI→Except Nat (List UInt8)
  | []=> .ok out
  | r :: rs => if r.ws.length = 0 then .error 7 else match cA     r.ws with
    | none=> .error 3
    | some l=>if 1000<(Lib.join l [32]).length∨20000<(out++(Lib.join l [32]++ [10])).length then .error 4 else fy (out++(Lib.join l [32]++ [10])) rs
def ff (l:List RI):Except Nat (List UInt8):=fy [] l
def mI:Except Nat (List UInt8)→AV
 | .error e=> .tup [.str [], .int .i64 (e:Nat)]
 | .ok t=> .tup [.str t, .int .i64 0]
def mJ:Option (List UInt8)→AV
 | none=> .tup [.str [], .int .i64 3]
 | some t=> .tup [.str t, .int .i64 0]
theorem BD (b:UInt8):(er b).length≤4∧1≤(er b).length:=by
 unfold er;split
 ·simp
 ·split<;>simp
theorem pN (l:List UInt8):(l.flatMap er).length≤4*l.length:=by
 induction l with
 | nil=>simp
 | cons b l ih=>have:=(BD b).1;simp only [List.flatMap_cons,List.length_append,List.length_cons];omega
theorem oF {q:Bool} {t x:List UInt8} (h:bV q t=some x):x.length≤4*t.length+2:=by
 unfold bV at h
 have:=pN t
 split at h
 ·cases h;simp only [List.length_cons,List.length_append,List.length_nil];omega
 ·split at h
  ·cases h;omega
  ·cases h
def H8 (ws:List WI):Prop:=ws.length≤1000∧∀ w∈ws,w.t.length≤20000
def mK (l:List RI):Prop:=l.length≤1000∧∀ r∈l,H8 r.ws
theorem lj:∀ (ws:List WI) (w:WI),cA (ws++ [w])=match cA ws,bV w.q w.t with
    | some l,some x=>some (l++ [x])
    | _,_=>none
  | [],w=>by simp only [List.nil_append,cA];cases bV w.q w.t<;>rfl
  | v :: ws, w => by
    simp only [List.cons_append,cA]
    rw [lj ws w]
    cases bV v.q v.t<;>cases cA ws<;>cases bV w.q w.t<;>rfl
theorem jr:∀ (ws:List WI) (k:Nat) (h:k<ws.length),bV ws[k].q ws[k].t=none→cA ws=none
  | w::ws,0,_,h=>by simp only [List.getElem_cons_zero] at h;simp [cA,h]
  | w :: ws, k + 1, hk, h => by
    simp only [List.getElem_cons_succ] at h
    have:=jr ws k (by simpa using hk) h
    simp only [cA,this]
    cases bV w.q w.t<;>rfl
theorem iu {ws:List WI} {l:List (List UInt8)} {k:Nat} (hk:k<ws.length) (h:cA (ws.take k)=some l) {x:List UInt8} (hx:bV ws[k].q ws[k].t=some x):cA (ws.take (k+1))=some (l++ [x]):=by
 rw [←List.take_append_getElem hk,lj,h,hx]
theorem mL:∀ (ws:List WI) {l:List (List UInt8)},cA ws=some l→l.length=ws.length∧(∀ n,(∀ w∈ws,w.t.length≤n)→∀ x∈l,x.length≤4*n+2)
  | [],l,h=>by cases h;simp
  | w :: ws, l, h => by
    simp only [cA] at h
    cases hx:bV w.q w.t with
    | none=>rw [hx] at h;cases h
    | some x =>
      cases hl:cA ws with
      | none=>rw [hx,hl] at h;cases h
      | some l' =>
        rw [hx,hl] at h;cases h
        obtain ⟨h1,h2⟩:=mL ws hl
        refine ⟨by simp [h1],fun n hn y hy=>?_⟩
        rcases List.mem_cons.1 hy with rfl|hy
        · have:=oF hx;have:=hn w M1;omega
        · exact h2 n (fun w hw=>hn w (by simp [hw])) y hy
theorem BE (m:Nat):∀ (l:List (List UInt8)),(∀ x∈l,x.length≤m)→(Lib.join l [32]).length≤(m+1)*l.length:=by
  have lens:∀ (l:List (List UInt8)),(∀ x∈l,x.length≤m)→Lib.lens l≤m*l.length:=by
    intro l
    induction l with
    | nil=>intro _;simp [Lib.lens]
    | cons x l ih =>
      intro h
      have h1:=h x M1
      have h2:=ih (fun y hy=>h y (by simp [hy]))
      simp only [Lib.lens,List.map_cons,List.sum_cons,List.length_cons,Nat.mul_add,Nat.mul_one] at h2 ⊢
      omega
  intro l h
  cases l with
  | nil=>simp [Lib.join_nil]
  | cons x l =>
    have:=lens (x::l) h
    rw [Lib.join_length]
    simp only [List.length_cons,List.length_nil,Nat.add_mul,Nat.mul_add,Nat.mul_one,Nat.one_mul] at this ⊢
    omega
def jU (ws:List Wd):List (Bool × List UInt8):=ws.map fun w=>(w.q,w.t)
def rU (rs:List Rw):List (List (Bool × List UInt8)):=rs.map fun r=>jU r.ws
def kH:Except Nat (List Wd)→Option (List (Bool × List UInt8))
 | .error _=>none
 | .ok ws=>some (jU ws)
theorem rV (w:Wd) (e:Except Nat (List Wd)):kH (iZ w e)=(kH e).map ((w.q,w.t):: ·):=by
 cases e<;>rfl
abbrev Body:=List (Bool × List UInt8)
def lk:Except (Nat × Nat) (List Rw)→Option (List Body)
 | .error _=>none
 | .ok rs=>some (rU rs)
def oG (x:List UInt8):Option (List Body):=if 1000<x.length then none else match kH (cq x) with
 | none=>none
 | some []=>some []
 | some (w::ws)=>some [w::ws]
def oH:List (List UInt8)→Option (List Body)
 | []=>some []
 | x::r=>(oG x).bind fun p=>(oH r).map (p++ ·)
theorem ur (x y:Except (Nat × Nat) (List Rw)):lk (dr x y)=(lk x).bind fun p=>(lk y).map (p++ ·):=by
 cases x<;>cases y<;>simp [dr,lk,rU]
theorem rW (a:Nat) (ws:List Wd):jU (ws.map (dc a))=jU ws:=by
 simp [jU,dc,Function.comp_def]
theorem uu (x:List UInt8) (a:Nat):lk (bF x a)=oG x:=by
  unfold bF oG
  split
  · rfl
  · cases cq x with
    | error b=>rfl
    | ok ws =>
      cases ws with
      | nil=>rfl
      | cons w ws =>
        show some [jU ((w::ws).map (dc a))]=_
        rw [rW];rfl
theorem ln:∀ (l:List (List UInt8)) (a:Nat),lk (bU l a)=oH l
 | [],_=>rfl
 | x::l,a=>by rw [bU,ur,uu,ln l];rfl
theorem rX {s:List UInt8} (h:s.length≤20000):lk (c8 s)=oH (lines s):=by
 unfold c8;rw [if_neg MX,ln]
theorem gR (p:UInt8→Bool):∀ l:List UInt8,∀ x∈l.takeWhile p,p x=true
  | [],x,h=>by simp at h
  | c :: l, x, h => by
    rw [List.takeWhile_cons] at h
    split at h
    · rename_i hc
      rcases List.mem_cons.1 h with rfl|h
      · exact hc
      · exact gR p l x h
    · cases h
def FE (w:Wd):Prop:=(bV w.q w.t).isSome=true
theorem uv {c:UInt8} {l:List UInt8} {q:Bool} {t r:List UInt8} (h35:c≠35) (h:cj (c::l)=some (q,t,r)):(bV q t).isSome=true:=by
 simp only [cj] at h
 split at h
 ·split at h
  ·split at h
   ·cases h;rfl
   ·cases h
  ·cases h
 ·split at h
  ·cases h
  ·rename_i hne
   split at h
   ·cases h
    have hb:bareS ((c::l).takeWhile aI)=true:=by
     unfold bareS
     rw [Bool.and_eq_true]
     refine ⟨List.all_eq_true.2 fun x hx=>?_,?_⟩
     ·exact gR _ _ x hx
     ·rw [List.takeWhile_cons] at hne ⊢
      split
      ·rename_i he;split at he<;>simp_all
      ·rename_i d u he
       split at he
       ·cases he;simpa using h35
       ·cases he
    unfold bV
    rw [if_neg Na,if_pos hb];rfl
   ·cases h
theorem rY:∀ (n:Nat) (l:List UInt8) (a:Nat) (ws:List Wd),l.length≤n→bL l a= .ok ws→∀ w∈ws,FE w:=by
  intro n
  induction n with
  | zero =>
    intro l a ws h hw
    have:l= []:=List.eq_nil_of_length_eq_zero MX
    subst this
    cases hw;intro w hw;cases hw
  | succ n ih =>
    intro l a ws h hw
    rw [cG] at hw
    have hd:=bY aJ l
    cases hl:l.dropWhile aJ with
    | nil=>rw [hl] at hw;cases hw;intro w hw;cases hw
    | cons c r =>
      rw [hl] at hd hw
      simp only at hw
      by_cases h35:c=35
      · rw [if_pos h35] at hw;cases hw;intro w hw;cases hw
      · rw [if_neg h35] at hw
        cases hws:cj (c::r) with
        | none=>rw [hws] at hw;cases hw
        | some q =>
          obtain ⟨q,t,r'⟩:=q
          have hlen:=dF hws
          rw [hws] at hw
          simp only at hw
          cases hr:bL r' (a+(l.length - r'.length)) with
          | error b=>rw [hr] at hw;cases hw
          | ok vs =>
            rw [hr] at hw;cases hw
            intro w hw
            rcases List.mem_cons.1 hw with rfl|hw
            · exact uv h35 hws
            · exact ih r' _ vs MX hr w hw
def BF (rs:List Rw):Prop:=∀ r∈rs,r.ws≠ []∧∀ w∈r.ws,FE w
theorem pO {x:List UInt8} {a:Nat} {rs:List Rw} (h:bF x a= .ok rs):BF rs:=by
  unfold bF at h
  split at h
  · cases h
  · cases hw:cq x with
    | error b=>rw [hw] at h;cases h
    | ok ws =>
      have hg:=rY _ _ _ _ (Nat.le_refl _) hw
      rw [hw] at h
      cases ws with
      | nil=>cases h;intro r hr;cases hr
      | cons w ws =>
        cases h
        intro r hr
        have e:=List.mem_singleton.1 hr
        subst e
        refine ⟨by simp,fun v hv=>?_⟩
        obtain ⟨u,hu,rfl⟩:=List.mem_map.1 hv
        exact hg u hu
theorem mM:∀ (l:List (List UInt8)) (a:Nat) (rs:List Rw),bU l a= .ok rs→BF rs
  | [],_,rs,h=>by cases h;intro r hr;cases hr
  | x :: l, a, rs, h => by
    rw [bU] at h
    cases h1:bF x a with
    | error e=>rw [h1] at h;cases h
    | ok p =>
      cases h2:bU l (a+x.length+1) with
      | error e=>rw [h1,h2] at h;cases h
      | ok q =>
        rw [h1,h2] at h;cases h
        intro r hr
        rcases List.mem_append.1 hr with hr|hr
        · exact pO h1 r hr
        · exact mM l _ q h2 r hr
theorem uw {s:List UInt8} {rs:List Rw} (h:c8 s= .ok rs):BF rs:=by
 unfold c8 at h
 split at h
 ·cases h
 ·exact mM _ _ _ h
theorem kI:∀ (s:List UInt8),(∀ x∈lines s,x.length≤s.length)∧(lines s).length≤s.length+1
  | []=>by simp [lines]
  | c :: s => by
    obtain ⟨h1,h2⟩:=kI s
    simp only [lines]
    split
    · refine ⟨fun x hx=>?_,by simp;omega⟩
      rcases List.mem_cons.1 hx with rfl|hx
      · simp
      · have:=h1 x hx;simp;omega
    · cases hl:lines s with
      | nil=>exact absurd hl (BC s)
      | cons y r =>
        rw [hl] at h1 h2
        refine ⟨fun x hx=>?_,by simp at h2 ⊢;omega⟩
        rcases List.mem_cons.1 hx with rfl|hx
        · have:=h1 y M1;simp;omega
        · have:=h1 x NI;simp;omega
theorem js:∀ (n:Nat) (l:List UInt8) {t r:List UInt8},dm n l=some (t,r)→t.length≤l.length
  | 0,_,_,_,h=>by simp [dm] at h
  | _+1,[],_,_,h=>by simp [dm] at h
  | n + 1, c :: l, t, r, h => by
    simp only [dm] at h
    split at h
    · cases h;simp
    · split at h
      · split at h
        · rename_i x r' he
          have h1:=ir he
          cases hq:dm n r' with
          | none=>rw [hq] at h;cases h
          | some q =>
            rw [hq] at h;simp only [Option.map_some,Option.some.injEq,Prod.mk.injEq] at h
            have h2:=js n r' hq
            rw [←h.1];simp;omega
        · cases h
      · split at h
        · cases hq:dm n l with
          | none=>rw [hq] at h;cases h
          | some q =>
            rw [hq] at h;simp only [Option.map_some,Option.some.injEq,Prod.mk.injEq] at h
            have h2:=js n l hq
            rw [←h.1];simp;omega
        · cases h
theorem mN (p:UInt8→Bool) (l:List UInt8):(l.takeWhile p).length≤l.length:=by
 have h:=congrArg List.length (List.takeWhile_append_dropWhile (p:=p) (l:=l))
 rw [List.length_append] at h;omega
theorem ux {l:List UInt8} {q:Bool} {t r:List UInt8} (h:cj l=some (q,t,r)):t.length≤l.length:=by
 unfold cj at h
 split at h
 ·cases h
 ·rename_i c l
  split at h
  ·split at h
   ·rename_i t' r' hq
    split at h
    ·cases h
     have:=js _ _ hq
     simp;omega
    ·cases h
   ·cases h
  ·split at h
   ·cases h
   ·split at h
    ·cases h
     exact mN _ _
    ·cases h
def uy (n:Nat) (b:Body):Prop:=b.length≤n∧∀ w∈b,w.2.length≤n
theorem nS:∀ (n:Nat) (l:List UInt8) (a:Nat) (b:Body),l.length≤n→kH (bL l a)=some b→uy l.length b:=by
  intro n
  induction n with
  | zero =>
    intro l a b h hb
    have:l= []:=List.eq_nil_of_length_eq_zero MX
    subst this;cases hb;exact ⟨Nat.zero_le _,fun w hw=>by cases hw⟩
  | succ n ih =>
    intro l a b h hb
    rw [cG] at hb
    have hd:=bY aJ l
    cases hl:l.dropWhile aJ with
    | nil=>rw [hl] at hb;cases hb;exact ⟨Nat.zero_le _,fun w hw=>by cases hw⟩
    | cons c r =>
      rw [hl] at hd hb
      simp only at hb
      by_cases h35:c=35
      · rw [if_pos h35] at hb;cases hb;exact ⟨Nat.zero_le _,fun w hw=>by cases hw⟩
      · rw [if_neg h35] at hb
        cases hw:cj (c::r) with
        | none=>rw [hw] at hb;cases hb
        | some q =>
          obtain ⟨q,t,r'⟩:=q
          have hlen:=dF hw
          have htl:=ux hw
          rw [hw] at hb
          simp only at hb
          rw [rV] at hb
          cases hr:kH (bL r' (a+(l.length - r'.length))) with
          | none=>rw [hr] at hb;cases hb
          | some b' =>
            rw [hr] at hb;cases hb
            obtain ⟨i1,i2⟩:=ih r' _ b' MX hr
            refine ⟨by simp;omega,fun w hw=>?_⟩
            rcases List.mem_cons.1 hw with rfl|hw
            · show t.length≤_;omega
            · have:=i2 w hw;omega
theorem rZ {x:List UInt8} {p:List Body} (h:oG x=some p):p.length≤1∧∀ b∈p,uy x.length b:=by
  unfold oG at h
  split at h
  · cases h
  · cases hw:kH (cq x) with
    | none=>rw [hw] at h;cases h
    | some b =>
      have hl:=nS _ _ _ _ (Nat.le_refl _) hw
      rw [hw] at h
      cases b with
      | nil=>cases h;exact ⟨Nat.zero_le _,fun w hw=>by cases hw⟩
      | cons w ws=>cases h;exact ⟨by simp,fun b hb=>by rw [List.mem_singleton.1 hb];exact hl⟩
theorem lq {n:Nat}:∀ {ls:List (List UInt8)} {p:List Body},(∀ x∈ls,x.length≤n)→oH ls=some p→p.length≤ls.length∧∀ b∈p,uy n b
  | [],p,_,h=>by cases h;exact ⟨Nat.zero_le _,fun w hw=>by cases hw⟩
  | x :: ls, p, hx, h => by
    rw [oH] at h
    cases hy:oG x with
    | none=>rw [hy] at h;cases h
    | some p1 =>
      cases hq:oH ls with
      | none=>rw [hy,hq] at h;cases h
      | some p2 =>
        rw [hy,hq] at h;cases h
        obtain ⟨a1,a2⟩:=rZ hy
        obtain ⟨b1,b2⟩:=lq (fun z hz=>hx z (by simp [hz])) hq
        refine ⟨by simp;omega,fun b hb=>?_⟩
        rcases List.mem_append.1 hb with hb|hb
        · have:=a2 b hb
          have hn:=hx x M1
          exact ⟨by have:=this.1;omega,fun w hw=>by have:=this.2 w hw;omega⟩
        · exact b2 b hb
theorem pP {x:List UInt8} {a c b:Nat} (h:bF x a= .error (c,b)):c=3∨c=4:=by
  unfold bF at h
  split at h
  · cases h;exact .inr rfl
  · cases hw:cq x with
    | error d=>rw [hw] at h;cases h;exact .inl rfl
    | ok ws =>
      rw [hw] at h
      cases ws<;>cases h
theorem mO:∀ {l:List (List UInt8)} {a c b:Nat},bU l a= .error (c,b)→c=3∨c=4
  | [],_,_,_,h=>by cases h
  | x :: l, a, c, b, h => by
    rw [bU] at h
    cases h1:bF x a with
    | error e =>
      rw [h1] at h
      obtain ⟨e1,e2⟩:=e
      cases h;exact pP h1
    | ok p =>
      cases h2:bU l (a+x.length+1) with
      | error e =>
        rw [h1,h2] at h
        obtain ⟨e1,e2⟩:=e
        cases h;exact mO h2
      | ok q=>rw [h1,h2] at h;cases h
theorem uz {s:List UInt8} {c b:Nat} (h:c8 s= .error (c,b)):c=3∨c=4:=by
 unfold c8 at h
 split at h
 ·cases h;exact .inr rfl
 ·exact mO h
end Go.Proofs.YtgephffbfiemeaaGreatDoor
