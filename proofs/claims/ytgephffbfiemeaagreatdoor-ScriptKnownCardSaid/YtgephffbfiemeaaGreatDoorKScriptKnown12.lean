/- Part 12 of the proof of ScriptKnown: an abstract semantics that is proved sound for the model, contracts of functions in it, and plain facts (Abs32). No condition. -/
import Derived.Test.YtgephffbfiemeaaGreatDoorKScriptKnown11
set_option linter.all false
namespace Go.Abs
def CPX (g:Gh) (w:World) (R:Bool→AV→St→Prop):Ending→World→Prop:=fun e w' =>
 ∃ v r σ' g',((e= .returned v∧R false r σ')∨(e= .panicked [{ v,recovered:=false }]∧R true r σ'))∧Inv g' σ' w'∧Ext g w g' w'∧Rel g' w' r v
def AX (P:Program) (f:Nat) (as:List AV) (σ:St) (R:Bool→AV→St→Prop):Prop :=
  ∀ g w (vs : List Value), Inv g σ w → bQ   g w as vs →
    ((callFunc f vs.toArray).run P w= .ok (.enter f vs.toArray) w∧Calls P f vs.toArray w (CPX g w R)) ∨
    ∃ v w',(callFunc f vs.toArray).run P w= .ok (.value v) w'∧CPX g w R (.returned v) w'
theorem CPX.mono {g:Gh} {w:World} {R R':Bool→AV→St→Prop} (hr:∀ b r s,R b r s→R' b r s) {e:Ending} {w':World} (h:CPX g w R e w'):CPX g w R' e w' :=
 let ⟨v,r,σ',g',h1,h2⟩:=h;⟨v,r,σ',g',h1.imp (fun q=>⟨q.1,hr _ _ _ q.2⟩) (fun q=>⟨q.1,hr _ _ _ q.2⟩),h2⟩
theorem AX.mono {P:Program} {f:Nat} {as:List AV} {σ:St} {R R':Bool→AV→St→Prop} (h:AX P f as σ R) (hr:∀ b r s,R b r s→R' b r s):AX P f as σ R':=by
 intro g w vs hI hv
 rcases h g w vs hI hv with ⟨h1,h2⟩|⟨v,w',h1,h2⟩
 ·exact .inl ⟨h1,h2.mono fun e w' hc=>hc.mono hr⟩
 ·exact .inr ⟨v,w',h1,h2.mono hr⟩
inductive XI where
 | o (i:CI)
 | c (d:Option Nat) (f:Nat) (args:List Od)
 | v (d:Option Nat) (x:Od) (args:List Od)
def XI.ci:XI→CI
 | .o i=>i
 | .c d f args=>⟨d, .call f args,none⟩
 | .v d x args=>⟨d, .callv x args,none⟩
def cm (P:Program):List XI→Fr→St→(Exit→Fr→St→Prop)→Prop
 | [],fr,σ,Q=>Q .normal fr σ
 | .c d f args::l,fr,σ,Q=>AX P f (args.map (ev σ fr)) σ (fun b r s=>bif b then Q (.panic []) [(0,r)] s else cm P l (putF d r fr) s Q)
 | .v d x args::l,fr,σ,Q=>match ev σ fr x with
   | .fn f cap=>AX P f (args.map (ev σ fr)++cap) σ (fun b r s=>bif b then Q (.panic []) [(0,r)] s else cm P l (putF d r fr) s Q)
   | _=>False
 | .o i::l,fr,σ,Q=>cA P [i] fr σ (fun fr' σ'=>cm P l fr' σ' Q)
def fT (P:Program) (x:XI) (fr:Fr) (σ:St) (K:Fr→St→Prop) (R:AV→St→Prop):Prop:=match x with
 | .c d f args=>AX P f (args.map (ev σ fr)) σ (fun b r s=>bif b then R r s else K (putF d r fr) s)
 | .v d x args=>match ev σ fr x with
   | .fn f cap=>AX P f (args.map (ev σ fr)++cap) σ (fun b r s=>bif b then R r s else K (putF d r fr) s)
   | _=>False
 | .o i=>cA P [i] fr σ K
def invX (P:Program) (l:List XI) (dp:List (List Nat)) (fr:Fr) (σ:St) (K:Fr→St→Prop) (R:AV→St→Prop):Prop :=
  ∃ I : (Nat → Bool) → Fr → St → Prop, I (fun _ => false) fr σ ∧
    (∀ D j x,l[j]? =some x→D j=false→(dp.getD j []).all D=true→∀ fr σ,I D fr σ→fT P x fr σ (fun fr' σ'=>I (fun k=>D k||Nat.beq k j) fr' σ') R) ∧
    ∀ D fr σ,(∀ j,j<l.length→D j=true∨(dp.getD j []).all D=false)→I D fr σ→K fr σ
section
variable {P:Program} {g:Gh} {σ:St} {w:World} {a:Act} {fr:Fr} {N:Nat} {o:Oper}
theorem lN {f:Nat} {as:List AV} {vs:List Value} {R:Bool→AV→St→Prop} (hI:Inv g σ w) (hac:AX P f as σ R) (hv:bQ g w as vs) (hexec:(execOp a.eval o).run P w=(callFunc f vs.toArray).run P w) {next:Act→World→Prop} {Q:Exit→Act→World→Prop}
  (hn:∀ v σ' u w' g',R false v σ'→Inv g' σ' w'→Ext g w g' w'→Rel g' w' v u→next (a.put o.dst u) w')
  (hp:∀ v σ' u w' g',R true v σ'→Inv g' σ' w'→Ext g w g' w'→Rel g' w' v u→Q (.panic [{ v:=u,recovered:=false }]) a w'):o.wp P a w next Q:=by
 unfold Oper.wp
 rw [hexec]
 rcases hac g w vs hI hv with ⟨h1,h2⟩|⟨v,w',h1,h2⟩
 ·rw [h1,Oper.upon_enter]
  refine h2.mono ?_
  rintro e w' ⟨v,r,σ',g',(⟨rfl,hK⟩|⟨rfl,hK⟩),hI',he,hr⟩
  ·exact hn r σ' v w' g' hK hI' he hr
  ·exact hp r σ' v w' g' hK hI' he hr
 ·rw [h1,Oper.upon_value]
  obtain ⟨v2,r,σ',g',(⟨hv2,hK⟩|⟨hv2,hK⟩),hI',he,hr⟩:=h2
  ·cases hv2
   exact hn r σ' v w' g' hK hI' he hr
  ·cases hv2
def KF (F:Fence) (n:Nat) (P:Program) (ops:Array Oper) (l:List Oper) (Q:Exit→Act→World→Prop):Exit→Act→World→Prop
 | .normal,a,w=>wpListIn F n P ops Q l a w
 | e,a,w=>Q e a w
theorem py {F:Fence} {n:Nat} {ops:Array Oper} {l:List Oper} {Q:Exit→Act→World→Prop} (h:wpListIn F n P ops (KF F n P ops l Q) [o] a w):wpListIn F n P ops Q (o::l) a w:=by
 unfold wpListIn at h ⊢
 split
 ·rename_i hw
  rw [if_pos hw] at h
  refine ⟨h.1,?_⟩
  have h2:=h.2
  generalize (o.semAt F.round a.eval).run P w=res at h2
  cases res with
  | ok x w'=>cases x<;>exact h2
  | halt x w'=>cases x<;>exact h2
 ·rename_i hw
  rw [if_neg hw] at h
  exact h
theorem Sim.bare (h:Sim g σ w fr a N):Sim g σ w [] a N:=⟨h.inv,fun _=> .junk _,h.size,h.defers⟩
theorem fC (ops:Array Oper) {rn:Option Nat} {nn:Nat} {Q:Exit→Act→World→Prop}:∀ (l:List Oper) (cl:List XI) (g:Gh) (σ:St) (w:World) (fr:Fr) (a:Act) (R:Exit→Fr→St→Prop),cE P N ops l (cl.map XI.ci)=true→Sim g σ w fr a N→cm P cl fr σ R →
    (∀ fr' σ' g' w' a',R .normal fr' σ'→Sim g' σ' w' fr' a' N→Ext g w g' w'→a'.defers=a.defers→Q .normal a' w') →
    (∀ x u σ' g' w' a',R (.panic []) [(0,x)] σ'→Sim g' σ' w' [] a' N→Ext g w g' w'→Rel g' w' x u→a'.defers=a.defers→Q (.panic [{ v:=u,recovered:=false }]) a' w')→wpListIn (Wd rn) nn P ops Q l a w
  | [],[],g,σ,w,fr,a,R,_,hS,h,hQ,_=>hQ fr σ g w a h hS (.refl g w) rfl
  | [],_::_,_,_,_,_,_,_,hl,_,_,_,_=>by simp [cE] at hl
  | _::_,[],_,_,_,_,_,_,hl,_,_,_,_=>by simp [cE] at hl
  | o :: l, x0 :: cl, g, σ, w, fr, a, R, hl, hS, h, hQ, hP => by
    have hl0:=hl
    obtain ⟨d,op,gd,ex0⟩:∃ d op gd,x0.ci=⟨d,op,gd⟩:=⟨_,_,_,rfl⟩
    rw [List.map_cons,ex0] at hl
    simp only [cE,Bool.and_eq_true,beq_iff_eq] at hl
    obtain ⟨⟨⟨⟨hd,hdN⟩,hgd⟩,hop⟩,hrest⟩:=hl
    have hdN':∀ k,d=some k→k<N:=by
      intro k hk;subst hk;simpa [dB] using hdN
    have hdef:∀ u,(a.put o.dst u).defers=a.defers:=fun u=>by cases o.dst<;>rfl
    have one:cA P [⟨d,op,gd⟩] fr σ (fun fr' σ'=>cm P cl fr' σ' R)→wpListIn (Wd rn) nn P ops Q (o::l) a w:=fun h1 =>
      py (gy ops [o] [⟨d,op,gd⟩] g σ w fr a _ (by simp only [cE,Bool.and_eq_true,beq_iff_eq];exact ⟨⟨⟨⟨hd,hdN⟩,hgd⟩,hop⟩,trivial⟩) hS h1 (fun fr' σ' g' w' a' k1 k2 k3 k4 =>
        fC ops l cl g' σ' w' fr' a' R hrest k2 k1 (fun fr2 σ2 g2 w2 a2 q1 q2 q3 q4=>hQ fr2 σ2 g2 w2 a2 q1 q2 (k3.trans q3) (q4.trans k4)) (fun x u σ2 g2 w2 a2 q1 q2 q3 q4 q5=>hP x u σ2 g2 w2 a2 q1 q2 (k3.trans q3) q4 (q5.trans k4))))
    cases x0
    case c d' f args =>
      cases ex0
      simp only [cm] at h
      have hw:Region.wanted o (yielded ops a.tmps)=true:=by
        unfold gdB at hgd
        split at hgd
        · rename_i e1 _;simp [Region.wanted,e1]
        · rename_i e2;cases e2
        · cases hgd
      unfold wpListIn
      rw [if_pos hw]
      have hnd:=b6 hop
      simp only [lk2] at hop
      split at hop
      · rename_i f' as ats ho
        simp only [Bool.and_eq_true,beq_iff_eq] at hop
        obtain ⟨rfl,hop⟩:=hop
        have hv:=ef (g:=g) (w:=w) (a:=a) (ρ:=ev σ fr) (fun x y _ hb=>dC hS.inv hS.rel hb) (fun y hy=>by simpa [CO.ods] using hy) hop
        refine cP hnd (lN hS.inv h hv ?_ (fun v σ' u w' g' k1 k2 k3 k4=>?_) (fun v σ' u w' g' k1 k2 k3 k4=>hP v u σ' g' w' a k1 (hS.put (d:=none) k2 k3 OF k4).bare k3 k4 rfl))
        · simp [execOp,ho,resolve,Act.eval,Deferred.ofValue,invoke]
        · have hd2:=hdef u
          rw [hd] at hd2 ⊢
          exact fC ops l cl g' σ' w' _ _ R hrest (hS.put k2 k3 hdN' k4) k1 (fun fr2 σ2 g2 w2 a2 q1 q2 q3 q4=>hQ fr2 σ2 g2 w2 a2 q1 q2 (k3.trans q3) (q4.trans hd2)) (fun x u2 σ2 g2 w2 a2 q1 q2 q3 q4 q5=>hP x u2 σ2 g2 w2 a2 q1 q2 (k3.trans q3) q4 (q5.trans hd2))
      · cases hop
    case v d' x args =>
      cases ex0
      simp only [cm] at h
      have hw:Region.wanted o (yielded ops a.tmps)=true:=by
        unfold gdB at hgd
        split at hgd
        · rename_i e1 _;simp [Region.wanted,e1]
        · rename_i e2;cases e2
        · cases hgd
      unfold wpListIn
      rw [if_pos hw]
      have hnd:=b6 hop
      simp only [lk2] at hop
      split at hop
      · rename_i x' as ats ho
        simp only [Bool.and_eq_true] at hop
        split at h
        · rename_i f cap hx
          have rx:=dC hS.inv hS.rel hop.1
          rw [hx] at rx
          obtain ⟨us,ex,hu⟩:=rx.lY
          have hv:=ef (g:=g) (w:=w) (a:=a) (ρ:=ev σ fr) (fun x y _ hb=>dC hS.inv hS.rel hb) (fun y hy=>hy) hop.2
          refine cP hnd (lN hS.inv h (hv.append hu) ?_ (fun v σ' u w' g' k1 k2 k3 k4=>?_) (fun v σ' u w' g' k1 k2 k3 k4=>hP v u σ' g' w' a k1 (hS.put (d:=none) k2 k3 OF k4).bare k3 k4 rfl))
          · simp [execOp,ho,resolve,ex,Deferred.ofValue,invoke]
          · have hd2:=hdef u
            rw [hd] at hd2 ⊢
            exact fC ops l cl g' σ' w' _ _ R hrest (hS.put k2 k3 hdN' k4) k1 (fun fr2 σ2 g2 w2 a2 q1 q2 q3 q4=>hQ fr2 σ2 g2 w2 a2 q1 q2 (k3.trans q3) (q4.trans hd2)) (fun x u2 σ2 g2 w2 a2 q1 q2 q3 q4 q5=>hP x u2 σ2 g2 w2 a2 q1 q2 (k3.trans q3) q4 (q5.trans hd2))
        · exact h.elim
      · cases hop
    case o i =>
      simp only [XI.ci] at ex0
      subst ex0
      simp only [cm] at h
      exact one h
theorem pz (ops:Array Oper) {rn:Option Nat} {nn:Nat} {Q:Exit→Act→World→Prop} {next:Act→World→Prop} {x0:XI} {K:Fr→St→Prop} {R:AV→St→Prop} (hl:((o.dst == x0.ci.d)&&dB N x0.ci.d&&gdB ops o.guard x0.ci.gd&&lk2 P o.op x0.ci.op)=true) (hS:Sim g σ w fr a N) (h:fT P x0 fr σ K R)
  (hQ:∀ fr' σ' g' w' a',K fr' σ'→Sim g' σ' w' fr' a' N→Ext g w g' w'→a'.defers=a.defers→next a' w')
  (hP:∀ x u σ' g' w' a',R x σ'→Sim g' σ' w' [] a' N→Ext g w g' w'→Rel g' w' x u→a'.defers=a.defers→Q (.panic [{ v:=u,recovered:=false }]) a' w'):if Region.wanted o (yielded ops a.tmps)=true then Oper.wpIn (Wd rn) nn P o a w next Q else next (a.put o.dst undef) w:=by
 cases x0
 case o i=>exact hZ ops hl hS h hQ
 case c d f args =>
  simp only [XI.ci,Bool.and_eq_true,beq_iff_eq] at hl
  obtain ⟨⟨⟨hd,hdN⟩,hgd⟩,hop⟩:=hl
  have hdN':∀ k,d=some k→k<N:=by
   intro k hk;subst hk;simpa [dB] using hdN
  have hdef:∀ u,(a.put o.dst u).defers=a.defers:=fun u=>by cases o.dst<;>rfl
  have hw:Region.wanted o (yielded ops a.tmps)=true:=by
   unfold gdB at hgd
   split at hgd
   ·rename_i e1 _;simp [Region.wanted,e1]
   ·rename_i e2;cases e2
   ·cases hgd
  rw [if_pos hw]
  have hnd:=b6 hop
  simp only [lk2] at hop
  split at hop
  ·rename_i f' ats ho
   simp only [Bool.and_eq_true,beq_iff_eq] at hop
   obtain ⟨rfl,hop⟩:=hop
   have hv:=ef (g:=g) (w:=w) (a:=a) (ρ:=ev σ fr) (fun x y _ hb=>dC hS.inv hS.rel hb) (fun y hy=>by simpa [CO.ods] using hy) hop
   refine cP hnd (lN hS.inv h hv ?_ (fun v σ' u w' g' k1 k2 k3 k4=>?_) (fun v σ' u w' g' k1 k2 k3 k4=>hP v u σ' g' w' a k1 (hS.put (d:=none) k2 k3 OF k4).bare k3 k4 rfl))
   ·simp [execOp,ho,resolve,Act.eval,Deferred.ofValue,invoke]
   ·have hd2:=hdef u
    rw [hd] at hd2 ⊢
    exact hQ _ σ' g' w' _ k1 (hS.put k2 k3 hdN' k4) k3 hd2
  ·cases hop
 case v d x args =>
  simp only [XI.ci,Bool.and_eq_true,beq_iff_eq] at hl
  obtain ⟨⟨⟨hd,hdN⟩,hgd⟩,hop⟩:=hl
  have hdN':∀ k,d=some k→k<N:=by
   intro k hk;subst hk;simpa [dB] using hdN
  have hdef:∀ u,(a.put o.dst u).defers=a.defers:=fun u=>by cases o.dst<;>rfl
  have hw:Region.wanted o (yielded ops a.tmps)=true:=by
   unfold gdB at hgd
   split at hgd
   ·rename_i e1 _;simp [Region.wanted,e1]
   ·rename_i e2;cases e2
   ·cases hgd
  rw [if_pos hw]
  have hnd:=b6 hop
  simp only [lk2] at hop
  split at hop
  ·rename_i x' ats ho
   simp only [Bool.and_eq_true] at hop
   simp only [fT] at h
   split at h
   ·rename_i f cap hx
    have rx:=dC hS.inv hS.rel hop.1
    rw [hx] at rx
    obtain ⟨us,ex,hu⟩:=rx.lY
    have hv:=ef (g:=g) (w:=w) (a:=a) (ρ:=ev σ fr) (fun x y _ hb=>dC hS.inv hS.rel hb) (fun y hy=>hy) hop.2
    refine cP hnd (lN hS.inv h (hv.append hu) ?_ (fun v σ' u w' g' k1 k2 k3 k4=>?_) (fun v σ' u w' g' k1 k2 k3 k4=>hP v u σ' g' w' a k1 (hS.put (d:=none) k2 k3 OF k4).bare k3 k4 rfl))
    ·simp [execOp,ho,resolve,ex,Deferred.ofValue,invoke]
    ·have hd2:=hdef u
     rw [hd] at hd2 ⊢
     exact hQ _ σ' g' w' _ k1 (hS.put k2 k3 hdN' k4) k3 hd2
   ·exact h.elim
  ·cases hop
theorem tN {ops:Array Oper} {l:List XI} {dp:List (List Nat)} (hl:cE P N ops ops.toList (l.map XI.ci)=true) (hdp:dp=ops.toList.map bH) {r:Option Nat} {nn:Nat} {Q:Exit→Act→World→Prop} {g0:Gh} {w0:World} {a0:Act} {K:Fr→St→Prop} {R:AV→St→Prop}
    (hQ:∀ fr' σ' g' w' a',K fr' σ'→Sim g' σ' w' fr' a' N→Ext g0 w0 g' w'→a'.defers=a0.defers→Q .normal a' w')
    (hP:∀ x u σ' g' w' a',R x σ'→Sim g' σ' w' [] a' N→Ext g0 w0 g' w'→Rel g' w' x u→a'.defers=a0.defers→Q (.panic [{ v:=u,recovered:=false }]) a' w') {I:(Nat→Bool)→Fr→St→Prop}
    (hstep:∀ D j x,l[j]? =some x→D j=false→(dp.getD j []).all D=true→∀ fr σ,I D fr σ→fT P x fr σ (fun fr' σ'=>I (fun k=>D k||Nat.beq k j) fr' σ') R)
    (hend:∀ D fr σ,(∀ j,j<l.length→D j=true∨(dp.getD j []).all D=false)→I D fr σ→K fr σ) :
    ∀ (fuel : Nat) (listed : Array Bool) (g : Gh) (σ : St) (w : World) (fr : Fr) (a : Act), listed.size = ops.size → listed.toList.count false = fuel → Sim g σ w fr a N → Ext g0 w0 g w → a.defers = a0.defers → I (fun k => listed.getD k false) fr σ →
      wpAnyIn (Wd r) nn P .any ops Q fuel listed a w:=by
  have hlen:l.length=ops.size:=by have:=kn hl;simpa using this
  have hd:∀ j o,ops[j]? =some o→dp.getD j []=bH o:=fun j o ho=>by
    rw [hdp,List.getD_eq_getElem?_getD,List.getElem?_map,Array.getElem?_toList,ho];rfl
  have fin:∀ (listed:Array Bool),listed.size=ops.size→Region.ready .any ops listed= []→∀ j,j<l.length→listed.getD j false=true∨(dp.getD j []).all (fun k=>listed.getD k false)=false:=by
    intro listed hsz hr j hj
    rw [hlen] at hj
    have ho:ops[j]? =some ops[j]:=Array.getElem?_eq_getElem hj
    by_cases h1:listed.getD j false=true
    · exact .inl h1
    · refine .inr ?_
      rw [hd j _ ho,←Bool.not_eq_true]
      intro h2
      have:j∈Region.ready .any ops listed:=(mem_ready hsz).2 ⟨_,ho,by simpa using h1,fun k hk=>by
        have:=List.all_eq_true.1 h2 k hk
        exact this⟩
      rw [hr] at this;cases this
  intro fuel
  induction fuel with
  | zero =>
    intro listed g σ w fr a hsz hc hS he hdf hI
    have hnil:Region.ready .any ops listed= []:=by
      rw [List.eq_nil_iff_forall_not_mem]
      intro j hj
      obtain ⟨o,ho,l1,_⟩:=(mem_ready hsz).1 hj
      have hlt:j<listed.size:=by rw [hsz];exact (Array.getElem?_eq_some_iff.1 ho).1
      rw [List.count_eq_zero] at hc
      rw [Array.getD_eq_getD_getElem?,Array.getElem?_eq_getElem hlt] at l1
      simp only [Option.getD_some] at l1
      exact hc (by rw [←l1];simp)
    exact ⟨hnil,hQ fr σ g w a (hend _ fr σ (fin listed hsz hnil) hI) hS he hdf⟩
  | succ fuel ih =>
    intro listed g σ w fr a hsz hc hS he hdf hI
    refine ⟨fun hnil=>hQ fr σ g w a (hend _ fr σ (fin listed hsz hnil) hI) hS he hdf,fun j hj=>?_⟩
    obtain ⟨o,ho,l1,l2⟩:=(mem_ready hsz).1 hj
    have hjo:j<ops.size:=(Array.getElem?_eq_some_iff.1 ho).1
    have hlt:j<listed.size:=by rw [hsz];exact hjo
    have hi:l[j]? =some l[j]:=List.getElem?_eq_getElem (by rw [hlen];exact hjo)
    have hat:=jI hl j o (l[j]).ci PI (by rw [List.getElem?_map,hi];rfl)
    have hs:=hstep (fun k=>listed.getD k false) j l[j] hi l1 (by rw [hd j o ho];exact List.all_eq_true.2 l2) fr σ hI
    refine fe ho (pz ops (by simpa [Bool.and_eq_true,and_assoc] using hat) hS hs (fun fr' σ' g' w' a' k1 k2 k3 k4=>?_) (fun x u σ' g' w' a' k1 k2 k3 k4 k5=>hP x u σ' g' w' a' k1 k2 (he.trans k3) k4 (k5.trans hdf)))
    refine ih _ g' σ' w' fr' a' (by simp [hsz]) (count_set hlt l1 hc) k2 (he.trans k3) (k4.trans hdf) ?_
    have:(fun k=>(listed.setIfInBounds j true).getD k false)=fun k=>listed.getD k false||Nat.beq k j:=by
      funext k
      simp only [Array.getD_eq_getD_getElem?,Array.getElem?_setIfInBounds]
      by_cases hk:j=k
      · subst hk;simp [hlt]
      · rw [if_neg hk]
        have:Nat.beq k j=false:=by
          rw [←Bool.not_eq_true]
          exact fun e=>hk (Nat.eq_of_beq_eq_true e).symm
        rw [this,Bool.or_false]
    rw [this]
    exact k1
theorem qU {id:Nat} {ops:Array Oper} {l:List XI} {dp:List (List Nat)} (hm:P.follows .mixedOrders=true) (hl:cE P N ops ops.toList (l.map XI.ci)=true) (hdp:dp=ops.toList.map bH) {K:Fr→St→Prop} {R:AV→St→Prop} {Q:Exit→Act→World→Prop} (hS:Sim g σ w fr a N) (h:invX P l dp fr σ K R)
  {r:Option Nat} {nn:Nat} (hQ:∀ fr' σ' g' w' a',K fr' σ'→Sim g' σ' w' fr' a' N→Ext g w g' w'→a'.defers=a.defers→Q .normal a' w')
  (hP:∀ x u σ' g' w' a',R x σ'→Sim g' σ' w' [] a' N→Ext g w g' w'→Rel g' w' x u→a'.defers=a.defers→Q (.panic [{ v:=u,recovered:=false }]) a' w'):(Code.region id ops true).wpIn (Wd r) nn P Q a w:=by
 refine wpIn_region_any hm ?_
 have hExt:Ext g w g { w with drawn:=w.drawn+1 } :=
  ⟨rfl,rfl,rfl,Nat.le_refl _,fun _ _ h=>h,fun _ _=>rfl,Nat.le_refl _,Nat.le_refl _,fun _ _ _ h=>h,fun _ _ hc=>⟨hc,rfl⟩,fun _ F _ hc=>⟨F,hc,Nat.le_refl _,fun _ _=>rfl⟩,fun _ _ h=>h,fun _ us _ _ h=>⟨us,h,rfl⟩⟩
 have hI:=hS.inv
 have hInv:Inv g σ { w with drawn:=w.drawn+1 }:=by
  refine ⟨fun β cs hb=>?_,hI.boxcl,hI.boxinj,hI.boxfresh,hI.tip,hI.tipinj,hI.tipfresh,fun k cs hk=>(hI.glob k cs hk).mono hExt,fun l r hl=>⟨(hI.lp l r hl).1,(hI.lp l r hl).2.1,fun t=>((hI.lp l r hl).2.2 t).mono hExt⟩,hI.bty⟩
  obtain ⟨b,vs,T,h1,h2,h3⟩:=hI.box β cs hb
  exact ⟨b,vs,T,h1,h2,h3.mono hExt⟩
 have hS2:Sim g σ { w with drawn:=w.drawn+1 } fr a N:=⟨hInv,fun t=>(hS.rel t).mono hExt,hS.size,hS.defers.mono hExt⟩
 obtain ⟨I,h0,h1,h2⟩:=h
 refine tN hl hdp hQ hP h1 h2 ops.size _ g σ _ fr a OF OF hS2 hExt rfl ?_
 have:(fun k=>(Array.replicate ops.size false).getD k false)=fun _=>false:=by
  funext k
  simp only [Array.getD_eq_getD_getElem?,Array.getElem?_replicate]
  split<;>rfl
 rw [this];exact h0
end
inductive CX where
 | base (c:CC)
 | opsX (l:List XI)
 | invX (l:List XI) (dp:List (List Nat))
 | seq (x y:CX)
 | cond (b:Od) (x y:CX)
 | block (id:Nat) (x:CX)
 | keep (ts:List Nat) (x:CX)
 | loop (x:CX)
 | dead
def aX (P:Program):CX→Fr→St→(Exit→Fr→St→Prop)→Prop
  | .base c, fr, σ, Q => aC P c fr σ (fun e fr' σ' => match e with
    | .panic _=>False
    | e=>Q e fr' σ')
  | .opsX l,fr,σ,Q=>cm P l fr σ Q
  | .invX l dp,fr,σ,Q=>Go.Abs.invX P l dp fr σ (Q .normal) (fun r s=>Q (.panic []) [(0,r)] s)
  | .dead,_,_,_=>False
  | .seq x y, fr, σ, Q => aX P x fr σ (fun e fr' σ' => match e with
    | .normal=>aX P y fr' σ' Q
    | e=>Q e fr' σ')
  | .cond c x y, fr, σ, Q => match ev σ fr c with
    | .bool t=>(t=true→aX P x fr σ Q)∧(t=false→aX P y fr σ Q)
    | _=>False
  | .block id x, fr, σ, Q => aX P x fr σ (fun e fr' σ' => match e with
    | .exit j=>if j=id then Q .normal fr' σ' else Q (.exit j) fr' σ'
    | e=>Q e fr' σ')
  | .keep ts x,fr,σ,Q=>aX P x (gN ts fr) σ Q
  | .loop x,fr,σ,Q=>∃ regs,cb regs fr σ fun fr0 σ0=>∃ (α:Type) (F:α→Fr) (S:α→St) (I:α→Prop) (μ:α→Nat) (a0:α),I a0∧aK (F a0) fr0∧St.le (S a0) σ0 ∧
      ∀ a, I a → aX P x (F a) (S a) (fun e fr' σ' => match e with
        | .normal=>∃ b,I b∧aK (F b) fr'∧St.le (S b) σ'∧μ b<μ a
        | e=>Q e fr' σ')
def lkX (P:Program) (N:Nat):CX→Code→Bool
  | .base x,c=>lkC P N x c
  | .opsX l, c => match c with
    | .region _ ops false=>cE P N ops ops.toList (l.map XI.ci)
    | _=>false
  | .invX l dp, c => match c with
    | .region _ ops true=>cE P N ops ops.toList (l.map XI.ci)&&(dp == ops.toList.map bH)&&P.follows .mixedOrders
    | _=>false
  | .dead,_=>true
  | .seq x' y', c => match c with
    | .seq x y=>lkX P N x' x&&lkX P N y' y
    | _=>false
  | .cond c' x' y', c => match c with
    | .cond c x y=>odB c c'&&lkX P N x' x&&lkX P N y' y
    | _=>false
  | .block id' x', c => match c with
    | .block id x=>id == id'&&lkX P N x' x
    | _=>false
  | .keep _ x,c=>lkX P N x c
  | .loop x', c => match c with
    | .loop x=>lkX P N x' x
    | _=>false
section
variable {P:Program} {g:Gh} {σ:St} {w:World} {a:Act} {fr:Fr} {N:Nat} {o:Oper}
theorem A3:∀ (cx:CX) (c:Code),lkX P N cx c=true→∀ (g:Gh) (σ:St) (w:World) (fr:Fr) (a:Act) (R:Exit→Fr→St→Prop) (Q:Exit→Act→World→Prop),Sim g σ w fr a N→aX P cx fr σ R →
    (∀ e fr' σ' g' w' a',(∀ ch,e≠ .panic ch)→R e fr' σ'→Sim g' σ' w' fr' a' N→Ext g w g' w'→jK w a a'→Q e a' w') →
    (∀ x u σ' g' w' a',R (.panic []) [(0,x)] σ'→Sim g' σ' w' [] a' N→Ext g w g' w'→Rel g' w' x u→jK w a a'→Q (.panic [{ v:=u,recovered:=false }]) a' w')→c.wpIn (Wd none) 0 P Q a w:=by
  intro cx
  induction cx with
  | base x =>
    intro c hl g σ w fr a R Q hS h hQ hP
    refine qJ x c hl none (.inl rfl) g σ w fr a _ Q hS h (fun e fr' σ' g' w' a' k1 k2 k3 k4=>?_)
    cases e with
    | panic ch=>exact k1.elim
    | _=>exact hQ _ _ _ _ _ _ (fun _ h=>by cases h) k1 k2 k3 k4
  | opsX l =>
    intro c hl g σ w fr a R Q hS h hQ hP
    cases c<;>try (simp [lkX] at hl;done)
    rename_i id ops draw
    cases draw<;>simp [lkX] at hl
    exact wpIn_region_list (fC ops _ _ g σ w fr a _ hl hS h (fun fr' σ' g' w' a' k1 k2 k3 k4=>hQ _ _ _ _ _ _ (fun _ h=>by cases h) k1 k2 k3 (.of_eq k4)) (fun x u σ' g' w' a' k1 k2 k3 k4 k5=>hP _ _ _ _ _ _ k1 k2 k3 k4 (.of_eq k5)))
  | dead=>intro c hl g σ w fr a R Q hS h hQ hP;exact h.elim
  | invX l dp =>
    intro c hl g σ w fr a R Q hS h hQ hP
    cases c<;>try (simp [lkX] at hl;done)
    rename_i id ops draw
    cases draw<;>simp [lkX] at hl
    exact qU hl.2 hl.1.1 hl.1.2 hS h (fun fr' σ' g' w' a' k1 k2 k3 k4=>hQ _ _ _ _ _ _ (fun _ h=>by cases h) k1 k2 k3 (.of_eq k4)) (fun x u σ' g' w' a' k1 k2 k3 k4 k5=>hP _ _ _ _ _ _ k1 k2 k3 k4 (.of_eq k5))
  | seq x y ihx ihy =>
    intro c hl g σ w fr a R Q hS h hQ hP
    cases c<;>simp [lkX] at hl
    refine wpIn_seq (ihx _ hl.1 g σ w fr a _ _ hS h (fun e fr' σ' g' w' a' k0 k1 k2 k3 k4=>?_) (fun x u σ' g' w' a' k1 k2 k3 k4 k5=>hP _ _ _ _ _ _ k1 k2 k3 k4 k5))
    cases e with
    | normal=>exact ihy _ hl.2 g' σ' w' fr' a' R Q k2 k1 (fun e2 fr2 σ2 g2 w2 a2 q0 q1 q2 q3 q4=>hQ _ _ _ _ _ _ q0 q1 q2 (k3.trans q3) (k4.trans k3 q4)) (fun x u σ2 g2 w2 a2 q1 q2 q3 q4 q5=>hP _ _ _ _ _ _ q1 q2 (k3.trans q3) q4 (k4.trans k3 q5))
    | panic ch=>exact (k0 ch rfl).elim
    | _=>exact hQ _ _ _ _ _ _ k0 k1 k2 k3 k4
  | cond b x y ihx ihy =>
    intro c hl g σ w fr a R Q hS h hQ hP
    cases c<;>simp [lkX] at hl
    simp only [aX] at h
    have hr:=dC hS.inv hS.rel hl.1.1
    cases hv:ev σ fr b<;>simp only [hv] at h
    rw [hv] at hr
    exact wpIn_cond_split hr.cT (fun ht=>ihx _ hl.1.2 g σ w fr a R Q hS (h.1 ht) hQ hP) (fun ht=>ihy _ hl.2 g σ w fr a R Q hS (h.2 ht) hQ hP)
  | block id x ih =>
    intro c hl g σ w fr a R Q hS h hQ hP
    cases c<;>simp [lkX] at hl
    obtain ⟨rfl,hl⟩:=hl
    refine wpIn_block (ih _ hl g σ w fr a _ _ hS h (fun e fr' σ' g' w' a' k0 k1 k2 k3 k4=>?_) (fun x u σ' g' w' a' k1 k2 k3 k4 k5=>hP _ _ _ _ _ _ k1 k2 k3 k4 k5))
    cases e with
    | exit j =>
      simp only at k1
      simp only [Exit.inBlock]
      split
      · rename_i hj;rw [if_pos hj] at k1;exact hQ _ _ _ _ _ _ (fun _ h=>by cases h) k1 k2 k3 k4
      · rename_i hj;rw [if_neg hj] at k1;exact hQ _ _ _ _ _ _ (fun _ h=>by cases h) k1 k2 k3 k4
    | panic ch=>exact (k0 ch rfl).elim
    | _=>exact hQ _ _ _ _ _ _ k0 k1 k2 k3 k4
  | keep ts x ih =>
    intro c hl g σ w fr a R Q hS h hQ hP
    simp only [lkX] at hl
    refine ih c hl g σ w (gN ts fr) a R Q ⟨hS.inv,fun t=>?_,hS.size,hS.defers⟩ h hQ hP
    rcases jg t fr ts with e|e
    · rw [e];exact hS.rel t
    · rw [e];exact .junk _
  | loop x ih =>
    intro c hl g σ w fr a R Q hS h hQ hP
    cases c<;>simp [lkX] at hl
    rename_i body
    obtain ⟨regs,h⟩:=h
    obtain ⟨g0,fr0,σ0,hS0,he0,α,F,S,I,μ,a0,h0,hf0,hs0,hround⟩:=eg regs hS h
    have key:∀ (n:Nat) (g1:Gh) (z:α) (w1:World) (a1:Act),I z→Sim g1 (S z) w1 (F z) a1 N→Ext g w g1 w1→jK w a a1→μ z=n →
        ∀ (b:Frame) (k:List Item) (cs:List Frame),b.roundOf=(Wd none).round→∃ e a' w',Q e a' w'∧ArrivesIn (Machine.fenced P (Wd none)) P (lone (b.atR a1 (.code body:: .inLoop body::k)) cs w1) b k cs e a' w':=by
      intro n
      induction n using Nat.strongRecOn with
      | _ n ihn =>
        intro g1 z w1 a1 hI1 hS1 he1 hn1 hm
        have hb:=ih _ hl g1 (S z) w1 (F z) a1 _ (Exit.then (fun a2 w2=>∀ (b:Frame) (k:List Item) (cs:List Frame),b.roundOf=(Wd none).round→∃ e a' w',Q e a' w'∧ArrivesIn (Machine.fenced P (Wd none)) P (lone (b.atR a2 (.code body:: .inLoop body::k)) cs w2) b k cs e a' w') Q) hS1 (hround z hI1) (fun e fr' σ' g' w' a' k0 k1 k2 k3 k4=>by
          cases e with
          | normal =>
            obtain ⟨z2,q1,q2,q3,q4⟩:=k1
            exact ihn _ Oz g' z2 w' a' q1 (k2.le q3 q2) (he1.trans k3) (hn1.trans he1 k4) rfl
          | panic ch=>exact (k0 ch rfl).elim
          | _=>exact hQ _ _ _ _ _ _ k0 k1 k2 (he1.trans k3) (hn1.trans he1 k4)) (fun x u σ' g' w' a' k1 k2 k3 k4 k5=>hP _ _ _ _ _ _ k1 k2 (he1.trans k3) k4 (hn1.trans he1 k5))
        intro b k cs hro
        obtain ⟨e,a₁,w₁,hq,harr⟩:=hb b (.inLoop body::k) cs hro trivial lM
        cases e with
        | normal =>
          obtain ⟨e₂,a₂,w₂,hq₂,harr₂⟩:=hq b k cs hro
          exact ⟨e₂,a₂,w₂,hq₂, .of_steps (StepsIn.trans harr (.one (fenced_calm (n:=0) trivial lM rfl) stepR_inLoop)) harr₂⟩
        | exit id=>exact ⟨_,a₁,w₁,hq, .pass (x:= .inLoop body) rfl (fun _ _=> .inl OF) harr⟩
        | goto l=>exact ⟨_,a₁,w₁,hq, .pass (x:= .inLoop body) rfl (fun _ _=> .inl OF) harr⟩
        | ret=>exact ⟨_,a₁,w₁,hq, .pass (x:= .inLoop body) rfl (fun _ _=> .inl OF) harr⟩
        | panic ch=>exact ⟨_,a₁,w₁,hq, .pass (x:= .inLoop body) rfl (fun _ _=> .inl OF) harr⟩
        | outgrown=>exact ⟨_,a₁,w₁,hq, .pass (x:= .inLoop body) rfl (fun _ _=> .inl OF) harr⟩
    intro b k cs hro hb hr
    obtain ⟨e,a',w',hq,harr⟩:=key _ g0 a0 w a h0 (hS0.le hs0 hf0) he0 .refl rfl b k cs hro
    exact ⟨e,a',w',hq, .of_steps (.one (fenced_calm hb hr rfl) stepR_loop) harr⟩
theorem iR {fn:Func} {tmps0:Array Value} {RR:Ending→World→Prop} {g0:Gh} {w0:World} {ch:List PanicEntry}
    (hfin:∀ (w:World),Inv g σ w→Ext g0 w0 g w→RelF g w fr tmps0→RR (.panicked ch) w):∀ (l:List Nat) (w:World) (tmps:Array Value),l.Nodup→(∀ D∈l,w.heap[D]? =some (.deferred (some []))∧g.cl D=none∧w0.heap.size≤D)→Inv g σ w→Ext g0 w0 g w→RelF g w fr tmps0 →
      LeavesInM Fence.wide 0 P fn tmps RR (l.map gv) (.panicking ch) w
  | [],w,tmps,hn,hm,hI,hE,hF=>hfin w hI hE hF
  | D :: l, w, tmps, hn, hm, hI, hE, hF => by
    obtain ⟨h1,h2,h3⟩:=hm D OF
    have hnd:=List.nodup_cons.1 hn
    refine ⟨by simp, .inl ⟨D,w.putObj D (.deferred none),rfl,run_takeDeferred h1,?_⟩⟩
    have hI2:Inv g σ (w.putObj D (.deferred none)):=by
      have:=hI.gL (o':= .deferred none) h1 rfl (lp':=σ.lp) (fun k x hx=>by
        obtain ⟨q1,q2,q3⟩:=hI.lp k x hx
        have hk:k≠D:=by rintro rfl;rw [h1] at q1;exact x.1.yZ q1
        exact ⟨by rw [World.putObj_heap_other hk];exact q1,q2,q3⟩)
      exact this
    exact iR hfin l _ tmps hnd.2 (fun D' hD'=>by
      obtain ⟨q1,q2,q3⟩:=hm D' (by simp [hD'])
      have:D'≠D:=by rintro rfl;exact hnd.1 hD'
      exact ⟨by rw [World.putObj_heap_other this];exact q1,q2,q3⟩) hI2 (hE.zw _ h3) (fun t=>(hF t).gL h1 rfl)
end
def pA (res:List RV) (R:Bool→AV→St→Prop) (e:Exit) (fr:Fr) (σ:St):Prop:=match e with
 | .panic _=>∃ σ',St.le σ' σ∧R true (slot 0 fr) σ'
 | e=>fL res (R false) e fr σ
structure CFX where
 body:CX
 res:List RV
 n:Nat
def fX (P:Program) (f:Nat) (cf:CFX):Bool:=match P.funcs[f]? with
  | some fn => (match fn.body with
    | some c=>lkX P cf.n cf.body c
    | none=>false)&&fn.ntmps == cf.n&&ko P fn.results.toList cf.res&&fn.name != "runtime.NumGoroutine"
  | none=>false
theorem qV {P:Program} {σ:St} {f:Nat} {as:List AV} {R:Bool→AV→St→Prop} (cf:CFX) (hf:fX P f cf=true) (hn:as.length≤cf.n) (h:aX P cf.body (dT 0 as) σ (pA cf.res R)):AX P f as σ R:=by
  unfold fX at hf
  split at hf
  · rename_i fn hfn
    simp only [Bool.and_eq_true,beq_iff_eq,bne_iff_ne] at hf
    obtain ⟨⟨⟨hbody,hnt⟩,hres⟩,hname⟩:=hf
    split at hbody
    · rename_i c hc
      intro g w vs hI hv
      left
      constructor
      · simp [callFunc,hfn,hname,hc]
      · have hlen:=hv.1
        refine callsIn_wide.1 (callsIn_of_wp_marks (n:=0) hfn hc trivial (A3 cf.body c hbody g σ w (dT 0 as) _ (pA cf.res R) _ ⟨hI,fun t=>?_,?_, .nil⟩ h ?_ ?_))
        · have:=(oc (g:=g) (w:=w) 0 t hv).2 (Nat.zero_le _)
          simp only [Nat.sub_zero] at this
          rw [Array.getD_eq_getD_getElem?]
          by_cases ht:t<vs.length
          · rw [Array.getElem?_append_left (by simpa using ht)]
            simpa using this
          · rw [List.getElem?_eq_none Oz] at this
            rw [Array.getElem?_append_right (by simpa using Nat.le_of_not_lt ht)]
            by_cases ht2:t - vs.length<fn.ntmps - vs.length
            · simp only [List.size_toArray,Array.getElem?_replicate,if_pos ht2];exact this
            · simp only [List.size_toArray,Array.getElem?_replicate,if_neg ht2];exact this
        · simp;omega
        · intro e fr' σ' g' w' a' hnp hend hS hext hnew
          have hend2:fL cf.res (R false) e fr' σ':=by
            cases e with
            | panic ch=>exact (hnp ch rfl).elim
            | _=>exact hend
          obtain ⟨he,hs,r,σ2,hwk,hle,hR⟩:=hend2
          obtain ⟨l,hl1,hl2,hl3⟩:=hS.defers
          have hfin:=gz (P:=P) (fn:=fn) (RR:=CPX g w R) (g0:=g) (w0:=w) hres (fun w2 us hI2 hE2 hu=>by
            have hrel:Rel g' w2 (eV (cf.res.map (rvV σ' fr'))) (zu us):=by
              cases hm:cf.res.map (rvV σ' fr') with
              | nil=>rw [hm] at hu;have:=hu.bK;subst this;exact .dA .nil
              | cons x xs =>
                rw [hm] at hu
                obtain ⟨u,us',rfl,k1,k2⟩:=hu.cons_inv
                cases xs with
                | nil=>have:=k2.bK;subst this;exact k1
                | cons y ys =>
                  obtain ⟨u2,us2,rfl,k3,k4⟩:=k2.cons_inv
                  exact .dA (.cons k1 (.cons k3 k4))
            exact ⟨_,r,σ2,g', .inl ⟨rfl,hR⟩,hI2.le hle,hE2,hwk _ _ _ hrel⟩) hs l w' a'.tmps hl2 (fun D hD=>by
              obtain ⟨q1,q2⟩:=hl3 D hD
              refine ⟨q1,q2,?_⟩
              rcases hnew D PF with h|h
              · simp at h
              · exact h) hS.inv hext hS.rel hS.size
          rw [←hl1] at hfin
          rcases he with rfl|rfl
          · exact hfin
          · exact hfin
        · rintro x u σ' g' w' a' ⟨σ2,hle,hR⟩ hS hext hu hnew
          obtain ⟨l,hl1,hl2,hl3⟩:=hS.defers
          have hfin:=iR (P:=P) (fn:=fn) (RR:=CPX g w R) (g0:=g) (w0:=w) (g:=g') (σ:=σ') (fr:= [(0,x)]) (tmps0:= #[u]) (ch:= [{ v:=u,recovered:=false }]) (fun w2 hI2 hE2 hF2=>by
            have h0:=hF2 0
            exact ⟨u,x,σ2,g', .inr ⟨rfl,hR⟩,hI2.le hle,hE2,h0⟩) l w' a'.tmps hl2 (fun D hD=>by
              obtain ⟨q1,q2⟩:=hl3 D hD
              refine ⟨q1,q2,?_⟩
              rcases hnew D PF with h|h
              · simp at h
              · exact h) hS.inv hext (fun t=>by
                cases t with
                | zero=>exact hu
                | succ t=>exact .junk _)
          rw [←hl1] at hfin
          exact hfin
    · cases hbody
  · cases hf
end Go.Abs
