/- Part 8 of the proof of ScriptKnown: an abstract semantics that is proved sound for the model, contracts of functions in it, and plain facts (Abs9). No condition. -/
import Derived.Test.YtgephffbfiemeaaGreatDoorKScriptKnown7
import Derived.Laws.MakeOwn
set_option linter.all false
namespace Go.Abs
def CO.quiet:CO→Bool
 | .isnil _ _ _ | .alloc _ | .allocT _ _ | .appS _ _ _ _ | .appR _ _ _ _ _ | .mkT _ _ _ _ _ | .mkP _ _ _ _ | .box _ _ | .st _ _ _ | .call _ _ | .callv _ _ | .invk _ _ _ | .mkM | .mgt _ _ | .mst _ _ _ | .bad=>false
 | _=>true
def evU (ρ:Od→AV) (y:Od):AV :=
 match ρ y with
 | .opt _ v=>v
 | v=>v
def az (c:Bool) (ρ:Od→AV):List Od→Prop
 | []=>True
 | y::r=>(match ρ y with | .opt d _=>c=true→d=true|_=>True)∧az c ρ r
def CO.qv:CO→List Od
 | .pick c _ _=> [c]
 | op=>op.ods
def kR (c:Od) (ρ:Od→AV) (y:Od):AV :=
 match y,c with
 | .t s, .t t=>if s=t then evU ρ (.t s) else ρ (.t s)
 | y,_=>ρ y
def gEv (op:CO) (ρ:Od→AV):Od→AV :=
 match op with
 | .pick c _ _=>kR c ρ
 | _=>evU ρ
def aV (want:Bool):AV→Option Bool
 | .bool b=>some (b == want)
 | .opt c (.bool b)=>some (c&&(b == want))
 | .opt false _=>some false
 | _=>none
theorem wj (want:Bool) (v:AV):aV want (.opt false v)=some false:=by
 cases v<;>rfl
def putF (d:Option Nat) (v:AV) (fr:Fr):Fr :=
 match d with
 | none=>fr
 | some d=>(d,v)::fr
def cA (P:Program):List CI→Fr→St→(Fr→St→Prop)→Prop
  | [],fr,σ,K=>K fr σ
  | ⟨d,op,none⟩::r,fr,σ,K=>aOp P (ev σ fr) σ (fun v σ'=>cA P r (putF d v fr) σ' K) op
  | ⟨d, op, some (t, want)⟩ :: r, fr, σ, K =>
    match aV want (slot t fr) with
    | none=>False
    | some c =>
      bif op.quiet then
        (c=true→az c (ev σ fr) op.qv∧ps σ (gEv op (ev σ fr)) op)∧cA P r (putF d (.opt c (pf σ (gEv op (ev σ fr)) op)) fr) σ K
      else
        (c=true→az c (ev σ fr) op.ods∧aOp P (evU (ev σ fr)) σ (fun v σ'=>cA P r (putF d v fr) σ' K) op)∧(c=false→cA P r (putF d (.opt false .junk) fr) σ K)
def gv (D:Nat):Deferred:={ target:= .collected D,args:= #[] }
def MarksOk (g:Gh) (w:World) (ds:List Deferred):Prop:=∃ l:List Nat,ds=l.map gv∧l.Nodup∧∀ D∈l,w.heap[D]? =some (.deferred (some []))∧g.cl D=none
theorem MarksOk.mono {g g':Gh} {w w':World} {ds:List Deferred} (h:MarksOk g w ds) (he:Ext g w g' w'):MarksOk g' w' ds:=by
 obtain ⟨l,h1,h2,h3⟩:=h
 refine ⟨l,h1,h2,fun D hD=>?_⟩
 obtain ⟨h4,h5⟩:=h3 D hD
 obtain ⟨h6,h7⟩:=he.cln D (Array.getElem?_eq_some_iff.1 h4).1 h5
 exact ⟨by rw [h7];exact h4,h6⟩
theorem MarksOk.nil {g:Gh} {w:World}:MarksOk g w []:=⟨[],rfl,List.nodup_nil,by simp⟩
structure Sim (g:Gh) (σ:St) (w:World) (fr:Fr) (a:Act) (N:Nat):Prop where
 inv:Inv g σ w
 rel:RelF g w fr a.tmps
 size:a.tmps.size=N
 defers:MarksOk g w a.defers
theorem RelF.mono {g g':Gh} {w w':World} {fr:Fr} {tmps:Array Value} (h:RelF g w fr tmps) (he:Ext g w g' w'):RelF g' w' fr tmps:=fun t=>(h t).mono he
theorem RelF.put {g:Gh} {w:World} {fr:Fr} {a:Act} {d:Option Nat} {v:AV} {u:Value} (h:RelF g w fr a.tmps) (hd:∀ k,d=some k→k<a.tmps.size) (hv:Rel g w v u):RelF g w (putF d v fr) (a.put d u).tmps:=by
  cases d with
  | none=>exact h
  | some d =>
    have hd:=hd d rfl
    intro t
    simp only [putF,slot,Act.put]
    split
    · rename_i ht
      subst ht
      simpa [Array.getD_eq_getD_getElem?,hd] using hv
    · rename_i ht
      have:=h t
      rw [Array.getD_eq_getD_getElem?,Array.getElem?_setIfInBounds,if_neg (fun e=>ht e.symm),←Array.getD_eq_getD_getElem?]
      exact this
theorem Sim.put {g g':Gh} {σ σ':St} {w w':World} {fr:Fr} {a:Act} {N:Nat} {d:Option Nat} {v:AV} {u:Value} (h:Sim g σ w fr a N) (hI:Inv g' σ' w') (he:Ext g w g' w') (hd:∀ k,d=some k→k<N) (hv:Rel g' w' v u):Sim g' σ' w' (putF d v fr) (a.put d u) N:=by
 refine ⟨hI,(h.rel.mono he).put (fun k hk=>by rw [h.size];exact hd k hk) hv,?_,?_⟩
 ·cases d<;>simp [Act.put,h.size]
 ·have:=h.defers.mono he
  cases d<;>exact this
section
variable {P:Program} {g:Gh} {σ:St} {w:World} {a:Act} {o:Oper} {ρ:Od→AV}
theorem bP {next:Act→World→Prop} {Q:Exit→Act→World→Prop} {v:AV} {σ':St} (h:Yields ((execOp a.eval o).run P w) g w v σ')
  (hn:∀ u w' g',Inv g' σ' w'→Ext g w g' w'→Rel g' w' v u→next (a.put o.dst u) w'):o.wp P a w next Q:=by
 obtain ⟨u,w',g',hr,hI,he,hu⟩:=h
 unfold Oper.wp
 rw [hr,Oper.upon_value]
 exact hn u w' g' hI he hu
theorem eA {t:TypeId} {neg:Bool} {yt:TypeId} {x y:Operand} {vx vy:Value} {b:Bool} (ho:o.op= .binOp (if neg then .neq else .eql) t x y yt) (ex:a.eval x=vx) (ey:a.eval y=vy)
  (hg:∀ op,eqGuard op t x y vx vy=pure ()) (h1:binOp .eql t vx vy=(do pure (.bool (←Op.equal t vx vy)))) (h2:binOp .neq t vx vy=(do pure (.bool (!(←Op.equal t vx vy))))) (hb:(Op.equalIn (9999+1) t vx vy).run P w= .ok b w) :
  (execOp a.eval o).run P w= .ok (.value (.bool (bif neg then !b else b))) w:=by
 have hq:(Op.equal t vx vy).run P w= .ok b w:=hb
 cases neg
 ·simp [execOp,ho,ex,ey,hg,h1,hq]
 ·simp [execOp,ho,ex,ey,hg,h2,hq]
theorem wm (d:Nat) {t e:TypeId} (hu:P.underlying t=some (.slice e)) (A:Option Addr) (n c:Nat):(Op.equalIn (d+1) t (.slice A n c) (.slice none 0 0)).run P w= .ok A.isNone w:=by cases A<;>simp [Op.equalIn,run_underlying hu]
theorem DA (d:Nat) {t e:TypeId} (hu:P.underlying t=some (.pointer e)) (A:Option Addr):(Op.equalIn (d+1) t (.pointer A) (.pointer none)).run P w= .ok A.isNone w:=by cases A<;>simp [Op.equalIn,run_underlying hu]
theorem _root_.Ps {p:Prop} (h:p:=by simp [Op.equalIn,run_underlying hu]):p:=h
theorem zg (d:Nat) {t:TypeId} {ps rs:Array TypeId} {v:Bool} (hu:P.underlying t=some (.func ps rs v)) (f:Fn) (x y:Array Value):(Op.equalIn (d+1) t (.func f x y) .nilFunc).run P w= .ok false w:=Ps
theorem wo (d:Nat) {t:TypeId} {ps rs:Array TypeId} {v:Bool} (hu:P.underlying t=some (.func ps rs v)):(Op.equalIn (d+1) t .nilFunc .nilFunc).run P w= .ok true w:=Ps
theorem GP (d:Nat) {t:TypeId} {ms:Array (String × TypeId)} (hu:P.underlying t=some (.interface ms)) (u:TypeId) (x:Value):(Op.equalIn (d+1) t (.iface u x) .nilIface).run P w= .ok false w:=Ps
theorem DB (d:Nat) {t:TypeId} {ms:Array (String × TypeId)} (hu:P.underlying t=some (.interface ms)):(Op.equalIn (d+1) t .nilIface .nilIface).run P w= .ok true w:=Ps
theorem _root_.O8 {p:Prop} (h:p:=by simp only [binOp]):p:=h
theorem wq {kind:Nat} {neg:Bool} {t yt:TypeId} {x y:Operand} {v:AV} (ho:o.op= .binOp (if neg then .neq else .eql) t x y yt) (ht:GO P t kind=true) (hy:fR y kind=true) (hx:Rel g w v (a.eval x)) (hk:dx kind v=true) :
  ∃ b,fy kind v b∧(execOp a.eval o).run P w= .ok (.value (.bool (bif neg then !b else b))) w:=by
 generalize ex:a.eval x=u at hx
 unfold GO at ht
 split at ht
 ·rename_i e hu
  have ey:a.eval y= .slice none 0 0:=by
   unfold fR at hy
   split at hy<;>simp_all [Act.eval]
  have hsl:∀ A n c,u= .slice A n c→(execOp a.eval o).run P w= .ok (.value (.bool (bif neg then !(A.isNone) else A.isNone))) w:=by
   rintro A n c rfl
   exact eA ho ex ey (fun op=>eqGuard_at_slice _ _ _ _ _ _ _ _) O8 O8 (wm _ hu _ _ _)
  cases hx<;>simp only [dx,Bool.false_eq_true] at hk
  ·exact ⟨true,rfl,hsl _ _ _ rfl⟩
  ·exact ⟨_,by simp [fy],hsl _ _ _ rfl⟩
  ·exact ⟨false,by simp [fy],hsl _ _ _ rfl⟩
  ·exact ⟨_,by simp [fy],hsl _ _ _ rfl⟩
  ·exact ⟨false,by simp [fy],hsl _ _ _ rfl⟩
 ·rename_i e hu
  have ey:a.eval y= .pointer none:=by
   unfold fR at hy
   split at hy<;>simp_all [Act.eval]
  have hsl:∀ A,u= .pointer A→(execOp a.eval o).run P w= .ok (.value (.bool (bif neg then !(A.isNone) else A.isNone))) w:=by
   rintro A rfl
   exact eA ho ex ey (fun op=>eqGuard_at_pointer _ _ _ _ _ _) O8 O8 (DA _ hu _)
  cases hx<;>simp only [dx,Bool.false_eq_true] at hk
  ·exact ⟨false,rfl,hsl _ rfl⟩
  ·exact ⟨true,rfl,hsl _ rfl⟩
  ·exact ⟨false,rfl,hsl _ rfl⟩
 ·rename_i hu
  have ey:a.eval y= .nilFunc:=by
   unfold fR at hy
   split at hy<;>simp_all [Act.eval]
  cases hx<;>simp only [dx,Bool.false_eq_true] at hk
  ·exact ⟨false,rfl,eA ho ex ey (fun op=>eqGuard_at_func _ _ _ _ _ _ _ _) O8 O8 (zg _ hu _ _ _)⟩
  ·exact ⟨true,rfl,eA ho ex ey (fun op=>eqGuard_at_nilFunc _ _ _ _ _) O8 O8 (wo _ hu)⟩
 ·rename_i ms hu
  have hyc:y= .const .nilIface:=by
   unfold fR at hy
   split at hy<;>simp_all
  subst hyc
  have ey:a.eval (.const .nilIface)= .nilIface:=rfl
  cases hx<;>simp only [dx,Bool.false_eq_true] at hk
  ·exact ⟨false,rfl,eA ho ex ey (fun op=>eqGuard_at_iface _ _ _ _ _ _ _) O8 O8 (GP _ hu _ _)⟩
  ·exact ⟨true,rfl,eA ho ex ey (fun op=>eqGuard_nil_constR _ _ _ _) O8 O8 (DB _ hu)⟩
 ·cases ht
theorem ef:∀ {xs:List Operand} {ys L:List Od},(∀ x y,y∈L→odB x y=true→Rel g w (ρ y) (a.eval x))→(∀ y∈ys,y∈L)→ke xs ys=true→bQ g w (ys.map ρ) (xs.map a.eval)
  | [],[],_,_,_,_=> .nil
  | [],_::_,_,_,_,h=>by simp [ke] at h
  | _::_,[],_,_,_,h=>by simp [ke] at h
  | x :: xs, y :: ys, L, hρ, hL, h => by
    simp [ke] at h
    exact .cons (hρ x y (hL y OF) h.1) (ef hρ (fun z hz=>hL z (by simp [hz])) h.2)
theorem pk {f:Nat} {as:List AV} {vs:List Value} {K:AV→St→Prop} (hI:Inv g σ w) (hac:AC P f as σ K) (hv:bQ g w as vs) (hexec:(execOp a.eval o).run P w=(callFunc f vs.toArray).run P w) {next:Act→World→Prop} {Q:Exit→Act→World→Prop}
  (hn:∀ v σ' u w' g',K v σ'→Inv g' σ' w'→Ext g w g' w'→Rel g' w' v u→next (a.put o.dst u) w'):o.wp P a w next Q:=by
 unfold Oper.wp
 rw [hexec]
 rcases hac g w vs hI hv with ⟨h1,h2⟩|⟨v,w',h1,h2⟩
 ·rw [h1,Oper.upon_enter]
  refine h2.mono ?_
  rintro e w' ⟨v,r,σ',g',rfl,hK,hI',he,hr⟩
  exact hn r σ' v w' g' hK hI' he hr
 ·rw [h1,Oper.upon_value]
  obtain ⟨v2,r,σ',g',hv2,hK,hI',he,hr⟩:=h2
  cases hv2
  exact hn r σ' v w' g' hK hI' he hr
theorem nZ (zc:List Value) (es:Nat) (hz:zc.length=es):∀ n:Nat,(madeCells zc.toArray (n*es)).toList=(List.replicate n zc).flatten
  | 0=>by simp [madeCells]
  | n + 1 => by
    have ih:=nZ zc es hz n
    simp only [madeCells,Array.toList_map,Array.toList_range,List.size_toArray,hz] at ih ⊢
    rw [List.replicate_succ,List.flatten_cons,←ih,Nat.succ_mul,Nat.add_comm,List.range_add,List.map_append,List.map_map]
    congr 1
    · apply List.ext_getElem?
      intro i
      by_cases hi:i<es
      · simp [hi,Nat.mod_eq_of_lt hi,hz]
      · simp [hi,List.getElem?_eq_none (show zc.length≤i by omega)]
    · apply List.map_congr_left
      intro i _
      simp
theorem qw {z:List AV} {zc:List Value} (h:RelC g w z zc):∀ n:Nat,RelC g w (List.replicate n z).flatten (List.replicate n zc).flatten
  | 0=>by simpa using RelC.nil
  | n + 1 => by
    rw [List.replicate_succ,List.replicate_succ,List.flatten_cons,List.flatten_cons]
    exact h.append (qw h n)
theorem _root_.Pz {p:Prop} (h:p:=by simp [St.ai,upd]):p:=h
theorem mf (hI:Inv g σ w) {co:CO} (hl:lk2 P o.op co=true) (hρ:∀ x y,y∈co.ods→odB x y=true→Rel g w (ρ y) (a.eval x)) {K:AV→St→Prop} (h:aOp P ρ σ K co) (hny:∀ x args l,co= .callv x args→ρ x≠ .yld l) {next:Act→World→Prop} {Q:Exit→Act→World→Prop}
    (hn:∀ v σ' u w' g',K v σ'→Inv g' σ' w'→Ext g w g' w'→Rel g' w' v u→next (a.put o.dst u) w'):o.wp P a w next Q:=by
  have quiet:lkB P o.op co=true→ps σ ρ co∧K (pf σ ρ co) σ→o.wp P a w next Q:=fun h1 h2 =>
    bP (eT hI co h1 hρ h2.1) (fun u w' g' k1 k2 k3=>hn _ _ _ _ _ h2.2 k1 k2 k3)
  cases co<;>simp only [lk2] at hl<;>simp only [aOp] at h<;>try (exact quiet hl h)
  case isnil kind neg x =>
    split at hl
    · rename_i b t x' y' yt ho
      simp only [Bool.and_eq_true,beq_iff_eq] at hl
      obtain ⟨⟨⟨rfl,ht⟩,hx⟩,hy⟩:=hl
      obtain ⟨b,hb,hrun⟩:=wq ho ht hy (hρ x' x OG hx) h.1
      unfold Oper.wp
      rw [hrun,Oper.upon_value]
      exact hn _ _ _ _ _ (h.2 b hb) hI (.refl g w) (.bool _)
    · cases hl
  case app tp e es bytes x y =>
    simp only [lkB] at hl
    split at hl
    · rename_i x' y' t t' ho
      have hl0:=hl
      simp only [Bool.and_eq_true,beq_iff_eq] at hl
      obtain ⟨⟨⟨rfl,h1⟩,h2⟩,h3⟩:=hl
      have rx:=hρ x' x OG h2
      have ry:=hρ y' y OG h3
      split at h
      · rename_i τ n cs hx
        split at h
        · rename_i m ds hy
          rw [hx] at rx
          obtain ⟨q1,q2,q3,q4,q5,q6⟩:=h
          exact bP (je hI ho h1 rx ry hy q1 q2 q3 q4 q5) (fun u w' g' k1 k2 k3=>hn _ _ _ _ _ q6 k1 k2 k3)
        · exact h.elim
      · cases tp with
        | true =>
          simp only [cond_true] at h
          split at h
          · rename_i n cs m ds hx hy
            obtain ⟨q0,q2,q3,q4,q5,q6⟩:=h
            obtain ⟨g',hI',he',rx'⟩:=iw hI e es rx q0 hx
            have hset:(σ.ai g.nt (e,es,n)).tip g.nt=some (e,es,n):=Pz
            have hσ:(σ.ai g.nt (e,es,n)).ai g.nt (e,es,n+m)=σ.ai g.nt (e,es,n+m):=by
              simp only [St.ai,St.mk.injEq,true_and,and_true]
              funext j
              simp only [upd]
              split<;>rfl
            have hy':=je (P:=P) hI' ho h1 rx' (ry.mono he') hy hset q2 q3 q4 q5
            rw [hσ] at hy'
            exact bP (g:=g') hy' (fun u w' g2 k1 k2 k3=>hn _ _ _ _ _ (q6 g.nt (fS hI)) k1 (he'.trans k2) k3)
          · exact h.elim
        | false =>
          simp only [cond_false] at h
          exact quiet (by simp only [lkB,ho];exact hl0) h
    · cases hl
  case alloc cells =>
    split at hl
    · rename_i t ho
      split at hl
      · rename_i i hi
        split at hl
        · rename_i z hz
          have hc:=fb g w _ _ hl
          have hrun:(execOp a.eval o).run P w= .ok (.value (.pointer (some ⟨w.heap.size,0,none⟩))) (w.alloc (.cells z.cells t)):=by
            simp [execOp,ho,Instr.alloc,zeroValue,typeInfo,hi,hz,newVar,newRow]
          unfold Oper.wp
          rw [hrun,Oper.upon_value]
          exact hn _ _ _ _ _ (h g.nb (dR hI)) (hI.bc hc) (Ext.bc hI _) (.ptr _ _ _ PA)
        · cases hl
      · cases hl
    · cases hl
  case appS e bytes x y =>
    split at hl
    · rename_i x' y' t u ho
      simp only [Bool.and_eq_true] at hl
      obtain ⟨⟨⟨h1,h2⟩,h3⟩,h4⟩:=hl
      have rx:=hρ x' x OG h3
      have ry:=hρ y' y OG h4
      have hu:P.underlying u=some .string:=by
        unfold di at h2
        split at h2
        · assumption
        · cases h2
      unfold vf at h
      split at h
      · rename_i τ n cs l hx hy
        rw [hx] at rx
        rw [hy] at ry
        obtain ⟨q1,q2,q3,q4,q5,q6⟩:=h
        exact bP (mc hI ho h1 hu rx ry q1 q2 q3 q4 q5) (fun u w' g' k1 k2 k3=>hn _ _ _ _ _ q6 k1 k2 k3)
      · rename_i l hx hy
        rw [hx] at rx
        rw [hy] at ry
        obtain ⟨q1,q2,q3,q6⟩:=h
        obtain ⟨g',hI',he',rx'⟩:=iw hI e 1 rx trivial rfl
        have hset:(σ.ai g.nt (e,1,0)).tip g.nt=some (e,1,0):=Pz
        have hσ:(σ.ai g.nt (e,1,0)).ai g.nt (e,1,0+l.length)=σ.ai g.nt (e,1,l.length):=by
          simp only [St.ai,St.mk.injEq,true_and,and_true]
          funext j
          simp only [upd,Nat.zero_add]
          split<;>rfl
        have hy':=mc (P:=P) hI' ho h1 hu rx' (ry.mono he') q1 hset rfl Oz (by rw [Nat.zero_add];exact q3)
        rw [hσ,Nat.zero_add,List.nil_append] at hy'
        exact bP (g:=g') hy' (fun u w' g2 k1 k2 k3=>hn _ _ _ _ _ (q6 g.nt (fS hI)) k1 (he'.trans k2) k3)
      · exact h.elim
    · cases hl
  case mkM =>
    split at hl
    · rename_i t ho
      have hrun:(execOp a.eval o).run P w= .ok (.value (.map (some w.heap.size))) (w.alloc (LO.map [] 0).obj):=by
        simp [execOp,ho,wi]
      unfold Oper.wp
      rw [hrun,Oper.upon_value]
      exact hn _ _ _ _ _ (h w.heap.size (zf hI)) (hI.gM (.map [] 0) rfl) (Ext.gM _) (.mpv _)
    · cases hl
  case mgt x k =>
    split at hl
    · rename_i t x' k' ho
      simp only [Bool.and_eq_true] at hl
      have rx:=hρ x' x OG hl.1.2
      have rk:=hρ k' k OG hl.2
      split at h
      · rename_i L n hx hk
        rw [hx] at rx
        rw [hk] at rk
        split at h
        · rename_i l c fr' hlp
          have ex:=rx.va
          have ek:=rk.a8
          have hrun:(execOp a.eval o).run P w= .ok (.value (.bool (iI l n))) w:=by
            simp [execOp,ho,ex,ek,me hl.1.1 (hI.lp _ _ hlp).1]
          unfold Oper.wp
          rw [hrun,Oper.upon_value]
          exact hn _ _ _ _ _ h hI (.refl g w) (.bool _)
        · exact h.elim
      · exact h.elim
    · cases hl
  case mst x k v =>
    have fin:∀ (t:TypeId) (x' k' v':Operand),(execOp a.eval o).run P w=((Instr.mapUpdate t (a.eval x') (a.eval k') (a.eval v')).run P w).andThen (fun _ w'=> .ok .skip w')→qq P t=true→odB x' x=true→odB k' k=true→odB v' v=true→o.wp P a w next Q:=by
      intro t x' k' v' he h1 h2 h3 h4
      have rx:=hρ x' x OG h2
      have rk:=hρ k' k OG h3
      have rv:=hρ v' v OG h4
      split at h
      · rename_i L n b hx hk hv
        rw [hx] at rx
        rw [hk] at rk
        rw [hv] at rv
        split at h
        · rename_i l c fr' hlp
          have ex:=rx.va
          have ek:=rk.a8
          have ev:=rv.cT
          have hm:=jG (P:=P) (n:=n) (v:=b) h1 (hI.lp _ _ hlp).1
          rw [ex,ek,ev,hm,Result.andThen_ok] at he
          unfold Oper.wp
          rw [he,Oper.upon_skip]
          exact hn _ _ _ _ _ h (hI.Gc hlp fun t=> .junk _) (ix _ (hI.lp _ _ hlp).2.1 (fun vs T q hh=>by rw [(hI.lp _ _ hlp).1] at hh;exact (LO.map l c).gW hh.symm)) (.junk _)
        · exact h.elim
      · exact h.elim
    split at hl
    · rename_i t x' k' v' ho
      simp only [Bool.and_eq_true] at hl
      exact fin t x' k' v' (by simp [execOp,ho]) hl.1.1.1 hl.1.1.2 hl.1.2 hl.2
    · rename_i t x' k' v' ho
      simp only [Bool.and_eq_true] at hl
      exact fin t x' k' v' (by simp [execOp,ho]) hl.1.1.1 hl.1.1.2 hl.1.2 hl.2
    · cases hl
  case allocT T cells =>
    split at hl
    · rename_i t ho
      rw [Bool.and_eq_true,beq_iff_eq] at hl
      obtain ⟨rfl,hl⟩:=hl
      split at hl
      · rename_i i hi
        split at hl
        · rename_i z hz
          have hc:=fb g w _ _ hl
          have hrun:(execOp a.eval o).run P w= .ok (.value (.pointer (some ⟨w.heap.size,0,none⟩))) (w.alloc (.cells z.cells t)):=by
            simp [execOp,ho,Instr.alloc,zeroValue,typeInfo,hi,hz,newVar,newRow]
          unfold Oper.wp
          rw [hrun,Oper.upon_value]
          exact hn _ _ _ _ _ (h g.nb (dR hI) (y8 hI)) ((hI.bc hc).bZ PA (heap_alloc_new w _)) (Ext.bc hI _) (.ptr _ _ _ PA)
        · cases hl
      · cases hl
    · cases hl
  case mkP es bytes z x =>
    split at hl
    · rename_i t x1 x2 ho
      simp only [Bool.and_eq_true] at hl
      obtain ⟨⟨h1,h2⟩,hl⟩:=hl
      have rx1:=hρ x1 x OG h1
      have rx2:=hρ x2 x OG h2
      obtain ⟨q1,q2,q3,q4,q5⟩:=h
      split at hl
      · rename_i e he
        split at hl
        · rename_i i hi
          simp only [Bool.and_eq_true,beq_iff_eq] at hl
          obtain ⟨⟨⟨l1,l2⟩,l3⟩,hl⟩:=hl
          split at hl
          · rename_i zv hz
            cases hy:ρ x<;>simp only [hy,cN] at q1
            rename_i k n
            rw [hy] at rx1 rx2
            simp only [hy,aI] at q2 q3 q4 q5
            have hc:RelC g w z zv.cells.toList:=fb g w _ _ hl
            have hr := run_make (P := P) w t e i zv he hi hz k k n n q2 (Int.le_refl _) (by rw [l2]; have : ((n.toNat * bytes : Nat) : Int) ≤ 140737488355328 := by omega
                                                                                            rw [Int.natCast_mul,Int.toNat_of_nonneg q2,Int.mul_comm] at this;omega) q3
            have hzl:zv.cells.toList.length=es:=by rw [hc.1.1,l3]
            have hrow:=nZ zv.cells.toList es hzl n.toNat
            have hcells:RelC g w (List.replicate n.toNat z).flatten (madeCells zv.cells (n.toNat*i.size)).toList:=by
              rw [l1]
              have:=qw hc n.toNat
              rw [←hrow] at this
              simpa using this
            have hrun:(execOp a.eval o).run P w= .ok (.value (.slice (some ⟨w.heap.size,0,none⟩) n.toNat n.toNat)) (w.alloc (.cells (madeCells zv.cells (n.toNat*i.size)) e)):=by
              simp [execOp,ho,rx1.a8,rx2.a8,hr]
            unfold Oper.wp
            rw [hrun,Oper.upon_value]
            exact hn _ _ _ _ _ (q5 g.nb (dR hI)) (hI.bc hcells) (Ext.bc hI _) (.psl _ _ _ _ _ PA (Nat.le_refl _))
          · cases hl
        · cases hl
      · cases hl
    · cases hl
  case mkT e es n z ps =>
    split at hl
    · rename_i t n' parts ho
      simp only [Bool.and_eq_true,beq_iff_eq] at hl
      obtain ⟨⟨⟨rfl,l1⟩,l2⟩,l3⟩:=hl
      split at l3
      · rename_i e' hu
        have l4:e'=e:=by simpa using l3
        subst l4
        obtain ⟨q1,q2,q3⟩:=h
        exact bP (wh hI ho l2 hu (Nat.le_of_ble_eq_true l1) q1 (by simpa [CO.ods] using hρ) q2) (fun u w' g' k1 k2 k3=>hn _ _ _ _ _ (q3 g.nt (fS hI)) k1 k2 k3)
      · cases l3
    · cases hl
  case appR e es bytes x y =>
    split at hl
    · rename_i x' y' t u ho
      simp only [Bool.and_eq_true,beq_iff_eq] at hl
      obtain ⟨⟨⟨rfl,l1⟩,l2⟩,l3⟩:=hl
      have rx:=hρ x' x OG l2
      have ry:=hρ y' y OG l3
      unfold vg at h
      split at h
      · rename_i m ds hvy
        split at h
        · rename_i hx
          rw [hx] at rx
          obtain ⟨q1,q2,q3,q4,q5⟩:=h
          obtain ⟨β,j,u,w',g',k1,k2,k3,k4,k5⟩:=zb (P:=P) (a:=a) hI ho l1 rx ry hvy q1 q2 q3 q4
          unfold Oper.wp
          rw [k2,Oper.upon_value]
          exact hn _ _ _ _ _ (q5 β j k1) k3 k4 k5
        · rename_i β e' es' n hx
          rw [hx] at rx
          obtain ⟨rfl,rfl,h⟩:=h
          split at h
          · rename_i cs hbx
            obtain ⟨q1,q2,q3,q4,q5,q6⟩:=h
            obtain ⟨γ,j,u,w',g',k1,k2,k3,k4,k5⟩:=ze (P:=P) (a:=a) hI ho l1 rx ry hvy hbx q1 q2 q3 q4 q5
            unfold Oper.wp
            rw [k2,Oper.upon_value]
            exact hn _ _ _ _ _ (q6 γ j k1) k3 k4 k5
          · exact h.elim
        · exact h.elim
      · exact h.elim
    · cases hl
  case box n x =>
    split at hl
    · rename_i t x' ho
      have rx:=hρ x' x OG hl
      have hc:=rx.cells h.1
      have hrun:(execOp a.eval o).run P w= .ok (.value (.pointer (some ⟨w.heap.size,0,none⟩))) (w.alloc (.cells (a.eval x').cells t)):=by
        simp [execOp,ho,Instr.box,newVar,newRow]
      unfold Oper.wp
      rw [hrun,Oper.upon_value]
      exact hn _ _ _ _ _ (h.2.2 g.nb (dR hI)) (hI.bc hc) (Ext.bc hI _) (.ptr _ _ _ PA)
    · cases hl
  case st n p x =>
    split at hl
    · rename_i t p' x' ho
      simp only [Bool.and_eq_true] at hl
      obtain ⟨⟨h1,h2⟩,h3⟩:=hl
      have rp:=hρ p' p OG h2
      have rx:=hρ x' x OG h3
      split at h
      · rename_i β off hp
        split at h
        · rename_i cs hb
          obtain ⟨q1,q2,q3,q4⟩:=h
          rw [hp] at rp
          obtain ⟨b,ep,hg⟩:=rp.fA
          have hc:=rx.cells q1
          have hlen:(a.eval x').cells.toList.length=n:=by rw [hc.1.1];exact q2
          obtain ⟨w',hrun,hI',he⟩:=gY (P:=P) hI hb hg hc (off:=off) Oz
          rw [hlen] at hI'
          split at h1
          · rename_i i hi
            have hin:i.size=n:=by simpa using h1
            have hex:(execOp a.eval o).run P w= .ok .skip w':=by
              have hs2:(a.eval x').cells.size=i.size:=by rw [hin];simpa using hlen
              simp [execOp,ho,ep,Instr.storeAt,Instr.sureAddr,storeVar,sizeOf,typeInfo,hi,hs2,hrun]
            unfold Oper.wp
            rw [hex,Oper.upon_skip]
            exact hn _ _ _ _ _ q4 hI' he (.junk _)
          · cases h1
        · exact h.elim
      · exact h.elim
    · cases hl
  case call f args =>
    split at hl
    · rename_i f' as ats ho
      simp only [Bool.and_eq_true,beq_iff_eq] at hl
      obtain ⟨rfl,hl⟩:=hl
      have hv:=ef hρ (fun y hy=>by simpa [CO.ods] using hy) hl
      refine pk hI h hv ?_ hn
      simp [execOp,ho,resolve,Act.eval,Deferred.ofValue,invoke]
    · cases hl
  case callv x args =>
    split at hl
    · rename_i x' as ats ho
      simp only [Bool.and_eq_true] at hl
      split at h
      · rename_i f cap hx
        have rx:=hρ x' x OG hl.1
        rw [hx] at rx
        obtain ⟨us,ex,hu⟩:=rx.lY
        have hv:=ef hρ (fun y hy=>by simp [CO.ods,hy]) hl.2
        refine pk hI h (hv.append hu) ?_ hn
        simp [execOp,ho,resolve,ex,Deferred.ofValue,invoke]
      · rename_i l hx;exact (hny x args l rfl hx).elim
      · exact h.elim
    · cases hl
  case invk tbl x args =>
    split at hl
    · rename_i r name as ats ho
      simp only [Bool.and_eq_true] at hl
      split at h
      · rename_i t v hx
        split at h
        · rename_i f hf
          have rx:=hρ r x OG hl.1.2
          rw [hx] at rx
          obtain ⟨u,ex,hu⟩:=rx.o7
          have hv:=ef hρ (fun y hy=>by simp [CO.ods,hy]) hl.2
          have hm:=List.all_eq_true.1 hl.1.1 _ (nR hf)
          refine pk hI h (.cons hu hv) ?_ hn
          simp [execOp,ho,resolve,ex,invoke,s6 hm]
          rw [List.take_of_length_le OF]
        · exact h.elim
      · exact h.elim
    · cases hl
def Wd (r:Option Nat):Fence:={ Fence.wide with round:=r }
theorem qx {r:Option Nat} {n:Nat} {f:Nat} {args:Array Value} {w:World} {R:Ending→World→Prop} (h:Calls P f args w R):CallsIn (Wd r) n P f args w R:=by
 have h1:CallsIn Fence.wide n P f args w R:=callsIn_wide.2 h
 exact h1
theorem lM {r:Option Nat} {n:Nat}:(Wd r).room n:=room_wide n
theorem zh {r:Option Nat} {m m':Machine}:StepsIn (Machine.fenced P (Wd r)) P m m'↔Steps P m m':=by
 have h:Machine.fenced P (Wd r)=Machine.fenced P Fence.wide:=rfl
 rw [h];exact stepsIn_wide
theorem qy {r:Option Nat}:∀ f,o.about P w a.eval=some f→(Wd r).fn f:=fun _ _=>trivial
theorem cP {r:Option Nat} {n:Nat} (hd:∀ c,o.op≠ .defer c) {next:Act→World→Prop} {Q:Exit→Act→World→Prop} (h:o.wp P a w next Q):o.wpIn (Wd r) n P a w next Q:=by
  refine ⟨qy,?_⟩
  rw [Oper.semAt_plain _ _ _ hd]
  unfold Oper.wp at h
  generalize (execOp a.eval o).run P w=res at h
  cases res with
  | ok x w' =>
    cases x<;>simp only [Oper.upon,Oper.uponIn] at h ⊢
    case value=>exact h
    case skip=>exact h
    case defer=>exact h
    case enter f args=>exact ⟨fun e=>by simp [Wd,Fence.wide] at e,qx h⟩
    case row row args =>
      refine ⟨fun e=>by simp [Wd,Fence.wide] at e,fun c cs _=>?_⟩
      obtain ⟨v,w2,h1,h2⟩:=h c cs
      exact ⟨v,w2,h1,zh.2 h2⟩
  | halt x w' =>
    cases x<;>simp only [Oper.upon,Oper.uponIn] at h ⊢
    case panic=>exact h
theorem b6 {op:Op} {co:CO} (h:lk2 P op co=true):∀ c,op≠ .defer c:=by
 rintro c rfl
 cases co<;>simp [lk2,lkB] at h
theorem wu {r:Option Nat} {n m l:Nat} {f:Nat} {tmps:Array Value} {assign body:Code} {R:Ending→World→Prop} (h:RoundIn Fence.wide m P l f tmps assign body w R):RoundIn (Wd r) n P l f tmps assign body w R :=
 ⟨trivial,fun c cs _=>by
  obtain ⟨e,w',h1,h2⟩:=h.2 c cs (room_wide _)
  exact ⟨e,w',h1,h2⟩⟩
theorem ff (hI:Inv g σ w) {co:CO} (hl:lk2 P o.op co=true) (hρ:∀ x y,y∈co.ods→odB x y=true→Rel g w (ρ y) (a.eval x)) {K:AV→St→Prop} (h:aOp P ρ σ K co) {r:Option Nat} {n:Nat} {next:Act→World→Prop} {Q:Exit→Act→World→Prop}
  (hn:∀ v σ' u w' g',K v σ'→Inv g' σ' w'→Ext g w g' w'→Rel g' w' v u→next (a.put o.dst u) w'):o.wpIn (Wd r) n P a w next Q:=by
 by_cases hy:∃ x args l,co= .callv x args∧ρ x= .yld l
 ·obtain ⟨x,args,l,rfl,hx⟩:=hy
  refine ⟨qy,?_⟩
  rw [Oper.semAt_plain _ _ _ (b6 hl)]
  simp only [lk2] at hl
  split at hl
  ·rename_i x' as ats ho
   simp only [Bool.and_eq_true] at hl
   simp only [aOp,hx] at h
   have rx:=hρ x' x OG hl.1
   rw [hx] at rx
   have ex:=rx.Dx
   have hv:=ef hρ (fun y hy=>by simp [CO.ods,hy]) hl.2
   obtain ⟨fn,tmps,assign,body,h1,h2⟩:=h g w _ hI hv
   have hrun:(execOp a.eval o).run P w= .ok (.round l fn tmps assign body) w:=by
    rw [←h1]
    simp [execOp,ho,resolve,ex,Deferred.ofValue,invoke]
   rw [hrun,Oper.uponIn_round]
   refine ⟨fun e=>by simp [Wd,Fence.wide] at e,(wu h2).mono ?_⟩
   rintro e w' ⟨v,r',σ',g',rfl,hK,hI',he,hr⟩
   exact hn r' σ' v w' g' hK hI' he hr
  ·cases hl
 ·exact cP (b6 hl) (mf hI hl hρ h (fun x args l e hx=>hy ⟨x,args,l,e,hx⟩) hn)
end
end Go.Abs
