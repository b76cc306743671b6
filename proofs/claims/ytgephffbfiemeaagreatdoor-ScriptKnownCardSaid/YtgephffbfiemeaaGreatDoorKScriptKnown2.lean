/- Part 2 of the proof of ScriptKnown: an abstract semantics that is proved sound for the model, contracts of functions in it, and plain facts (Abs3 Abs4). No condition. -/
import Derived.Test.YtgephffbfiemeaaGreatDoorKScriptKnown1
import Derived.Laws.StructEq
import Derived.ChangeKeysEq
set_option linter.all false
namespace Go.Abs
theorem Ext.refl (g:Gh) (w:World):Ext g w g w :=
 ⟨rfl,rfl,rfl,Nat.le_refl _,fun _ _ h=>h,fun _ _=>rfl,Nat.le_refl _,Nat.le_refl _,fun _ _ _ h=>h,fun _ _ h=>⟨h,rfl⟩,fun _ F _ h=>⟨F,h,Nat.le_refl _,fun _ _=>rfl⟩,fun _ _ h=>h,fun _ us _ _ h=>⟨us,h,rfl⟩⟩
theorem Ext.trans {g g1 g2:Gh} {w w1 w2:World} (h:Ext g w g1 w1) (k:Ext g1 w1 g2 w2):Ext g w g2 w2:=by
 refine ⟨k.os.trans h.os,k.tape.trans h.tape,k.output.trans h.output,Nat.le_trans h.size k.size,fun β b hb=>k.box _ _ (h.box _ _ hb),fun β hβ=>?_,Nat.le_trans h.nb k.nb,Nat.le_trans h.nt k.nt,
  fun m n v hv=>k.tip _ _ _ (h.tip _ _ _ hv),fun b hb hc=>?_,fun b F hb hc=>?_,fun m hm h0=>k.tipn m (Nat.lt_of_lt_of_le hm h.nt) (h.tipn m hm h0),fun b vs T hx hb=>by
   obtain ⟨us,h1,h2⟩:=h.rz b vs T hx hb
   obtain ⟨us',h3,h4⟩:=k.rz b us T (hx.imp fun _ hβ=>h.box _ _ hβ) h1
   exact ⟨us',h3,h4.trans h2⟩⟩
 ·rw [k.boxold β (Nat.lt_of_lt_of_le hβ h.nb),h.boxold β hβ]
 ·obtain ⟨h1,h2⟩:=h.cln b hb hc
  obtain ⟨h3,h4⟩:=k.cln b (Nat.lt_of_lt_of_le hb h.size) h1
  exact ⟨h3,h4.trans h2⟩
 ·obtain ⟨F',h1,h2,h3⟩:=h.cls b F hb hc
  obtain ⟨F'',h4,h5,h6⟩:=k.cls b F' (Nat.lt_of_lt_of_le hb h.size) h1
  exact ⟨F'',h4,Nat.le_trans h2 h5,fun i hi=>(h6 i Oz).trans (h3 i hi)⟩
def Yields (r:Result Next) (g:Gh) (w:World) (v:AV) (σ':St):Prop :=
 ∃ u w' g',r= .ok (.value u) w'∧Inv g' σ' w'∧Ext g w g' w'∧Rel g' w' v u
section
variable {P:Program} {g:Gh} {σ:St} {w:World} {a:Act} {o:Oper}
theorem Yields.same {r:Result Next} {v:AV} {u:Value} (hI:Inv g σ w) (hr:r= .ok (.value u) w) (h:Rel g w v u):Yields r g w v σ :=
 ⟨u,w,g,hr,hI, .refl g w,h⟩
theorem JS (hI:Inv g σ w) {x:Operand} {v:AV} (ho:o.op= .move x∨o.op= .assign x) (hx:Rel g w v (a.eval x)):Yields ((execOp a.eval o).run P w) g w v σ:=by
 refine .same hI ?_ hx
 rcases ho with ho|ho<;>simp [execOp,ho]
theorem GA (hI:Inv g σ w) {c x y:Operand} {vc vx vy:AV} (ho:o.op= .pick c x y) (hc:Rel g w vc (a.eval c)) (hx:Rel g w vx (a.eval x)) (hy:Rel g w vy (a.eval y)) (h:qo vc vx vy) :
  Yields ((execOp a.eval o).run P w) g w (gK vc vx vy) σ:=by
 cases vc<;>simp only [qo] at h
 rename_i b
 have ec:=hc.cT
 refine .same hI (u:=if b then a.eval x else a.eval y) (by simp [execOp,ho,ec,asBool]) ?_
 have aux:∀ (q:Prop) (v:AV) (u:Value),q→l6 q v→Rel g w v u→Rel g w (.bool (match v with | .bool p=>p | .opt _ (.bool p)=>p|_=>false)) u:=by
  intro q v u hq hb hr
  unfold l6 at hb
  split at hb
  ·exact hr
  ·cases hr with
   | opt _ _ _ hr=>exact hr (hb hq)
  ·exact (hb hq).elim
 cases b
 ·exact aux _ vy _ rfl h.2 hy
 ·exact aux _ vx _ rfl h.1 hx
theorem LS (hI:Inv g σ w) {t:TypeId} {op:UnOp} {x:Operand} {v:AV} (ho:o.op= .unOp op t x) (hx:Rel g w v (a.eval x)) (h:unS op v) :
  Yields ((execOp a.eval o).run P w) g w (unV op v) σ:=by
 cases op<;>cases v<;>simp only [unS] at h<;>(generalize hu:a.eval x=u at hx)<;>cases hx<;>simp only [unV]
 ·exact .same hI (by simp [execOp,ho,hu,Op.unary,Op.intArith]) (.int _ _)
 ·exact .same hI (by simp [execOp,ho,hu,Op.unary,intBits_xor]) (.int _ _)
 ·exact .same hI (by simp [execOp,ho,hu,Op.unary]) (.bool _)
theorem vY (l:List UInt8):(⟨l.toArray⟩:ByteArray).toList=l:=by
 have:(⟨l.toArray⟩:ByteArray).toList=(⟨l.toArray⟩:ByteArray).data.toList:=OF
 rw [this]
theorem sY (op:BinOp) (t:TypeId) (k k':IntKind) (m n:Int) (h:qn op k k' n) :
  ∃ u,(binOp op t (.int k m) (.int k' n)).run P w= .ok u w∧Rel g w (fP op k m n) u:=by
 cases op<;>simp only [qn] at h<;>simp only [fP]
 case add=>subst h;exact ⟨_,by rw [binOp_add];rfl, .int _ _⟩
 case sub=>subst h;exact ⟨_,by rw [binOp_sub];rfl, .int _ _⟩
 case mul=>subst h;exact ⟨_,by rw [binOp_mul];rfl, .int _ _⟩
 case quo=>obtain ⟨rfl,h⟩:=h;exact ⟨_,by rw [binOp_quo];simp [Op.intDiv,h], .int _ _⟩
 case rem=>obtain ⟨rfl,h⟩:=h;exact ⟨_,by rw [binOp_rem];simp [Op.intDiv,h], .int _ _⟩
 case and=>subst h;exact ⟨_,by rw [binOp_and,intBits_and];rfl, .int _ _⟩
 case or=>subst h;exact ⟨_,by rw [binOp_or,intBits_or];rfl, .int _ _⟩
 case xor=>subst h;exact ⟨_,by rw [binOp_xor,intBits_xor];rfl, .int _ _⟩
 case andNot=>subst h;exact ⟨_,by rw [binOp_andNot,intBits_andNot];rfl, .int _ _⟩
 case shl=>exact ⟨_,by rw [binOp_shl];simp [Op.shift,show ¬ n<0 by omega], .int _ _⟩
 case shr=>exact ⟨_,by rw [binOp_shr];simp [Op.shift,show ¬ n<0 by omega], .int _ _⟩
 case eql=>subst h;exact ⟨_,by rw [binOp_eql];rfl, .bool _⟩
 case neq=>subst h;exact ⟨_,by rw [binOp_neq];rfl, .bool _⟩
 case lss=>subst h;exact ⟨_,by rw [binOp_lss];rfl, .bool _⟩
 case leq=>subst h;exact ⟨_,by rw [binOp_leq];rfl, .bool _⟩
 case gtr=>subst h;exact ⟨_,by rw [binOp_gtr];rfl, .bool _⟩
 case geq=>subst h;exact ⟨_,by rw [binOp_geq];rfl, .bool _⟩
theorem sZ (op:BinOp) (t:TypeId) (m n:List UInt8) (h:lv op m n) :
  ∃ u,(binOp op t (.string ⟨m.toArray⟩) (.string ⟨n.toArray⟩)).run P w= .ok u w∧Rel g w (l5 op m n) u:=by
 have hs:∀ l:List UInt8,(⟨l.toArray⟩:ByteArray).size=l.length:=fun l=>by simp [ByteArray.size]
 have e:binOp op t (.string ⟨m.toArray⟩) (.string ⟨n.toArray⟩)=Op.stringOp op ⟨m.toArray⟩ ⟨n.toArray⟩:=by cases op<;>simp [lv] at h<;>simp [binOp]
 rw [e]
 cases op<;>simp only [lv] at h<;>simp only [l5]
 case add =>
  refine ⟨.string (⟨m.toArray⟩++⟨n.toArray⟩),?_,?_⟩
  ·have:¬ ((((⟨m.toArray⟩:ByteArray).size+(⟨n.toArray⟩:ByteArray).size:Nat):Int)>IntKind.i64.max):=by
    rw [hs,hs,IntKind.max_i64];omega
   simp only [Op.stringOp,if_neg this,Sem.run_pure]
  ·have:(⟨m.toArray⟩++⟨n.toArray⟩:ByteArray)=⟨(m++n).toArray⟩:=by
    apply ByteArray.ext
    simp
   rw [this];exact .str _
 all_goals (refine ⟨_,by simp only [Op.stringOp,Sem.run_pure,vY];rfl,?_⟩;exact .bool _)
theorem JT (hI:Inv g σ w) {t yt:TypeId} {op:BinOp} {x y:Operand} {vx vy:AV} (ho:o.op= .binOp op t x y yt) (hx:Rel g w vx (a.eval x)) (hy:Rel g w vy (a.eval y)) (h:vX op vx vy) :
  Yields ((execOp a.eval o).run P w) g w (y1 op vx vy) σ:=by
 cases vx<;>cases vy<;>simp only [vX] at h
 ·rename_i k m k' n
  have ex:=hx.a8
  have ey:=hy.a8
  obtain ⟨u,hr,hu⟩:=sY (P:=P) (g:=g) (w:=w) op t k k' m n h
  exact .same hI (by simp [execOp,ho,ex,ey,eqGuard_at_int,hr]) hu
 ·rename_i m n
  have ex:=hx.cF
  have ey:=hy.cF
  obtain ⟨u,hr,hu⟩:=sZ (P:=P) (g:=g) (w:=w) op t m n h
  exact .same hI (by simp [execOp,ho,ex,ey,eqGuard_at_string,hr]) hu
theorem JU (hI:Inv g σ w) {s d:TypeId} {k:IntKind} {x:Operand} {n:Int} {k':IntKind} (ho:o.op= .convert s d x) (hs:(P.underlying s).isSome=true) (hd:P.underlying d=some (.int k)) (hx:Rel g w (.int k' n) (a.eval x)) :
  Yields ((execOp a.eval o).run P w) g w (.int k (k.wrap n)) σ:=by
 have ex:=hx.a8
 have hr:=run_convert_int (P:=P) (w:=w) s d k' n hs (by
  have:P.intKind d=k:=by simp [Program.intKind,hd]
  rw [this];exact hd)
 have hk:P.intKind d=k:=by simp [Program.intKind,hd]
 rw [hk] at hr
 exact .same hI (by simp [execOp,ho,ex,hr]) (.int _ _)
def kf (P:Program) (t:TypeId) (sz:Option Nat):Bool :=
 match P.underlying t,P.info? t with
 | some d,some i=>if d.isRow then sz == some i.size else sz == none&&i.size == 1
 | _,_=>false
theorem kg {t:TypeId} {sz:Option Nat} (h:kf P t sz=true):∃ d i,P.underlying t=some d∧P.info? t=some i∧((d.isRow=true∧sz=some i.size)∨(d.isRow=false∧sz=none∧i.size=1)):=by
 unfold kf at h
 split at h
 ·rename_i d i hd hi
  refine ⟨d,i,hd,hi,?_⟩
  split at h
  ·rename_i hr;exact .inl ⟨hr,by simpa using h⟩
  ·rename_i hr;simp at h;exact .inr ⟨by simpa using hr,h.1,h.2⟩
 ·cases h
theorem iu {t:TypeId} {d:TypeDesc} (hu:P.underlying t=some d):(isAgg t).run P w= .ok d.isRow w:=by
 unfold isAgg
 rw [Sem.run_bind,run_underlying hu w]
 cases d<;>simp
theorem l7 (hI:Inv g σ w) {vp:AV} {u:Value} (h:Rel g w vp u) {cs:List AV} {o:Nat} (hp:cG σ vp=some (cs,o)) :
  ∃ b base us,u= .pointer (some ⟨b,base+o,none⟩)∧RelC g w cs us∧(∀ i v,us[i]? =some v→w.cell? ⟨b,base+i,none⟩=some v):=by
 cases vp<;>simp [cG] at hp
 ·rename_i β off
  obtain ⟨cs',hb,rfl,rfl⟩:=hp
  obtain ⟨b,rfl,hg⟩:=h.fA
  obtain ⟨b',vs,T,hg',hw,hr⟩:=hI.box β _ hb
  rw [hg] at hg';cases hg'
  exact ⟨b,0,vs.toList,by simp,hr,fun i v hv=>by rw [cell_of_row w b (0+i) vs T _ hw];simpa using hv⟩
 ·obtain ⟨rfl,rfl⟩:=hp
  obtain ⟨b,off,us,rfl,hl⟩:=h.lX
  exact ⟨b,off,us,by simp,hl.rel,hl.cell⟩
theorem pd {cs:List AV} {us:List Value} (h:RelC g w cs us) {o:Nat} {sz:Option Nat} (hs:ldS cs o sz) :
    match sz with
    | none=>∃ v,us[o]? =some v∧v.oneCell'=true∧Rel g w (ldV cs o none) v
    | some n=>o+n≤us.length∧Rel g w (ldV cs o (some n)) (.agg ((us.drop o).take n).toArray):=by
  cases sz with
  | none =>
    simp only [ldS] at hs
    obtain ⟨v,hv,hr⟩:=h.1.get (List.getElem?_eq_getElem hs)
    exact ⟨v,hv,h.2 v (List.mem_of_getElem? hv),by simpa [ldV,List.getElem?_eq_getElem hs] using hr⟩
  | some n =>
    simp only [ldS] at hs
    exact ⟨by have:=h.1.1;omega, .gV ((h.drop o).take n)⟩
theorem JV (hI:Inv g σ w) {t:TypeId} {x:Operand} {sz:Option Nat} {vp:AV} {cs:List AV} {off:Nat} (ho:o.op= .load t x) (hs:kf P t sz=true) (hx:Rel g w vp (a.eval x)) (hp:cG σ vp=some (cs,off)) (h:ldS cs off sz) :
  Yields ((execOp a.eval o).run P w) g w (ldV cs off sz) σ:=by
 obtain ⟨d,i,hd,hi,hc⟩:=kg hs
 obtain ⟨b,base,us,ex,hr,hcell⟩:=l7 hI hx hp
 have hl:=pd hr h
 rcases hc with ⟨hrow,rfl⟩|⟨hrow,rfl,_⟩
 ·simp only at hl
  have hlen:((us.drop off).take i.size).length=i.size:=Pw
  have hrun:=run_loadAt_mid (P:=P) w b (base+off) t ((us.drop off).take i.size) d (fun j v hv=>by
   rw [List.getElem?_take] at hv
   split at hv
   ·rw [List.getElem?_drop] at hv;rw [Nat.add_assoc];exact hcell _ v hv
   ·cases hv) hd hrow (by rw [hi,hlen];rfl)
  exact .same hI (by simp [execOp,ho,ex,hrun]) hl.2
 ·simp only at hl
  obtain ⟨v,hv,_,hrel⟩:=hl
  have hc:=hcell off v hv
  exact .same hI (by simp [execOp,ho,ex,Instr.loadAt,Instr.sureAddr,loadVar,iu hd,hrow,hc]) hrel
def GB (P:Program) (t:TypeId) (f off:Nat):Bool :=
  match P.underlying t with
  | some (.struct fs) => match fs[f]? with
    | some fd=>fd.offset == off&&(match P.info? fd.type with|some i=>i.size != 0|none=>false)
    | none=>false
  | _=>false
theorem _root_.PT {p:Prop} (h:p:=by simpa using h2):p:=h
theorem GC (hI:Inv g σ w) {t:TypeId} {x:Operand} {f off:Nat} {v:AV} (ho:o.op= .fieldAddr t x f) (hf:GB P t f off=true) (hx:Rel g w v (a.eval x)) :
  (∀ β k,v= .ptr β k→Yields ((execOp a.eval o).run P w) g w (.ptr β (k+off)) σ)∧(∀ cs,v= .el cs→off≤cs.length→Yields ((execOp a.eval o).run P w) g w (.el (cs.drop off)) σ):=by
 have key:∀ b k,a.eval x= .pointer (some ⟨b,k,none⟩)→(execOp a.eval o).run P w= .ok (.value (.pointer (some ⟨b,k+off,none⟩))) w:=by
  intro b k ex
  unfold GB at hf
  split at hf
  ·rename_i fs hfs
   split at hf
   ·rename_i fd hfd
    simp only [Bool.and_eq_true,beq_iff_eq] at hf
    obtain ⟨rfl,h2⟩:=hf
    split at h2
    ·rename_i i hi
     have h3:i.size≠0:=PT
     simp [execOp,ho,ex,Instr.fieldAt,run_underlying hfs,hfd,Instr.sureAddr,fieldPlace,sizeOf,typeInfo,hi,h3,Addr.add_lit]
    ·cases h2
   ·cases hf
  ·cases hf
 constructor
 ·rintro β k rfl
  obtain ⟨b,ex,hb⟩:=hx.fA
  exact .same hI (key b k ex) (.ptr _ _ _ hb)
 ·rintro cs rfl hle
  obtain ⟨b,k,us,ex,hl⟩:=hx.lX
  exact .same hI (key b k ex) (.ql (hl.drop off hle))
def esB (P:Program) (t:TypeId) (es:Nat):Bool :=
  match P.underlying t with
  | some (.slice e) => match P.info? e with
    | some i=>i.size == es
    | none=>false
  | _=>false
theorem jB {t:TypeId} {es:Nat} (h:esB P t es=true):∃ e i,P.underlying t=some (.slice e)∧P.info? e=some i∧i.size=es:=by
 unfold esB at h
 split at h
 ·rename_i e he
  split at h
  ·rename_i i hi;exact ⟨e,i,he,hi,by simpa using h⟩
  ·cases h
 ·cases h
def vZ (P:Program) (t:TypeId) (n es:Nat):Bool :=
  match P.underlying t with
  | some (.array m e) => match P.info? e with
    | some i=>i.size == es&&m == n
    | none=>false
  | _=>false
theorem nT {t:TypeId} {n es:Nat} (h:vZ P t n es=true):∃ e i,P.underlying t=some (.array n e)∧P.info? e=some i∧i.size=es:=by
 unfold vZ at h
 split at h
 ·rename_i m e he
  split at h
  ·rename_i i hi;simp at h;obtain ⟨h1,rfl⟩:=h;exact ⟨e,i,he,hi,h1⟩
  ·cases h
 ·cases h
theorem bE (b o n:Nat):(⟨b,o,none⟩:Addr).add n=⟨b,o+n,none⟩:=Addr.add_mid b o n
theorem Ga (hI:Inv g σ w) {t:TypeId} {x y:Operand} {es:Nat} {vx:AV} {k:IntKind} {i:Int} {n:Nat} {cs:List AV} (ho:o.op= .indexAddr t x y) (he:esB P t es=true)
  (hx:Rel g w vx (a.eval x)) (hy:Rel g w (.int k i) (a.eval y)) (hv:slv vx=some (n,cs)) (h0:0≤i) (h1:i<n) (h2:i.toNat*es+es≤cs.length) :
  Yields ((execOp a.eval o).run P w) g w (.el ((cs.drop (i.toNat*es)).take es)) σ:=by
 obtain ⟨e,inf,hu,hi,hsz⟩:=jB he
 have ey:=hy.a8
 rcases hx.bL hv with ⟨_,_,rfl,_⟩|⟨b,off,cap,us,ex,hnc,hl⟩
 ·simp at h1;omega
 ·refine .same hI (u:= .pointer (some ⟨b,off+i.toNat*es,none⟩)) ?_ (.ql (hl.part _ _ Oz))
  simp [execOp,ho,ex,ey,Instr.indexAt,asIntOf,run_underlying hu,h0,h1,sizeOf,typeInfo,hi,hsz,bE]
theorem JW (hI:Inv g σ w) {t:TypeId} {x y:Operand} {n es:Nat} {vx:AV} {k:IntKind} {i:Int} (ho:o.op= .indexAddr t x y) (he:vZ P t n es=true)
  (hx:Rel g w vx (a.eval x)) (hy:Rel g w (.int k i) (a.eval y)) (h0:0≤i) (h1:i<n) :
  (∀ β q,vx= .ptr β q→Yields ((execOp a.eval o).run P w) g w (.ptr β (q+i.toNat*es)) σ)∧(∀ cs,vx= .el cs→i.toNat*es≤cs.length→Yields ((execOp a.eval o).run P w) g w (.el (cs.drop (i.toNat*es))) σ):=by
 obtain ⟨e,inf,hu,hi,hsz⟩:=nT he
 have ey:=hy.a8
 have key:∀ b q,a.eval x= .pointer (some ⟨b,q,none⟩)→(execOp a.eval o).run P w= .ok (.value (.pointer (some ⟨b,q+i.toNat*es,none⟩))) w:=by
  intro b q ex
  simp [execOp,ho,ex,ey,Instr.indexAt,Instr.sureAddr,asIntOf,run_underlying hu,h0,h1,sizeOf,typeInfo,hi,hsz,bE]
 constructor
 ·rintro β q rfl
  obtain ⟨b,ex,hb⟩:=hx.fA
  exact .same hI (key b q ex) (.ptr _ _ _ hb)
 ·rintro cs rfl hle
  obtain ⟨b,q,us,ex,hl⟩:=hx.lX
  exact .same hI (key b q ex) (.ql (hl.drop _ hle))
theorem JX (hI:Inv g σ w) {t:TypeId} {x y:Operand} {l:List UInt8} {k:IntKind} {i:Int} (ho:o.op= .index t x y) (hu:P.underlying t=some .string)
  (hx:Rel g w (.str l) (a.eval x)) (hy:Rel g w (.int k i) (a.eval y)) (h0:0≤i) (h1:i<l.length) :
  Yields ((execOp a.eval o).run P w) g w (.int .u8 ((l[i.toNat]?).getD 0).toNat) σ:=by
 have ey:=hy.a8
 have ex:=hx.cF
 have hlt:i.toNat<l.length:=Oz
 refine .same hI (u:= .int .u8 ((l[i.toNat]?).getD 0).toNat) ?_ (.int _ _)
 have hg:(⟨l.toArray⟩:ByteArray)[i.toNat]? =some l[i.toNat]:=by
  have hsz:i.toNat<(⟨l.toArray⟩:ByteArray).size:=by simpa [ByteArray.size] using hlt
  rw [getElem?_pos (⟨l.toArray⟩:ByteArray) i.toNat hsz]
  rfl
 simp [execOp,ho,ex,ey,Instr.index,asIntOf,run_underlying hu,h0,hg,List.getElem?_eq_getElem hlt]
theorem dH {t:TypeId} {sz:Option Nat} (hs:kf P t sz=true) {cs:List AV} {us:List Value} (h:RelC g w cs us) {off:Nat} (hl:ldS cs off sz) :
  ∃ u,(part t us.toArray off).run P w= .ok u w∧Rel g w (ldV cs off sz) u:=by
 obtain ⟨d,i,hd,hi,hc⟩:=kg hs
 have hl:=pd h hl
 rcases hc with ⟨hrow,rfl⟩|⟨hrow,rfl,_⟩
 ·simp only at hl
  refine ⟨_,?_,hl.2⟩
  simp [part,iu hd,hrow,sizeOf,typeInfo,hi]
 ·simp only at hl
  obtain ⟨v,hv,_,hrel⟩:=hl
  exact ⟨v,by simp [part,iu hd,hrow,hv],hrel⟩
def y2 (P:Program) (t:TypeId) (f off:Nat) (sz:Option Nat):Bool :=
  match P.underlying t with
  | some (.struct fs) => match fs[f]? with
    | some fd=>fd.offset == off&&kf P fd.type sz
    | none=>false
  | _=>false
theorem JY (hI:Inv g σ w) {t:TypeId} {x:Operand} {f off:Nat} {sz:Option Nat} {cs:List AV} (ho:o.op= .field t x f) (hf:y2 P t f off sz=true) (hx:Rel g w (.agg cs) (a.eval x)) (h:ldS cs off sz) :
  Yields ((execOp a.eval o).run P w) g w (ldV cs off sz) σ:=by
 obtain ⟨us,ex,hr⟩:=hx.dt
 unfold y2 at hf
 split at hf
 ·rename_i fs hfs
  split at hf
  ·rename_i fd hfd
   simp only [Bool.and_eq_true,beq_iff_eq] at hf
   obtain ⟨rfl,h2⟩:=hf
   obtain ⟨u,hrun,hu⟩:=dH (P:=P) h2 hr h
   exact .same hI (by simp [execOp,ho,ex,Instr.field,run_underlying hfs,hfd,asAgg,hrun]) hu
  ·cases hf
 ·cases hf
def iQ (P:Program) (t:TypeId) (k:Nat):Bool :=
 match P.underlying t,k with
 | some (.int _),0|some .string,1|some .bool,2=>true
 | _,_=>false
def fK (P:Program):Nat→Nat→List Nat→List Field→Bool
  | 0,_,_,_=>false
  | _+1,_,[],[]=>true
  | n + 1, off, k :: ks, f :: fs => f.name != "_" && f.offset == off && match P.underlying f.type with
    | some (.struct gs) => match P.info? f.type with
      | some i=>kf P f.type (some i.size)&&Nat.ble i.size (ks.length+1)&& !P.stoodInHeld f.type&&fK P n 0 ((k::ks).take i.size) gs.toList&&fK P n (off+i.size) ((k::ks).drop i.size) fs
      | none=>false
    | _=>kf P f.type none&&iQ P f.type k&&fK P n (off+1) ks fs
  | _,_,_,_=>false
def l8 (P:Program) (c:Nat) (gs:List Field):Nat→List Nat→Bool
 | 0,ks=>ks.isEmpty
 | n+1,ks=>Nat.ble c ks.length&&fK P 40 0 (ks.take c) gs&&l8 P c gs n (ks.drop c)
def y3 (P:Program) (t:TypeId) (ks:List Nat):Bool :=
  match P.underlying t with
  | some (.struct fs)=> !P.stoodInHeld t&& !P.eqGuardType P.depth t&&fK P 40 0 ks fs.toList
  | some (.array n e) => match P.underlying e, P.info? e with
    | some (.struct gs),some i=>kf P e (some i.size)&& !P.stoodInHeld e&& !P.eqGuardType P.depth t&&l8 P i.size gs.toList n ks
    | _,_=>false
  | _=>false
theorem _root_.OB {p:Prop} (h:p:=by assumption):p:=h
theorem pe {t:TypeId} {k d:Nat} {x y:AV} {u v:Value} {p:Bool} (ht:iQ P t k=true) (hx:Rel g w x u) (hy:Rel g w y v) (h:sqV k x y=some p):(Op.equalIn (d+1) t u v).run P w= .ok p w:=by
 unfold sqV at h
 split at h
 ·split at h
  ·rename_i h1;subst h1;cases h
   have ex:=hx.a8;have ey:=hy.a8
   subst ex;subst ey
   unfold iQ at ht
   split at ht<;>simp_all
   exact run_equalIn_int w _ _ _ _ _ _ OB
  ·cases h
 ·cases h
  have ex:=hx.cF;have ey:=hy.cF
  subst ex;subst ey
  unfold iQ at ht
  split at ht<;>simp_all
  rename_i hu
  rw [run_equalIn_string (P:=P) w d t _ _ hu]
  simp [ByteArray.toList_eq]
 ·cases h
  have ex:=hx.cT;have ey:=hy.cT
  subst ex;subst ey
  unfold iQ at ht
  split at ht<;>simp_all
  exact run_equalIn_bool' w _ _ _ _ OB
 ·cases h
theorem pg:∀ {ks:List Nat} {as bs:List AV} {q:Bool},sqL ks as bs=some q→as.length=ks.length∧bs.length=ks.length
  | [],[],[],_,_=>⟨rfl,rfl⟩
  | [],_::_,_,_,h=>by simp [sqL] at h
  | [],[],_::_,_,h=>by simp [sqL] at h
  | _::_,[],_,_,h=>by simp [sqL] at h
  | _::_,_::_,[],_,h=>by simp [sqL] at h
  | k :: ks, a :: as, b :: bs, q, h => by
    simp only [sqL] at h
    split at h
    · rename_i p r hp hr
      obtain ⟨h1,h2⟩:=pg hr
      simp [h1,h2]
    · cases h
theorem ki:∀ (s:Nat) {ks:List Nat} {as bs:List AV} {q:Bool},sqL ks as bs=some q→∃ p r,sqL (ks.take s) (as.take s) (bs.take s)=some p∧sqL (ks.drop s) (as.drop s) (bs.drop s)=some r∧q=(p&&r)
  | 0,ks,as,bs,q,h=>⟨true,q,by simp [sqL],by simpa using h,by simp⟩
  | s+1,[],[],[],q,h=>by simp [sqL] at h;subst h;exact ⟨true,true,by simp [sqL],by simp [sqL],rfl⟩
  | s+1,[],_::_,_,_,h=>by simp [sqL] at h
  | s+1,[],[],_::_,_,h=>by simp [sqL] at h
  | s+1,_::_,[],_,_,h=>by simp [sqL] at h
  | s+1,_::_,_::_,[],_,h=>by simp [sqL] at h
  | s + 1, k :: ks, a :: as, b :: bs, q, h => by
    simp only [sqL] at h
    split at h
    · rename_i p r hp hr
      cases h
      obtain ⟨p2,r2,h1,h2,h3⟩:=ki s hr
      refine ⟨p&&p2,r2,?_,by simpa using h2,by rw [h3,Bool.and_assoc]⟩
      simp [sqL,hp,h1]
    · cases h
theorem gn (n:Nat):∀ {d:Nat} {cs ds:List AV} {us vs:List Value} (_:RelC g w cs us) (_:RelC g w ds vs) (fs:List Field) (ks:List Nat) (off:Nat) (q:Bool),n≤d→fK P n off ks fs=true→sqL ks (cs.drop off) (ds.drop off)=some q →
    (Op.eqFields (d+1) us.toArray vs.toArray fs).run P w= .ok q w:=by
  induction n with
  | zero=>intro d cs ds us vs hc hd fs ks off q hn h hq;simp [fK] at h
  | succ n ih =>
  intro d cs ds us vs hc hd fs ks off q hn h hq
  match ks,fs,h with
  | [], [], _ =>
    generalize cs.drop off=c1 at hq
    generalize ds.drop off=d1 at hq
    cases c1<;>cases d1<;>simp [sqL] at hq
    subst hq;simp [Op.eqFields]
  | [],_::_,h=>simp [fK] at h
  | _::_,[],h=>simp [fK] at h
  | k :: ks, f :: fs, h =>
    simp only [fK,Bool.and_eq_true,beq_iff_eq,bne_iff_ne] at h
    obtain ⟨⟨h1,rfl⟩,h3⟩:=h
    obtain ⟨d,rfl⟩:∃ e,d=e+1:=⟨d - 1,by omega⟩
    split at h3
    · rename_i gs hgs
      split at h3
      · rename_i i hi
        simp only [Bool.and_eq_true,Bool.not_eq_true'] at h3
        obtain ⟨⟨⟨⟨h4,h5⟩,h6⟩,h7⟩,h8⟩:=h3
        have h5:=Nat.le_of_ble_eq_true h5
        obtain ⟨l1,l2⟩:=pg hq
        simp only [List.length_drop,List.length_cons] at l1 l2
        obtain ⟨p,r,q1,q2,q3⟩:=ki i.size hq
        have hlc:ldS cs f.offset (some i.size):=by simp only [ldS];omega
        have hld:ldS ds f.offset (some i.size):=by simp only [ldS];omega
        obtain ⟨u,hu,ru⟩:=dH (P:=P) h4 hc (off:=f.offset) hlc
        obtain ⟨v,hv,rv⟩:=dH (P:=P) h4 hd (off:=f.offset) hld
        simp only [ldV] at ru rv
        obtain ⟨us2,rfl,hc2⟩:=ru.dt
        obtain ⟨vs2,rfl,hd2⟩:=rv.dt
        have hfo:P.fieldsOf f.type=gs:=by simp [Program.fieldsOf,hgs]
        have he:(Op.equalIn (d+1+1) f.type (.agg us2.toArray) (.agg vs2.toArray)).run P w= .ok p w:=by
          rw [run_equalIn_struct w (d+1) f.type _ _ (by rw [hfo];exact hgs) h6,hfo]
          exact ih hc2 hd2 gs.toList ((k::ks).take i.size) 0 p Oz h7 (by simpa using q1)
        have ih2:=ih hc hd fs ((k::ks).drop i.size) (f.offset+i.size) r (d:=d+1) Oz h8 (by rw [←List.drop_drop,←List.drop_drop];exact q2)
        simp only [Op.eqFields,if_pos h1,Sem.run_bind,hu,hv,he,Result.andThen_ok]
        subst q3
        cases p
        · simp
        · simpa using ih2
      · cases h3
    · simp only [Bool.and_eq_true] at h3
      obtain ⟨⟨h3,h4⟩,h5⟩:=h3
      have hoc:f.offset<cs.length:=by
        rcases Nat.lt_or_ge f.offset cs.length with h|h
        · exact h
        · rw [List.drop_eq_nil_of_le h] at hq;simp [sqL] at hq
      have hod:f.offset<ds.length:=by
        rcases Nat.lt_or_ge f.offset ds.length with h|h
        · exact h
        · rw [List.drop_eq_nil_of_le (as:=ds) h,List.drop_eq_getElem_cons hoc] at hq;simp [sqL] at hq
      rw [List.drop_eq_getElem_cons hoc,List.drop_eq_getElem_cons hod] at hq
      simp only [sqL] at hq
      split at hq
      · rename_i p r hp hr
        cases hq
        obtain ⟨u,hu,ru⟩:=dH (P:=P) h3 hc (off:=f.offset) hoc
        obtain ⟨v,hv,rv⟩:=dH (P:=P) h3 hd (off:=f.offset) hod
        simp only [ldV,List.getElem?_eq_getElem hoc,Option.getD_some] at ru
        simp only [ldV,List.getElem?_eq_getElem hod,Option.getD_some] at rv
        have he:=pe (P:=P) (d:=d+1) h4 ru rv hp
        have ih2:=ih hc hd fs ks (f.offset+1) r (d:=d+1) Oz h5 hr
        simp only [Op.eqFields,if_pos h1,Sem.run_bind,hu,hv,he,Result.andThen_ok]
        cases p
        · simp
        · simpa using ih2
      · cases hq
theorem kP {e:TypeId} {gs:Array Field} {i:TypeInfo} (hgs:P.underlying e=some (.struct gs)) (hi:P.info? e=some i) (h4:kf P e (some i.size)=true) (h6:P.stoodInHeld e=false) {cs ds:List AV} {us vs:List Value} (hc:RelC g w cs us) (hd:RelC g w ds vs):∀ (n k:Nat) (ks:List Nat) (q:Bool),l8 P i.size gs.toList n ks=true→sqL ks (cs.drop (k*i.size)) (ds.drop (k*i.size))=some q →
    (Op.eqItems 9999 e (P.cellsOf e) us.toArray vs.toArray (List.range' k n)).run P w= .ok q w
  | 0, k, ks, q, h, hq => by
    simp only [l8,List.isEmpty_iff] at h
    subst h
    generalize cs.drop (k*i.size)=c1 at hq
    generalize ds.drop (k*i.size)=d1 at hq
    cases c1<;>cases d1<;>simp [sqL] at hq
    subst hq;simp [Op.eqItems]
  | n + 1, k, ks, q, h, hq => by
    simp only [l8,Bool.and_eq_true] at h
    obtain ⟨⟨h5,h7⟩,h8⟩:=h
    have h5:=Nat.le_of_ble_eq_true h5
    have hco:P.cellsOf e=i.size:=by simp [Program.cellsOf,hi]
    obtain ⟨l1,l2⟩:=pg hq
    simp only [List.length_drop] at l1 l2
    obtain ⟨p,r,q1,q2,q3⟩:=ki i.size hq
    have ih:=kP hgs hi h4 h6 hc hd n (k+1) (ks.drop i.size) r h8 (by rw [Nat.succ_mul,←List.drop_drop,←List.drop_drop];exact q2)
    rcases Nat.eq_zero_or_pos i.size with hz|hz
    · have hlc:ldS cs (k*i.size) (some i.size):=by simp only [ldS,hz];omega
      have hld:ldS ds (k*i.size) (some i.size):=by simp only [ldS,hz];omega
      obtain ⟨u,hu,ru⟩:=dH (P:=P) h4 hc (off:=k*i.size) hlc
      obtain ⟨v,hv,rv⟩:=dH (P:=P) h4 hd (off:=k*i.size) hld
      simp only [ldV] at ru rv
      obtain ⟨us2,rfl,hc2⟩:=ru.dt
      obtain ⟨vs2,rfl,hd2⟩:=rv.dt
      have hfo:P.fieldsOf e=gs:=by simp [Program.fieldsOf,hgs]
      have he:(Op.equalIn 9999 e (.agg us2.toArray) (.agg vs2.toArray)).run P w= .ok p w:=by
        rw [run_equalIn_struct w 9998 e _ _ (by rw [hfo];exact hgs) h6,hfo]
        exact gn 40 hc2 hd2 gs.toList (ks.take i.size) 0 p (d:=9997) Oz h7 (by simpa using q1)
      rw [List.range'_succ]
      simp only [Op.eqItems,hco,Sem.run_bind,hu,hv,he,Result.andThen_ok]
      subst q3
      cases p
      · simp
      · simpa [hco] using ih
    · have hlc:ldS cs (k*i.size) (some i.size):=by simp only [ldS];omega
      have hld:ldS ds (k*i.size) (some i.size):=by simp only [ldS];omega
      obtain ⟨u,hu,ru⟩:=dH (P:=P) h4 hc (off:=k*i.size) hlc
      obtain ⟨v,hv,rv⟩:=dH (P:=P) h4 hd (off:=k*i.size) hld
      simp only [ldV] at ru rv
      obtain ⟨us2,rfl,hc2⟩:=ru.dt
      obtain ⟨vs2,rfl,hd2⟩:=rv.dt
      have hfo:P.fieldsOf e=gs:=by simp [Program.fieldsOf,hgs]
      have he:(Op.equalIn 9999 e (.agg us2.toArray) (.agg vs2.toArray)).run P w= .ok p w:=by
        rw [run_equalIn_struct w 9998 e _ _ (by rw [hfo];exact hgs) h6,hfo]
        exact gn 40 hc2 hd2 gs.toList (ks.take i.size) 0 p (d:=9997) Oz h7 (by simpa using q1)
      rw [List.range'_succ]
      simp only [Op.eqItems,hco,Sem.run_bind,hu,hv,he,Result.andThen_ok]
      subst q3
      cases p
      · simp
      · simpa [hco] using ih
theorem JZ (hI:Inv g σ w) {t yt:TypeId} {neg:Bool} {ks:List Nat} {x y:Operand} {cs ds:List AV} {q:Bool} (ho:o.op= .binOp (if neg then .neq else .eql) t x y yt) (ht:y3 P t ks=true) (hx:Rel g w (.agg cs) (a.eval x)) (hy:Rel g w (.agg ds) (a.eval y)) (hq:sqL ks cs ds=some q) :
  Yields ((execOp a.eval o).run P w) g w (.bool (bif neg then !q else q)) σ:=by
 obtain ⟨us,ex,hc⟩:=hx.dt
 obtain ⟨vs,ey,hd⟩:=hy.dt
 unfold y3 at ht
 split at ht
 ·rename_i fs hfs
  simp only [Bool.and_eq_true,Bool.not_eq_true'] at ht
  obtain ⟨⟨h1,h2⟩,h3⟩:=ht
  have hfo:P.fieldsOf t=fs:=by simp [Program.fieldsOf,hfs]
  have he:(Op.equalIn 10000 t (.agg us.toArray) (.agg vs.toArray)).run P w= .ok q w:=by
   rw [run_equalIn_struct w 9999 t _ _ (by rw [hfo];exact hfs) h1,hfo]
   exact gn 40 hc hd fs.toList ks 0 q Oz h3 (by simpa using hq) (d:=9998)
  have hg:∀ op,(eqGuard op t x y (.agg us.toArray) (.agg vs.toArray)).run P w= .ok () w:=fun op=>run_eqGuard_agg w op t x y _ _ h2
  refine .same hI (u:= .bool (bif neg then !q else q)) ?_ (.bool _)
  cases neg
  ·simp [execOp,ho,ex,ey,hg,run_eql_struct,he]
  ·simp [execOp,ho,ex,ey,hg,run_neq_struct,he]
 ·rename_i n e hfs
  split at ht
  ·rename_i gs i hgs hi
   simp only [Bool.and_eq_true,Bool.not_eq_true'] at ht
   obtain ⟨⟨⟨h1,h2⟩,h3⟩,h4⟩:=ht
   have he:(Op.equalIn 10000 t (.agg us.toArray) (.agg vs.toArray)).run P w= .ok q w:=by
    rw [run_equalIn_array w 9999 _ _ hfs hi,List.range_eq_range']
    exact kP hgs hi h1 h2 hc hd n 0 ks q h4 (by simpa using hq)
   have hg:∀ op,(eqGuard op t x y (.agg us.toArray) (.agg vs.toArray)).run P w= .ok () w:=fun op=>run_eqGuard_agg w op t x y _ _ h3
   refine .same hI (u:= .bool (bif neg then !q else q)) ?_ (.bool _)
   cases neg
   ·simp [execOp,ho,ex,ey,hg,run_eql_struct,he]
   ·simp [execOp,ho,ex,ey,hg,run_neq_struct,he]
  ·cases ht
 ·cases ht
def GD (P:Program) (t:TypeId) (n es:Nat) (sz:Option Nat):Bool :=
 match P.underlying t with
 | some (.array m e)=>m == n&&kf P e sz&&(match P.info? e with|some i=>i.size == es|none=>false)
 | _=>false
theorem J0 (hI:Inv g σ w) {t:TypeId} {x y:Operand} {n es:Nat} {sz:Option Nat} {cs:List AV} {k:IntKind} {i:Int} (ho:o.op= .index t x y) (hf:GD P t n es sz=true) (hx:Rel g w (.agg cs) (a.eval x))
  (hy:Rel g w (.int k i) (a.eval y)) (h0:0≤i) (h1:i<n) (h:ldS cs (i.toNat*es) sz):Yields ((execOp a.eval o).run P w) g w (ldV cs (i.toNat*es) sz) σ:=by
 obtain ⟨us,ex,hr⟩:=hx.dt
 have ey:=hy.a8
 unfold GD at hf
 split at hf
 ·rename_i m e hfs
  simp only [Bool.and_eq_true,beq_iff_eq] at hf
  obtain ⟨⟨rfl,h2⟩,h3⟩:=hf
  split at h3
  ·rename_i inf hi
   have h4:inf.size=es:=by simpa using h3
   obtain ⟨u,hrun,hu⟩:=dH (P:=P) h2 hr h
   exact .same hI (by simp [execOp,ho,ex,ey,Instr.index,asIntOf,run_underlying hfs,h0,h1,sizeOf,typeInfo,hi,h4,hrun]) hu
  ·cases h3
 ·cases hf
theorem J1 (hI:Inv g σ w) {x:Operand} {i:Nat} {cs:List AV} (ho:o.op= .extract x i) (hx:Rel g w (.tup cs) (a.eval x)) (h:i<cs.length):Yields ((execOp a.eval o).run P w) g w ((cs[i]?).getD .junk) σ:=by
 obtain ⟨us,ex,hr⟩:=hx.o6
 obtain ⟨v,hv,hrel⟩:=hr.get (List.getElem?_eq_getElem h)
 exact .same hI (by simp [execOp,ho,ex,Instr.extract,hv];rfl) (by simpa [List.getElem?_eq_getElem h] using hrel)
theorem GF (hI:Inv g σ w) {x:Operand} {v:AV} (ho:o.op= .nilCheck x) (hx:Rel g w v (a.eval x)) (h:(∃ β k,v= .ptr β k)∨∃ cs,v= .el cs):Yields ((execOp a.eval o).run P w) g w v σ:=by
 refine .same hI (u:=a.eval x) ?_ hx
 rcases h with ⟨β,k,rfl⟩|⟨cs,rfl⟩
 ·obtain ⟨b,ex,_⟩:=hx.fA;simp [execOp,ho,ex]
 ·obtain ⟨b,k,us,ex,_⟩:=hx.lX;simp [execOp,ho,ex]
theorem J2 (hI:Inv g σ w) {t:TypeId} {x:Operand} {v:AV} (ho:o.op= .makeInterface t x) (ht:(match P.underlying t with|some (.interface _)=>false|some _=>true|none=>false)=true) (hx:Rel g w v (a.eval x)):Yields ((execOp a.eval o).run P w) g w (.ifc t v) σ:=by
 refine .same hI (u:= .iface t (a.eval x)) ?_ (.ifc _ _ _ hx)
 cases hu:P.underlying t with
 | none=>simp [hu] at ht
 | some d=>cases d<;>simp [hu] at ht<;>simp [execOp,ho,Instr.makeInterface,run_underlying hu]
theorem J3 (hI:Inv g σ w) {f:Nat} {caps:List Operand} {vs:List AV} (ho:o.op= .makeFunc (.func f) #[] caps.toArray) (hx:bQ g w vs (caps.map a.eval)):Yields ((execOp a.eval o).run P w) g w (.fn f vs) σ:=by
 refine .same hI (u:= .func (.func f) #[] (caps.map a.eval).toArray) ?_ (.fn f vs _ hx.1 hx.2)
 simp [execOp,ho,Instr.makeFunc]
theorem run_equalIn_bool {t:TypeId} (d:Nat) (p q:Bool) (ht:P.underlying t=some .bool):(Op.equalIn (d+1) t (.bool p) (.bool q)).run P w= .ok (p == q) w:=by simp [Op.equalIn,run_underlying ht]
theorem J4 (hI:Inv g σ w) {t yt:TypeId} {neg:Bool} {x y:Operand} {p q:Bool} (ho:o.op= .binOp (if neg then .neq else .eql) t x y yt) (ht:P.underlying t=some .bool) (hx:Rel g w (.bool p) (a.eval x)) (hy:Rel g w (.bool q) (a.eval y)) :
  Yields ((execOp a.eval o).run P w) g w (.bool (bif neg then !(p == q) else p == q)) σ:=by
 have ex:=hx.cT
 have ey:=hy.cT
 have he:(Op.equal t (.bool p) (.bool q)).run P w= .ok (p == q) w:=run_equalIn_bool 9999 p q ht
 cases neg
 ·exact .same hI (by simp [execOp,ho,ex,ey,eqGuard_at_bool,binOp,he]) (.bool _)
 ·exact .same hI (by simp [execOp,ho,ex,ey,eqGuard_at_bool,binOp,he]) (.bool _)
def eS (P:Program) (t:TypeId):Bool:=match P.underlying t with|some (.slice _)=>true|_=>false
theorem Gb (hI:Inv g σ w) {t:TypeId} {x:Operand} {v:AV} {n:Nat} {cs:List AV} (ho:o.op= .call { callee:= .builtin .len,args:= #[x],argTypes:= #[t] }) (hu:eS P t=true) (hx:Rel g w v (a.eval x)) (hv:slv v=some (n,cs)) :
    Yields ((execOp a.eval o).run P w) g w (.int .i64 n) σ:=by
  refine .same hI (u:= .int .i64 n) ?_ (.int _ _)
  unfold eS at hu
  cases hd:P.underlying t with
  | none=>simp [hd] at hu
  | some d =>
    cases d<;>simp [hd] at hu
    rcases hx.bL hv with ⟨x0,ex,rfl,_⟩|⟨b,off,cap,us,ex,_⟩<;>simp [execOp,ho,ex,resolve,invoke,builtin,Builtin.len_,run_underlying hd,goInt]
theorem GG (hI:Inv g σ w) {t:TypeId} {x:Operand} {l:List UInt8} (ho:o.op= .call { callee:= .builtin .len,args:= #[x],argTypes:= #[t] }) (hu:P.underlying t=some .string) (hx:Rel g w (.str l) (a.eval x)) :
  Yields ((execOp a.eval o).run P w) g w (.int .i64 l.length) σ:=by
 have ex:=hx.cF
 have hsz:(⟨l.toArray⟩:ByteArray).size=l.length:=by simp [ByteArray.size]
 have hrun:(Builtin.len_ #[t] o.type #[.string ⟨l.toArray⟩]).run P w= .ok (.int .i64 l.length) w:=by simp [Builtin.len_,run_underlying hu,goInt,hsz]
 exact .same hI (u:= .int .i64 l.length) (by simp [execOp,ho,ex,resolve,invoke,builtin,hrun]) (.int _ _)
theorem LU (hI:Inv g σ w) {ts:Array TypeId} {mx:Bool} {x y:Operand} {k k':IntKind} {p q:Int} (ho:o.op= .call { callee:= .builtin (if mx then .max else .min),args:= #[x,y],argTypes:=ts }) (hx:Rel g w (.int k p) (a.eval x)) (hy:Rel g w (.int k' q) (a.eval y)) :
  Yields ((execOp a.eval o).run P w) g w (.int k (if mx then (if q>p then q else p) else (if q<p then q else p))) σ:=by
 have ex:=hx.a8
 have ey:=hy.a8
 cases mx
 ·exact .same hI (by simp [execOp,ho,ex,ey,resolve,invoke,builtin,Builtin.min_,Builtin.min2]) (.int _ _)
 ·exact .same hI (by simp [execOp,ho,ex,ey,resolve,invoke,builtin,Builtin.max_,Builtin.max2]) (.int _ _)
theorem J5 (hI:Inv g σ w) {t:TypeId} {x y:Operand} {es β off n:Nat} {k:IntKind} {i:Int} (ho:o.op= .indexAddr t x y) (he:esB P t es=true)
  (hx:Rel g w (.psl β off n) (a.eval x)) (hy:Rel g w (.int k i) (a.eval y)) (h0:0≤i) (h1:i<n) :
  Yields ((execOp a.eval o).run P w) g w (.ptr β (off+i.toNat*es)) σ:=by
 obtain ⟨e,inf,hu,hi,hsz⟩:=jB he
 have ey:=hy.a8
 obtain ⟨b,cap,ex,hb,hnc⟩:=hx.lJ
 refine .same hI (u:= .pointer (some ⟨b,off+i.toNat*es,none⟩)) ?_ (.ptr _ _ _ hb)
 simp [execOp,ho,ex,ey,Instr.indexAt,asIntOf,run_underlying hu,h0,h1,sizeOf,typeInfo,hi,hsz,bE]
theorem J6 (hI:Inv g σ w) {t:TypeId} {x y:Operand} {es β e0 es0 n:Nat} {k:IntKind} {i:Int} (ho:o.op= .indexAddr t x y) (he:esB P t es=true)
  (hx:Rel g w (.row β e0 es0 n) (a.eval x)) (hy:Rel g w (.int k i) (a.eval y)) (h0:0≤i) (h1:i<n) :
  Yields ((execOp a.eval o).run P w) g w (.ptr β (i.toNat*es)) σ:=by
 obtain ⟨e,inf,hu,hi,hsz⟩:=jB he
 have ey:=hy.a8
 obtain ⟨b,cap,_,ex,hb,hnc,_⟩:=hx.lK
 refine .same hI (u:= .pointer (some ⟨b,0+i.toNat*es,none⟩)) ?_ (by rw [Nat.zero_add];exact .ptr _ _ _ hb)
 simp [execOp,ho,ex,ey,Instr.indexAt,asIntOf,run_underlying hu,h0,h1,sizeOf,typeInfo,hi,hsz,bE]
theorem GH (hI:Inv g σ w) {t:TypeId} {x:Operand} {β e0 es0 n:Nat} (ho:o.op= .call { callee:= .builtin .len,args:= #[x],argTypes:= #[t] }) (hu:eS P t=true) (hx:Rel g w (.row β e0 es0 n) (a.eval x)) :
    Yields ((execOp a.eval o).run P w) g w (.int .i64 n) σ:=by
  refine .same hI (u:= .int .i64 n) ?_ (.int _ _)
  unfold eS at hu
  obtain ⟨b,cap,_,ex,hb,hnc,_⟩:=hx.lK
  cases hd:P.underlying t with
  | none=>simp [hd] at hu
  | some d =>
    cases d<;>simp [hd] at hu
    simp [execOp,ho,ex,resolve,invoke,builtin,Builtin.len_,run_underlying hd,goInt]
theorem GI (hI:Inv g σ w) {t:TypeId} {x:Operand} {β off n:Nat} (ho:o.op= .call { callee:= .builtin .len,args:= #[x],argTypes:= #[t] }) (hu:eS P t=true) (hx:Rel g w (.psl β off n) (a.eval x)) :
    Yields ((execOp a.eval o).run P w) g w (.int .i64 n) σ:=by
  refine .same hI (u:= .int .i64 n) ?_ (.int _ _)
  unfold eS at hu
  obtain ⟨b,cap,ex,hb,hnc⟩:=hx.lJ
  cases hd:P.underlying t with
  | none=>simp [hd] at hu
  | some d =>
    cases d<;>simp [hd] at hu
    simp [execOp,ho,ex,resolve,invoke,builtin,Builtin.len_,run_underlying hd,goInt]
def y4 (want:Array (String × TypeId)) (got:Array Method):Bool:=want.toList.all fun p=>got.any fun m=>m.name == p.1&&m.sig == p.2
theorem v7 (q:String→Bool) (f:String→String) (l:List String):(Instr.least (l.filter (not ∘ q)) <|> Instr.least ((l.filter q).map f)).isNone=l.isEmpty:=by
  cases l with
  | nil=>rfl
  | cons p r =>
    cases hp:q p with
    | false =>
      have e:(p::r).filter (not ∘ q)=p::r.filter (not ∘ q):=by simp [hp]
      rw [e];rfl
    | true =>
      have e:(p::r).filter q=p::r.filter q:=by simp [hp]
      rw [e]
      cases Instr.least ((p::r).filter (not ∘ q))<;>rfl
theorem ph (want:Array (String × TypeId)) (got:Array Method):(Instr.missingMethod want got).isNone=y4 want got:=by
  have h:∀ l:List (String × TypeId),(l.all fun p=>got.any fun m=>m.name == p.1&&m.sig == p.2)=((l.filter fun (x:String × TypeId)=> !got.any fun m=>m.name == x.1&&m.sig == x.2).map (·.1)).isEmpty:=by
    intro l
    induction l with
    | nil=>rfl
    | cons p r ih =>
      rw [List.all_cons,ih,List.filter_cons]
      cases got.any fun m=>m.name == p.1&&m.sig == p.2<;>simp
  unfold y4
  rw [h,←v7 (·.contains '.') (fun id=>(id.splitOn ".").getLastD id)]
  unfold Instr.missingMethod
  simp only [List.partition_eq_filter_filter]
def vd (P:Program) (want:Array (String × TypeId)) (t:Nat):Option Bool:=(P.info? t).map fun i=>y4 want i.methods
def y5 (P:Program) (T:TypeId) (z:AV):Bool:=match P.info? T with
  | some i => match i.zero with
    | some v=>cB v z
    | none=>false
  | none=>false
def asB (P:Program) (T:TypeId) (ts ns:List Nat) (keep:Bool) (z:AV):Bool :=
 y5 P T z&&match P.underlying T with
 | some (.interface want)=>keep&&ts.all (fun t=>vd P want t == some true)&&ns.all (fun t=>vd P want t == some false)
 | some _=> !keep&&ts.all (fun t=>t == T)&&ns.all (fun t=>t != T)
 | none=>false
theorem v8 {T:TypeId} {z:AV} (h:y5 P T z=true):∃ v,(zeroValue T).run P w= .ok v w∧cB v z=true:=by
 unfold y5 at h
 split at h
 ·rename_i i hi
  split at h
  ·rename_i v hv
   exact ⟨v,by simp [zeroValue,typeInfo,hi,hv],h⟩
  ·cases h
 ·cases h
theorem nU {want:Array (String × TypeId)} {t:Nat} {b:Bool} (h:vd P want t=some b):∃ i,(typeInfo t).run P w= .ok i w∧(Instr.missingMethod want i.methods).isNone=b:=by
 unfold vd at h
 cases hi:P.info? t with
 | none=>rw [hi] at h;cases h
 | some i=>rw [hi] at h;cases h;exact ⟨i,by simp [typeInfo,hi],ph _ _⟩
theorem J7 (hI:Inv g σ w) {x:Operand} {xT T:TypeId} {ts ns:List Nat} {keep:Bool} {z v:AV} {t:Nat} (ho:o.op= .typeAssert x xT T true) (hb:asB P T ts ns keep z=true) (hx:Rel g w (.ifc t v) (a.eval x)) (h:(iK t ts||iK t ns)=true) :
    Yields ((execOp a.eval o).run P w) g w (.tup [bif iK t ts then (bif keep then .ifc t v else v) else z, .bool (iK t ts)]) σ:=by
  obtain ⟨u,ex,hr⟩:=hx.o7
  unfold asB at hb
  rw [Bool.and_eq_true] at hb
  obtain ⟨hz,hb⟩:=hb
  obtain ⟨zv,hzr,hzc⟩:=v8 (w:=w) hz
  have hzrel:Rel g w z zv:=sX _ _ _ _ hzc
  split at hb
  · rename_i want hu
    simp only [Bool.and_eq_true,List.all_eq_true,beq_iff_eq] at hb
    obtain ⟨⟨rfl,h1⟩,h2⟩:=hb
    cases hc:iK t ts with
    | true =>
      obtain ⟨i,hi,hm⟩:=nU (w:=w) (h1 t (gX.1 hc))
      have hm2:Instr.missingMethod want i.methods=none:=by simpa using hm
      refine .same hI (u:= .tuple #[.iface t u, .bool true]) ?_ (Rel.dA (u:= [.iface t u, .bool true]) (.cons (.ifc _ _ _ hr) (.cons (.bool _) .nil)))
      simp [execOp,ho,ex,Instr.typeAssert,run_underlying hu,hi,hm2]
    | false =>
      rw [hc,Bool.false_or] at h
      obtain ⟨i,hi,hm⟩:=nU (w:=w) (h2 t (gX.1 h))
      obtain ⟨s,hm2⟩:∃ s,Instr.missingMethod want i.methods=some s:=by
        cases hx:Instr.missingMethod want i.methods with
        | none=>rw [hx] at hm;cases hm
        | some s=>exact ⟨s,rfl⟩
      refine .same hI (u:= .tuple #[zv, .bool false]) ?_ (Rel.dA (u:= [zv, .bool false]) (.cons hzrel (.cons (.bool _) .nil)))
      simp [execOp,ho,ex,Instr.typeAssert,run_underlying hu,hi,hm2,hzr]
  · rename_i d hnd hu
    simp only [Bool.and_eq_true,List.all_eq_true,beq_iff_eq,bne_iff_ne,Bool.not_eq_true'] at hb
    obtain ⟨⟨rfl,h1⟩,h2⟩:=hb
    cases hc:iK t ts with
    | true =>
      have e:t=T:=h1 t (gX.1 hc)
      refine .same hI (u:= .tuple #[u, .bool true]) ?_ (Rel.dA (u:= [u, .bool true]) (.cons hr (.cons (.bool _) .nil)))
      simp only [execOp,ho,ex,Instr.typeAssert]
      cases d with
      | interface want=>exact (hnd want rfl).elim
      | _=>simp [run_underlying hu,e]
    | false =>
      rw [hc,Bool.false_or] at h
      have e:t≠T:=h2 t (gX.1 h)
      refine .same hI (u:= .tuple #[zv, .bool false]) ?_ (Rel.dA (u:= [zv, .bool false]) (.cons hzrel (.cons (.bool _) .nil)))
      simp only [execOp,ho,ex,Instr.typeAssert]
      cases d with
      | interface want=>exact (hnd want rfl).elim
      | _=>simp [run_underlying hu,e,hzr]
  · cases hb
def y6 (P:Program) (t:TypeId) (name:String) (f:Nat):Bool :=
  (match P.underlying t with|some (.pointer _)=>false|some _=>true|none=>false)&&match P.info? t with
  | some i => match i.methods.find? (·.name == name) with
    | some m=>m.path.isEmpty&&(match m.func with|some (f',false)=>f' == f|_=>false)
    | none=>false
  | none=>false
theorem _root_.OK {p:Prop} (h:p:=by decide):p:=h
theorem s6 {t:TypeId} {name:String} {f:Nat} {u:Value} {args:Array Value} (h:y6 P t name f=true):(callMethod (.iface t u) name args).run P w=(callFunc f (#[u]++args)).run P w:=by
  unfold y6 at h
  rw [Bool.and_eq_true] at h
  obtain ⟨h1,h2⟩:=h
  split at h2
  · rename_i i hi
    split at h2
    · rename_i m hm
      rw [Bool.and_eq_true] at h2
      obtain ⟨hp,h3⟩:=h2
      have hp2:m.path.toList= []:=by
        have:m.path= #[]:=by simpa using hp
        rw [this]
      split at h3
      · rename_i f' hf
        obtain rfl:f'=f:=by simpa using h3
        have hr:∀ nm,(receiverAt t (.val u) false nm).run P w= .ok u w:=fun nm=>by
          cases hu:P.underlying t with
          | none=>rw [hu] at h1;cases h1
          | some d =>
            cases d<;>first|(rw [hu] at h1;cases h1;done)|simp [receiverAt,run_underlying hu,Place.get]
        have hmeth:∀ k,(method (k+1) t u name).run P w= .ok (f',u) w:=fun k=>by
          simp only [method]
          simp [typeInfo,hi,hm,hp2,follow,hf,hr]
        have hd:0<Made.depth:=OK
        obtain ⟨k,e⟩:∃ k,P.types.size+Made.depth=k+1:=⟨P.types.size+Made.depth - 1,by omega⟩
        simp [callMethod,e,hmeth]
      · cases h3
    · cases h2
  · cases h2
end
section
variable {P:Program} {g:Gh} {σ:St} {w:World} {a:Act} {o:Oper}
theorem gp (isSlice:Bool) (n cap:Nat) (lo hi mx:Option Value) (L H:Int) (hlo:(lo=none∧L=0)∨∃ k,lo=some (.int k L)) (hhi:(hi=none∧H=n∧mx=none)∨∃ k,hi=some (.int k H))
  (hmx:mx=none∨∃ k,mx=some (.int k H)) (h0:0≤L) (h1:L≤H) (h2:H≤n) (h3:n≤cap) :
  (Instr.sliceBounds isSlice n cap lo hi mx).run P w= .ok (L.toNat,H.toNat,if mx.isSome then H.toNat else cap) w:=by
 have hHc:H≤cap:=Oz
 have b1:∀ k c,(Instr.sliceBound (.int k H) cap c).run P w= .ok H.toNat w:=fun k c=>run_sliceBound w k H cap c Oz hHc
 have b2:∀ k c,(Instr.sliceBound (.int k L) H.toNat c).run P w= .ok L.toNat w:=fun k c=>run_sliceBound w k L H.toNat c h0 Oz
 have b3:∀ k c,(Instr.sliceBound (.int k H) H.toNat c).run P w= .ok H.toNat w:=fun k c=>run_sliceBound w k H H.toNat c Oz Oz
 rcases hhi with ⟨rfl,rfl,rfl⟩|⟨kh,rfl⟩
 ·simp only [Int.toNat_natCast] at b2
  rcases hlo with ⟨rfl,rfl⟩|⟨kl,rfl⟩<;>simp [Instr.sliceBounds,b2]
 ·rcases hmx with rfl|⟨km,rfl⟩<;>rcases hlo with ⟨rfl,rfl⟩|⟨kl,rfl⟩<;>simp [Instr.sliceBounds,b1,b2,b3]
def jC (a:Act) (x:Option Operand) (d:Option Int) (L:Int):Prop :=
 (x=none∧d=some L)∨∃ y k,x=some y∧a.eval y= .int k L
theorem J8 (hI:Inv g σ w) {t:TypeId} {x:Operand} {lo hi mx:Option Operand} {es n:Nat} {v:AV} {cs:List AV} {L H:Int} (ho:o.op= .slice t x lo hi mx) (he:esB P t es=true) (hx:Rel g w v (a.eval x)) (hv:slv v=some (n,cs))
  (hlo:jC a lo (some 0) L) (hhi:jC a hi (if mx.isSome then none else some n) H) (hmx:mx=none∨∃ y k,mx=some y∧a.eval y= .int k H) (h0:0≤L) (h1:L≤H) (h2:H≤n) (h3:n*es=cs.length) :
  Yields ((execOp a.eval o).run P w) g w (.sl mx.isSome (H.toNat - L.toNat) ((cs.drop (L.toNat*es)).take ((H.toNat - L.toNat)*es))) σ:=by
 obtain ⟨e,inf,hu,hi',hsz⟩:=jB he
 have gl:(lo.map a.eval=none∧L=0)∨∃ k,lo.map a.eval=some (.int k L):=by
  rcases hlo with ⟨rfl,hL⟩|⟨y,k,rfl,hy⟩
  ·exact .inl ⟨rfl,by simpa using hL.symm⟩
  ·exact .inr ⟨k,by simp [hy]⟩
 have gh:(hi.map a.eval=none∧H=n∧mx.map a.eval=none)∨∃ k,hi.map a.eval=some (.int k H):=by
  rcases hhi with ⟨rfl,hH⟩|⟨y,k,rfl,hy⟩
  ·cases mx
   ·exact .inl ⟨rfl,by simpa using hH.symm,rfl⟩
   ·simp at hH
  ·exact .inr ⟨k,by simp [hy]⟩
 have gm:mx.map a.eval=none∨∃ k,mx.map a.eval=some (.int k H):=by
  rcases hmx with rfl|⟨y,k,rfl,hy⟩
  ·exact .inl rfl
  ·exact .inr ⟨k,by simp [hy]⟩
 have gi:(mx.map a.eval).isSome=mx.isSome:=by cases mx<;>rfl
 rcases hx.bL hv with ⟨x0,ex,rfl,rfl⟩|⟨b,off,cap,us,ex,hnc,hl⟩
 ·have hr:=gp (P:=P) (w:=w) true 0 0 _ _ _ L H gl gh gm h0 h1 h2 (Nat.le_refl _)
  have hL:L=0:=Oz
  have hH:H=0:=Oz
  subst hL;subst hH
  refine .same hI (u:= .slice x0 0 0) ?_ (by simpa using Rel.sl0 _ _)
  simp only [Int.toNat_zero] at hr
  cases x0<;>simp [execOp,ho,Instr.sliceAt,Instr.slice,run_underlying hu,ex,hr,sizeOf,typeInfo,hi']
 ·have hr:=gp (P:=P) (w:=w) true n cap _ _ _ L H gl gh gm h0 h1 h2 hnc
  rw [gi] at hr
  have hle:L.toNat*es≤cs.length:=by rw [←h3];exact Nat.mul_le_mul_right _ Oz
  have hrun:(execOp a.eval o).run P w= .ok (.value (.slice (if (if mx.isSome then H.toNat else cap)=L.toNat then some ⟨b,off,none⟩ else some ⟨b,off+L.toNat*es,none⟩) (H.toNat - L.toNat) ((if mx.isSome then H.toNat else cap) - L.toNat))) w:=by
   simp [execOp,ho,Instr.sliceAt,Instr.slice,run_underlying hu,ex,hr,sizeOf,typeInfo,hi',hsz,bE]
  have hlen:H.toNat - L.toNat≤(if mx.isSome then H.toNat else cap) - L.toNat:=by split<;>omega
  by_cases hm:(if mx.isSome then H.toNat else cap)=L.toNat
  ·rw [if_pos hm] at hrun
   have hz:H.toNat - L.toNat=0:=by rw [hm] at hlen;omega
   refine .same hI hrun ?_
   rw [hz]
   have hl0:Lies g w ((cs.drop (L.toNat*es)).take (0*es)) b off ((us.drop 0).take 0):=by
    have:=hl.part 0 0 (Nat.zero_le _)
    simpa using this
   exact .gU Oz (by intro _;omega) hl0
  ·rw [if_neg hm] at hrun
   refine .same hI hrun ?_
   exact .gU hlen (fun hmm=>by rw [if_pos hmm]) (hl.part _ _ hle)
theorem qp (s:List UInt8) (l h:Nat):(⟨s.toArray⟩:ByteArray).extract l h=⟨((s.drop l).take (h - l)).toArray⟩:=by
 apply ByteArray.ext
 apply Array.ext'
 simp [ByteArray.data_extract]
theorem GJ (hI:Inv g σ w) {t:TypeId} {x:Operand} {lo hi:Option Operand} {s:List UInt8} {L H:Int} (ho:o.op= .slice t x lo hi none) (hu:P.underlying t=some .string) (hx:Rel g w (.str s) (a.eval x))
  (hlo:jC a lo (some 0) L) (hhi:jC a hi (some s.length) H) (h0:0≤L) (h1:L≤H) (h2:H≤s.length) :
  Yields ((execOp a.eval o).run P w) g w (.str ((s.drop L.toNat).take (H.toNat - L.toNat))) σ:=by
 have ex:=hx.cF
 have gl:(lo.map a.eval=none∧L=0)∨∃ k,lo.map a.eval=some (.int k L):=by
  rcases hlo with ⟨rfl,hL⟩|⟨y,k,rfl,hy⟩
  ·exact .inl ⟨rfl,by simpa using hL.symm⟩
  ·exact .inr ⟨k,by simp [hy]⟩
 have gh:(hi.map a.eval=none∧H=s.length∧(none:Option Value)=none)∨∃ k,hi.map a.eval=some (.int k H):=by
  rcases hhi with ⟨rfl,hH⟩|⟨y,k,rfl,hy⟩
  ·exact .inl ⟨rfl,by simpa using hH.symm,rfl⟩
  ·exact .inr ⟨k,by simp [hy]⟩
 have hr:=gp (P:=P) (w:=w) false s.length s.length _ _ none L H gl gh (.inl rfl) h0 h1 h2 (Nat.le_refl _)
 have hsz:(⟨s.toArray⟩:ByteArray).size=s.length:=by simp [ByteArray.size]
 refine .same hI (u:= .string ⟨((s.drop L.toNat).take (H.toNat - L.toNat)).toArray⟩) ?_ (.str _)
 simp [execOp,ho,Instr.sliceAt,Instr.slice,run_underlying hu,ex,hsz,hr,qp]
theorem Ext.alloc {ob:Obj} (_hI:Inv g σ w) (F:Nat) :
  Ext g w { g with cl:=fun b=>if b=w.heap.size then some F else g.cl b } (w.alloc ob):=by
 refine ⟨rfl,rfl,rfl,by simp,fun _ _ h=>h,fun _ _=>rfl,Nat.le_refl _,Nat.le_refl _,fun _ _ _ h=>h,fun b hb hc=>⟨?_,RowKit.Below.heap_alloc w _ b hb⟩,fun b F' hb hc=>⟨F',?_,Nat.le_refl _,fun i _=>World.cell?_alloc_lt w _ _ hb⟩,fun _ _ h=>h,fun b us _ _ h=>⟨us,by rw [RowKit.Below.heap_alloc w _ b (Array.getElem?_eq_some_iff.1 h).1];exact h,rfl⟩⟩
 ·simp only [if_neg (Nat.ne_of_lt hb)];exact hc
 ·simp only [if_neg (Nat.ne_of_lt hb)];exact hc
theorem Inv.alloc {ob:Obj} (hI:Inv g σ w) (F:Nat):Inv { g with cl:=fun b=>if b=w.heap.size then some F else g.cl b } σ (w.alloc ob):=by
 have he:=Ext.alloc (ob:=ob) hI F
 refine ⟨fun β cs hb=>?_,fun β b hb=>?_,hI.boxinj,hI.boxfresh,fun τ e s n ht=>?_,hI.tipinj,hI.tipfresh,fun k cs hk=>(hI.glob k cs hk).mono he,fun l r hl=>?_,fun β T hb=>by
  obtain ⟨b,vs,h1,h2⟩:=hI.bty β T hb
  exact ⟨b,vs,h1,by rw [RowKit.Below.heap_alloc w _ b (hI.boxcl β b h1).1];exact h2⟩⟩
 ·obtain ⟨b,vs,T,h1,h2,h3⟩:=hI.box β cs hb
  exact ⟨b,vs,T,h1,by rw [RowKit.Below.heap_alloc w _ b (hI.boxcl β b h1).1];exact h2,h3.mono he⟩
 ·obtain ⟨h1,h2⟩:=hI.boxcl β b hb
  exact ⟨by simp;omega,fun hl=>by simp only [if_neg (Nat.ne_of_lt h1)];exact h2 hl⟩
 ·obtain ⟨v,h1,h2,h4⟩:=hI.tip τ e s n ht
  refine ⟨v,h1,fun hs=>?_,h4⟩
  obtain ⟨xs,h2,h3⟩:=h2 hs
  refine ⟨xs,h2.alloc _,fun b hb=>?_⟩
  have hlt:=(h2.lt b hb).2
  obtain ⟨h5,h6⟩:=h3 b hb
  exact ⟨by simp only [if_neg (Nat.ne_of_lt hlt)];exact h5,h6.1,h6.2.same (RowKit.Below.heap_alloc w _ b hlt)⟩
 ·obtain ⟨h1,h2,h3⟩:=hI.lp l r hl
  have hlt:=(Array.getElem?_eq_some_iff.1 h1).1
  exact ⟨by rw [RowKit.Below.heap_alloc w _ l hlt];exact h1,by simp only [if_neg (Nat.ne_of_lt hlt)];exact h2,fun t=>(h3 t).mono he⟩
theorem _root_.PD {p:Prop} (h:p:=by simpa using hi):p:=h
theorem Lies.new {T:TypeId} {cs:List AV} {us:List Value} {rest:Array Value} (hI:Inv g σ w) (h:RelC g w cs us) :
  Lies { g with cl:=fun b=>if b=w.heap.size then some cs.length else g.cl b } (w.alloc (.cells (us.toArray++rest) T)) cs w.heap.size 0 us:=by
 refine ⟨⟨by simp, .inr ⟨cs.length,by simp,by omega⟩⟩,h.mono (Ext.alloc hI _),fun i v hv=>?_⟩
 have hi:i<us.length:=(List.getElem?_eq_some_iff.1 hv).1
 rw [World.cell?_alloc_new,Nat.zero_add,Array.getElem?_append_left PD]
 simpa using hv
theorem iv (hI:Inv g σ w):Inv g σ w.drew:=by
 have he:Ext g w g w.drew:=⟨rfl,rfl,rfl,Nat.le_refl _,fun _ _ h=>h,fun _ _=>rfl,Nat.le_refl _,Nat.le_refl _,fun _ _ _ h=>h,fun _ _ h=>⟨h,rfl⟩,fun _ F _ h=>⟨F,h,Nat.le_refl _,fun _ _=>rfl⟩,fun _ _ h=>h,fun _ us _ _ h=>⟨us,h,rfl⟩⟩
 refine ⟨fun β cs hb=>?_,hI.boxcl,hI.boxinj,hI.boxfresh,fun τ e s n ht=>?_,hI.tipinj,hI.tipfresh,fun k cs hk=>(hI.glob k cs hk).mono he,fun l r hl=>⟨(hI.lp l r hl).1,(hI.lp l r hl).2.1,fun t=>((hI.lp l r hl).2.2 t).mono he⟩,hI.bty⟩
 ·obtain ⟨b,vs,T,h1,h2,h3⟩:=hI.box β cs hb
  exact ⟨b,vs,T,h1,h2,h3.mono he⟩
 ·exact hI.tip τ e s n ht
theorem eN:Ext g w g w.drew:=⟨rfl,rfl,rfl,Nat.le_refl _,fun _ _ h=>h,fun _ _=>rfl,Nat.le_refl _,Nat.le_refl _,fun _ _ _ h=>h,fun _ _ h=>⟨h,rfl⟩,fun _ F _ h=>⟨F,h,Nat.le_refl _,fun _ _=>rfl⟩,fun _ _ h=>h,fun _ us _ _ h=>⟨us,h,rfl⟩⟩
def ny (P:Program) (t:TypeId) (e es bytes:Nat):Bool :=
  match P.underlying t with
  | some (.slice e') => e' == e && (match P.info? e with
    | some i=>i.size == es&&i.bytes == bytes&&es != 0&&(match i.zero with|some z=>z.cells.size == es&&z.cells.all (·.oneCell')|none=>false)
    | none=>false)
  | _=>false
theorem fQ {t:TypeId} {e es bytes:Nat} (h:ny P t e es bytes=true):∃ i z,P.underlying t=some (.slice e)∧P.info? e=some i∧i.zero=some z∧i.size=es∧i.bytes=bytes∧z.cells.size=es∧0<es∧(∀ v∈z.cells.toList,v.oneCell'=true):=by
 unfold ny at h
 split at h
 ·rename_i e' he
  simp only [Bool.and_eq_true,beq_iff_eq] at h
  obtain ⟨rfl,h⟩:=h
  split at h
  ·rename_i i hi
   simp only [Bool.and_eq_true,beq_iff_eq,bne_iff_ne] at h
   obtain ⟨⟨⟨h1,h2⟩,h3⟩,h4⟩:=h
   split at h4
   ·rename_i z hz
    rw [Bool.and_eq_true,beq_iff_eq,Array.all_eq_true'] at h4
    exact ⟨i,z,he,hi,hz,h1,h2,h4.1,by omega,fun v hv=>h4.2 v (by simpa using hv)⟩
   ·cases h4
  ·cases h
 ·cases h
theorem du (t ty e:TypeId) (i:TypeInfo) (ht:P.underlying t=some (.slice e)) (hi:P.info? e=some i) (A B:Option Addr) (n cap c:Nat) (hn:n≤cap) :
  (Builtin.append_ #[t,t] ty #[.slice A n cap, .slice B 0 c]).run P w= .ok (.slice A n cap) w:=by
 cases A<;>cases B<;>simp [Builtin.append_,run_underlying ht,sizeOf,typeInfo,hi,Builtin.lenOf,Builtin.firstCells,hn,storeCells,loadCells,loadCellsFrom]
theorem _root_.O9 {p:Prop} (h:p:=by unfold maxLen;omega):p:=h
theorem _root_.Pc {p:Prop} (h:p:=by rw [hsz];exact hm2):p:=h
theorem _root_.Pd {p:Prop} (h:p:=by rw [hby];exact growslice_fits (by omega) h4):p:=h
theorem _root_.Pb {p:Prop} (h:p:=by rw [ex,ey];exact hr):p:=h
theorem J9 (hI:Inv g σ w) {t:TypeId} {e es bytes:Nat} {x y:Operand} {vx vy:AV} {n m:Nat} {cs ds:List AV} (ho:o.op= .call { callee:= .builtin .append,args:= #[x,y],argTypes:= #[t,t] }) (hb:ny P t e es bytes=true)
    (hx:Rel g w vx (a.eval x)) (hy:Rel g w vy (a.eval y)) (hf:fresh vx) (hvx:slv vx=some (n,cs)) (hvy:slv vy=some (m,ds)) (h1:cs.length=n*es) (h2:ds.length=m*es) (h3:n+m≤maxLen) (h4:(n+m)*bytes≤140737488355328) :
    Yields ((execOp a.eval o).run P w) g w (.sl false (n+m) (cs++ds)) σ:=by
  obtain ⟨i,z,hu,hi,hz,hsz,hby,hzs,hpos,_⟩:=fQ hb
  have hexec:∀ r w',(Builtin.append_ #[t,t] o.type #[a.eval x,a.eval y]).run P w= .ok r w'→(execOp a.eval o).run P w= .ok (.value r) w':=by
    intro r w' h
    simp [execOp,ho,resolve,invoke,builtin,h]
  have hmax:maxLen≤9223372036854775807:=O9
  rcases hy.bL hvy with ⟨y0,ey,rfl,rfl⟩|⟨b2,off2,cap2,us2,ey,hnc2,hl2⟩
  ·
    have hxx:∃ A cap,a.eval x= .slice A n cap∧n≤cap∧Rel g w (.sl false n cs) (.slice A n cap):=by
      rcases hx.bL hvx with ⟨x0,ex,rfl,rfl⟩|⟨b,off,cap,us,ex,hnc,hl⟩
      · exact ⟨x0,0,ex,Nat.le_refl _, .sl0 _ _⟩
      · exact ⟨_,cap,ex,hnc, .gU hnc OF hl⟩
    obtain ⟨A,cap,ex,hnc,hrel⟩:=hxx
    refine .same hI (hexec _ _ (by rw [ex,ey];exact du (P:=P) (w:=w) t o.type e i hu hi A y0 n cap 0 hnc)) ?_
    simpa using hrel
  · have hm2:us2.length=m*es:=by rw [hl2.rel.1.1,h2]
    have hcell2:∀ j v,us2[j]? =some v→w.cell? ((⟨b2,off2,none⟩:Addr).add j)=some v:=fun j v hv=>by rw [bE];exact hl2.cell j v hv
    by_cases hm0:m=0
    · subst hm0
      have hds:ds= []:=List.eq_nil_of_length_eq_zero PT
      subst hds
      have hxx:∃ A cap,a.eval x= .slice A n cap∧n≤cap∧Rel g w (.sl false n cs) (.slice A n cap):=by
        rcases hx.bL hvx with ⟨x0,ex,rfl,rfl⟩|⟨b,off,cap,us,ex,hnc,hl⟩
        · exact ⟨x0,0,ex,Nat.le_refl _, .sl0 _ _⟩
        · exact ⟨_,cap,ex,hnc, .gU hnc OF hl⟩
      obtain ⟨A,cap,ex,hnc,hrel⟩:=hxx
      refine .same hI (hexec _ _ (by rw [ex,ey];exact du (P:=P) (w:=w) t o.type e i hu hi A _ n cap cap2 hnc)) ?_
      simpa using hrel
    · have fin:∀ (us:List Value) (cap:Nat) (rest:Array Value),RelC g w cs us→n+m≤cap→(execOp a.eval o).run P w= .ok (.value (.slice (some ⟨w.heap.size,0,none⟩) (n+m) cap)) (w.drew.alloc (.cells (us.toArray++us2.toArray++rest) e)) →
          Yields ((execOp a.eval o).run P w) g w (.sl false (n+m) (cs++ds)) σ:=by
        intro us cap rest hr hcap hrun
        have hId:=iv hI
        have hrr:RelC g w.drew (cs++ds) (us++us2):=(hr.append hl2.rel).mono eN
        refine ⟨_,_,{ g with cl:=fun b=>if b=w.drew.heap.size then some (cs++ds).length else g.cl b },hrun,hId.alloc (ob:= .cells (us.toArray++us2.toArray++rest) e) _,eN.trans (Ext.alloc hId _),?_⟩
        have hl:=Lies.new (T:=e) (rest:=rest) hId hrr
        rw [show (us++us2).toArray++rest=us.toArray++us2.toArray++rest by simp] at hl
        exact .gU hcap OF hl
      rcases hx.bL hvx with ⟨x0,ex,rfl,rfl⟩|⟨b,off,cap,us,ex,hnc,hl⟩
      · cases x0 with
        | some x1 =>
          have hr:=run_append_grow (P:=P) w t o.type e i z hu hi hz x1 0 0 [] OF OF ⟨b2,off2,none⟩ m cap2 us2 Pc hcell2 Oz Oz Pd
          have hf2:=fin [] _ _ .nil (grownCap_ge w _ _ e) (hexec _ _ Pb)
          exact hf2
        | none =>
        have hr:=run_append_nil (P:=P) w t o.type e i z hu hi hz ⟨b2,off2,none⟩ m cap2 us2 Pc hcell2 Oz Oz (by rw [hby];simp only [Nat.zero_add] at h4;omega)
        have hf2:=fin [] (grownCap w m 0 e) (Builtin.zeroCells z.cells (grownCap w m 0 e - m)) .nil (by have:=grownCap_ge w m 0 e;omega)
        simp only [Nat.zero_add,List.nil_append,Array.empty_append] at hf2 ⊢
        exact hf2 (hexec _ _ Pb)
      · have hcap:cap=n:=by
          rcases nS hf with rfl|rfl
          · rw [ex] at hx;cases hx
          · rw [ex] at hx
            have:=hx.qm
            simp [slv] at hvx
            omega
        subst hcap
        have hl1:us.length=cap*i.size:=by rw [hl.rel.1.1,h1,hsz]
        have hcell1:∀ j v,us[j]? =some v→w.cell? ((⟨b,off,none⟩:Addr).add j)=some v:=fun j v hv=>by rw [bE];exact hl.cell j v hv
        have hr:=run_append_grow (P:=P) w t o.type e i z hu hi hz ⟨b,off,none⟩ cap cap us hl1 hcell1 ⟨b2,off2,none⟩ m cap2 us2 Pc hcell2 Oz Oz Pd
        exact fin us _ _ hl.rel (grownCap_ge w _ _ e) (hexec _ _ Pb)
end
end Go.Abs
