/- Part 4 of the proof of ScriptKnown: an abstract semantics that is proved sound for the model, contracts of functions in it, and plain facts (Abs6). No condition. -/
import Derived.Test.YtgephffbfiemeaaGreatDoorKScriptKnown3
import Derived.Laws.BytesArg
import Derived.Laws.IdiomStrings
set_option linter.all false
namespace Go.Abs
def CO.ods:CO→List Od
 | .mv x | .un _ x | .isnil _ _ x | .cnv _ x | .b2s x | .b2sP x | .slcP _ _ x | .s2b x | .lenP x | .mkP _ _ _ x | .len x | .lenS x | .fld _ _ x | .fldA _ x | .ld _ x | .ldE _ x | .asT _ _ _ _ x | .mkI _ x | .ext x _ | .nilc x | .box _ x=> [x]
 | .pick c a b=> [c,a,b]
 | .bin _ x y | .eqb _ x y | .eqA _ _ x y | .ixA _ x y | .ixQ _ x y | .ixP _ _ x y | .ixS x y | .ixV _ _ _ x y | .mm _ x y | .app _ _ _ _ x y | .appS _ _ x y | .appR _ _ _ x y | .st _ x y=> [x,y]
 | .slc _ x lo hi mx=>x::(lo.toList++hi.toList++mx.toList)
 | .slcS x lo hi=>x::(lo.toList++hi.toList)
 | .bld _ ps | .mkSl _ _ _ ps | .mkT _ _ _ _ ps=>ps.map (·.2.2)
 | .mkF _ caps=>caps
 | .call _ args=>args
 | .callv x args=>x::args
 | .invk _ x args=>x::args
 | .mgt x k=> [x,k]
 | .mst x k v=> [x,k,v]
 | .alloc _ | .allocT _ _ | .mkM | .bad=> []
def di (P:Program) (t:TypeId):Bool:=match P.underlying t with|some .string=>true|_=>false
def ve (P:Program) (t:TypeId):Bool:=match P.underlying t with|some .bool=>true|_=>false
def Kb (P:Program) (t:TypeId):Bool:=match P.underlying t with|some (.interface _)=>false|some _=>true|none=>false
def Kc (P:Program) (t:TypeId) (k:IntKind):Bool:=match P.underlying t with|some (.int k')=>k' == k|_=>false
def pj (P:Program) (s:TypeId):Bool:=match P.underlying s with
 | some (.slice e)=>(match P.underlying e with|some (.int .u8)=>true|_=>false)
 | _=>false
def lkB (P:Program) (op:Op):CO→Bool
  | .mv y => match op with
    | .move x=>odB x y
    | .assign x=>odB x y
    | _=>false
  | .pick c a b => match op with
    | .pick c' a' b'=>odB c' c&&odB a' a&&odB b' b
    | _=>false
  | .un u y => match op with
    | .unOp u' _ x=>u' == u&&odB x y
    | _=>false
  | .bin b x y => match op with
    | .binOp b' _ x' y' _=>b' == b&&odB x' x&&odB y' y
    | _=>false
  | .eqA neg ks x y => match op with
    | .binOp b t x' y' _=>b == (if neg then .neq else .eql)&&y3 P t ks&&odB x' x&&odB y' y
    | _=>false
  | .eqb neg x y => match op with
    | .binOp b t x' y' _=>b == (if neg then .neq else .eql)&&ve P t&&odB x' x&&odB y' y
    | _=>false
  | .b2s y => match op with
    | .convert s d x=>pj P s&&di P d&&odB x y
    | _=>false
  | .b2sP y => match op with
    | .convert s d x=>pj P s&&di P d&&odB x y
    | _=>false
  | .slcP n es y => match op with
    | .slice t x none none none=>vZ P t n es&&odB x y
    | _=>false
  | .s2b y => match op with
    | .convert s d x=>di P s&&pj P d&&odB x y
    | _=>false
  | .ixQ es x y => match op with
    | .indexAddr t x' y'=>esB P t es&&odB x' x&&odB y' y
    | _=>false
  | .lenP y => match op with
    | .call ⟨.builtin .len,⟨[x]⟩,⟨[t]⟩⟩=>eS P t&&odB x y
    | _=>false
  | .cnv k y => match op with
    | .convert s d x=>(P.underlying s).isSome&&Kc P d k&&odB x y
    | _=>false
  | .len y => match op with
    | .call ⟨.builtin .len,⟨[x]⟩,⟨[t]⟩⟩=>eS P t&&odB x y
    | _=>false
  | .lenS y => match op with
    | .call ⟨.builtin .len,⟨[x]⟩,⟨[t]⟩⟩=>di P t&&odB x y
    | _=>false
  | .fld off sz y => match op with
    | .field t x f=>y2 P t f off sz&&odB x y
    | _=>false
  | .fldA off y => match op with
    | .fieldAddr t x f=>GB P t f off&&odB x y
    | _=>false
  | .ixA es x y => match op with
    | .indexAddr t x' y'=>esB P t es&&odB x' x&&odB y' y
    | _=>false
  | .ixP n es x y => match op with
    | .indexAddr t x' y'=>vZ P t n es&&odB x' x&&odB y' y
    | _=>false
  | .ixS x y => match op with
    | .index t x' y'=>di P t&&odB x' x&&odB y' y
    | _=>false
  | .ixV n es sz x y => match op with
    | .index t x' y'=>GD P t n es sz&&odB x' x&&odB y' y
    | _=>false
  | .asT ts ns keep z y => match op with
    | .typeAssert x _ T true=>asB P T ts ns keep z&&odB x y
    | _=>false
  | .ldE sz y => match op with
    | .load t x=>kf P t sz&&odB x y
    | _=>false
  | .ld sz y => match op with
    | .load t x=>kf P t sz&&odB x y
    | _=>false
  | .slc es x lo hi mx => match op with
    | .slice t x' lo' hi' mx'=>esB P t es&&odB x' x&&o9 lo' lo&&o9 hi' hi&&o9 mx' mx
    | _=>false
  | .slcS x lo hi => match op with
    | .slice t x' lo' hi' none=>di P t&&odB x' x&&o9 lo' lo&&o9 hi' hi
    | _=>false
  | .bld z ps => match op with
    | .build t parts=>GK P t parts.toList z ps
    | _=>false
  | .mkSl es n z ps => match op with
    | .buildSlice t n' parts=>n' == n&&nV P t n es parts.toList z ps
    | _=>false
  | .mkI t y => match op with
    | .makeInterface t' x=>t' == t&&Kb P t&&odB x y
    | _=>false
  | .mkF f caps => match op with
    | .makeFunc (.func f') ⟨[]⟩ ⟨cs⟩=>f' == f&&ke cs caps
    | _=>false
  | .ext y i => match op with
    | .extract x j=>j == i&&odB x y
    | _=>false
  | .nilc y => match op with
    | .nilCheck x=>odB x y
    | _=>false
  | .mm mx x y => match op with
    | .call ⟨.builtin b,⟨[x',y']⟩,_⟩=>b == (if mx then .max else .min)&&odB x' x&&odB y' y
    | _=>false
  | .app _ e es bytes x y => match op with
    | .call ⟨.builtin .append,⟨[x',y']⟩,⟨[t,t']⟩⟩=>t == t'&&ny P t e es bytes&&odB x' x&&odB y' y
    | _=>false
  | _=>false
theorem jE {g:Gh} {w:World} {a:Act} {ρ:Od→AV} {d:Int} {x:Option Operand} {y:Option Od} {L:List Od} (hρ:∀ x y,y∈L→odB x y=true→Rel g w (ρ y) (a.eval x)) (hb:o9 x y=true) (hL:∀ z,y=some z→z∈L) (hi:gk (y.map ρ)) :
  jC a x (some d) (bnd ρ d y)∧(y.isSome=true→∃ z k,x=some z∧a.eval z= .int k (bnd ρ d y)):=by
 cases x<;>cases y<;>simp [o9] at hb
 ·exact ⟨.inl ⟨rfl,rfl⟩,by simp⟩
 ·rename_i x z
  have hr:=hρ x z (hL z rfl) hb
  simp only [Option.map_some,gk] at hi
  cases hz:ρ z<;>simp only [hz,cN] at hi
  rename_i k n
  rw [hz] at hr
  have e:a.eval x= .int k (bnd ρ d (some z)):=by simp only [bnd,hz,aI];exact hr.a8
  exact ⟨.inr ⟨x,k,rfl,e⟩,fun _=>⟨x,k,rfl,e⟩⟩
theorem jd {g:Gh} {w:World}:∀ {cs:List AV} {u:List Value},bQ g w cs u→cs.all isByte=true→u=(cs.map aI).map (Value.int .u8)∧(cs.map aI).map (fun n=>UInt8.ofNat n.toNat)=cs.map byteOf
  | [],u,h,_=>⟨h.bK,rfl⟩
  | c :: cs, u, h, ha => by
    obtain ⟨v,u,rfl,h1,h2⟩:=h.cons_inv
    simp only [List.all_cons,Bool.and_eq_true] at ha
    obtain ⟨e1,e2⟩:=jd h2 ha.2
    have hc:=ha.1
    unfold isByte at hc
    split at hc
    · rw [h1.a8]
      simp only [List.map_cons,aI,byteOf]
      exact ⟨by rw [←e1],by rw [e2]⟩
    · cases hc
theorem gr {P:Program} (w:World) (src e:TypeId) (hs:P.underlying src=some (.slice e)) (he:P.underlying e=some (.int .u8)) (x:Option Addr) (c:Nat) :
  ∀ dst,P.underlying dst=some .string→(convert src dst (.slice x 0 c)).run P w= .ok (.string ByteArray.empty) w:=by
 intro dst hd
 rw [run_convert_bytes_string w src dst e _ 0 c hs he hd]
 cases x<;>simp [Conv.bytesToString,loadCells,loadCellsFrom,Sem.run_pure]
theorem Kd {P:Program} {g:Gh} {σ:St} {w:World} {a:Act} {o:Oper} (hI:Inv g σ w) {s d:TypeId} {x:Operand} {v:AV} {n:Nat} {cs:List AV} (ho:o.op= .convert s d x) (hs:pj P s=true) (hd:di P d=true)
  (hx:Rel g w v (a.eval x)) (hv:slv v=some (n,cs)) (hn:n=cs.length) (hb:cs.all isByte=true):Yields ((execOp a.eval o).run P w) g w (.str (cs.map byteOf)) σ:=by
 unfold pj at hs
 split at hs
 ·rename_i e he
  split at hs
  ·rename_i he8
   have hd':P.underlying d=some .string:=by
    unfold di at hd
    split at hd
    ·assumption
    ·cases hd
   rcases hx.bL hv with ⟨x0,e1,e2,e3⟩|⟨b,off,cap,u,e1,e2,hL⟩
   ·have hr:=gr (P:=P) w s e he he8 x0 0 d hd'
    subst e3
    have:=Rel.str (g:=g) (w:=w) []
    exact Yields.same (u:= .string ByteArray.empty) hI (by simp [execOp,ho,e1,hr]) this
   ·obtain ⟨q1,q2⟩:=jd hL.rel.1 hb
    have hr:=run_convert_bytes_arg (P:=P) w s e he he8 b off n cap (cs.map aI) (by simp [hn]) (fun i hi=>hL.cell i _ (by
     rw [q1]
     have:i<(cs.map aI).length:=OS
     simp [List.getD,List.getElem?_eq_getElem (show i<cs.length by omega)])) d hd'
    have hstr:strOfNums (cs.map aI)=⟨(cs.map byteOf).toArray⟩:=by unfold strOfNums;rw [q2]
    rw [hstr] at hr
    exact .same hI (by simp [execOp,ho,e1,hr]) (.str _)
  ·cases hs
 ·cases hs
theorem GM {P:Program} {g:Gh} {σ:St} {w:World} {a:Act} {o:Oper} (hI:Inv g σ w) {t:TypeId} {x:Operand} {n es β off:Nat} (ho:o.op= .slice t x none none none) (ht:vZ P t n es=true)
  (hx:Rel g w (.ptr β off) (a.eval x)):Yields ((execOp a.eval o).run P w) g w (.psl β off n) σ:=by
 obtain ⟨e,i,h1,h3,h4⟩:=nT ht
 obtain ⟨b,ex,hb⟩:=hx.fA
 have hr:=gp (P:=P) (w:=w) false n n none none none 0 n (.inl ⟨rfl,rfl⟩) (.inl ⟨rfl,rfl,rfl⟩) (.inl rfl) Oz Oz (Int.le_refl _) (Nat.le_refl _)
 simp only [Int.toNat_zero,Int.toNat_natCast,Option.isSome_none,Bool.false_eq_true,if_false] at hr
 refine .same hI (u:= .slice (some ⟨b,off,none⟩) n n) ?_ (.psl β off n b n hb (Nat.le_refl _))
 simp [execOp,ho,Instr.sliceAt,run_underlying h1,ex,Instr.sureAddr,hr,sizeOf,typeInfo,h3,bE]
theorem GN {P:Program} {g:Gh} {σ:St} {w:World} {a:Act} {o:Oper} (hI:Inv g σ w) {s d:TypeId} {x:Operand} {β off n:Nat} {cs:List AV} (ho:o.op= .convert s d x) (hs:pj P s=true) (hd:di P d=true)
  (hx:Rel g w (.psl β off n) (a.eval x)) (hv:σ.box β=some cs) (hn:off+n≤cs.length) (hb:((cs.drop off).take n).all isByte=true):Yields ((execOp a.eval o).run P w) g w (.str (((cs.drop off).take n).map byteOf)) σ:=by
 unfold pj at hs
 split at hs
 ·rename_i e he
  split at hs
  ·rename_i he8
   have hd':P.underlying d=some .string:=by
    unfold di at hd
    split at hd
    ·assumption
    ·cases hd
   obtain ⟨b,cap,e1,e2,e3⟩:=hx.lJ
   obtain ⟨b',vs,T,f1,f2,f3⟩:=hI.box β cs hv
   rw [e2] at f1;cases f1
   have hrel:bQ g w ((cs.drop off).take n) ((vs.toList.drop off).take n):=(f3.1.drop off).take n
   obtain ⟨q1,q2⟩:=jd hrel hb
   have hlen:((cs.drop off).take n).length=n:=OS
   have hr:=run_convert_bytes_arg (P:=P) w s e he he8 b off n cap (((cs.drop off).take n).map aI) (by rw [List.length_map,hlen]) (fun i hi=>by
    have h1:((vs.toList.drop off).take n)[i]? =some (.int .u8 (((((cs.drop off).take n).map aI)).getD i 0)):=by
     rw [q1]
     have:i<((cs.drop off).take n).length:=Oz
     generalize (cs.drop off).take n=zs at this ⊢
     rw [List.getElem?_map,List.getD_eq_getElem?_getD,List.getElem?_map,List.getElem?_eq_getElem this]
     rfl
    rw [List.getElem?_take] at h1
    by_cases hin:i<n
    ·rw [if_pos hin,List.getElem?_drop] at h1
     simp only [World.cell?,f2]
     rw [←Array.getElem?_toList]
     exact h1
    ·rw [if_neg hin] at h1;cases h1) d hd'
   have hstr:strOfNums (((cs.drop off).take n).map aI)=⟨(((cs.drop off).take n).map byteOf).toArray⟩:=by unfold strOfNums;rw [q2]
   rw [hstr] at hr
   exact .same hI (by simp [execOp,ho,e1,hr]) (.str _)
  ·cases hs
 ·cases hs
theorem RelC.bytes {g:Gh} {w:World}:∀ l:List UInt8,RelC g w (l.map fun b=>AV.int .u8 b.toNat) (l.map fun b=>Value.int .u8 b.toNat)
  | []=> .nil
  | b :: l => ⟨.cons (.int _ _) (RelC.bytes l).1, fun v hv => by
    rcases List.mem_cons.1 hv with rfl|hv
    · rfl
    · exact (RelC.bytes (g:=g) (w:=w) l).2 v hv⟩
theorem y7 (w:World) (vs:Array Value) (T:TypeId) (q:Nat × Nat) (i:Nat):(w.alloc (.cells vs T q)).cell? ⟨w.heap.size,i,none⟩=vs[i]? :=by
 simp only [World.cell?,heap_alloc_new];simp
theorem Ke {P:Program} {g:Gh} {σ:St} {w:World} {a:Act} {o:Oper} (hI:Inv g σ w) {s d:TypeId} {x:Operand} {l:List UInt8} (ho:o.op= .convert s d x) (hs:di P s=true) (hd:pj P d=true)
  (hx:Rel g w (.str l) (a.eval x)):Yields ((execOp a.eval o).run P w) g w (.sl false l.length (l.map fun b=> .int .u8 b.toNat)) σ:=by
 have ex:=hx.cF
 have hs':P.underlying s=some .string:=by
  unfold di at hs
  split at hs
  ·assumption
  ·cases hs
 unfold pj at hd
 split at hd
 ·rename_i e he
  split at hd
  ·rename_i he8
   have hr:=run_bytes_of_string (P:=P) w s d e ⟨l.toArray⟩ hs' he he8
   have hsz:(⟨l.toArray⟩:ByteArray).size=l.length:=by simp [ByteArray.size]
   rw [hsz] at hr
   have hge:=grownCap_ge w l.length 0 e
   have hrow:bytesRow ⟨l.toArray⟩ (grownCap w l.length 0 e)=(l.map fun b=>Value.int .u8 b.toNat).toArray++Array.replicate (grownCap w l.length 0 e - l.length) (.int .u8 0):=by
    unfold bytesRow;rw [hsz];simp
   have hId:=iv hI
   have hcl:Lies { g with cl:=fun b=>if b=w.drew.heap.size then some l.length else g.cl b } (w.drew.alloc (.cells (bytesRow ⟨l.toArray⟩ (grownCap w l.length 0 e)) e ((bytesRow ⟨l.toArray⟩ (grownCap w l.length 0 e)).size,(bytesRow ⟨l.toArray⟩ (grownCap w l.length 0 e)).size+1))) (l.map fun b=>AV.int .u8 b.toNat) w.drew.heap.size 0 (l.map fun b=>Value.int .u8 b.toNat):=by
    refine ⟨⟨by simp, .inr ⟨l.length,by simp,by simp⟩⟩,RelC.bytes l,fun i v hv=>?_⟩
    have hi:i<(l.map fun b=>Value.int .u8 b.toNat).length:=(List.getElem?_eq_some_iff.1 hv).1
    rw [y7,hrow,Nat.zero_add,Array.getElem?_append_left PD]
    simpa using hv
   exact ⟨.slice (some ⟨w.heap.size,0,none⟩) l.length (grownCap w l.length 0 e),_,_,by simp [execOp,ho,ex,hr],hId.alloc l.length,eN.trans (Ext.alloc hId _), .gU hge OF hcl⟩
  ·cases hd
 ·cases hd
theorem _root_.OG {p:Prop} (h:p:=by simp [CO.ods]):p:=h
theorem eT {P:Program} {g:Gh} {σ:St} {w:World} {a:Act} {o:Oper} {ρ:Od→AV} (hI:Inv g σ w) (co:CO) (hl:lkB P o.op co=true) (hρ:∀ x y,y∈co.ods→odB x y=true→Rel g w (ρ y) (a.eval x)) (hp:ps σ ρ co) :
    Yields ((execOp a.eval o).run P w) g w (pf σ ρ co) σ:=by
  cases co<;>simp only [lkB] at hl<;>try (exact (Bool.false_ne_true hl).elim)
  case mv y =>
    split at hl
    · rename_i x ho;exact JS hI (.inl ho) (hρ x y OG hl)
    · rename_i x ho;exact JS hI (.inr ho) (hρ x y OG hl)
    · cases hl
  case pick c x y =>
    split at hl
    · rename_i c' x' y' ho
      simp only [Bool.and_eq_true] at hl
      exact GA hI ho (hρ c' c OG hl.1.1) (hρ x' x OG hl.1.2) (hρ y' y OG hl.2) hp
    · cases hl
  case un u y =>
    split at hl
    · rename_i u' t x ho
      simp only [Bool.and_eq_true,beq_iff_eq] at hl
      obtain ⟨rfl,hb⟩:=hl
      exact LS hI ho (hρ x y OG hb) hp
    · cases hl
  case bin b x y =>
    split at hl
    · rename_i b' t x' y' yt ho
      simp only [Bool.and_eq_true,beq_iff_eq] at hl
      obtain ⟨⟨rfl,h1⟩,h2⟩:=hl
      exact JT hI ho (hρ x' x OG h1) (hρ y' y OG h2) hp
    · cases hl
  case eqA neg ks x y =>
    split at hl
    · rename_i b t x' y' yt ho
      simp only [Bool.and_eq_true,beq_iff_eq] at hl
      obtain ⟨⟨⟨rfl,ht⟩,h1⟩,h2⟩:=hl
      have hx:=hρ x' x OG h1
      have hy:=hρ y' y OG h2
      simp only [ps] at hp
      simp only [pf]
      split at hp
      · rename_i as bs ep eq
        rw [ep] at hx;rw [eq] at hy
        cases hq:sqL ks as bs with
        | none=>rw [hq] at hp;cases hp
        | some q=>exact JZ hI ho ht hx hy hq
      · exact hp.elim
    · cases hl
  case eqb neg x y =>
    split at hl
    · rename_i b t x' y' yt ho
      simp only [Bool.and_eq_true,beq_iff_eq] at hl
      obtain ⟨⟨⟨rfl,ht⟩,h1⟩,h2⟩:=hl
      have hx:=hρ x' x OG h1
      have hy:=hρ y' y OG h2
      simp only [ps] at hp
      simp only [pf]
      split at hp
      · rename_i p q ep eq
        rw [ep] at hx;rw [eq] at hy
        unfold ve at ht
        split at ht
        · rename_i hu;exact J4 hI ho hu hx hy
        · cases ht
      · exact hp.elim
    · cases hl
  case b2s y =>
    split at hl
    · rename_i s d x ho
      simp only [Bool.and_eq_true] at hl
      have hx:=hρ x y OG hl.2
      simp only [ps] at hp
      split at hp
      · rename_i n cs hv
        simp only [pf,hv]
        exact Kd hI ho hl.1.1 hl.1.2 hx hv hp.1 hp.2
      · exact hp.elim
    · cases hl
  case b2sP y =>
    split at hl
    · rename_i s d x ho
      simp only [Bool.and_eq_true] at hl
      have hx:=hρ x y OG hl.2
      simp only [ps] at hp
      split at hp
      · rename_i β off n hv
        split at hp
        · rename_i cs hc
          simp only [pf,hv,hc]
          rw [hv] at hx
          exact GN hI ho hl.1.1 hl.1.2 hx hc hp.1 hp.2
        · exact hp.elim
      · exact hp.elim
    · cases hl
  case slcP n es y =>
    split at hl
    · rename_i t x ho
      simp only [Bool.and_eq_true] at hl
      have hx:=hρ x y OG hl.2
      simp only [ps] at hp
      split at hp
      · rename_i β off hv
        simp only [pf,hv]
        rw [hv] at hx
        exact GM hI ho hl.1 hx
      · exact hp.elim
    · cases hl
  case s2b y =>
    split at hl
    · rename_i s d x ho
      simp only [Bool.and_eq_true] at hl
      have hx:=hρ x y OG hl.2
      simp only [ps] at hp
      split at hp
      · rename_i l hv
        simp only [pf,hv]
        rw [hv] at hx
        exact Ke hI ho hl.1.1 hl.1.2 hx
      · exact hp.elim
    · cases hl
  case lenP y =>
    split at hl
    · rename_i x t ho
      simp only [Bool.and_eq_true] at hl
      have hx:=hρ x y OG hl.2
      simp only [ps] at hp
      split at hp
      · rename_i β off n hv
        simp only [pf,hv]
        rw [hv] at hx
        exact GI hI ho hl.1 hx
      · rename_i β e0 es0 n hv
        simp only [pf,hv]
        rw [hv] at hx
        exact GH hI ho hl.1 hx
      · rename_i hne hne2
        obtain ⟨⟨n,cs⟩,hv⟩:=Option.isSome_iff_exists.1 hp
        have e:pf σ ρ (.lenP y)= .int .i64 n:=by
          simp only [pf]
          generalize ρ y=a at *
          cases a<;>first|(exact (hne _ _ _ rfl).elim)|(exact (hne2 _ _ _ _ rfl).elim)|(simp only [hv];done)|(simp [slv] at hv;done)
        rw [e]
        exact Gb hI ho hl.1 hx hv
    · cases hl
  case ixQ es x y =>
    split at hl
    · rename_i t x' y' ho
      simp only [Bool.and_eq_true] at hl
      have hx:=hρ x' x OG hl.1.2
      have hy:=hρ y' y OG hl.2
      simp only [ps] at hp
      obtain ⟨hp1,hp2⟩:=hp
      simp only [pf]
      cases hyy:ρ y<;>simp only [hyy,cN] at hp1
      rename_i k0 n0
      rw [hyy] at hy hp2
      split at hp2
      · rename_i β off n hv
        simp only [aI]
        rw [hv] at hx
        exact J5 hI ho hl.1.1 hx hy hp2.1 hp2.2
      · rename_i β e0 es0 n hv
        simp only [aI]
        rw [hv] at hx
        exact J6 hI ho hl.1.1 hx hy hp2.1 hp2.2
      · rename_i hne hne2
        split at hp2
        · rename_i n cs hv
          generalize ρ x=a at *
          cases a<;>first|(exact (hne _ _ _ rfl).elim)|(exact (hne2 _ _ _ _ rfl).elim)|(simp [slv] at hv;done)|(simp only [aI];exact Ga hI ho hl.1.1 hx hy hv hp2.1 hp2.2.1 hp2.2.2)
        · exact hp2.elim
    · cases hl
  case cnv k y =>
    split at hl
    · rename_i s d x ho
      simp only [Bool.and_eq_true] at hl
      obtain ⟨⟨h1,h2⟩,h3⟩:=hl
      have hx:=hρ x y OG h3
      simp only [ps] at hp
      simp only [pf]
      cases hy:ρ y<;>simp only [hy,cN] at hp
      rw [hy] at hx
      unfold Kc at h2
      split at h2
      · rename_i k' hu
        have:k'=k:=PT
        subst this
        exact JU hI ho h1 hu hx
      · cases h2
    · cases hl
  case len y =>
    split at hl
    · rename_i x t ho
      simp only [Bool.and_eq_true] at hl
      have hx:=hρ x y OG hl.2
      simp only [ps] at hp
      obtain ⟨⟨n,cs⟩,hv⟩:=Option.isSome_iff_exists.1 hp
      simp only [pf,hv]
      exact Gb hI ho hl.1 hx hv
    · cases hl
  case lenS y =>
    split at hl
    · rename_i x t ho
      simp only [Bool.and_eq_true] at hl
      have hx:=hρ x y OG hl.2
      simp only [ps] at hp
      simp only [pf]
      cases hy:ρ y<;>simp only [hy] at hp
      rw [hy] at hx
      have h1:=hl.1
      unfold di at h1
      split at h1
      · rename_i hu;exact GG hI ho hu hx
      · cases h1
    · cases hl
  case fld off sz y =>
    split at hl
    · rename_i t x f ho
      simp only [Bool.and_eq_true] at hl
      have hx:=hρ x y OG hl.2
      simp only [ps] at hp
      simp only [pf]
      cases hy:ρ y<;>simp only [hy] at hp
      rw [hy] at hx
      exact JY hI ho hl.1 hx hp
    · cases hl
  case fldA off y =>
    split at hl
    · rename_i t x f ho
      simp only [Bool.and_eq_true] at hl
      have hx:=hρ x y OG hl.2
      have:=GC hI ho hl.1 hx
      simp only [ps] at hp
      simp only [pf]
      cases hy:ρ y<;>simp only [hy] at hp
      · exact this.1 _ _ hy
      · exact this.2 _ hy hp
    · cases hl
  case ixA es x y =>
    split at hl
    · rename_i t x' y' ho
      simp only [Bool.and_eq_true] at hl
      have hx:=hρ x' x OG hl.1.2
      have hy:=hρ y' y OG hl.2
      simp only [ps] at hp
      simp only [pf]
      obtain ⟨hi,hp⟩:=hp
      cases hv:slv (ρ x) with
      | none=>simp only [hv] at hp
      | some q =>
        obtain ⟨n,cs⟩:=q
        simp only [hv] at hp
        cases hyv:ρ y<;>simp only [hyv,cN] at hi
        rw [hyv] at hy hp
        simp only [aI] at hp ⊢
        exact Ga hI ho hl.1.1 hx hy hv hp.1 hp.2.1 hp.2.2
    · cases hl
  case ixP n es x y =>
    split at hl
    · rename_i t x' y' ho
      simp only [Bool.and_eq_true] at hl
      have hx:=hρ x' x OG hl.1.2
      have hy:=hρ y' y OG hl.2
      simp only [ps] at hp
      simp only [pf]
      obtain ⟨hi,h0,h1,hp⟩:=hp
      cases hyv:ρ y<;>simp only [hyv,cN] at hi
      rw [hyv] at hy h0 h1 hp
      simp only [aI] at hp h0 h1 ⊢
      have:=JW hI ho hl.1.1 hx hy h0 h1
      cases hxv:ρ x<;>simp only [hxv] at hp
      · exact this.1 _ _ hxv
      · exact this.2 _ hxv hp
    · cases hl
  case ixS x y =>
    split at hl
    · rename_i t x' y' ho
      simp only [Bool.and_eq_true] at hl
      have hx:=hρ x' x OG hl.1.2
      have hy:=hρ y' y OG hl.2
      simp only [ps] at hp
      simp only [pf]
      obtain ⟨hi,hp⟩:=hp
      cases hyv:ρ y<;>simp only [hyv,cN] at hi
      cases hxv:ρ x<;>simp only [hxv] at hp
      rw [hyv] at hy hp
      rw [hxv] at hx
      simp only [aI] at hp ⊢
      have h1:=hl.1.1
      unfold di at h1
      split at h1
      · rename_i hu;exact JX hI ho hu hx hy hp.1 hp.2
      · cases h1
    · cases hl
  case ixV n es sz x y =>
    split at hl
    · rename_i t x' y' ho
      simp only [Bool.and_eq_true] at hl
      have hx:=hρ x' x OG hl.1.2
      have hy:=hρ y' y OG hl.2
      simp only [ps] at hp
      simp only [pf]
      obtain ⟨hi,hp⟩:=hp
      cases hyv:ρ y<;>simp only [hyv,cN] at hi
      cases hxv:ρ x<;>simp only [hxv] at hp
      rw [hyv] at hy hp
      rw [hxv] at hx
      simp only [aI] at hp ⊢
      exact J0 hI ho hl.1.1 hx hy hp.1 hp.2.1 hp.2.2
    · cases hl
  case asT ts ns keep z y =>
    split at hl
    · rename_i x xT T ho
      simp only [Bool.and_eq_true] at hl
      have hx:=hρ x y OG hl.2
      simp only [ps] at hp
      simp only [pf]
      split at hp
      · rename_i t v hv
        rw [hv] at hx
        try simp only [hv]
        exact J7 hI ho hl.1 hx hp
      · exact hp.elim
    · cases hl
  case ldE sz y =>
    split at hl
    · rename_i t x ho
      simp only [Bool.and_eq_true] at hl
      have hx:=hρ x y OG hl.2
      simp only [ps] at hp
      simp only [pf]
      split at hp
      · rename_i cs hv
        rw [hv] at hx
        try simp only [hv]
        exact JV hI ho hl.1 hx (by rfl) hp
      · exact hp.elim
    · cases hl
  case ld sz y =>
    split at hl
    · rename_i t x ho
      simp only [Bool.and_eq_true] at hl
      have hx:=hρ x y OG hl.2
      simp only [ps] at hp
      simp only [pf]
      cases hv:cG σ (ρ y) with
      | none=>simp only [hv] at hp
      | some q =>
        obtain ⟨cs,k⟩:=q
        simp only [hv] at hp
        exact JV hI ho hl.1 hx hv hp
    · cases hl
  case slc es x lo hi mx =>
    split at hl
    · rename_i t x' lo' hi' mx' ho
      simp only [Bool.and_eq_true] at hl
      obtain ⟨⟨⟨⟨h1,h2⟩,h3⟩,h4⟩,h5⟩:=hl
      have hx:=hρ x' x OG h2
      simp only [ps] at hp
      obtain ⟨i1,i2,i3,hp⟩:=hp
      cases hv:slv (ρ x) with
      | none=>simp only [hv] at hp
      | some q =>
        obtain ⟨n,cs⟩:=q
        simp only [hv] at hp
        obtain ⟨q1,q2,q3,q4,q5⟩:=hp
        have b1:=jE (d:=0) hρ h3 (fun z hz=>by subst hz;simp [CO.ods]) i1
        have b2:=jE (d:=(n:Int)) hρ h4 (fun z hz=>by subst hz;simp [CO.ods]) i2
        have b3:=jE (d:=(0:Int)) hρ h5 (fun z hz=>by subst hz;simp [CO.ods]) i3
        have e1:mx'.isSome=mx.isSome:=by cases mx'<;>cases mx<;>simp [o9] at h5 ⊢
        have key:=J8 (P:=P) (o:=o) (t:=t) hI ho h1 hx hv b1.1
          (by
            cases hi with
            | none =>
              cases mx with
              | none=>simpa [e1] using b2.1
              | some m=>simp at q5
            | some y=>exact .inr (b2.2 rfl))
          (by
            cases mx with
            | none=>exact .inl (by cases mx'<;>simp [o9] at h5 ⊢)
            | some m =>
              cases hi with
              | none=>simp at q5
              | some y =>
                obtain ⟨z,k,hz,hk⟩:=b3.2 rfl
                simp only at q5
                simp only [bnd] at hk ⊢
                rw [q5] at hk
                exact .inr ⟨z,k,hz,hk⟩) q1 q2 q3 q4
        rw [e1] at key
        simp only [pf,hv]
        exact key
    · cases hl
  case slcS x lo hi =>
    split at hl
    · rename_i t x' lo' hi' ho
      simp only [Bool.and_eq_true] at hl
      obtain ⟨⟨⟨h1,h2⟩,h3⟩,h4⟩:=hl
      have hx:=hρ x' x OG h2
      simp only [ps] at hp
      obtain ⟨i1,i2,hp⟩:=hp
      cases hv:ρ x<;>simp only [hv] at hp
      rename_i s
      rw [hv] at hx
      obtain ⟨q1,q2,q3⟩:=hp
      have b1:=jE (d:=0) hρ h3 (fun z hz=>by subst hz;simp [CO.ods]) i1
      have b2:=jE (d:=(s.length:Int)) hρ h4 (fun z hz=>by subst hz;simp [CO.ods]) i2
      unfold di at h1
      split at h1
      · rename_i hu
        have key:=GJ (P:=P) (o:=o) (t:=t) hI ho hu hx b1.1 b2.1 q1 q2 q3
        simp only [pf,hv]
        exact key
      · cases h1
    · cases hl
  case bld z parts =>
    split at hl
    · rename_i t ops ho
      exact Ka hI ho hl hp (by simpa [CO.ods] using hρ)
    · cases hl
  case mkSl es n z parts =>
    split at hl
    · rename_i t n' ops ho
      simp only [Bool.and_eq_true,beq_iff_eq] at hl
      obtain ⟨rfl,hl⟩:=hl
      exact GL hI ho hl hp.1 (by simpa [CO.ods] using hρ) hp.2
    · cases hl
  case mkI t y =>
    split at hl
    · rename_i t' x ho
      simp only [Bool.and_eq_true,beq_iff_eq] at hl
      obtain ⟨⟨rfl,h1⟩,h2⟩:=hl
      exact J2 hI ho h1 (hρ x y OG h2)
    · cases hl
  case mkF f caps =>
    split at hl
    · rename_i f' cs ho
      simp only [Bool.and_eq_true,beq_iff_eq] at hl
      obtain ⟨rfl,h1⟩:=hl
      refine J3 hI ho ?_
      have:∀ (xs:List Operand) (ys:List Od),(∀ y∈ys,y∈caps)→ke xs ys=true→bQ g w (ys.map ρ) (xs.map a.eval):=by
        intro xs
        induction xs with
        | nil=>intro ys _ h;cases ys<;>simp [ke] at h;exact .nil
        | cons x xs ih =>
          intro ys hy h
          cases ys with
          | nil=>simp [ke] at h
          | cons y ys =>
            simp [ke] at h
            exact .cons (hρ x y (by simpa [CO.ods] using hy y OF) h.1) (ih ys (fun z hz=>hy z (by simp [hz])) h.2)
      exact this cs caps (fun _ h=>h) h1
    · cases hl
  case ext y i =>
    split at hl
    · rename_i x j ho
      simp only [Bool.and_eq_true,beq_iff_eq] at hl
      obtain ⟨rfl,h1⟩:=hl
      have hx:=hρ x y OG h1
      simp only [ps] at hp
      simp only [pf]
      cases hv:ρ y<;>simp only [hv] at hp
      rw [hv] at hx
      exact J1 hI ho hx hp
    · cases hl
  case nilc y =>
    split at hl
    · rename_i x ho
      have hx:=hρ x y OG hl
      simp only [ps] at hp
      simp only [pf]
      refine GF hI ho hx ?_
      cases hv:ρ y<;>simp only [hv] at hp
      · exact .inl ⟨_,_,rfl⟩
      · exact .inr ⟨_,rfl⟩
    · cases hl
  case mm mx x y =>
    split at hl
    · rename_i b x' y' ts ho
      simp only [Bool.and_eq_true,beq_iff_eq] at hl
      obtain ⟨⟨rfl,h1⟩,h2⟩:=hl
      have hx:=hρ x' x OG h1
      have hy:=hρ y' y OG h2
      simp only [ps] at hp
      simp only [pf]
      split at hp
      · rename_i k p k' q ep eq
        rw [ep] at hx;rw [eq] at hy
        exact LU hI ho hx hy
      · exact hp.elim
    · cases hl
  case app tp e es bytes x y =>
    split at hl
    · rename_i x' y' t t' ho
      simp only [Bool.and_eq_true,beq_iff_eq] at hl
      obtain ⟨⟨⟨rfl,h1⟩,h2⟩,h3⟩:=hl
      have hx:=hρ x' x OG h2
      have hy:=hρ y' y OG h3
      simp only [ps] at hp
      simp only [pf]
      obtain ⟨hf,hp⟩:=hp
      split at hp
      · rename_i n cs m ds e1 e2
        exact J9 hI ho h1 hx hy hf e1 e2 hp.1 hp.2.1 hp.2.2.1 hp.2.2.2
      · exact hp.elim
    · cases hl
end Go.Abs
