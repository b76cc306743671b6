/- Part 1 of the proof of ScriptKnown: an abstract semantics that is proved sound for the model, contracts of functions in it, and plain facts (Abs1 Abs2). No condition. -/
import Derived.WalkKit
import Derived.WalkSpells
import Derived.WalkLawsBesides
import Derived.Deep.MidRow
import Derived.Lib.Hide
set_option linter.all false
namespace Go.Abs
inductive AV where
 | junk
 | bool (b:Bool)
 | int (k:IntKind) (n:Int)
 | str (l:List UInt8)
 | nils
 | sl (full:Bool) (n:Nat) (cs:List AV)
 | tsl (τ n:Nat) (cs:List AV)
 | agg (cs:List AV)
 | tup (cs:List AV)
 | ptr (β off:Nat)
 | nilp
 | el (cs:List AV)
 | ifc (t:Nat) (v:AV)
 | nili
 | fn (f:Nat) (cap:List AV)
 | nilf
 | opt (c:Bool) (v:AV)
 | yld (l:Nat)
 | psl (β off n:Nat)
 | row (β e es n:Nat)
 | mpv (m:Nat)
def AV.one:AV→Bool
 | .agg _ | .tup _ | .junk | .opt _ _=>false
 | _=>true
def AV.cells:AV→List AV
 | .agg cs=>cs
 | v=> [v]
structure Gh where
 box:Nat→Option Nat
 cl:Nat→Option Nat
 tip:Nat→Nat→Option Value
 nb:Nat
 nt:Nat
def Claim (g:Gh) (w:World) (b k:Nat):Prop:=b<w.heap.size∧(g.cl b=none∨∃ F,g.cl b=some F∧k≤F)
inductive Rel (g:Gh) (w:World):AV→Value→Prop where
 | junk (v:Value):Rel g w .junk v
 | bool (b:Bool):Rel g w (.bool b) (.bool b)
 | int (k:IntKind) (n:Int):Rel g w (.int k n) (.int k n)
 | str (l:List UInt8):Rel g w (.str l) (.string ⟨l.toArray⟩)
 | nils:Rel g w .nils (.slice none 0 0)
 | sl0 (f:Bool) (x:Option Addr):Rel g w (.sl f 0 []) (.slice x 0 0)
 | sl (f:Bool) (n:Nat) (cs:List AV) (b off cap:Nat) (u:List Value):n≤cap→(f=true→cap=n)→Claim g w b (off+cs.length)→u.length=cs.length →
   (∀ (i:Nat) (v:Value),u[i]? =some v→w.cell? ⟨b,off+i,none⟩=some v∧v.oneCell'=true) →
   (∀ (i:Nat) (c:AV) (v:Value),cs[i]? =some c→u[i]? =some v→Rel g w c v)→Rel g w (.sl f n cs) (.slice (some ⟨b,off,none⟩) n cap)
 | tsl0 (τ:Nat) (x:Option Addr):g.tip τ 0=some (.slice x 0 0)→Rel g w (.tsl τ 0 []) (.slice x 0 0)
 | tsl (τ n:Nat) (cs:List AV) (b off cap:Nat) (u:List Value):n≤cap→g.tip τ n=some (.slice (some ⟨b,off,none⟩) n cap)→Claim g w b (off+cs.length)→u.length=cs.length →
   (∀ (i:Nat) (v:Value),u[i]? =some v→w.cell? ⟨b,off+i,none⟩=some v∧v.oneCell'=true) →
   (∀ (i:Nat) (c:AV) (v:Value),cs[i]? =some c→u[i]? =some v→Rel g w c v)→Rel g w (.tsl τ n cs) (.slice (some ⟨b,off,none⟩) n cap)
 | agg (cs:List AV) (vs:List Value):vs.length=cs.length→(∀ v∈vs,v.oneCell'=true)→(∀ (i:Nat) (c:AV) (v:Value),cs[i]? =some c→vs[i]? =some v→Rel g w c v)→Rel g w (.agg cs) (.agg vs.toArray)
 | tup (cs:List AV) (vs:List Value):vs.length=cs.length→(∀ (i:Nat) (c:AV) (v:Value),cs[i]? =some c→vs[i]? =some v→Rel g w c v)→Rel g w (.tup cs) (.tuple vs.toArray)
 | ptr (β off b:Nat):g.box β=some b→Rel g w (.ptr β off) (.pointer (some ⟨b,off,none⟩))
 | nilp:Rel g w .nilp (.pointer none)
 | el (cs:List AV) (b off:Nat) (u:List Value):Claim g w b (off+cs.length)→u.length=cs.length→(∀ (i:Nat) (v:Value),u[i]? =some v→w.cell? ⟨b,off+i,none⟩=some v∧v.oneCell'=true) →
   (∀ (i:Nat) (c:AV) (v:Value),cs[i]? =some c→u[i]? =some v→Rel g w c v)→Rel g w (.el cs) (.pointer (some ⟨b,off,none⟩))
 | ifc (t:Nat) (v:AV) (u:Value):Rel g w v u→Rel g w (.ifc t v) (.iface t u)
 | nili:Rel g w .nili .nilIface
 | fn (f:Nat) (cap:List AV) (vs:List Value):vs.length=cap.length→(∀ (i:Nat) (c:AV) (v:Value),cap[i]? =some c→vs[i]? =some v→Rel g w c v)→Rel g w (.fn f cap) (.func (.func f) #[] vs.toArray)
 | nilf:Rel g w .nilf .nilFunc
 | opt (c:Bool) (v:AV) (u:Value):(c=true→Rel g w v u)→(c=false→u=undef)→Rel g w (.opt c v) u
 | yld (l:Nat):Rel g w (.yld l) (.func (.yield l) #[] #[])
 | mpv (m:Nat):Rel g w (.mpv m) (.map (some m))
 | psl (β off n b cap:Nat):g.box β=some b→n≤cap→Rel g w (.psl β off n) (.slice (some ⟨b,off,none⟩) n cap)
 | row (β e es n b cap:Nat) (vs:Array Value):g.box β=some b→n≤cap→cap≤maxLen→w.heap[b]? =some (.cells vs e (0,0))→vs.size=cap*es→Rel g w (.row β e es n) (.slice (some ⟨b,0,none⟩) n cap)
def bQ (g:Gh) (w:World) (cs:List AV) (vs:List Value):Prop:=vs.length=cs.length∧∀ (i:Nat) (c:AV) (v:Value),cs[i]? =some c→vs[i]? =some v→Rel g w c v
structure Ext (g:Gh) (w:World) (g':Gh) (w':World):Prop where
 os:w'.os=w.os
 tape:w'.tape=w.tape
 output:w'.output=w.output
 size:w.heap.size≤w'.heap.size
 box:∀ β b,g.box β=some b→g'.box β=some b
 boxold:∀ β,β<g.nb→g'.box β=g.box β
 nb:g.nb≤g'.nb
 nt:g.nt≤g'.nt
 tip:∀ m n v,g.tip m n=some v→g'.tip m n=some v
 cln:∀ b,b<w.heap.size→g.cl b=none→g'.cl b=none∧w'.heap[b]? =w.heap[b]?
 cls:∀ b F,b<w.heap.size→g.cl b=some F→∃ F',g'.cl b=some F'∧F≤F'∧∀ i,i<F→w'.cell? ⟨b,i,none⟩=w.cell? ⟨b,i,none⟩
 tipn:∀ m,m<g.nt→(∀ n,g.tip m n=none)→∀ n,g'.tip m n=none
 rz:∀ (b:Nat) (vs:Array Value) (T:TypeId),(∃ β,g.box β=some b)→w.heap[b]? =some (.cells vs T (0,0))→∃ us:Array Value,w'.heap[b]? =some (.cells us T (0,0))∧us.size=vs.size
theorem Claim.mono {g g':Gh} {w w':World} {b k:Nat} (h:Claim g w b k) (he:Ext g w g' w'):Claim g' w' b k:=by
 obtain ⟨hb,h⟩:=h
 refine ⟨Nat.lt_of_lt_of_le hb he.size,?_⟩
 rcases h with h|⟨F,h,hk⟩
 ·exact .inl (he.cln b hb h).1
 ·obtain ⟨F',h',hF,_⟩:=he.cls b F hb h
  exact .inr ⟨F',h',Nat.le_trans hk hF⟩
theorem Claim.cell {g g':Gh} {w w':World} {b k:Nat} (h:Claim g w b k) (he:Ext g w g' w') {i:Nat} (hi:i<k):w'.cell? ⟨b,i,none⟩=w.cell? ⟨b,i,none⟩:=by
 obtain ⟨hb,h⟩:=h
 rcases h with h|⟨F,h,hk⟩
 ·exact World.cell?_of_block (he.cln b hb h).2
 ·obtain ⟨F',h',hF,hc⟩:=he.cls b F hb h
  exact hc i (Nat.lt_of_lt_of_le hi hk)
theorem Claim.le {g:Gh} {w:World} {b k k':Nat} (h:Claim g w b k) (hk:k'≤k):Claim g w b k' :=
 ⟨h.1,h.2.imp id fun ⟨F,h1,h2⟩=>⟨F,h1,Nat.le_trans hk h2⟩⟩
theorem _root_.Oz {p:Prop} (h:p:=by omega):p:=h
theorem Rel.mono {g g':Gh} {w w':World} {a:AV} {v:Value} (h:Rel g w a v) (he:Ext g w g' w'):Rel g' w' a v:=by
  induction h with
  | junk v=>exact .junk v
  | bool b=>exact .bool b
  | int k n=>exact .int k n
  | str l=>exact .str l
  | nils=>exact .nils
  | sl0 f x=>exact .sl0 f x
  | sl f n cs b off cap u h1 h2 h4 h5 h6 h7 ih =>
    refine .sl f n cs b off cap u h1 h2 (h4.mono he) h5 (fun i v hv=>?_) ih
    have hi:i<u.length:=(List.getElem?_eq_some_iff.1 hv).1
    rw [h4.cell he Oz]
    exact h6 i v hv
  | tsl0 τ x h=>exact .tsl0 τ x (he.tip _ _ _ h)
  | tsl τ n cs b off cap u h1 h2 h4 h5 h6 h7 ih =>
    refine .tsl τ n cs b off cap u h1 (he.tip _ _ _ h2) (h4.mono he) h5 (fun i v hv=>?_) ih
    have hi:i<u.length:=(List.getElem?_eq_some_iff.1 hv).1
    rw [h4.cell he Oz]
    exact h6 i v hv
  | agg cs vs h1 h0 h2 ih=>exact .agg cs vs h1 h0 ih
  | tup cs vs h1 h2 ih=>exact .tup cs vs h1 ih
  | ptr β off b h=>exact .ptr β off b (he.box _ _ h)
  | nilp=>exact .nilp
  | el cs b off u h4 h5 h6 h7 ih =>
    refine .el cs b off u (h4.mono he) h5 (fun i v hv=>?_) ih
    have hi:i<u.length:=(List.getElem?_eq_some_iff.1 hv).1
    rw [h4.cell he Oz]
    exact h6 i v hv
  | ifc t v u h ih=>exact .ifc t v u ih
  | nili=>exact .nili
  | fn f cap vs h1 h2 ih=>exact .fn f cap vs h1 ih
  | nilf=>exact .nilf
  | opt c v u h h0 ih=>exact .opt c v u ih h0
  | yld l=>exact .yld l
  | mpv m=>exact .mpv m
  | psl β off n b cap h h1=>exact .psl β off n b cap (he.box _ _ h) h1
  | row β e es n b cap vs h h1 h2 h3 h4 =>
    obtain ⟨us,k1,k2⟩:=he.rz b vs e ⟨_,h⟩ h3
    exact .row β e es n b cap us (he.box _ _ h) h1 h2 k1 (k2.trans h4)
theorem bQ.mono {g g':Gh} {w w':World} {a:List AV} {v:List Value} (h:bQ g w a v) (he:Ext g w g' w'):bQ g' w' a v :=
 ⟨h.1,fun i c v hc hv=>(h.2 i c v hc hv).mono he⟩
theorem bQ.nil {g:Gh} {w:World}:bQ g w [] []:=⟨rfl,fun i c v h=>by simp at h⟩
theorem bQ.cons {g:Gh} {w:World} {a:AV} {v:Value} {as:List AV} {vs:List Value} (h:Rel g w a v) (hs:bQ g w as vs):bQ g w (a::as) (v::vs):=by
 refine ⟨by simp [hs.1],fun i c u hc hu=>?_⟩
 cases i with
 | zero=>simp at hc hu;subst hc;subst hu;exact h
 | succ i=>simp at hc hu;exact hs.2 i c u hc hu
theorem _root_.Pg {p:Prop} (h:p:=by simpa using hc):p:=h
theorem bQ.cons_inv {g:Gh} {w:World} {a:AV} {as:List AV} {l:List Value} (h:bQ g w (a::as) l):∃ v vs,l=v::vs∧Rel g w a v∧bQ g w as vs:=by
  cases l with
  | nil=>have:=h.1;simp at this
  | cons v vs =>
    refine ⟨v,vs,rfl,h.2 0 a v rfl rfl,by have:=h.1;simpa using this,fun i c u hc hu=>h.2 (i+1) c u Pg (by simpa using hu)⟩
theorem bQ.bK {g:Gh} {w:World} {l:List Value} (h:bQ g w [] l):l= []:=List.eq_nil_of_length_eq_zero h.1
theorem bQ.append {g:Gh} {w:World} {a b:List AV} {x y:List Value} (h:bQ g w a x) (k:bQ g w b y):bQ g w (a++b) (x++y):=by
 refine ⟨by simp [h.1,k.1],fun i c v hc hv=>?_⟩
 rcases Nat.lt_or_ge i a.length with hi|hi
 ·rw [List.getElem?_append_left hi] at hc
  rw [List.getElem?_append_left (by have:=h.1;omega)] at hv
  exact h.2 i c v hc hv
 ·rw [List.getElem?_append_right hi] at hc
  rw [List.getElem?_append_right (by have:=h.1;omega),h.1] at hv
  exact k.2 _ c v hc hv
theorem bQ.drop {g:Gh} {w:World} {a:List AV} {x:List Value} (h:bQ g w a x) (n:Nat):bQ g w (a.drop n) (x.drop n):=by
 refine ⟨by simp [h.1],fun i c v hc hv=>?_⟩
 rw [List.getElem?_drop] at hc hv
 exact h.2 _ c v hc hv
theorem bQ.take {g:Gh} {w:World} {a:List AV} {x:List Value} (h:bQ g w a x) (n:Nat):bQ g w (a.take n) (x.take n):=by
 refine ⟨by simp [h.1],fun i c v hc hv=>?_⟩
 rw [List.getElem?_take] at hc hv
 split at hc
 ·rename_i hlt;rw [if_pos hlt] at hv;exact h.2 _ c v hc hv
 ·cases hc
theorem bQ.get {g:Gh} {w:World} {a:List AV} {x:List Value} (h:bQ g w a x) {i:Nat} {c:AV} (hc:a[i]? =some c):∃ v,x[i]? =some v∧Rel g w c v:=by
 have hi:i<a.length:=(List.getElem?_eq_some_iff.1 hc).1
 have hx:i<x.length:=by have:=h.1;omega
 exact ⟨x[i],List.getElem?_eq_getElem hx,h.2 i c _ hc (List.getElem?_eq_getElem hx)⟩
def RelC (g:Gh) (w:World) (cs:List AV) (vs:List Value):Prop:=bQ g w cs vs∧∀ v∈vs,v.oneCell'=true
theorem RelC.mono {g g':Gh} {w w':World} {a:List AV} {v:List Value} (h:RelC g w a v) (he:Ext g w g' w'):RelC g' w' a v:=⟨h.1.mono he,h.2⟩
theorem RelC.nil {g:Gh} {w:World}:RelC g w [] []:=⟨.nil,by simp⟩
theorem RelC.append {g:Gh} {w:World} {a b:List AV} {x y:List Value} (h:RelC g w a x) (k:RelC g w b y):RelC g w (a++b) (x++y) :=
 ⟨h.1.append k.1,fun v hv=>(List.mem_append.1 hv).elim (h.2 v) (k.2 v)⟩
theorem RelC.drop {g:Gh} {w:World} {a:List AV} {x:List Value} (h:RelC g w a x) (n:Nat):RelC g w (a.drop n) (x.drop n):=⟨h.1.drop n,fun v hv=>h.2 v (List.mem_of_mem_drop hv)⟩
theorem RelC.take {g:Gh} {w:World} {a:List AV} {x:List Value} (h:RelC g w a x) (n:Nat):RelC g w (a.take n) (x.take n):=⟨h.1.take n,fun v hv=>h.2 v (List.mem_of_mem_take hv)⟩
structure Lies (g:Gh) (w:World) (cs:List AV) (b off:Nat) (u:List Value):Prop where
 claim:Claim g w b (off+cs.length)
 rel:RelC g w cs u
 cell:∀ i v,u[i]? =some v→w.cell? ⟨b,off+i,none⟩=some v
theorem Lies.mono {g g':Gh} {w w':World} {cs:List AV} {b off:Nat} {u:List Value} (h:Lies g w cs b off u) (he:Ext g w g' w'):Lies g' w' cs b off u:=by
 refine ⟨h.claim.mono he,h.rel.mono he,fun i v hv=>?_⟩
 have hi:i<u.length:=(List.getElem?_eq_some_iff.1 hv).1
 have:=h.rel.1.1
 rw [h.claim.cell he Oz]
 exact h.cell i v hv
theorem _root_.Pw {p:Prop} (h:p:=by simp only [List.length_take,List.length_drop];omega):p:=h
theorem Lies.part {g:Gh} {w:World} {cs:List AV} {b off:Nat} {u:List Value} (h:Lies g w cs b off u) (k n:Nat) (hk:k≤cs.length):Lies g w ((cs.drop k).take n) b (off+k) ((u.drop k).take n):=by
 refine ⟨h.claim.le Pw,(h.rel.drop k).take n,fun i v hv=>?_⟩
 rw [List.getElem?_take] at hv
 split at hv
 ·rw [List.getElem?_drop] at hv
  rw [Nat.add_assoc]
  exact h.cell _ v hv
 ·cases hv
theorem Lies.drop {g:Gh} {w:World} {cs:List AV} {b off:Nat} {u:List Value} (h:Lies g w cs b off u) (k:Nat) (hk:k≤cs.length):Lies g w (cs.drop k) b (off+k) (u.drop k):=by
 refine ⟨h.claim.le (by simp only [List.length_drop];omega),h.rel.drop k,fun i v hv=>?_⟩
 rw [List.getElem?_drop] at hv
 rw [Nat.add_assoc]
 exact h.cell _ v hv
theorem Rel.gU {g:Gh} {w:World} {f:Bool} {n b off cap:Nat} {cs:List AV} {u:List Value} (h1:n≤cap) (h2:f=true→cap=n) (h:Lies g w cs b off u):Rel g w (.sl f n cs) (.slice (some ⟨b,off,none⟩) n cap) :=
 .sl f n cs b off cap u h1 h2 h.claim h.rel.1.1 (fun i v hv=>⟨h.cell i v hv,h.rel.2 v (List.mem_of_getElem? hv)⟩) h.rel.1.2
theorem Rel.kd {g:Gh} {w:World} {τ n b off cap:Nat} {cs:List AV} {u:List Value} (h1:n≤cap) (h2:g.tip τ n=some (.slice (some ⟨b,off,none⟩) n cap)) (h:Lies g w cs b off u):Rel g w (.tsl τ n cs) (.slice (some ⟨b,off,none⟩) n cap) :=
 .tsl τ n cs b off cap u h1 h2 h.claim h.rel.1.1 (fun i v hv=>⟨h.cell i v hv,h.rel.2 v (List.mem_of_getElem? hv)⟩) h.rel.1.2
theorem Rel.ql {g:Gh} {w:World} {b off:Nat} {cs:List AV} {u:List Value} (h:Lies g w cs b off u):Rel g w (.el cs) (.pointer (some ⟨b,off,none⟩)) :=
 .el cs b off u h.claim h.rel.1.1 (fun i v hv=>⟨h.cell i v hv,h.rel.2 v (List.mem_of_getElem? hv)⟩) h.rel.1.2
theorem Rel.gV {g:Gh} {w:World} {cs:List AV} {u:List Value} (h:RelC g w cs u):Rel g w (.agg cs) (.agg u.toArray):= .agg cs u h.1.1 h.2 h.1.2
theorem Rel.dA {g:Gh} {w:World} {cs:List AV} {u:List Value} (h:bQ g w cs u):Rel g w (.tup cs) (.tuple u.toArray):= .tup cs u h.1 h.2
theorem Rel.lX {g:Gh} {w:World} {cs:List AV} {v:Value} (h:Rel g w (.el cs) v):∃ b off u,v= .pointer (some ⟨b,off,none⟩)∧Lies g w cs b off u:=by
 cases h with
 | el cs b off u h4 h5 h6 h7=>exact ⟨b,off,u,rfl,h4,⟨⟨h5,h7⟩,fun v hv=>by obtain ⟨i,hi,rfl⟩:=List.getElem_of_mem hv;exact (h6 i _ (List.getElem?_eq_getElem hi)).2⟩,fun i v hv=>(h6 i v hv).1⟩
theorem Rel.dt {g:Gh} {w:World} {cs:List AV} {v:Value} (h:Rel g w (.agg cs) v):∃ u:List Value,v= .agg u.toArray∧RelC g w cs u:=by
 cases h with
 | agg cs vs h1 h0 h2=>exact ⟨vs,rfl,⟨h1,h2⟩,h0⟩
theorem Rel.o6 {g:Gh} {w:World} {cs:List AV} {v:Value} (h:Rel g w (.tup cs) v):∃ u:List Value,v= .tuple u.toArray∧bQ g w cs u:=by
 cases h with
 | tup cs vs h1 h2=>exact ⟨vs,rfl,⟨h1,h2⟩⟩
theorem Rel.cT {g:Gh} {w:World} {b:Bool} {v:Value} (h:Rel g w (.bool b) v):v= .bool b:=by cases h;rfl
theorem Rel.a8 {g:Gh} {w:World} {k:IntKind} {n:Int} {v:Value} (h:Rel g w (.int k n) v):v= .int k n:=by cases h;rfl
theorem Rel.cF {g:Gh} {w:World} {l:List UInt8} {v:Value} (h:Rel g w (.str l) v):v= .string ⟨l.toArray⟩:=by cases h;rfl
theorem Rel.fA {g:Gh} {w:World} {β off:Nat} {v:Value} (h:Rel g w (.ptr β off) v):∃ b,v= .pointer (some ⟨b,off,none⟩)∧g.box β=some b:=by
 cases h with
 | ptr _ _ b h=>exact ⟨b,rfl,h⟩
theorem Rel.lY {g:Gh} {w:World} {f:Nat} {cap:List AV} {v:Value} (h:Rel g w (.fn f cap) v):∃ u:List Value,v= .func (.func f) #[] u.toArray∧bQ g w cap u:=by
 cases h with
 | fn f cap vs h1 h2=>exact ⟨vs,rfl,h1,h2⟩
theorem Rel.o7 {g:Gh} {w:World} {t:Nat} {a:AV} {v:Value} (h:Rel g w (.ifc t a) v):∃ u:Value,v= .iface t u∧Rel g w a u:=by
 cases h with
 | ifc t v u h=>exact ⟨u,rfl,h⟩
theorem Rel.va {g:Gh} {w:World} {m:Nat} {v:Value} (h:Rel g w (.mpv m) v):v= .map (some m):=by cases h;rfl
theorem Rel.Dx {g:Gh} {w:World} {l:Nat} {v:Value} (h:Rel g w (.yld l) v):v= .func (.yield l) #[] #[]:=by cases h;rfl
theorem Rel.lJ {g:Gh} {w:World} {β off n:Nat} {v:Value} (h:Rel g w (.psl β off n) v):∃ b cap,v= .slice (some ⟨b,off,none⟩) n cap∧g.box β=some b∧n≤cap:=by
 cases h with
 | psl _ _ _ b cap h h1=>exact ⟨b,cap,rfl,h,h1⟩
theorem Rel.lK {g:Gh} {w:World} {β e es n:Nat} {v:Value} (h:Rel g w (.row β e es n) v):∃ b cap vs,v= .slice (some ⟨b,0,none⟩) n cap∧g.box β=some b∧n≤cap∧cap≤maxLen∧w.heap[b]? =some (.cells vs e (0,0))∧vs.size=cap*es:=by
 cases h with
 | row _ _ _ _ b cap vs h h1 h2 h3 h4=>exact ⟨b,cap,vs,rfl,h,h1,h2,h3,h4⟩
def slv:AV→Option (Nat × List AV)
 | .nils=>some (0,[])
 | .sl _ n cs=>some (n,cs)
 | .tsl _ n cs=>some (n,cs)
 | _=>none
theorem Rel.bL {g:Gh} {w:World} {a:AV} {v:Value} {n:Nat} {cs:List AV} (h:Rel g w a v) (ha:slv a=some (n,cs)) :
  (∃ x,v= .slice x 0 0∧n=0∧cs= [])∨∃ b off cap u,v= .slice (some ⟨b,off,none⟩) n cap∧n≤cap∧Lies g w cs b off u:=by
 cases h<;>simp [slv] at ha
 case nils=>exact .inl ⟨none,rfl,by simp_all,by simp_all⟩
 case sl0=>exact .inl ⟨_,rfl,by simp_all,by simp_all⟩
 case tsl0=>exact .inl ⟨_,rfl,by simp_all,by simp_all⟩
 case sl f b off cap u h1 h2 h4 h5 h6 h7 =>
  obtain ⟨rfl,rfl⟩:=ha
  exact .inr ⟨b,off,cap,u,rfl,h1,h4,⟨⟨h5,h7⟩,fun v hv=>by obtain ⟨i,hi,rfl⟩:=List.getElem_of_mem hv;exact (h6 i _ (List.getElem?_eq_getElem hi)).2⟩,fun i v hv=>(h6 i v hv).1⟩
 case tsl τ b off cap u h1 h2 h4 h5 h6 h7 =>
  obtain ⟨rfl,rfl⟩:=ha
  exact .inr ⟨b,off,cap,u,rfl,h1,h4,⟨⟨h5,h7⟩,fun v hv=>by obtain ⟨i,hi,rfl⟩:=List.getElem_of_mem hv;exact (h6 i _ (List.getElem?_eq_getElem hi)).2⟩,fun i v hv=>(h6 i v hv).1⟩
theorem Rel.qm {g:Gh} {w:World} {n:Nat} {cs:List AV} {b off cap m:Nat} (h:Rel g w (.sl true n cs) (.slice (some ⟨b,off,none⟩) m cap)):cap=n:=by
 cases h with
 | sl0=>rfl
 | sl f n cs b off cap u h1 h2=>exact h2 rfl
theorem Rel.lL {g:Gh} {w:World} {τ n:Nat} {cs:List AV} {v:Value} (h:Rel g w (.tsl τ n cs) v):g.tip τ n=some v:=by
 cases h with
 | tsl0 _ _ h=>exact h
 | tsl τ n cs b off cap u h1 h2=>exact h2
theorem Rel.one {g:Gh} {w:World} {a:AV} {v:Value} (h:Rel g w a v) (ha:a.one=true):v.oneCell'=true:=by
 cases h<;>first|rfl|(simp [AV.one] at ha)
def AV.fits:AV→Bool
 | .agg _=>true
 | a=>a.one
theorem Rel.cells {g:Gh} {w:World} {a:AV} {v:Value} (h:Rel g w a v) (ha:a.fits=true):RelC g w a.cells v.cells.toList:=by
 by_cases hag:∃ cs,a= .agg cs
 ·obtain ⟨cs,rfl⟩:=hag
  obtain ⟨u,rfl,hu⟩:=h.dt
  simpa [AV.cells,Value.cells] using hu
 ·have h1:a.one=true:=by cases a<;>first|exact ha|exact (hag ⟨_,rfl⟩).elim
  have h2:a.cells= [a]:=by cases a<;>first|rfl|exact (hag ⟨_,rfl⟩).elim
  have h3:=h.one h1
  have h4:v.cells.toList= [v]:=by cases v<;>first|rfl|(simp [Value.oneCell'] at h3)
  rw [h2,h4]
  exact ⟨.cons h .nil,fun x hx=>by simp at hx;subst hx;exact h3⟩
theorem ax2 {a b:Prop} (xa:a) (xb:b):a∧b:=⟨xa,xb⟩
theorem ax3 {a b c:Prop} (xa:a) (xb:b) (xc:c):a∧b∧c:=⟨xa,xb,xc⟩
theorem ax5 {a b c d e:Prop} (xa:a) (xb:b) (xc:c) (xd:d) (xe:e):a∧b∧c∧d∧e:=⟨xa,xb,xc,xd,xe⟩
theorem ax6 {a b c d e f:Prop} (xa:a) (xb:b) (xc:c) (xd:d) (xe:e) (xf:f):a∧b∧c∧d∧e∧f:=⟨xa,xb,xc,xd,xe,xf⟩
theorem ax7 {a b c d e f g:Prop} (xa:a) (xb:b) (xc:c) (xd:d) (xe:e) (xf:f) (xg:g):a∧b∧c∧d∧e∧f∧g:=⟨xa,xb,xc,xd,xe,xf,xg⟩
theorem ax8 {a b c d e f g h:Prop} (xa:a) (xb:b) (xc:c) (xd:d) (xe:e) (xf:f) (xg:g) (xh:h):a∧b∧c∧d∧e∧f∧g∧h:=⟨xa,xb,xc,xd,xe,xf,xg,xh⟩
theorem jc {a b c d e f g h i j:Prop} (xa:a) (xb:b) (xc:c) (xd:d) (xe:e) (xf:f) (xg:g) (xh:h) (xi:i) (xj:j):a∧b∧c∧d∧e∧f∧g∧h∧i∧j:=⟨xa,xb,xc,xd,xe,xf,xg,xh,xi,xj⟩
theorem LQ {a b c d e f g h i j k:Prop} (xa:a) (xb:b) (xc:c) (xd:d) (xe:e) (xf:f) (xg:g) (xh:h) (xi:i) (xj:j) (xk:k):a∧b∧c∧d∧e∧f∧g∧h∧i∧j∧k:=⟨xa,xb,xc,xd,xe,xf,xg,xh,xi,xj,xk⟩
theorem LR {a b c d e f g h i j k l m:Prop} (xa:a) (xb:b) (xc:c) (xd:d) (xe:e) (xf:f) (xg:g) (xh:h) (xi:i) (xj:j) (xk:k) (xl:l) (xm:m):a∧b∧c∧d∧e∧f∧g∧h∧i∧j∧k∧l∧m:=⟨xa,xb,xc,xd,xe,xf,xg,xh,xi,xj,xk,xl,xm⟩
theorem JR {a b c d e f g h i j k l m n o:Prop} (xa:a) (xb:b) (xc:c) (xd:d) (xe:e) (xf:f) (xg:g) (xh:h) (xi:i) (xj:j) (xk:k) (xl:l) (xm:m) (xn:n) (xo:o):a∧b∧c∧d∧e∧f∧g∧h∧i∧j∧k∧l∧m∧n∧o:=⟨xa,xb,xc,xd,xe,xf,xg,xh,xi,xj,xk,xl,xm,xn,xo⟩
theorem Dy {a b c d e f g h i j k l m n o p:Prop} (xa:a) (xb:b) (xc:c) (xd:d) (xe:e) (xf:f) (xg:g) (xh:h) (xi:i) (xj:j) (xk:k) (xl:l) (xm:m) (xn:n) (xo:o) (xp:p):a∧b∧c∧d∧e∧f∧g∧h∧i∧j∧k∧l∧m∧n∧o∧p:=⟨xa,xb,xc,xd,xe,xf,xg,xh,xi,xj,xk,xl,xm,xn,xo,xp⟩
abbrev Fr:=List (Nat × AV)
def slot (t:Nat):Fr→AV
 | []=> .junk
 | (s,v)::r=>if t=s then v else slot t r
inductive LO where
 | loop (r:Loop)
 | map (l:List (Int × Bool × Nat)) (c:Nat)
def LO.obj:LO→Obj
 | .loop r=> .loop r
 | .map l c=> .map (l.map fun e=>{ key:= .int .u64 e.1,val:= .bool e.2.1,born:=e.2.2:MapEntry }).toArray c
def LO.tmps:LO→Array Value
 | .loop r=>r.tmps
 | .map _ _=> #[]
instance:Coe Loop LO:=⟨.loop⟩
theorem LO.gW (x:LO) {vs:Array Value} {T:TypeId} {q:Nat × Nat}:some (Obj.cells vs T q)≠some x.obj:=by cases x<;>simp [LO.obj]
theorem LO.yZ (x:LO) {d:Option (List Deferred)}:some (Obj.deferred d)≠some x.obj:=by cases x<;>simp [LO.obj]
structure St where
 box:Nat→Option (List AV)
 tip:Nat→Option (Nat × Nat × Nat)
 glob:Nat→Option (List AV)
 lp:Nat→Option (LO × Fr)
 bt:Nat→Option Nat
def upd {α:Type} (f:Nat→Option α) (k:Nat) (v:α):Nat→Option α:=fun j=>if j=k then some v else f j
def St.au (σ:St) (L:Nat) (x:LO × Fr):St:={ σ with lp:=upd σ.lp L x }
def St.dropLp (σ:St) (L:Nat):St:={ σ with lp:=fun j=>if j=L then none else σ.lp j }
def dZ (n:Int):List (Int × Bool × Nat)→Nat→Option (Nat × Bool)
 | [],_=>none
 | e::r,i=>if e.1=n then some (i,e.2.1) else dZ n r (i+1)
def iI (l:List (Int × Bool × Nat)) (n:Int):Bool:=match dZ n l 0 with
 | some p=>p.2
 | none=>false
def iJ (l:List (Int × Bool × Nat)) (c:Nat) (n:Int) (v:Bool):List (Int × Bool × Nat) × Nat:=match dZ n l 0 with
 | some p=>(l.modify p.1 (fun e=>(n,v,e.2.2)),c)
 | none=>(l++ [(n,v,c)],c+1)
def vb (v:Value):Prop:=∃ a n cap,v= .slice a n cap∧n<cap
def o8 (w:World) (b:Nat):Prop:=∀ cur T q,w.heap[b]? =some (.cells cur T q)→∀ v∈cur.toList,v.oneCell'=true
theorem o8.same {w w':World} {b:Nat} (h:o8 w b) (e:w'.heap[b]? =w.heap[b]?):o8 w' b:=fun cur T q hh=>h cur T q (by rw [←e];exact hh)
def Held (n:Nat) (v:Value):Prop:=vb v∨n≠0
def TipOk (g:Gh) (w:World) (e s n:Nat) (v:Value):Prop :=
 Held n v→∃ xs,w.ownsRow 0 e s v n xs∧∀ b,v.ownBlock=some b→g.cl b=some (n*s)∧(∀ β,g.box β≠some b)∧o8 w b
structure GlobOk (g:Gh) (w:World) (k:Nat) (cs:List AV):Prop where
 rel:Rel g w (.el cs) (.pointer (some ⟨k,0,none⟩))
 cl:g.cl k=none
 row:∃ vs T q,w.heap[k]? =some (.cells vs T q)∧vs.size=cs.length
theorem GlobOk.mono {g g':Gh} {w w':World} {k:Nat} {cs:List AV} (h:GlobOk g w k cs) (he:Ext g w g' w'):GlobOk g' w' k cs:=by
 obtain ⟨vs,T,q,hv,hl⟩:=h.row
 have hk:k<w.heap.size:=(Array.getElem?_eq_some_iff.1 hv).1
 obtain ⟨h1,h2⟩:=he.cln k hk h.cl
 exact ⟨h.rel.mono he,h1,vs,T,q,by rw [h2];exact hv,hl⟩
structure Inv (g:Gh) (σ:St) (w:World):Prop where
 box:∀ β cs,σ.box β=some cs→∃ b vs T,g.box β=some b∧w.heap[b]? =some (.cells vs T (0,0))∧RelC g w cs vs.toList
 boxcl:∀ β b,g.box β=some b→b<w.heap.size∧(σ.box β≠none→g.cl b=some 0)
 boxinj:∀ β β' b,g.box β=some b→g.box β'=some b→β=β'
 boxfresh:∀ β,g.nb≤β→g.box β=none
 tip:∀ τ e s n,σ.tip τ=some (e,s,n)→∃ v,g.tip τ n=some v∧TipOk g w e s n v∧(∀ n',n<n'→g.tip τ n'=none)
 tipinj:∀ τ τ' x x' v v' b,σ.tip τ=some x→σ.tip τ'=some x'→τ≠τ'→g.tip τ x.2.2=some v→g.tip τ' x'.2.2=some v'→Held x.2.2 v→Held x'.2.2 v'→v.ownBlock=some b→v'.ownBlock≠some b
 tipfresh:∀ τ n,g.nt≤τ→g.tip τ n=none
 glob:∀ k cs,σ.glob k=some cs→GlobOk g w k cs
 lp:∀ l r,σ.lp l=some r→w.heap[l]? =some r.1.obj∧g.cl l=some 0∧∀ t,Rel g w (slot t r.2) (r.1.tmps.getD t undef)
 bty:∀ β T,σ.bt β=some T→∃ b vs,g.box β=some b∧w.heap[b]? =some (.cells vs T (0,0))
inductive Od where
 | t (t:Nat)
 | c (v:AV)
 | g (k:Nat)
 | f (f:Nat)
def ev (σ:St) (fr:Fr):Od→AV
  | .t t=>slot t fr
  | .c v=>v
  | .g k => match σ.glob k with
    | some cs=> .el cs
    | none=> .junk
  | .f f=> .fn f []
inductive CO where
 | mv (x:Od)
 | pick (c a b:Od)
 | un (op:UnOp) (x:Od)
 | bin (op:BinOp) (x y:Od)
 | eqb (neg:Bool) (x y:Od)
 | eqA (neg:Bool) (ks:List Nat) (x y:Od)
 | isnil (kind:Nat) (neg:Bool) (x:Od)
 | cnv (k:IntKind) (x:Od)
 | b2s (x:Od)
 | b2sP (x:Od)
 | slcP (n es:Nat) (x:Od)
 | s2b (x:Od)
 | ixQ (es:Nat) (x i:Od)
 | lenP (x:Od)
 | mkP (es bytes:Nat) (z:List AV) (x:Od)
 | len (x:Od)
 | lenS (x:Od)
 | fld (off:Nat) (sz:Option Nat) (x:Od)
 | fldA (off:Nat) (x:Od)
 | ixA (es:Nat) (x i:Od)
 | ixP (n es:Nat) (x i:Od)
 | ixS (x i:Od)
 | ixV (n es:Nat) (sz:Option Nat) (x i:Od)
 | ld (sz:Option Nat) (p:Od)
 | slc (es:Nat) (x:Od) (lo hi mx:Option Od)
 | slcS (x:Od) (lo hi:Option Od)
 | bld (zero:List AV) (parts:List (Nat × Nat × Od))
 | mkSl (es n:Nat) (zero:List AV) (parts:List (Nat × Nat × Od))
 | mkI (t:Nat) (x:Od)
 | mkF (f:Nat) (caps:List Od)
 | ext (x:Od) (i:Nat)
 | nilc (x:Od)
 | mm (isMax:Bool) (x y:Od)
 | app (tp:Bool) (e es bytes:Nat) (x y:Od)
 | alloc (cells:List AV)
 | allocT (T:Nat) (cells:List AV)
 | appS (e bytes:Nat) (x y:Od)
 | appR (e es bytes:Nat) (x y:Od)
 | mkT (e es n:Nat) (zero:List AV) (parts:List (Nat × Nat × Od))
 | ldE (sz:Option Nat) (p:Od)
 | asT (ts ns:List Nat) (keep:Bool) (z:AV) (x:Od)
 | box (n:Nat) (x:Od)
 | st (n:Nat) (p x:Od)
 | call (f:Nat) (args:List Od)
 | callv (x:Od) (args:List Od)
 | invk (tbl:List (Nat × Nat)) (x:Od) (args:List Od)
 | mkM
 | mgt (x k:Od)
 | mst (x k v:Od)
 | bad
structure CI where
 d:Option Nat
 op:CO
 gd:Option (Nat × Bool)
mutual
def cB:Value→AV→Bool
 | .bool a, .bool b=>a == b
 | .int k n, .int k' n'=>k == k'&&n == n'
 | .string s, .str l=>s.data.toList == l
 | .slice none 0 0, .nils=>true
 | .pointer none, .nilp=>true
 | .nilIface, .nili=>true
 | .nilFunc, .nilf=>true
 | .agg ⟨vs⟩, .agg cs=>cBL vs cs
 | _,_=>false
def cBL:List Value→List AV→Bool
 | [],[]=>true
 | v::vs,c::cs=>c.one&&cB v c&&cBL vs cs
 | _,_=>false
end
theorem lZ (s:ByteArray):(⟨s.data.toList.toArray⟩:ByteArray)=s:=by cases s;simp
mutual
theorem sX (g:Gh) (w:World):∀ (v:Value) (a:AV),cB v a=true→Rel g w a v
 | .bool a, .bool b,h=>by simp [cB] at h;subst h;exact .bool _
 | .int k n, .int k' n',h=>by simp [cB] at h;obtain ⟨rfl,rfl⟩:=h;exact .int _ _
 | .string s, .str l,h=>by simp [cB] at h;subst h;have:=Rel.str (g:=g) (w:=w) s.data.toList;rwa [lZ] at this
 | .slice none 0 0, .nils,_=> .nils
 | .pointer none, .nilp,_=> .nilp
 | .nilIface, .nili,_=> .nili
 | .nilFunc, .nilf,_=> .nilf
 | .agg ⟨vs⟩, .agg cs,h=> .gV (fb g w vs cs (by simpa [cB] using h))
theorem fb (g:Gh) (w:World):∀ (vs:List Value) (cs:List AV),cBL vs cs=true→RelC g w cs vs
  | [],[],_=> .nil
  | v :: vs, c :: cs, h => by
    simp [cBL] at h
    have h1:=sX g w v c h.1.2
    have h2:=fb g w vs cs h.2
    exact ⟨.cons h1 h2.1,fun x hx=>(List.mem_cons.1 hx).elim (fun e=>e ▸ h1.one h.1.1) (h2.2 x)⟩
end
def odB:Operand→Od→Bool
 | .tmp a, .t b=>a == b
 | .const v, .c a=>cB v a
 | .global k, .g k'=>k == k'
 | .func f, .f f'=>f == f'
 | _,_=>false
def ke:List Operand→List Od→Bool
 | [],[]=>true
 | x::xs,y::ys=>odB x y&&ke xs ys
 | _,_=>false
def o9:Option Operand→Option Od→Bool
 | none,none=>true
 | some x,some y=>odB x y
 | _,_=>false
def RelF (g:Gh) (w:World) (fr:Fr) (tmps:Array Value):Prop:=∀ t,Rel g w (slot t fr) (tmps.getD t undef)
section
variable {g:Gh} {σ:St} {w:World} {fr:Fr} {a:Act}
theorem _root_.OF {p:Prop} (h:p:=by simp):p:=h
theorem dC (hI:Inv g σ w) (hF:RelF g w fr a.tmps) {x:Operand} {y:Od} (h:odB x y=true):Rel g w (ev σ fr y) (a.eval x):=by
 cases x<;>cases y<;>simp [odB] at h
 ·subst h;exact hF _
 ·exact sX g w _ _ h
 ·subst h
  simp only [ev,Act.eval]
  split
  ·rename_i cs hc;exact (hI.glob _ _ hc).rel
  ·exact .junk _
 ·subst h;exact .fn _ [] [] rfl OF
end
def fP (op:BinOp) (k:IntKind) (a b:Int):AV :=
 match op with
 | .add=> .int k (k.wrap (a+b))
 | .sub=> .int k (k.wrap (a - b))
 | .mul=> .int k (k.wrap (a*b))
 | .quo=> .int k (k.wrap (a.tdiv b))
 | .rem=> .int k (a.tmod b)
 | .and=> .int k (bits .and k a b)
 | .or=> .int k (bits .or k a b)
 | .xor=> .int k (bits .xor k a b)
 | .andNot=> .int k (bits .andNot k a b)
 | .shl=> .int k (k.wrap (a*2^min b.toNat k.bits))
 | .shr=> .int k (a.fdiv (2^min b.toNat k.bits))
 | .eql=> .bool (a == b)
 | .neq=> .bool (a != b)
 | .lss=> .bool (decide (a<b))
 | .leq=> .bool (decide (a≤b))
 | .gtr=> .bool (decide (b<a))
 | .geq=> .bool (decide (b≤a))
def qn (op:BinOp) (k k':IntKind) (b:Int):Prop :=
 match op with
 | .shl | .shr=>0≤b
 | .quo | .rem=>k=k'∧b≠0
 | _=>k=k'
def l5 (op:BinOp) (a b:List UInt8):AV :=
 match op with
 | .add=> .str (a++b)
 | .eql=> .bool (a == b)
 | .neq=> .bool (!(a == b))
 | .lss=> .bool (Op.bytesLess a b)
 | .leq=> .bool (Op.bytesLess a b||a == b)
 | .gtr=> .bool (!(Op.bytesLess a b||a == b))
 | .geq=> .bool (!(Op.bytesLess a b))
 | _=> .junk
def lv (op:BinOp) (a b:List UInt8):Prop :=
 match op with
 | .add=>a.length+b.length≤9223372036854775807
 | .eql | .neq | .lss | .leq | .gtr | .geq=>True
 | _=>False
def y1 (op:BinOp):AV→AV→AV
 | .int k a, .int _ b=>fP op k a b
 | .str a, .str b=>l5 op a b
 | _,_=> .junk
def vX (op:BinOp):AV→AV→Prop
 | .int k _, .int k' b=>qn op k k' b
 | .str a, .str b=>lv op a b
 | _,_=>False
def unV:UnOp→AV→AV
 | .not, .bool b=> .bool (!b)
 | .neg, .int k n=> .int k (k.wrap (0 - n))
 | .xor, .int k n=> .int k (bits .xor k (if k.signed then -1 else k.max) n)
 | _,_=> .junk
def unS:UnOp→AV→Prop
 | .not, .bool _=>True
 | .neg, .int _ _=>True
 | .xor, .int _ _=>True
 | _,_=>False
def gK:AV→AV→AV→AV
  | .bool c, a, b =>
    let pa:=match a with | .bool p=>p | .opt _ (.bool p)=>p|_=>false
    let pb:=match b with | .bool p=>p | .opt _ (.bool p)=>p|_=>false
    .bool (bif c then pa else pb)
  | _,_,_=> .junk
def l6 (c:Prop):AV→Prop
 | .bool _=>True
 | .opt d (.bool _)=>c→d=true
 | _=>c→False
def qo:AV→AV→AV→Prop
 | .bool c,a,b=>l6 (c=true) a∧l6 (c=false) b
 | _,_,_=>False
def ldV (cs:List AV) (o:Nat):Option Nat→AV
 | none=>(cs[o]?).getD .junk
 | some n=> .agg ((cs.drop o).take n)
def ldS (cs:List AV) (o:Nat):Option Nat→Prop
 | none=>o<cs.length
 | some n=>o+n≤cs.length
def cG (σ:St):AV→Option (List AV × Nat)
 | .ptr β off=>(σ.box β).map fun cs=>(cs,off)
 | .el cs=>some (cs,0)
 | _=>none
def byteOf:AV→UInt8
 | .int _ n=>UInt8.ofNat n.toNat
 | _=>0
def isByte:AV→Bool
 | .int .u8 _=>true
 | _=>false
def bm (ρ:Od→AV):List AV→List (Nat × Nat × Od)→List AV
 | z,[]=>z
 | z,(o,_,x)::r=>bm ρ (z.take o++(ρ x).cells++z.drop (o+(ρ x).cells.length)) r
def ed (ρ:Od→AV) (n:Nat):List (Nat × Nat × Od)→Prop
 | []=>True
 | (o,s,x)::r=>(ρ x).fits=true∧(ρ x).cells.length=s∧o+s≤n∧ed ρ n r
def aI:AV→Int
 | .int _ n=>n
 | _=>0
def cN:AV→Prop
 | .int _ _=>True
 | _=>False
def gk:Option AV→Prop
 | none=>True
 | some a=>cN a
def bnd (ρ:Od→AV) (d:Int):Option Od→Int
 | some y=>aI (ρ y)
 | none=>d
def sqV:Nat→AV→AV→Option Bool
 | 0, .int k a, .int k' b=>if k=k' then some (a == b) else none
 | 1, .str a, .str b=>some (a == b)
 | 2, .bool a, .bool b=>some (a == b)
 | _,_,_=>none
def sqL:List Nat→List AV→List AV→Option Bool
  | [],[],[]=>some true
  | k :: ks, a :: as, b :: bs => match sqV k a b, sqL ks as bs with
    | some p,some q=>some (p&&q)
    | _,_=>none
  | _,_,_=>none
def kO (t:Nat):List (Nat × Nat)→Option Nat
 | []=>none
 | p::r=>if t=p.1 then some p.2 else kO t r
theorem nR {t f:Nat}:∀ {l:List (Nat × Nat)},kO t l=some f→(t,f)∈l
  | [],h=>by cases h
  | p :: r, h => by
    simp only [kO] at h
    split at h
    · rename_i e;cases h;subst e;exact List.mem_cons_self
    · exact List.mem_cons_of_mem _ (nR h)
def iK (t:Nat):List Nat→Bool
 | []=>false
 | s::r=>if t=s then true else iK t r
theorem gX {t:Nat}:∀ {l:List Nat},iK t l=true↔t∈l
  | []=>by simp [iK]
  | s :: r => by
    simp only [iK]
    split
    · rename_i h;simp [h]
    · rename_i h;simp [h,gX (l:=r)]
def pf (σ:St) (ρ:Od→AV):CO→AV
  | .mv x=>ρ x
  | .pick c a b=>gK (ρ c) (ρ a) (ρ b)
  | .un op x=>unV op (ρ x)
  | .bin op x y=>y1 op (ρ x) (ρ y)
  | .eqA neg ks x y => match ρ x, ρ y with
    | .agg as, .agg bs => match sqL ks as bs with
      | some q=> .bool (bif neg then !q else q)
      | none=> .junk
    | _,_=> .junk
  | .eqb neg x y => match ρ x, ρ y with
    | .bool a, .bool b=> .bool (bif neg then !(a == b) else a == b)
    | _,_=> .junk
  | .cnv k x => match ρ x with
    | .int _ n=> .int k (k.wrap n)
    | _=> .junk
  | .b2s x => match slv (ρ x) with
    | some (_,cs)=> .str (cs.map byteOf)
    | none=> .junk
  | .lenS x => match ρ x with
    | .str l=> .int .i64 l.length
    | _=> .junk
  | .b2sP x => match ρ x with
    | .psl β o n => match σ.box β with
      | some cs=> .str (((cs.drop o).take n).map byteOf)
      | none=> .junk
    | _=> .junk
  | .slcP n _ x => match ρ x with
    | .ptr β o=> .psl β o n
    | _=> .junk
  | .s2b x => match ρ x with
    | .str l=> .sl false l.length (l.map fun b=> .int .u8 b.toNat)
    | _=> .junk
  | .ixQ es x i => match ρ x with
    | .psl β o _=> .ptr β (o+(aI (ρ i)).toNat*es)
    | .row β _ _ _=> .ptr β ((aI (ρ i)).toNat*es)
    | a => match slv a with
      | some (_,cs)=> .el ((cs.drop ((aI (ρ i)).toNat*es)).take es)
      | none=> .junk
  | .lenP x => match ρ x with
    | .psl _ _ n=> .int .i64 n
    | .row _ _ _ n=> .int .i64 n
    | a => match slv a with
      | some (n,_)=> .int .i64 n
      | none=> .junk
  | .len x => match slv (ρ x) with
    | some (n,_)=> .int .i64 n
    | none=> .junk
  | .fld off sz x => match ρ x with
    | .agg cs=>ldV cs off sz
    | _=> .junk
  | .fldA off x => match ρ x with
    | .ptr β o=> .ptr β (o+off)
    | .el cs=> .el (cs.drop off)
    | _=> .junk
  | .ixA es x i => match slv (ρ x) with
    | some (_,cs)=> .el ((cs.drop ((aI (ρ i)).toNat*es)).take es)
    | none=> .junk
  | .ixP _ es x i => match ρ x with
    | .ptr β o=> .ptr β (o+(aI (ρ i)).toNat*es)
    | .el cs=> .el (cs.drop ((aI (ρ i)).toNat*es))
    | _=> .junk
  | .ixS x i => match ρ x with
    | .str l=> .int .u8 ((l[(aI (ρ i)).toNat]?).getD 0).toNat
    | _=> .junk
  | .ixV _ es sz x i => match ρ x with
    | .agg cs=>ldV cs ((aI (ρ i)).toNat*es) sz
    | _=> .junk
  | .ld sz p => match cG     σ (ρ p) with
    | some (cs,o)=>ldV cs o sz
    | none=> .junk
  | .slc es x lo hi mx => match slv (ρ x) with
    | some (n, cs) =>
      .sl mx.isSome ((bnd ρ n hi).toNat - (bnd ρ 0 lo).toNat) ((cs.drop ((bnd ρ 0 lo).toNat*es)).take (((bnd ρ n hi).toNat - (bnd ρ 0 lo).toNat)*es))
    | none=> .junk
  | .slcS x lo hi => match ρ x with
    | .str s =>
      .str ((s.drop (bnd ρ 0 lo).toNat).take ((bnd ρ s.length hi).toNat - (bnd ρ 0 lo).toNat))
    | _=> .junk
  | .bld z ps=> .agg (bm ρ z ps)
  | .mkSl _ n z ps=> .sl true n (bm ρ z ps)
  | .mkI t x=> .ifc t (ρ x)
  | .mkF f caps=> .fn f (caps.map ρ)
  | .ext x i => match ρ x with
    | .tup cs=>(cs[i]?).getD .junk
    | _=> .junk
  | .nilc x=>ρ x
  | .ldE sz p => match ρ p with
    | .el cs=>ldV cs 0 sz
    | _=> .junk
  | .asT ts _ keep z x => match ρ x with
    | .ifc t v=> .tup [bif iK t ts then (bif keep then .ifc t v else v) else z, .bool (iK t ts)]
    | _=> .junk
  | .mm mx x y => match ρ x, ρ y with
    | .int k a, .int _ b=> .int k (if mx then (if b>a then b else a) else (if b<a then b else a))
    | _,_=> .junk
  | .app _ _ _ _ x y => match slv (ρ x), slv (ρ y) with
    | some (n,cs),some (m,ds)=> .sl false (n+m) (cs++ds)
    | _,_=> .junk
  | _=> .junk
def fresh:AV→Prop
 | .nils=>True
 | .sl true 0 []=>True
 | _=>False
theorem nS {a:AV} (h:fresh a):a= .nils∨a= .sl true 0 []:=by
 unfold fresh at h
 split at h
 ·exact .inl rfl
 ·exact .inr rfl
 ·exact h.elim
def ps (σ:St) (ρ:Od→AV):CO→Prop
  | .mv _=>True
  | .pick c a b=>qo (ρ c) (ρ a) (ρ b)
  | .un op x=>unS op (ρ x)
  | .bin op x y=>vX op (ρ x) (ρ y)
  | .eqA _ ks x y => match ρ x, ρ y with
    | .agg as, .agg bs=>(sqL ks as bs).isSome=true
    | _,_=>False
  | .eqb _ x y => match ρ x, ρ y with
    | .bool _, .bool _=>True
    | _,_=>False
  | .cnv _ x=>cN (ρ x)
  | .b2s x => match slv (ρ x) with
    | some (n,cs)=>n=cs.length∧cs.all isByte=true
    | none=>False
  | .b2sP x => match ρ x with
    | .psl β o n => match σ.box β with
      | some cs=>o+n≤cs.length∧((cs.drop o).take n).all isByte=true
      | none=>False
    | _=>False
  | .slcP _ _ x => match ρ x with
    | .ptr _ _=>True
    | _=>False
  | .s2b x => match ρ x with
    | .str _=>True
    | _=>False
  | .ixQ es x i => cN     (ρ i) ∧ match ρ x with
    | .psl _ _ n=>0≤aI (ρ i)∧aI (ρ i)<n
    | .row _ _ _ n=>0≤aI (ρ i)∧aI (ρ i)<n
    | a => match slv a with
      | some (n,cs)=>0≤aI (ρ i)∧aI (ρ i)<n∧(aI (ρ i)).toNat*es+es≤cs.length
      | none=>False
  | .lenP x => match ρ x with
    | .psl _ _ _=>True
    | .row _ _ _ _=>True
    | a=>(slv a).isSome=true
  | .lenS x => match ρ x with
    | .str _=>True
    | _=>False
  | .len x=>(slv (ρ x)).isSome=true
  | .fld off sz x => match ρ x with
    | .agg cs=>ldS cs off sz
    | _=>False
  | .fldA off x => match ρ x with
    | .ptr _ _=>True
    | .el cs=>off≤cs.length
    | _=>False
  | .ixA es x i => cN     (ρ i) ∧ match slv (ρ x) with
    | some (n,cs)=>0≤aI (ρ i)∧aI (ρ i)<n∧(aI (ρ i)).toNat*es+es≤cs.length
    | none=>False
  | .ixP n es x i => cN     (ρ i) ∧ 0 ≤ aI     (ρ i) ∧ aI     (ρ i) < n ∧ match ρ x with
    | .ptr _ _=>True
    | .el cs=>(aI (ρ i)).toNat*es≤cs.length
    | _=>False
  | .ixS x i => cN     (ρ i) ∧ match ρ x with
    | .str l=>0≤aI (ρ i)∧aI (ρ i)<l.length
    | _=>False
  | .ixV n es sz x i => cN     (ρ i) ∧ match ρ x with
    | .agg cs=>0≤aI (ρ i)∧aI (ρ i)<n∧ldS cs ((aI (ρ i)).toNat*es) sz
    | _=>False
  | .ldE sz p => match ρ p with
    | .el cs=>ldS cs 0 sz
    | _=>False
  | .asT ts ns _ _ x => match ρ x with
    | .ifc t _=>(iK t ts||iK t ns)=true
    | _=>False
  | .ld sz p => match cG     σ (ρ p) with
    | some (cs,o)=>ldS cs o sz
    | none=>False
  | .slc es x lo hi mx => gk     (lo.map ρ) ∧ gk     (hi.map ρ) ∧ gk     (mx.map ρ) ∧ match slv (ρ x) with
    | some (n, cs) =>
      0≤bnd ρ 0 lo∧bnd ρ 0 lo≤bnd ρ n hi∧bnd ρ n hi≤n∧n*es=cs.length∧(match mx,hi with|some m,some y=>aI (ρ m)=aI (ρ y)|some _,none=>False|none,_=>True)
    | none=>False
  | .slcS x lo hi => gk     (lo.map ρ) ∧ gk     (hi.map ρ) ∧ match ρ x with
    | .str s =>
      0≤bnd ρ 0 lo∧bnd ρ 0 lo≤bnd ρ s.length hi∧bnd ρ s.length hi≤s.length
    | _=>False
  | .bld z ps=>ed ρ z.length ps
  | .mkSl es n z ps=>ed ρ z.length ps∧z.length=n*es
  | .mkI _ _=>True
  | .mkF _ _=>True
  | .ext x i => match ρ x with
    | .tup cs=>i<cs.length
    | _=>False
  | .nilc x => match ρ x with
    | .ptr _ _=>True
    | .el _=>True
    | _=>False
  | .mm _ x y => match ρ x, ρ y with
    | .int _ _, .int _ _=>True
    | _,_=>False
  | .app _ _ es bytes x y => fresh (ρ x) ∧ match slv (ρ x), slv (ρ y) with
    | some (n,cs),some (m,ds)=>cs.length=n*es∧ds.length=m*es∧n+m≤maxLen∧(n+m)*bytes≤140737488355328
    | _,_=>False
  | _=>False
end Go.Abs
