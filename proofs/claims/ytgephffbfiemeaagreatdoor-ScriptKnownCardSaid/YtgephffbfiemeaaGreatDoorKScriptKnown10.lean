/- Part 10 of the proof of ScriptKnown: an abstract semantics that is proved sound for the model, contracts of functions in it, and plain facts (Abs9f). No condition. -/
import Derived.Test.YtgephffbfiemeaaGreatDoorKScriptKnown9
import Derived.OrdersIn
set_option linter.all false
namespace Go.Abs
theorem qE {P:Program}:∀ (l:List CI) (cs:List Nat) (k:Nat) (fr:Fr) (σ:St) (K:Fr→St→Prop),aF P l cs fr σ K→(∀ β,k≤β→σ.box β=none)→(∀ β,k≤β→σ.tip β=none) →
    ∃ (FR:Nat→Fr) (SG:Nat→St) (V:Nat→AV),FR 0=fr∧SG 0=σ∧(∀ j i c,l[j]? =some i→cs[j]? =some c→dStep P c (k+j) i (FR j) (SG j) (V j) (SG (j+1))∧FR (j+1)=putF i.d (V j) (FR j)∧(SG j).box (k+j)=none)∧K (FR l.length) (SG l.length)
  | [],cs,k,fr,σ,K,h,_,_=>by simp only [aF] at h;exact ⟨fun _=>fr,fun _=>σ,fun _=> .junk,rfl,rfl,by simp,h⟩
  | i::l,[],_,_,_,_,h,_,_=>by simp only [aF] at h
  | i :: l, c :: cs, k, fr, σ, K, h, hb, ht => by
    have:∃ v σ',dStep P c k i fr σ v σ'∧aF P l cs (putF i.d v fr) σ' K:=by
      simp only [aF] at h
      cases hm:aJ i.op with
      | true=>rw [hm] at h;exact h k (hb k (Nat.le_refl _))
      | false =>
        rw [hm] at h
        simp only [cond_false] at h
        cases hm2:aM c i.op with
        | true=>rw [hm2] at h;exact h k (ht k (Nat.le_refl _))
        | false=>rw [hm2] at h;obtain ⟨v,σ',h1,h2⟩:=h;exact ⟨v,σ',s9 hm hm2 k h1,h2⟩
    obtain ⟨v,σ',h1,h2⟩:=this
    obtain ⟨FR,SG,V,q1,q2,q3,q4⟩:=qE l cs (k+1) _ σ' K h2 (fun β hβ=>(jf h1).2.1 β Oz (hb β Oz)) (fun β hβ=>(jf h1).2.2 β Oz (ht β Oz))
    refine ⟨fun|0=>fr|j+1=>FR j,fun|0=>σ|j+1=>SG j,fun|0=>v|j+1=>V j,rfl,rfl,?_,q4⟩
    intro j i' c' hi hc
    cases j with
    | zero =>
      simp at hi hc;subst hi;subst hc
      exact ⟨by simp only [q2,Nat.add_zero];exact h1,q1,hb _ Oz⟩
    | succ j =>
      simp at hi hc
      have:=q3 j i' c' hi hc
      rw [show k+(j+1)=k+1+j by omega]
      exact this
section
variable (n:Nat) (D:Nat→Option Nat) (Cl:Nat→Nat) (Rd B:Nat→List Nat) (L:Nat→Bool)
structure DFacts:Prop where
 f1:∀ i j,i<j→j<n→2≤Cl i→Cl j≠0→¬ (Cl i=4∧Cl j=1∧L j=true)→i∈B j
 f2:∀ i j,i<j→j<n→Cl i≠0→(Cl j=2∨Cl j=4)→¬ (Cl j=4∧Cl i=1∧L i=true)→i∈B j
 f3:∀ i j t,i<j→j<n→D i=some t→t∈Rd j→i∈B j
 f4:∀ i j t,i<j→j<n→D j=some t→t∈Rd i→i∈B j
 f5:∀ i j t,i<j→j<n→D i=some t→D j≠some t
structure DRun (P:Program) (I:Nat→CI) (k:Nat) (FR:Nat→Fr) (SG:Nat→St) (V:Nat→AV):Prop where
 step:∀ j,j<n→dStep P (Cl j) (k+j) (I j) (FR j) (SG j) (V j) (SG (j+1))
 frame:∀ j,j<n→FR (j+1)=putF (I j).d (V j) (FR j)
 d:∀ j,j<n→(I j).d=D j
 new:∀ j,j<n→(SG j).box (k+j)=none
 rd:∀ j,j<n→readsOf (I j)=Rd j
 ld:∀ j,j<n→L j=isLd (I j).op
structure DMid (k:Nat) (g0:Gh) (w0:World) (ds:List Deferred) (fr:Fr) (SG:Nat→St) (V:Nat→AV) (N:Nat) (S:Nat→Bool) (g:Gh) (fs:Fr) (m:Nat) (a:Act) (w:World):Prop where
 ext:Ext g0 w0 g w
 nb0:g0.nb=k
 nb:k+n≤g.nb
 nt0:g0.nt=k
 nt:k+n≤g.nt
 le:m≤n
 inv:Inv g (SG m) w
 eff:∀ j,j<n→2≤Cl j→(S j=true↔j<m)
 pend:∀ j,j<n→S j=false→g.box (k+j)=none
 tpend:∀ j,j<n→S j=false→∀ n',g.tip (k+j) n'=none
 rel:RelF g w fs a.tmps
 done:∀ j t,j<n→D j=some t→S j=true→slot t fs=V j
 rest:∀ t,(∀ j,j<n→S j=true→D j≠some t)→slot t fs=slot t fr
 size:a.tmps.size=N
 defers:a.defers=ds
 closed:∀ j i,j<n→S j=true→i∈B j→S i=true
end
section
variable {n:Nat} {D:Nat→Option Nat} {Cl:Nat→Nat} {Rd B:Nat→List Nat} {L:Nat→Bool} {P:Program} {I:Nat→CI} {k N:Nat} {FR:Nat→Fr} {SG:Nat→St} {V:Nat→AV} {g0 g:Gh} {w0 w:World} {S:Nat→Bool} {fs:Fr} {m:Nat} {a:Act} {ds:List Deferred}
theorem DRun.n6 (hr:DRun n D Cl Rd L P I k FR SG V) {t:Nat}:∀ j,j≤n→(∀ i,i<j→D i≠some t)→slot t (FR j)=slot t (FR 0):=by
  intro j
  induction j with
  | zero=>intros;rfl
  | succ j ih =>
    intro hj hd
    rw [hr.frame j Oz]
    have h1:=hd j Oz
    rw [←hr.d j Oz] at h1
    have:=ih Oz (fun i hi=>hd i Oz)
    cases hq:(I j).d with
    | none=>exact this
    | some d =>
      rw [hq] at h1
      simp only [putF,slot]
      rw [if_neg]
      · exact this
      · rintro rfl;exact h1 rfl
theorem DRun.n7 (hf:DFacts n D Cl Rd B L) (hr:DRun n D Cl Rd L P I k FR SG V) {t i:Nat} (hi:D i=some t):∀ j,j≤n→i<j→slot t (FR j)=V i:=by
  intro j
  induction j with
  | zero=>intro _ h;omega
  | succ j ih =>
    intro hj hij
    rw [hr.frame j Oz,hr.d j Oz]
    by_cases he:i=j
    · subst he
      rw [hi]
      simp [putF,slot]
    · have:=ih Oz Oz
      have h1:=hf.f5 i j t Oz Oz hi
      cases hq:D j with
      | none=>exact this
      | some d =>
        rw [hq] at h1
        simp only [putF,slot]
        rw [if_neg]
        · exact this
        · rintro rfl;exact h1 rfl
theorem DRun.glob (hr:DRun n D Cl Rd L P I k FR SG V):∀ j,j≤n→(SG j).glob=(SG 0).glob:=by
 intro j
 induction j with
 | zero=>intros;rfl
 | succ j ih=>intro hj;rw [(jf (hr.step j Oz)).1];exact ih Oz
theorem DRun.const (hr:DRun n D Cl Rd L P I k FR SG V) {i:Nat}:∀ j,i≤j→j≤n→(∀ x,i≤x→x<j→Cl x<2)→SG j=SG i:=by
  intro j
  induction j with
  | zero => intro h _ _; have : i = 0 := by omega
            subst this;rfl
  | succ j ih =>
    intro h hj hx
    by_cases he:i=j+1
    · subst he;rfl
    · rw [fk (hr.step j Oz) (Nat.le_of_lt_succ (hx j Oz Oz))]
      exact ih Oz Oz (fun x h1 h2=>hx x h1 Oz)
theorem DMid.read (hf:DFacts n D Cl Rd B L) (hr:DRun n D Cl Rd L P I k FR SG V) {fr:Fr} (h0:FR 0=fr) (h:DMid n D Cl B k g0 w0 ds fr SG V N S g fs m a w) {j:Nat} (hj:j<n) (hS:S j=false) (hd:∀ i∈B j,S i=true) {t:Nat} (ht:t∈Rd j) :
  slot t fs=slot t (FR j):=by
 by_cases hex:∃ i,i<j∧D i=some t
 ·obtain ⟨i,hij,hi⟩:=hex
  rw [hr.n7 hf hi j Oz hij]
  exact h.done i t Oz hi (hd i (hf.f3 i j t hij hj hi ht))
 ·have hex':∀ i,i<j→D i≠some t:=fun i hi he=>hex ⟨i,hi,he⟩
  rw [hr.n6 j Oz hex',h0]
  refine h.rest t (fun i hi hSi he=>?_)
  rcases Nat.lt_trichotomy i j with hlt|rfl|hgt
  ·exact hex' i hlt he
  ·rw [hS] at hSi;cases hSi
  ·have:=h.closed i j hi hSi (hf.f4 j i t hgt hi he ht)
   rw [hS] at this;cases this
theorem DRun.grow (hr:DRun n D Cl Rd L P I k FR SG V) {i:Nat}:∀ j,i≤j→j≤n→(∀ x,i≤x→x<j→Cl x≤1∨Cl x=3)→St.le (SG i) (SG j):=by
  intro j
  induction j with
  | zero => intro h _ _; have : i = 0 := by omega
            subst this;exact St.le_refl _
  | succ j ih =>
    intro h hj hx
    by_cases he:i=j+1
    · subst he;exact St.le_refl _
    · refine St.le_trans (ih Oz Oz (fun x h1 h2=>hx x h1 Oz)) ?_
      have hs:=hr.step j Oz
      rcases hx j Oz Oz with h3|h3
      · rw [fk hs h3];exact St.le_refl _
      · exact mh hs h3 (hr.new j Oz)
theorem DRun.Kf (hr:DRun n D Cl Rd L P I k FR SG V) {i:Nat}:∀ j,i≤j→j≤n→(∀ x,i≤x→x<j→Cl x≤1∨Cl x=3∨Cl x=4)→∀ β c,(SG i).box β=some c→(SG j).box β=some c:=by
  intro j
  induction j with
  | zero => intro h _ _; have : i = 0 := by omega
            subst this;exact fun _ _ h=>h
  | succ j ih =>
    intro h hj hx
    by_cases he:i=j+1
    · subst he;exact fun _ _ h=>h
    · intro β c hb
      have hb:=ih Oz Oz (fun x h1 h2=>hx x h1 Oz) β c hb
      have hs:=hr.step j Oz
      rcases hx j Oz Oz with h3|h3|h3
      · rw [fk hs h3];exact hb
      · exact (mh hs h3 (hr.new j Oz)).1 β c hb
      · rw [n3 hs h3];exact hb
theorem DRun.GR (hr:DRun n D Cl Rd L P I k FR SG V) {i:Nat}:∀ j,i≤j→j≤n→(∀ x,i≤x→x<j→Cl x≤1∨Cl x=4)→(SG j).box=(SG i).box:=by
  intro j
  induction j with
  | zero => intro h _ _; have : i = 0 := by omega
            subst this;rfl
  | succ j ih =>
    intro h hj hx
    by_cases he:i=j+1
    · subst he;rfl
    · have hb:=ih Oz Oz (fun x h1 h2=>hx x h1 Oz)
      have hs:=hr.step j Oz
      rcases hx j Oz Oz with h3|h3
      · rw [fk hs h3];exact hb
      · rw [n3 hs h3];exact hb
theorem DMid.state (hf:DFacts n D Cl Rd B L) (hr:DRun n D Cl Rd L P I k FR SG V) (hC:∀ j,j<n→Cl j≤4) {fr:Fr} (h:DMid n D Cl B k g0 w0 ds fr SG V N S g fs m a w) {j:Nat} (hj:j<n) (hS:S j=false) (hd:∀ i∈B j,S i=true) (hc:Cl j≠0) :
  (¬ (Cl j=1∧L j=true)→St.le (SG j) (SG m))∧(∀ β c,(SG j).box β=some c→(SG m).box β=some c)∧(2≤Cl j→SG m=SG j):=by
 have hm:=h.le
 rcases Nat.le_total m j with hmj|hjm
 ·have lo:∀ x,m≤x→x<j→Cl x<2∨(Cl x=4∧Cl j=1∧L j=true):=fun x h1 h2=>by
   rcases Nat.lt_or_ge (Cl x) 2 with h3|h3
   ·exact .inl h3
   ·by_cases hq:Cl x=4∧Cl j=1∧L j=true
    ·exact .inr hq
    ·have:=hd x (hf.f1 x j h2 hj h3 hc hq)
     have:=(h.eff x Oz h3).1 this
     omega
  have e:¬ (Cl j=1∧L j=true)→SG m=SG j:=fun hq=>(hr.const j hmj Oz (fun x h1 h2=>by
   rcases lo x h1 h2 with h3|h3
   ·exact h3
   ·exact (hq ⟨h3.2.1,h3.2.2⟩).elim)).symm
  have eb:=hr.GR j hmj Oz (fun x h1 h2=>by
   rcases lo x h1 h2 with h3|h3
   ·exact .inl Oz
   ·exact .inr h3.1)
  exact ⟨fun hq=>e hq ▸ St.le_refl _,fun β c hb=>by rw [←eb];exact hb,fun h2=>e Oz⟩
 ·have key:∀ x,j≤x→x<m→(Cl x=2∨(Cl x=4∧¬ (Cl j=1∧L j=true))∨(2≤Cl j∧2≤Cl x))→False:=by
   intro x h1 h2 h3
   have h4:2≤Cl x:=Oz
   have hSx:=(h.eff x Oz h4).2 h2
   by_cases he:x=j
   ·subst he;rw [hS] at hSx;cases hSx
   ·have hb:j∈B x:=by
     rcases h3 with h3|h3|⟨h3,h5⟩
     ·exact hf.f2 j x Oz Oz hc (.inl h3) Oz
     ·exact hf.f2 j x Oz Oz hc (.inr h3.1) (fun hq=>h3.2 hq.2)
     ·exact hf.f1 j x Oz Oz h3 Oz Oz
    have:=h.closed x j Oz hSx hb
    rw [hS] at this;cases this
  have all:∀ x,j≤x→x<m→Cl x≤1∨Cl x=3∨Cl x=4:=fun x h1 h2=>by
   have h3:=hC x Oz
   have h4:Cl x≠2:=fun h5=>key x h1 h2 (.inl h5)
   omega
  refine ⟨fun hq=>hr.grow m hjm hm (fun x h1 h2=>?_),hr.Kf m hjm hm all,fun h2=>hr.const m hjm hm (fun x h3 h4=>?_)⟩
  ·rcases all x h1 h2 with h3|h3|h3
   ·exact .inl h3
   ·exact .inr h3
   ·exact (key x h1 h2 (.inr (.inl ⟨h3,hq⟩))).elim
  ·rcases Nat.lt_or_ge (Cl x) 2 with h5|h5
   ·exact h5
   ·exact (key x h3 h4 (.inr (.inr ⟨h2,h5⟩))).elim
theorem DMid.next (hf:DFacts n D Cl Rd B L) (hr:DRun n D Cl Rd L P I k FR SG V) (hC:∀ j,j<n→Cl j≤4) {fr:Fr} (h:DMid n D Cl B k g0 w0 ds fr SG V N S g fs m a w) {j:Nat} (hj:j<n) (hS:S j=false) (hd:∀ i∈B j,S i=true) :
  dStep P (Cl j) (k+j) (I j) (FR j) (SG m) (V j) (SG (if 2≤Cl j then j+1 else m)):=by
 have hst:=hr.step j hj
 have hg:(SG m).glob=(SG j).glob:=(hr.glob m h.le).trans (hr.glob j Oz).symm
 by_cases h2:2≤Cl j
 ·rw [if_pos h2,(h.state hf hr hC hj hS hd Oz).2.2 h2];exact hst
 ·rw [if_neg h2]
  by_cases h0:Cl j=0
  ·rw [h0] at hst ⊢
   exact qB hst hg
  ·have hs:=h.state hf hr hC hj hS hd h0
   by_cases hL:L j=true
   ·exact zq (by rw [←hr.ld j hj];exact hL) hst hs.2.1 hg
   ·exact zo hst Oz (hs.1 (fun hq=>hL hq.2)) hg
theorem DMid.put (hf:DFacts n D Cl Rd B L) (hr:DRun n D Cl Rd L P I k FR SG V) {fr:Fr} (h:DMid n D Cl B k g0 w0 ds fr SG V N S g fs m a w) {j:Nat} (hj:j<n) (hS:S j=false) (hd:∀ i∈B j,S i=true)
    {u:Value} {g':Gh} {w':World} (hI:Inv g' (SG (if 2≤Cl j then j+1 else m)) w') (he:DExt k (k+j) g w g' w') (hu:Rel g' w' (V j) u) (hdN:∀ t,D j=some t→t<N) :
    DMid n D Cl B k g0 w0 ds fr SG V N (fun i=>if i=j then true else S i) g' (putF (D j) (V j) fs) (if 2≤Cl j then j+1 else m) (a.put (D j) u) w':=by
  have hrel:RelF g' w' fs a.tmps:=fun t=>((h.rel t).qs k k).mono he.ext
  refine ⟨?_,h.nb0,Nat.le_trans h.nb he.nb,h.nt0,Nat.le_trans h.nt he.nt,?_,hI,fun x hx h2=>?_,fun x hx hx2=>?_,fun x hx hx2=>?_,hrel.put (fun t ht=>by rw [h.size];exact hdN t ht) hu,fun x t hx h1 h2=>?_,fun t ht=>?_,?_,?_,fun x i hx h1 h2=>?_⟩
  · have:=h.ext.LV
    rw [h.nb0,h.nt0] at this
    exact this.trans he.ext
  · have:=h.le;split<;>omega
  · by_cases hc:2≤Cl j
    · rw [if_pos hc]
      constructor
      · intro hx1
        by_cases hxj:x=j
        · omega
        · rw [if_neg hxj] at hx1
          have hxm:=(h.eff x hx h2).1 hx1
          rcases Nat.lt_trichotomy x j with hlt|he'|hgt
          · omega
          · omega
          · have:=h.closed x j hx hx1 (hf.f1 j x hgt hx hc Oz Oz)
            rw [hS] at this;cases this
      · intro hx1
        by_cases hxj:x=j
        · rw [if_pos hxj]
        · rw [if_neg hxj];exact hd x (hf.f1 x j Oz hj h2 Oz Oz)
    · rw [if_neg hc]
      have hxj:x≠j:=by rintro rfl;exact hc h2
      rw [if_neg hxj];exact h.eff x hx h2
  · by_cases hxj:x=j
    · rw [if_pos hxj] at hx2;cases hx2
    · rw [if_neg hxj] at hx2
      have hnb:=h.nb
      rw [he.pend (k+x) Oz Oz]
      exact h.pend x hx hx2
  · by_cases hxj:x=j
    · rw [if_pos hxj] at hx2;cases hx2
    · rw [if_neg hxj] at hx2
      have hnt:=h.nt
      exact he.tpend (k+x) Oz Oz (h.tpend x hx hx2)
  · by_cases hxj:x=j
    · subst hxj;rw [h1];simp [putF,slot]
    · rw [if_neg hxj] at h2
      have h3:=h.done x t hx h1 h2
      have hne:D j≠some t:=by
        rcases Nat.lt_or_ge x j with hlt|hge
        · exact hf.f5 x j t hlt hj h1
        · intro he';exact hf.f5 j x t Oz hx he' h1
      cases hq:D j with
      | none=>exact h3
      | some d =>
        rw [hq] at hne
        simp only [putF,slot]
        rw [if_neg]
        · exact h3
        · rintro rfl;exact hne rfl
  · have h1:=ht j hj OF
    have h2:=h.rest t (fun i hi hSi=>ht i hi (by split<;>simp_all))
    cases hq:D j with
    | none=>exact h2
    | some d =>
      rw [hq] at h1
      simp only [putF,slot]
      rw [if_neg]
      · exact h2
      · rintro rfl;exact h1 rfl
  · have:=h.size;cases D j<;>simp [Act.put,this]
  · have:=h.defers;cases D j<;>simp [Act.put,this]
  · by_cases hij:i=j
    · rw [if_pos hij]
    · rw [if_neg hij]
      by_cases hxj:x=j
      · subst hxj;exact hd i h2
      · rw [if_neg hxj] at h1;exact h.closed x i hx h1 h2
theorem DMid.fin (hf:DFacts n D Cl Rd B L) (hr:DRun n D Cl Rd L P I k FR SG V) {fr:Fr} (h0:FR 0=fr) (h:DMid n D Cl B k g0 w0 ds fr SG V N S g fs m a w) (hall:∀ j,j<n→S j=true) (hds:MarksOk g0 w0 ds):Sim g (SG n) w (FR n) a N:=by
 refine ⟨?_,fun t=>?_,h.size,by rw [h.defers];exact hds.mono h.ext⟩
 ·rw [hr.const n h.le (Nat.le_refl _) (fun x h1 h2=>?_)]
  ·exact h.inv
  ·rcases Nat.lt_or_ge (Cl x) 2 with h3|h3
   ·exact h3
   ·have:=(h.eff x h2 h3).1 (hall x h2);omega
 ·have hrt:=h.rel t
  by_cases hex:∃ i,i<n∧D i=some t
  ·obtain ⟨i,hi,hd⟩:=hex
   rw [hr.n7 hf hd n (Nat.le_refl _) hi,←h.done i t hi hd (hall i hi)]
   exact hrt
  ·rw [hr.n6 n (Nat.le_refl _) (fun i hi he=>hex ⟨i,hi,he⟩),h0,←h.rest t (fun i hi _ he=>hex ⟨i,hi,he⟩)]
   exact hrt
end
theorem wz {ops:Array Oper} {l:List CI} {cls:List Nat} (h:wv ops l cls=true) :
  DFacts l.length (fun j=>(l[j]?).bind (·.d)) (fun j=>cls.getD j 0) (fun j=>match l[j]? with|some i=>readsOf i|none=> []) (fun j=>(gx [] (ops.toList.map bH)).getD j []) (fun j=>match l[j]? with|some i=>isLd i.op|none=>false):=by
 simp only [wv,Bool.and_eq_true,beq_iff_eq] at h
 obtain ⟨⟨⟨⟨h1,h2⟩,h3⟩,h4⟩,_⟩:=h
 have hb:(gx [] (ops.toList.map bH)).length=l.length:=by rw [qz];simp [h1]
 generalize gx [] (ops.toList.map bH)=bs at *
 have key:∀ i j,i<j→j<l.length→∃ x y,l[i]? =some x∧l[j]? =some y∧zi (bs.getD j []) i x y (cls.getD i 0) (cls.getD j 0)=true∧(x.d=none∨x.d≠y.d):=by
  intro i j hij hj
  simp only [zj,List.all_eq_true,List.mem_range] at h4
  have:=h4 j hj i hij
  have hi:i<l.length:=Oz
  rw [List.getElem?_eq_getElem hi,List.getElem?_eq_getElem hj,List.getElem?_eq_getElem (l:=cls) (i:=i) Oz,List.getElem?_eq_getElem (l:=cls) (i:=j) Oz,List.getElem?_eq_getElem (l:=bs) (i:=j) Oz] at this
  simp only [Bool.and_eq_true,Bool.or_eq_true,beq_iff_eq,bne_iff_ne] at this
  refine ⟨l[i],l[j],List.getElem?_eq_getElem hi,List.getElem?_eq_getElem hj,?_,this.2⟩
  rw [List.getD_eq_getElem?_getD,List.getD_eq_getElem?_getD,List.getD_eq_getElem?_getD,List.getElem?_eq_getElem (l:=cls) (i:=i) Oz,List.getElem?_eq_getElem (l:=cls) (i:=j) Oz,List.getElem?_eq_getElem (l:=bs) (i:=j) Oz]
  exact this.1
 refine ⟨fun i j hij hj k1 k2 k3=>?_,fun i j hij hj k1 k2 k3=>?_,fun i j t hij hj k1 k2=>?_,fun i j t hij hj k1 k2=>?_,fun i j t hij hj k1 k2=>?_⟩<;>obtain ⟨x,y,hx,hy,hp,hd⟩:=key i j hij hj<;>(try simp only [hx,hy,Option.bind_some] at k1 k2)<;>
  simp only [zi,Bool.or_eq_true,List.contains_iff_mem,Bool.and_eq_true,bne_iff_ne,beq_iff_eq] at hp
 ·rcases hp with hp|⟨⟨⟨h5,_⟩,_⟩,_⟩
  ·exact hp
  ·rcases h5 with (h5|h5)|h5
   ·have:=Nat.le_of_ble_eq_true h5;omega
   ·exact (k2 h5).elim
   ·exact (k3 ⟨h5.1.1,h5.1.2,by simpa [hy] using h5.2⟩).elim
 ·rcases hp with hp|⟨⟨⟨_,h5⟩,_⟩,_⟩
  ·exact hp
  ·rcases h5 with (h5|h5)|h5
   ·exact (k2.elim h5.1 h5.2).elim
   ·exact (k1 h5).elim
   ·exact (k3 ⟨h5.1.1,h5.1.2,by simpa [hx] using h5.2⟩).elim
 ·rcases hp with hp|⟨⟨_,h5⟩,_⟩
  ·exact hp
  ·rw [k1] at h5
   simp only [Bool.and_eq_true,Bool.not_eq_true',bne_iff_ne] at h5
   have:=h5.1
   rw [List.contains_eq_mem] at this
   simp [k2] at this
 ·rcases hp with hp|⟨_,h5⟩
  ·exact hp
  ·rw [k1] at h5
   simp only [Bool.not_eq_true'] at h5
   rw [List.contains_eq_mem] at h5
   simp [k2] at h5
 ·rcases hd with hd|hd
  ·rw [hd] at k1;cases k1
  ·exact hd (k1.trans k2.symm)
theorem jI {P:Program} {N:Nat} {ops:Array Oper}:∀ {os:List Oper} {l:List CI},cE P N ops os l=true→∀ (j:Nat) (o:Oper) (i:CI),os[j]? =some o→l[j]? =some i→o.dst=i.d∧dB N i.d=true∧gdB ops o.guard i.gd=true∧lk2 P o.op i.op=true
  | [],_,_,j,o,i,h,_=>by simp at h
  | _::_,[],_,j,o,i,_,h=>by simp at h
  | o1 :: os, i1 :: l, h, j, o, i, ho, hi => by
    simp only [cE,Bool.and_eq_true,beq_iff_eq] at h
    cases j with
    | zero=>simp at ho hi;subst ho;subst hi;exact ⟨h.1.1.1.1,h.1.1.1.2,h.1.1.2,h.1.2⟩
    | succ j=>simp at ho hi;exact jI h.2 j o i ho hi
theorem mem_ready {ops:Array Oper} {listed:Array Bool} (hs:listed.size=ops.size) {j:Nat}:j∈Region.ready .any ops listed↔∃ o,ops[j]? =some o∧listed.getD j false=false∧∀ k∈bH o,listed.getD k false=true:=by
 simp only [Region.ready,List.mem_filter,List.mem_range,Bool.and_eq_true,Bool.not_eq_true']
 constructor
 ·rintro ⟨h1,h2,h3⟩
  rw [Array.getElem?_eq_getElem h1] at h3 ⊢
  refine ⟨_,rfl,?_,?_⟩
  ·rw [Array.getD_eq_getD_getElem?,Array.getElem?_eq_getElem Oz] at h2 ⊢;exact h2
  ·intro k hk
   simp only [Option.map_some,Option.getD_some,Array.all_eq_true'] at h3
   simp only [bH,List.mem_map,List.mem_filter] at hk
   obtain ⟨e,⟨he,hb⟩,rfl⟩:=hk
   have:=h3 e (by simpa using he)
   simpa [hb] using this
 ·rintro ⟨o,h1,h2,h3⟩
  have hlt:j<ops.size:=by
   rcases Nat.lt_or_ge j ops.size with h|h
   ·exact h
   ·rw [Array.getElem?_eq_none h] at h1;cases h1
  refine ⟨hlt,?_,?_⟩
  ·rw [Array.getD_eq_getD_getElem?,Array.getElem?_eq_getElem Oz] at h2 ⊢;exact h2
  ·rw [h1]
   simp only [Option.map_some,Option.getD_some,Array.all_eq_true']
   intro e he
   cases hb:Region.binds .any e with
   | false=>rfl
   | true=>simpa using h3 e.on (by simp only [bH,List.mem_map,List.mem_filter];exact ⟨e,⟨by simpa using he,hb⟩,rfl⟩)
theorem count_set {listed:Array Bool} {j fuel:Nat} (hj:j<listed.size) (h:listed.getD j false=false) (hc:listed.toList.count false=fuel+1):(listed.setIfInBounds j true).toList.count false=fuel:=by
 have hg:listed.toList[j]'(by simpa using hj)=false:=by
  rw [Array.getD_eq_getD_getElem?,Array.getElem?_eq_getElem hj] at h
  simpa using h
 rw [Array.toList_setIfInBounds,List.count_set (by simpa using hj),hg,hc]
 simp
theorem fe {r:Option Nat} {nn:Nat} {P:Program} {ops:Array Oper} {Q:Exit→Act→World→Prop} {i:Nat} {o:Oper} {K:Act→World→Prop} {a:Act} {w:World} (ho:ops[i]? =some o)
  (h:if Region.wanted o (yielded ops a.tmps)=true then Oper.wpIn (Wd r) nn P o a w K Q else K (a.put o.dst undef) w):wpOpIn (Wd r) nn P ops Q i K a w:=by
 unfold wpOpIn
 simp only [ho]
 split
 ·rename_i hw;rw [if_pos hw] at h;exact h
 ·rename_i hw;rw [if_neg hw] at h;exact ⟨fun _ _=>trivial,h⟩
theorem _root_.PI {p:Prop} (h:p:=by rw [Array.getElem?_toList];exact ho):p:=h
theorem qF {P:Program} {N:Nat} {id:Nat} {ops:Array Oper} {l:List CI} {cls:List Nat} (hm:P.follows .mixedOrders=true) (hd:wv ops l cls=true) (hl:cE P N ops ops.toList l=true)
    {g:Gh} {σ:St} {w:World} {fr:Fr} {a:Act} {K:Fr→St→Prop} {Q:Exit→Act→World→Prop} (hnt:g.nt=g.nb) (hS:Sim g σ w fr a N) (h:aF P l cls fr σ K)
    {r:Option Nat} {nn:Nat} (hQ:∀ fr' σ' g' w' a',K fr' σ'→Sim g' σ' w' fr' a' N→Ext g w g' w'→a'.defers=a.defers→Q .normal a' w'):(Code.region id ops true).wpIn (Wd r) nn P Q a w:=by
  have hf:=wz hd
  obtain ⟨FR,SG,V,q1,q2,q3,q4⟩:=qE l cls g.nb fr σ K h (fun β hβ=>by
    cases hb:σ.box β with
    | none=>rfl
    | some cs =>
      obtain ⟨b,_,_,h1,_⟩:=hS.inv.box β cs hb
      rw [hS.inv.boxfresh β hβ] at h1;cases h1) (fun τ hτ=>by
    cases hb:σ.tip τ with
    | none=>rfl
    | some x =>
      obtain ⟨e,s,n⟩:=x
      obtain ⟨v,h1,_⟩:=hS.inv.tip τ e s n hb
      rw [hS.inv.tipfresh τ n Oz] at h1;cases h1)
  simp only [wv,Bool.and_eq_true,beq_iff_eq] at hd
  obtain ⟨⟨⟨⟨hn1,hn2⟩,hn3⟩,_⟩,hn5⟩:=hd
  have hC:∀ j,j<l.length→cls.getD j 0≤4:=fun j hj=>by
    rw [List.getD_eq_getElem?_getD,List.getElem?_eq_getElem (l:=cls) (i:=j) Oz]
    exact Nat.le_of_ble_eq_true (List.all_eq_true.1 hn5 _ (List.getElem_mem _))
  have hr:DRun l.length (fun j=>(l[j]?).bind (·.d)) (fun j=>cls.getD j 0) (fun j=>match l[j]? with|some i=>readsOf i|none=> []) (fun j=>match l[j]? with|some i=>isLd i.op|none=>false) P (fun j=>(l[j]?).getD ⟨none, .bad,none⟩) g.nb FR SG V:=by
    refine ⟨fun j hj=>?_,fun j hj=>?_,fun j hj=>?_,fun j hj=>?_,fun j hj=>?_,fun j hj=>?_⟩<;>have h1:=List.getElem?_eq_getElem hj<;>have h2:=List.getElem?_eq_getElem (l:=cls) (i:=j) Oz
    · simp only [h1,Option.getD_some,List.getD_eq_getElem?_getD,h2]
      exact (q3 j _ _ h1 h2).1
    · simp only [h1,Option.getD_some]
      exact (q3 j _ _ h1 h2).2.1
    · simp [h1]
    · exact (q3 j _ _ h1 h2).2.2
    · simp [h1]
    · simp [h1]
  have hdeps:∀ j o,ops[j]? =some o→∀ k∈bH o,k<j:=by
    intro j o ho k hk
    simp only [Gd,List.all_eq_true,List.mem_range] at hn3
    have hj:j<ops.size:=by
      rcases Nat.lt_or_ge j ops.size with h|h
      · exact h
      · rw [Array.getElem?_eq_none h] at ho;cases ho
    have hget:(ops.toList.map bH).getD j []=bH o:=by
      rw [List.getD_eq_getElem?_getD,List.getElem?_map,Array.getElem?_toList,ho];rfl
    have:=hn3 j (by simpa using hj) k (by rw [hget];exact hk)
    simpa using this
  have hbefs:∀ j o,ops[j]? =some o→∀ i∈(gx [] (ops.toList.map bH)).getD j [],i∈bH o∨∃ k∈bH o,i∈(gx [] (ops.toList.map bH)).getD k []:=by
    intro j o ho i hi
    have:=vi (ops.toList.map bH) [] j (bH o) (by rw [List.getElem?_map,Array.getElem?_toList,ho];rfl) (fun x hx=>by have:=hdeps j o ho x hx;simpa using this)
    simp only [List.length_nil,Nat.zero_add] at this
    rw [List.getD_eq_getElem?_getD,this] at hi
    replace hi:=s8 hi
    simp only [List.mem_append,List.mem_flatMap] at hi
    exact hi
  obtain ⟨ds,hds⟩:∃ ds,a.defers=ds:=⟨_,rfl⟩
  have hmk:MarksOk g w ds:=hds ▸ hS.defers
  rw [hds] at hQ
  refine wpIn_region_any hm ?_
  have hExt:Ext g w { g with nb:=g.nb+l.length,nt:=g.nt+l.length } { w with drawn:=w.drawn+1 } :=
    ⟨rfl,rfl,rfl,Nat.le_refl _,fun _ _ h=>h,fun _ _=>rfl,Nat.le_add_right _ _,Nat.le_add_right _ _,fun _ _ _ h=>h,fun _ _ hc=>⟨hc,rfl⟩,fun _ F _ hc=>⟨F,hc,Nat.le_refl _,fun _ _=>rfl⟩,fun _ _ h=>h,fun _ us _ _ h=>⟨us,h,rfl⟩⟩
  have hInv:Inv { g with nb:=g.nb+l.length,nt:=g.nt+l.length } σ { w with drawn:=w.drawn+1 }:=by
    have hI:=hS.inv
    refine ⟨fun β cs hb=>?_,hI.boxcl,hI.boxinj,fun β hβ=>hI.boxfresh β (by simp only at hβ;omega),hI.tip,hI.tipinj,fun τ n hτ=>hI.tipfresh τ n (by simp only at hτ;omega),fun k cs hk=>(hI.glob k cs hk).mono hExt,fun l r hl=>⟨(hI.lp l r hl).1,(hI.lp l r hl).2.1,fun t=>((hI.lp l r hl).2.2 t).mono hExt⟩,hI.bty⟩
    obtain ⟨b,vs,T,h1,h2,h3⟩:=hI.box β cs hb
    exact ⟨b,vs,T,h1,h2,h3.mono hExt⟩
  have hmid:DMid l.length (fun j=>(l[j]?).bind (·.d)) (fun j=>cls.getD j 0) (fun j=>(gx [] (ops.toList.map bH)).getD j []) g.nb g w ds fr SG V N (fun j=>(Array.replicate ops.size false).getD j false) { g with nb:=g.nb+l.length,nt:=g.nt+l.length } fr 0 a { w with drawn:=w.drawn+1 }:=by
    have hno:∀ j,(Array.replicate ops.size false).getD j false=false:=by
      intro j;rw [Array.getD_eq_getD_getElem?,Array.getElem?_replicate];split<;>rfl
    refine ⟨hExt,rfl,Nat.le_refl _,hnt,by simp only;omega,Nat.zero_le _,by rw [q2];exact hInv,fun j _ _=>by simp only [hno];simp,fun j _ _=>hS.inv.boxfresh _ Oz,fun j _ _ n'=>hS.inv.tipfresh _ _ Oz,fun t=>(hS.rel t).mono hExt,fun j t _ _ h=>?_,fun t _=>rfl,hS.size,hds,fun j i _ h=>?_⟩
    · simp only [hno] at h;cases h
    · simp only [hno] at h;cases h
  have main:∀ (fuel:Nat) (listed:Array Bool) (g1:Gh) (fs:Fr) (m:Nat) (a:Act) (w1:World),listed.size=ops.size→listed.toList.count false=fuel →
      DMid l.length (fun j=>(l[j]?).bind (·.d)) (fun j=>cls.getD j 0) (fun j=>(gx [] (ops.toList.map bH)).getD j []) g.nb g w ds fr SG V N (fun j=>listed.getD j false) g1 fs m a w1→wpAnyIn (Wd r) nn P .any ops Q fuel listed a w1:=by
    intro fuel
    induction fuel with
    | zero =>
      intro listed g1 fs m a w1 hsz hc hmid
      have hall:∀ j,j<ops.size→listed.getD j false=true:=by
        intro j hj
        rw [List.count_eq_zero] at hc
        rw [Array.getD_eq_getD_getElem?,Array.getElem?_eq_getElem Oz]
        simp only [Option.getD_some]
        cases hv:listed[j]'(by omega) with
        | true=>rfl
        | false=>exact (hc (by rw [←hv];simp)).elim
      refine ⟨?_,?_⟩
      · rw [List.eq_nil_iff_forall_not_mem]
        intro j hj
        obtain ⟨o,ho,h1,_⟩:=(mem_ready hsz).1 hj
        have hj:j<ops.size:=by
          rcases Nat.lt_or_ge j ops.size with h|h
          · exact h
          · rw [Array.getElem?_eq_none h] at ho;cases ho
        rw [hall j hj] at h1;cases h1
      · exact hQ _ _ _ _ _ q4 (hmid.fin hf hr q1 (fun j hj=>hall j Oz) hmk) hmid.ext hmid.defers
    | succ fuel ih =>
      intro listed g1 fs m a w1 hsz hc hmid
      refine ⟨fun hnil=>?_,fun j hj=>?_⟩
      · have hall:∀ j,j<ops.size→listed.getD j false=true:=by
          intro j
          induction j using Nat.strongRecOn with
          | _ j ihj =>
            intro hj
            cases hv:listed.getD j false with
            | true=>rfl
            | false =>
              have hm:=(mem_ready (ops:=ops) hsz (j:=j)).2 ⟨ops[j],Array.getElem?_eq_getElem hj,hv,fun k hk=>by
                have:=hdeps j _ (Array.getElem?_eq_getElem hj) k hk
                exact ihj k this Oz⟩
              rw [hnil] at hm;cases hm
        exact hQ _ _ _ _ _ q4 (hmid.fin hf hr q1 (fun j hj=>hall j Oz) hmk) hmid.ext hmid.defers
      · obtain ⟨o,ho,h1,h2⟩:=(mem_ready hsz).1 hj
        have hjs:j<ops.size:=by
          rcases Nat.lt_or_ge j ops.size with h|h
          · exact h
          · rw [Array.getElem?_eq_none h] at ho;cases ho
        have hjl:j<l.length:=Oz
        have hcl:∀ i∈(gx [] (ops.toList.map bH)).getD j [],listed.getD i false=true:=by
          intro i hi
          rcases hbefs j o ho i hi with h|⟨k,hk,h⟩
          · exact h2 i h
          · have hkj:=hdeps j o ho k hk
            exact hmid.closed k i Oz (h2 k hk) h
        have hli:l[j]? =some l[j]:=List.getElem?_eq_getElem hjl
        obtain ⟨k1,k2,k3,k4⟩:=jI hl j o l[j] PI hli
        have hnext:=hmid.next hf hr hC hjl h1 hcl
        simp only [hli,Option.getD_some] at hnext
        refine fe ho ?_
        have hnb:=hmid.nb
        have hnt2:=hmid.nt
        refine qD (k:=g.nb) hmid.inv k3 k4 (fun t ht=>?_) hnext (hmid.pend j hjl h1) Oz (hmid.tpend j hjl h1) Oz Oz (fun u w' g' i1 i2 i3=>?_)
        · have:=hmid.read hf hr q1 hjl h1 hcl (t:=t) (by simp only [hli];exact ht)
          rw [←this]
          exact hmid.rel t
        · have hput:=hmid.put hf hr hjl h1 hcl i1 i2 i3 (fun t ht=>by
            simp only [hli,Option.bind_some] at ht
            rw [ht] at k2
            simpa [dB] using k2)
          have hdst:o.dst=(l[j]?).bind (·.d):=by rw [hli];exact k1
          rw [hdst]
          have hSeq:(fun i=>(listed.setIfInBounds j true).getD i false)=(fun i=>if i=j then true else listed.getD i false):=by
            funext i
            rw [Array.getD_eq_getD_getElem?,Array.getElem?_setIfInBounds,Array.getD_eq_getD_getElem?]
            by_cases hij:j=i
            · subst hij;simp [show j<listed.size by omega]
            · rw [if_neg hij,if_neg (Ne.symm hij)]
          rw [←hSeq] at hput
          exact ih (listed.setIfInBounds j true) _ _ _ _ _ (by simp [hsz]) (count_set Oz h1 hc) hput
  exact main ops.size (Array.replicate ops.size false) _ fr 0 a _ OF OF hmid
theorem tc {P:Program} {N:Nat} {id:Nat} {ops:Array Oper} {l:List CI} {cls:List Nat} (hm:P.follows .mixedOrders=true) (hd:wv ops l cls=true) (hl:cE P N ops ops.toList l=true)
  {g:Gh} {σ:St} {w:World} {fr:Fr} {a:Act} {K:Fr→St→Prop} {Q:Exit→Act→World→Prop} (hS:Sim g σ w fr a N) (h:aF P l cls fr σ K)
  {r:Option Nat} {nn:Nat} (hQ:∀ fr' σ' g' w' a',K fr' σ'→Sim g' σ' w' fr' a' N→Ext g w g' w'→a'.defers=a.defers→Q .normal a' w'):(Code.region id ops true).wpIn (Wd r) nn P Q a w:=by
 have hb:g.nb≤max g.nb g.nt:=Nat.le_max_left _ _
 have ht:g.nt≤max g.nb g.nt:=Nat.le_max_right _ _
 have hE:Ext g w { g with nb:=max g.nb g.nt,nt:=max g.nb g.nt } w :=
  ⟨rfl,rfl,rfl,Nat.le_refl _,fun _ _ h=>h,fun _ _=>rfl,hb,ht,fun _ _ _ h=>h,fun _ _ hc=>⟨hc,rfl⟩,fun _ F _ hc=>⟨F,hc,Nat.le_refl _,fun _ _=>rfl⟩,fun _ _ h=>h,fun _ us _ _ h=>⟨us,h,rfl⟩⟩
 have hS':Sim { g with nb:=max g.nb g.nt,nt:=max g.nb g.nt } σ w fr a N:=by
  have hI:=hS.inv
  refine ⟨⟨fun β cs hb=>?_,hI.boxcl,hI.boxinj,fun β hβ=>hI.boxfresh β (by simp only at hβ;omega),hI.tip,hI.tipinj,fun τ n hτ=>hI.tipfresh τ n (by simp only at hτ;omega),fun k cs hk=>(hI.glob k cs hk).mono hE,fun l r hl=>⟨(hI.lp l r hl).1,(hI.lp l r hl).2.1,fun t=>((hI.lp l r hl).2.2 t).mono hE⟩,hI.bty⟩,hS.rel.mono hE,hS.size,hS.defers⟩
  obtain ⟨b,vs,T,h1,h2,h3⟩:=hI.box β cs hb
  exact ⟨b,vs,T,h1,h2,h3.mono hE⟩
 exact qF hm hd hl rfl hS' h (fun fr' σ' g' w' a' k1 k2 k3 k4=>hQ fr' σ' g' w' a' k1 k2 (hE.trans k3) k4)
end Go.Abs
