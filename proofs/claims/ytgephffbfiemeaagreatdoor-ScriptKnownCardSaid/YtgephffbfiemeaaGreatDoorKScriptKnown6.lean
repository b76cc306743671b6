/- Part 6 of the proof of ScriptKnown: an abstract semantics that is proved sound for the model, contracts of functions in it, and plain facts (Abs8s). No condition. -/
import Derived.Test.YtgephffbfiemeaaGreatDoorKScriptKnown5
import Derived.Lib.AppendStr
set_option linter.all false
namespace Go.Abs
open Go.RowKit
section
variable {P:Program} {g:Gh} {σ:St} {w:World} {a:Act} {o:Oper} {ρ:Od→AV}
theorem mc (hI:Inv g σ w) {t u:TypeId} {e bytes:Nat} {x y:Operand} {l:List UInt8} {τ n:Nat} {cs:List AV} (ho:o.op= .call { callee:= .builtin .append,args:= #[x,y],argTypes:= #[t,u] }) (hb:ny P t e 1 bytes=true) (hut:P.underlying u=some .string)
    (hx:Rel g w (.tsl τ n cs) (a.eval x)) (hy:Rel g w (.str l) (a.eval y)) (hl0:l≠ []) (ht:σ.tip τ=some (e,1,n)) (h1:cs.length=n*1) (h3:n+l.length≤maxLen) (h4:(n+l.length)*bytes≤140737488355328) :
    Yields ((execOp a.eval o).run P w) g w (.tsl τ (n+l.length) (cs++l.map fun b=> .int .u8 b.toNat)) (σ.ai τ (e,1,n+l.length)):=by
  obtain ⟨i,z,hu,hi,hz,hsz,hby,hzs,hpos,hz1⟩:=fQ hb
  have hexec:∀ r w',(Builtin.append_ #[t,u] o.type #[a.eval x,a.eval y]).run P w= .ok r w'→(execOp a.eval o).run P w= .ok (.value r) w':=by
    intro r w' h
    simp [execOp,ho,resolve,invoke,builtin,h]
  have hmax:maxLen≤9223372036854775807:=O9
  have hvx:=hx.lL
  obtain ⟨v,k1,k2,k4⟩:=hI.tip τ e 1 n ht
  rw [hvx] at k1;cases k1
  have hslv:slv (.tsl τ n cs)=some (n,cs):=rfl
  have hτ:τ<g.nt:=by
    rcases Nat.lt_or_ge τ g.nt with h|h
    · exact h
    · rw [hI.tipfresh τ n h] at hvx;cases hvx
  obtain ⟨m,hm⟩:∃ m,l.length=m:=⟨_,rfl⟩
  obtain ⟨ds,hds⟩:∃ ds,(l.map fun b=>AV.int .u8 b.toNat)=ds:=⟨_,rfl⟩
  have h2:ds.length=m*1:=by rw [←hds,←hm];simp
  rw [hm] at h3 h4
  rw [hm,hds]
  have hm0:m≠0:=by rw [←hm];exact fun h=>hl0 (List.eq_nil_of_length_eq_zero h)
  obtain ⟨S,hS⟩:∃ S:ByteArray,S=⟨l.toArray⟩:=⟨_,rfl⟩
  have ey:a.eval y= .string S:=by rw [hS];exact hy.cF
  have hSs:S.size=m:=by rw [hS,←hm];simp [ByteArray.size]
  obtain ⟨us2,hus2⟩:∃ us,Go.Lib.strCells S=us:=⟨_,rfl⟩
  have hl2:RelC g w ds us2:=by
    rw [←hds,←hus2,hS]
    refine ⟨⟨by simp [Go.Lib.strCells],fun i c v hc hv=>?_⟩,Go.Lib.strCells_oneCell _⟩
    simp only [Go.Lib.strCells,List.getElem?_map] at hc hv
    cases hq:l[i]? with
    | none=>rw [hq] at hc;cases hc
    | some b=>rw [hq] at hc hv;cases hc;cases hv;exact .int _ _
  · have hm2:us2.length=m*1:=by rw [hl2.1.1,h2]
    have ecell:(S.data.map fun b=>Value.int .u8 b.toNat)=us2.toArray:=by
      apply Array.ext'
      rw [←hus2]
      simp [Go.Lib.strCells]
    have moved:∀ (us:List Value) (old:Nat),RelC g w cs us→old<n+m→(Builtin.append_ #[t,u] o.type #[a.eval x,a.eval y]).run P w= .ok (.slice (some ⟨w.heap.size,0,none⟩) (n+m) (grownCap w (n+m) old e)) (w.drew.alloc (.cells (us.toArray++us2.toArray++Builtin.zeroCells z.cells (grownCap w (n+m) old e - (n+m))) e)) →
        Yields ((execOp a.eval o).run P w) g w (.tsl τ (n+m) (cs++ds)) (σ.ai τ (e,1,n+m)):=by
      intro us old hr hold hrun
      have hId:=iv hI
      have hrr:RelC g w.drew (cs++ds) (us++us2):=(hr.append hl2).mono eN
      have hlen:(us++us2).length=(n+m)*1:=by rw [List.length_append,hr.1.1,h1,hm2,Nat.add_mul]
      have hge:=grownCap_ge w (n+m) old e
      have hle:=grownCap_le_maxLen w (n+m) old e h3
      have hcl:(cs++ds).length=(n+m)*1:=by rw [List.length_append,h1,h2,Nat.add_mul]
      have hal:=hId.alloc (ob:= .cells (us.toArray++us2.toArray++Builtin.zeroCells z.cells (grownCap w (n+m) old e - (n+m))) e) (cs++ds).length
      have hlies:=Lies.new (T:=e) (rest:=Builtin.zeroCells z.cells (grownCap w (n+m) old e - (n+m))) hId hrr
      have hown:=gZ (W:=w.drew) (e:=e) (s:=1) (n:=n+m) (cap:=grownCap w (n+m) old e) (us:=us++us2) (rest:=Builtin.zeroCells z.cells (grownCap w (n+m) old e - (n+m))) hlen hge hle (by
        simp only [Array.size_append,List.size_toArray,size_zeroCells,hzs,hlen,←Nat.add_mul]
        congr 1
        omega)
      rw [show (us++us2).toArray=us.toArray++us2.toArray by simp] at hlies hown
      have e1:=eN.trans (Ext.alloc (ob:= .cells (us.toArray++us2.toArray++Builtin.zeroCells z.cells (grownCap w (n+m) old e - (n+m))) e) hId (cs++ds).length)
      have hdrop:=eU hal τ
      have hnb:∀ τ' x' v',τ'≠τ→σ.tip τ'=some x'→g.tip τ' x'.2.2=some v'→Held x'.2.2 v'→v'.ownBlock≠some w.heap.size:=by
        intro τ' x' v' hne ht' hv' hs' hb'
        obtain ⟨e',s',n'⟩:=x'
        obtain ⟨u,q1,q2,_⟩:=hI.tip τ' e' s' n' ht'
        rw [hv'] at q1;cases q1
        obtain ⟨xs,q3,_⟩:=q2 hs'
        have:=(q3.lt _ hb').2
        omega
      have hre:=nW (τ:=τ) (e:=e) (s:=1) (n:=n+m) (v:= .slice (some ⟨w.heap.size,0,none⟩) (n+m) (grownCap w (n+m) old e)) hdrop (fun n' hn'=>k4 n' Oz) hτ
        (fun _=>⟨us++us2,hown,fun b hb'=>by
          have:b=w.heap.size:=OX
          subst this
          refine ⟨by simp [hcl],fun β hβ=>?_,fun cur T q hh v hv=>?_⟩
          · have:=(hI.boxcl β _ hβ).1
            omega
          · have hn2:(w.drew.alloc (.cells (us.toArray++us2.toArray++Builtin.zeroCells z.cells (grownCap w (n+m) old e - (n+m))) e)).heap[w.heap.size]? =some (.cells (us.toArray++us2.toArray++Builtin.zeroCells z.cells (grownCap w (n+m) old e - (n+m))) e (0,0)):=heap_alloc_new w.drew _
            rw [hn2] at hh
            cases hh
            simp only [Array.toList_append,List.mem_append] at hv
            rcases hv with (hv|hv)|hv
            · exact hr.2 v hv
            · exact hl2.2 v hv
            · exact jF hpos hzs hz1 v hv⟩)
        (fun τ' x' v' b hne ht' hv' _ hs' hb'=>by
          have:b=w.heap.size:=OX
          subst this
          simp only [St.dv,if_neg hne] at ht'
          exact hnb τ' x' v' hne ht' hv' hs')
      rw [ee] at hre
      have e2:=e1.trans (cO (v:= .slice (some ⟨w.heap.size,0,none⟩) (n+m) (grownCap w (n+m) old e)) (τ:=τ) (n:=n+m) (k4 (n+m) Oz) (.inr ⟨n,by simp only;rw [hvx];simp⟩))
      refine ⟨_,_,_,hexec _ _ hrun,hre,e2, .kd hge PJ (hlies.mono (cO (k4 (n+m) Oz) (.inr ⟨n,by simp only;rw [hvx];simp⟩)))⟩
    rcases hx.bL hslv with ⟨x0,ex,rfl,rfl⟩|⟨b,off,cap,us,ex,hnc,hl⟩
    · cases x0 with
      | some x1 =>
        have hr:=Go.Lib.run_append_grow_string (P:=P) w t u o.type e i z hu hut hi hz x1 0 0 [] OF OF S Oz Oz (by rw [hby,hSs];exact growslice_fits Oz h4)
        rw [hSs,hus2] at hr
        refine moved [] 0 .nil Oz ?_
        rw [ex,ey]
        exact hr
      | none =>
      have hr:=run_append_nil_string (P:=P) w t u o.type e i z hu hut hi hz S Oz Oz (by rw [hby,hSs];simp only [Nat.zero_add] at h4;omega)
      rw [hSs,ecell] at hr
      refine moved [] 0 .nil Oz ?_
      rw [ex,ey]
      simp only [Nat.zero_add,Array.empty_append]
      exact hr
    · have hus:us.length=n*1:=by rw [hl.rel.1.1,h1]
      by_cases hroom:n+m≤cap
      ·
        have hsp:Held n (a.eval x):= .inl ⟨_,_,_,ex,by omega⟩
        obtain ⟨xs,q1,q2⟩:=k2 hsp
        rcases q1.2 with ⟨hn,_⟩|⟨q,cp,cur,hq,_,hheap,hncp,hcpm,hcs,htk⟩
        · rw [ex] at hn;cases hn
        rw [ex] at hq;cases hq
        have hob:(a.eval x).ownBlock=some b:=by rw [ex];rfl
        obtain ⟨hclb,hboxb,honeb⟩:=q2 b hob
        have hr:=Go.Lib.run_append_room_string (P:=P) w t u o.type e i hu hut hi hsz b n cap cur hheap S Oz Oz
        rw [hus2,show n+S.size=n*1+us2.length by rw [hSs,hm2];omega,show n*1+us2.length=n*1+us2.length from rfl] at hr
        have hr2:=hr
        rw [show cur.toList.take n=cur.toList.take (n*1) by rw [Nat.mul_one]] at hr
        rw [show (Value.slice (some ⟨b,0,none⟩) (n*1+us2.length) cap)=Value.slice (some ⟨b,0,none⟩) (n+m) cap by rw [hm2,Nat.mul_one,Nat.mul_one]] at hr
        have hn0:n*1≤cur.size:=by rw [hcs];exact Nat.mul_le_mul_right _ hnc
        have hlxs:xs=us:=by
          have hc:=q1.cells hob
          apply List.ext_getElem?
          intro j
          by_cases hj:j<us.length
          · have hj2:j<xs.length:=by rw [q1.1];omega
            have e1:=hl.cell j _ (List.getElem?_eq_getElem hj)
            have e2:=hc j _ (List.getElem?_eq_getElem hj2)
            rw [bE] at e2
            rw [e1] at e2
            rw [List.getElem?_eq_getElem hj,List.getElem?_eq_getElem hj2]
            exact e2.symm
          · have hj2:¬ j<xs.length:=by rw [q1.1];omega
            rw [List.getElem?_eq_none Oz,List.getElem?_eq_none Oz]
        have hdrop:=eU hI τ
        obtain ⟨hra,era⟩:=raise (F:=n*1) (F':=(n+m)*1) (cur':=(cur.toList.take (n*1)++us2++cur.toList.drop (n*1+us2.length)).toArray) hdrop hheap hclb (Nat.mul_le_mul_right _ Oz) hboxb
          (fun τ' x' v' ht' hv' hs' hb'=>by
            simp only [St.dv] at ht'
            split at ht'
            · cases ht'
            · rename_i hne
              exact hI.tipinj τ τ' _ _ _ v' b ht ht' (fun h=>hne h.symm) hvx hv' hsp hs' hob hb')
          (fun j hj=>by
            simp only [List.getElem?_toArray,List.append_assoc]
            rw [List.getElem?_append_left OS,List.getElem?_take,if_pos hj,Array.getElem?_toList])
          (by
            have h1:(n+m)*1≤cap*1:=Nat.mul_le_mul_right _ hroom
            rw [Nat.add_mul] at h1
            simp only [List.size_toArray,List.length_append,List.length_take,List.length_drop,Array.length_toList]
            omega)
        have hlen2:(us++us2).length=(n+m)*1:=by rw [List.length_append,hus,hm2,Nat.add_mul]
        have htake:(cur.toList.take (n*1)++us2++cur.toList.drop (n*1+us2.length)).take ((n+m)*1)=us++us2:=by
          rw [htk,hlxs,←hlen2]
          exact List.take_left
        have hcur':(w.setRow b (cur.toList.take (n*1)++us2++cur.toList.drop (n*1+us2.length)).toArray).heap[b]? =some (.cells (cur.toList.take (n*1)++us2++cur.toList.drop (n*1+us2.length)).toArray e (0,0)):=setRow_heap w b cur _ e _ hheap
        have hown:(w.setRow b (cur.toList.take (n*1)++us2++cur.toList.drop (n*1+us2.length)).toArray).ownsRow 0 e 1 (.slice (some ⟨b,0,none⟩) (n+m) cap) (n+m) (us++us2):=by
          refine ⟨hlen2, .inr ⟨b,cap,_,rfl,Nat.zero_le _,hcur',hroom,hcpm,?_,by simpa using htake⟩⟩
          have:(n+m)*1≤cap*1:=Nat.mul_le_mul_right _ hroom
          rw [Nat.add_mul] at this
          simp only [List.size_toArray,List.length_append,List.length_take,List.length_drop,Array.length_toList]
          omega
        have hre:=nW (τ:=τ) (e:=e) (s:=1) (n:=n+m) (v:= .slice (some ⟨b,0,none⟩) (n+m) cap) hra (fun n' hn'=>k4 n' Oz) hτ
          (fun _=>⟨us++us2,hown,fun b' hb'=>by
            have:b'=b:=OX
            subst this
            refine ⟨by simp,hboxb,fun cur2 T q hh v hv=>?_⟩
            rw [hcur'] at hh
            cases hh
            simp only [List.mem_append] at hv
            rcases hv with (hv|hv)|hv
            · exact honeb _ _ _ hheap v (List.mem_of_mem_take hv)
            · exact hl2.2 v hv
            · exact honeb _ _ _ hheap v (List.mem_of_mem_drop hv)⟩)
          (fun τ' x' v' b' hne ht' hv' _ hs' hb'=>by
            have:b'=b:=OX
            subst this
            simp only [St.dv,if_neg hne] at ht'
            exact hI.tipinj τ τ' _ _ _ v' b' ht ht' (fun h=>hne h.symm) hvx hv' hsp hs' hob)
        rw [ee] at hre
        have e2:=era.trans (cO (v:= .slice (some ⟨b,0,none⟩) (n+m) cap) (τ:=τ) (n:=n+m) (k4 (n+m) Oz) (.inr ⟨n,by simp only;rw [hvx];simp⟩))
        refine ⟨_,_,_,hexec _ _ Pb,hre,e2, .kd hroom PJ (u:=us++us2) ⟨⟨(Array.getElem?_eq_some_iff.1 hcur').1, .inr ⟨(n+m)*1,by simp [Gh.bA],?_⟩⟩,(hl.rel.append hl2).mono e2,fun j u hu'=>?_⟩⟩
        · simp only [List.length_append];rw [h1,h2,←Nat.add_mul];omega
        · have:=hown.cells (g:=b) rfl j u hu'
          rw [bE] at this
          exact this
      · have hcell1:∀ j u,us[j]? =some u→w.cell? ((⟨b,off,none⟩:Addr).add j)=some u:=fun j u hu'=>by rw [bE];exact hl.cell j u hu'
        have hr:=Go.Lib.run_append_grow_string (P:=P) w t u o.type e i z hu hut hi hz ⟨b,off,none⟩ n cap us (by rw [hsz];exact hus) hcell1 S Oz Oz (by rw [hby,hSs];exact growslice_fits Oz h4)
        rw [hSs,hus2] at hr
        exact moved us cap hl.rel Oz Pb
end
end Go.Abs
