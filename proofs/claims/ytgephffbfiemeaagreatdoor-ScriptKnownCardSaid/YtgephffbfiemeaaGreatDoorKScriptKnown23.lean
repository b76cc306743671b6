/- Part 23 of the proof of ScriptKnown: an abstract semantics that is proved sound for the model, contracts of functions in it, and plain facts (Abs36). No condition. -/
import Derived.Test.YtgephffbfiemeaaGreatDoorKScriptKnown22
import Derived.Lib.LaidTab
import Derived.LaidMore
set_option linter.all false
namespace Go.Abs
open Go.ChangeShapes
theorem BY {W:World} {z:List UInt8}:Rel g0 W (.str z) (.string ⟨z.toArray⟩):=by
 have:= @Ff W ⟨z.toArray⟩
 simpa using this
theorem nK {H:Type} {enc:TypeId × Value→H} {P:Program} {w:World} {base:Nat} {sp:Nat→Bool} {held:Bool} {fuel:Nat} {t e:TypeId} {n:Nat} {cs:List Value} {zs:List (List UInt8)} {p:List MemPlace}
    (ht:P.underlying t=some (.array n e)) (he:P.underlying e=some .string) (hce:P.cellsOf e=1) (hct:P.cellsOf t=n)
    (h:DataW.trod enc P w base sp held fuel t cs=some (.agg (zs.map fun z=> .lit (.string z)),p)):cs=zs.map fun z=>Value.string ⟨z.toArray⟩:=by
  cases fuel with
  | zero=>simp [DataW.trod] at h
  | succ fuel =>
    simp only [DataW.trod,ht,hce,hct,Nat.mul_one] at h
    split at h
    · rename_i hl
      obtain ⟨xs,hm,hx⟩:=Option.map_eq_some_iff.1 h
      have hxs:xs.map (·.1)=zs.map fun z=>(DataW.lit (.string z):DataW H):=by
        have:=congrArg Prod.fst hx
        simpa using this
      have hxl:xs.length=n:=by simpa using Lib.mapM_length hm
      have hzl:zs.length=n:=by
        have:=congrArg List.length hxs
        simp at this
        omega
      apply List.ext_getElem?
      intro i
      by_cases hi:i<n
      · obtain ⟨b,hb,hf⟩:=Lib.mapM_at hm i i (by simp [hi])
        obtain ⟨z,hc,hz,_⟩:=DataW.trod_string he hf
        have h1:cs[i]? =some (.string z):=by
          have:=congrArg (·[0]?) hc
          simpa [List.getElem?_take,List.getElem?_drop] using this
        have h2:(xs.map (·.1))[i]? =some (DataW.lit (.string z.data.toList):DataW H):=by simp [hb,hz]
        rw [hxs] at h2
        simp only [List.getElem?_map,Option.map_eq_some_iff,DataW.lit.injEq,Lit.string.injEq] at h2
        obtain ⟨z',hz',e2⟩:=h2
        simp [h1,hz',e2]
      · rw [List.getElem?_eq_none Oz,List.getElem?_eq_none OS]
    · cases h
theorem pN {P:Program} {w:World} {name:String} {l:List (List UInt8)} {k:Nat} (h:w.var? P name=some (l.map fun z=>Value.string ⟨z.toArray⟩).toArray) (hg:P.globalNamed name=some k):GlobOk g0 w k (l.map AV.str):=by
 have hrow:∃ T q,w.heap[k]? =some (.cells (l.map fun z=>Value.string ⟨z.toArray⟩).toArray T q):=by
  simp only [World.var?,hg,Option.bind_some] at h
  split at h
  ·rename_i cs T q hh
   cases h
   exact ⟨T,q,hh⟩
  ·cases h
 obtain ⟨T,q,hh⟩:=hrow
 have hlt:k<w.heap.size:=(Array.getElem?_eq_some_iff.1 hh).1
 refine ⟨Rel.ql (u:=l.map fun z=>Value.string ⟨z.toArray⟩) ⟨⟨hlt, .inl rfl⟩,⟨⟨by simp,fun i c v hc hv=>?_⟩,fun v hv=>?_⟩,fun i v hv=>?_⟩,rfl,_,T,q,hh,by simp⟩
 ·simp only [List.getElem?_map,Option.map_eq_some_iff] at hc hv
  obtain ⟨n,h1,rfl⟩:=hc
  obtain ⟨n',h2,rfl⟩:=hv
  rw [h1] at h2;cases h2
  exact BY
 ·simp only [List.mem_map] at hv
  obtain ⟨n,_,rfl⟩:=hv
  rfl
 ·simp only [World.cell?,hh,Nat.zero_add]
  simpa using hv
end Go.Abs
