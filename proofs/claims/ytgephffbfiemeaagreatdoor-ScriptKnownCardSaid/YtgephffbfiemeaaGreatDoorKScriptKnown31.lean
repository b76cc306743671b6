/- Part 31 of the proof of ScriptKnown: an abstract semantics that is proved sound for the model, contracts of functions in it, and plain facts (LD40p). No condition. -/
import Derived.Test.YtgephffbfiemeaaGreatDoorKScriptKnown30
import Derived.Test.YtgephffbfiemeaaGreatDoorRows
import Derived.Test.YtgephffbfiemeaaGreatDoorTie
import Derived.WalkKit
import Derived.ProofKit
import Derived.LaidMore
import Derived.OpenShut
import Derived.MakeChecks
import Derived.Lay
set_option linter.all false
namespace Go.Proofs.YtgephffbfiemeaaGreatDoor
open Go.Abs Go.ChangeShapes Go.WideShapes Go.ChangeAt Go.RowKit Go.Proofs.YtgephffbfiemeaaGreatDoor
set_option linter.all false
theorem JQ:ownKnob Tryz.prog.godebug=none:=OA
def lu:List (String × DataW Unit):=Rows.scriptTextsRow.laid
theorem Du (os:Os) (args:Array Value):laidMetH Tryz.prog lu ((World.laidAll Tryz.prog os lu).forCall (fun _ _=>0) ⟨#[],args,[]⟩).memory:=by
 rw [MakeChecks.laidMetH_plain _ _ _ OA];exact laidMet_laidAll _ OA OA
def dbJ:List Int:= [0,1,56,2,57,49,28,3,61,58,42,50,38,29,17,4,62,47,59,36,45,43,51,22,53,39,33,30,24,18,12,5,63,55,48,27,60,41,37,16,46,35,44,21,52,32,23,11,54,26,40,15,34,20,31,10,25,14,19,9,13,8,7,6]
theorem Dv:rD=dbJ.map (AV.int .u8):=rfl
theorem LN:Tryz.prog.globalNamed "math/bits.deBruijn64tab" =some 1:=OA
theorem Dw:Tryz.prog.globalNamed "partywall/op.kinds" =some 0:=OA
def kJ:List (List UInt8):=(List.range 9).map nm
theorem F9:u4=kJ.map AV.str:=by simp [u4,kJ]
theorem qk {W:World} (h:laidMetH Tryz.prog lu W):Lib.TabIs Tryz.prog W "math/bits.deBruijn64tab" .u8 dbJ∧Lib.TabIs Tryz.prog W "internal/strconv.uint64pow10" .u64 Lib.pow10Tab∧W.var? Tryz.prog "partywall/op.kinds" =some (kJ.map fun z=>Value.string ⟨z.toArray⟩).toArray:=by
 rw [MakeChecks.laidMetH_plain _ _ _ OA] at h
 obtain ⟨ps,⟨g0,t0,cs0,f0,p0,q0,hg0,ht0,hv0,hd0,⟨g1,t1,cs1,f1,p1,q1,hg1,ht1,hv1,hd1,⟨g2,t2,cs2,f2,p2,q2,hg2,ht2,hv2,hd2,⟨g3,t3,cs3,f3,p3,q3,hg3,ht3,hv3,hd3,⟨g4,t4,cs4,f4,p4,q4,hg4,ht4,hv4,hd4,_,_⟩,_⟩,_⟩,_⟩,_⟩,_,_⟩:=h
 refine ⟨?_,?_,?_⟩
 ·obtain rfl:=Option.some.inj (LN.symm.trans hg1)
  obtain rfl:=Option.some.inj ((show (Tryz.prog.globals[1]?).map (·.type)=some 285 by kernel_rfl).symm.trans ht1)
  unfold Lib.TabIs
  have:=Lib.cells_of_tab (zs:=dbJ) (k:= .u8) Tryz.underlying285 Tryz.underlying5 OA OA hd1
  rw [hv1]
  congr 1
  exact Array.ext' this
 ·obtain rfl:=Option.some.inj (Fp.symm.trans hg2)
  obtain rfl:=Option.some.inj ((show (Tryz.prog.globals[2]?).map (·.type)=some 316 by kernel_rfl).symm.trans ht2)
  unfold Lib.TabIs
  have:=Lib.cells_of_tab (zs:=Lib.pow10Tab) (k:= .u64) Tryz.underlying316 Tryz.underlying29 OA OA hd2
  rw [hv2]
  congr 1
  exact Array.ext' this
 ·obtain rfl:=Option.some.inj (Dw.symm.trans hg4)
  obtain rfl:=Option.some.inj ((show (Tryz.prog.globals[0]?).map (·.type)=some 177 by kernel_rfl).symm.trans ht4)
  have:=nK (zs:=kJ) Tryz.underlying177 Tryz.underlying9 OA OA hd4
  rw [hv4]
  congr 1
  exact Array.ext' this
theorem LP {W:World} (h:laidMetH Tryz.prog lu W):∀ k cs,Go.Abs.look k gl4=some cs→GlobOk g0 W k cs:=by
  intro k cs hk
  simp only [gl4,Go.Abs.look] at hk
  cases hb:Nat.beq k 1 with
  | false =>
    rw [hb] at hk
    simp only [cond_false] at hk
    cases hb2:Nat.beq k 2 with
    | false =>
      rw [hb2] at hk
      simp only [cond_false] at hk
      cases hb3:Nat.beq k 0 with
      | false=>rw [hb3] at hk;cases hk
      | true =>
        rw [hb3] at hk
        have:=Nat.eq_of_beq_eq_true hb3
        subst this
        cases hk
        rw [F9]
        exact pN (qk h).2.2 Dw
    | true =>
      rw [hb2] at hk
      have:=Nat.eq_of_beq_eq_true hb2
      subst this
      cases hk
      exact kU (qk h).2.1 Fp
  | true =>
    rw [hb] at hk
    have:=Nat.eq_of_beq_eq_true hb
    subst this
    cases hk
    rw [Dv]
    exact kU (qk h).1 LN
end Go.Proofs.YtgephffbfiemeaaGreatDoor
