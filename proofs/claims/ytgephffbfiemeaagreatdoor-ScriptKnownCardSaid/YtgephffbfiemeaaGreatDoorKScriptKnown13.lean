/- Part 13 of the proof of ScriptKnown: an abstract semantics that is proved sound for the model, contracts of functions in it, and plain facts (Abs25 LS1). No condition. -/
import Derived.Test.YtgephffbfiemeaaGreatDoorKScriptKnown12
import Derived.Laws.Bits64b
set_option linter.all false
namespace Go.Abs
theorem dV (x:BitVec 64):BitVec.ofInt 64 (x.toNat:Int)=x:=by
 apply BitVec.eq_of_toNat_eq
 rw [BitVec.ofInt_natCast,BitVec.toNat_ofNat]
 exact Nat.mod_eq_of_lt x.isLt
theorem jj (x:BitVec 64):IntKind.u64.wrap (x.toNat:Int)=x.toNat:=by
 have:=x.isLt
 rw [IntKind.wrap_u64];omega
theorem mo (x y:BitVec 64):bits .and .u64 (x.toNat:Int) (y.toNat:Int)=((x &&& y).toNat:Int):=by
 show IntKind.u64.wrap ((BitVec.ofInt 64 (x.toNat:Int) &&& BitVec.ofInt 64 (y.toNat:Int)).toNat:Int)=_
 rw [dV,dV,jj]
theorem kr (x y:BitVec 64):bits .or .u64 (x.toNat:Int) (y.toNat:Int)=((x ||| y).toNat:Int):=by
 show IntKind.u64.wrap ((BitVec.ofInt 64 (x.toNat:Int) ||| BitVec.ofInt 64 (y.toNat:Int)).toNat:Int)=_
 rw [dV,dV,jj]
theorem iS (x y:BitVec 64):bits .andNot .u64 (x.toNat:Int) (y.toNat:Int)=((x &&& ~~~y).toNat:Int):=by
 show IntKind.u64.wrap ((BitVec.ofInt 64 (x.toNat:Int) &&& ~~~BitVec.ofInt 64 (y.toNat:Int)).toNat:Int)=_
 rw [dV,dV,jj]
theorem Gi (x:BitVec 64) (b:Nat) (hb:b≤64):IntKind.u64.wrap ((x.toNat:Int)*2^min b 64)=((x <<< b).toNat:Int):=by
 rw [Nat.min_eq_left hb,BitVec.toNat_shiftLeft,IntKind.wrap_u64,Nat.shiftLeft_eq]
 simp
theorem KG (x y:BitVec 64):((x.toNat:Int) == (y.toNat:Int))=(x == y):=by
 rw [Bool.eq_iff_iff]
 simp only [beq_iff_eq]
 constructor
 ·intro h;apply BitVec.eq_of_toNat_eq;omega
 ·rintro rfl;rfl
end Go.Abs
namespace Go.Proofs.YtgephffbfiemeaaGreatDoor
open Go.Abs
def leB (a b:BitVec 64):Bool:=(a &&& ~~~b) == 0#64
end Go.Proofs.YtgephffbfiemeaaGreatDoor
