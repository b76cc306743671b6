/- Part 13 of the proof of ScriptConfigs: an abstract semantics that is proved sound for the model, contracts of functions in it, and plain facts (Abs25 LS1). No condition. -/
import Derived.Test.YtgephffbfiemeaaGreatDoorKScriptConfigs12
import Derived.Laws.Bits64b
set_option linter.all false
namespace Go.Abs
theorem eJ (x:BitVec 64):BitVec.ofInt 64 (x.toNat:Int)=x:=by
 apply BitVec.eq_of_toNat_eq
 rw [BitVec.ofInt_natCast,BitVec.toNat_ofNat]
 exact Nat.mod_eq_of_lt x.isLt
theorem j4 (x:BitVec 64):IntKind.u64.wrap (x.toNat:Int)=x.toNat:=by
 have:=x.isLt
 rw [IntKind.wrap_u64];omega
theorem j5 (x y:BitVec 64):bits .and .u64 (x.toNat:Int) (y.toNat:Int)=((x &&& y).toNat:Int):=by
 show IntKind.u64.wrap ((BitVec.ofInt 64 (x.toNat:Int) &&& BitVec.ofInt 64 (y.toNat:Int)).toNat:Int)=_
 rw [eJ,eJ,j4]
theorem pJ (x y:BitVec 64):bits .or .u64 (x.toNat:Int) (y.toNat:Int)=((x ||| y).toNat:Int):=by
 show IntKind.u64.wrap ((BitVec.ofInt 64 (x.toNat:Int) ||| BitVec.ofInt 64 (y.toNat:Int)).toNat:Int)=_
 rw [eJ,eJ,j4]
theorem gK (x y:BitVec 64):bits .andNot .u64 (x.toNat:Int) (y.toNat:Int)=((x &&& ~~~y).toNat:Int):=by
 show IntKind.u64.wrap ((BitVec.ofInt 64 (x.toNat:Int) &&& ~~~BitVec.ofInt 64 (y.toNat:Int)).toNat:Int)=_
 rw [eJ,eJ,j4]
theorem Ma (x:BitVec 64) (b:Nat) (hb:b≤64):(x.toNat:Int).fdiv (2^min b 64)=((x >>> b).toNat:Int):=by
 rw [Nat.min_eq_left hb,BitVec.toNat_ushiftRight,Nat.shiftRight_eq_div_pow]
 rw [Int.fdiv_eq_ediv_of_nonneg _ (by exact Int.pow_nonneg P6)]
 simp
theorem Mb (x:BitVec 64) (b:Nat) (hb:b≤64):IntKind.u64.wrap ((x.toNat:Int)*2^min b 64)=((x <<< b).toNat:Int):=by
 rw [Nat.min_eq_left hb,BitVec.toNat_shiftLeft,IntKind.wrap_u64,Nat.shiftLeft_eq]
 simp
theorem IG (x y:BitVec 64):((x.toNat:Int) == (y.toNat:Int))=(x == y):=by
 rw [Bool.eq_iff_iff]
 simp only [beq_iff_eq]
 constructor
 ·intro h;apply BitVec.eq_of_toNat_eq;omega
 ·rintro rfl;rfl
end Go.Abs
namespace Go.Proofs.YtgephffbfiemeaaGreatDoor
open Go.Abs
def leB (a b:BitVec 64):Bool:=(a &&& ~~~b) == 0#64
end Go.Proofs.YtgephffbfiemeaaGreatDoor
