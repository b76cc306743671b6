/-
  SumsKnown and awake: evaluated; strconv.FormatInt by the shelf's contract.
-/
import Derived.Test.YtfnhgenilbgklaaDoorCT05
import Derived.Test.YtfnhgenilbgklaaDoorSh05
import Derived.Test.YtfnhgenilbgklaaDoorAbs18
namespace Go.Proofs.YtfnhgenilbgklaaDoor
open Go.Abs Go.Lib
set_option linter.all false
set_option maxRecDepth 100000
theorem gPow : Tryd.prog.globalNamed "internal/strconv.uint64pow10" = some 0 := by kernel_rfl
theorem fmts : Fmts Tryd.prog 50 0 :=
  fmts_of (Go.Proofs.enters_of Tryd.func50 (by kernel_rfl) rfl) gPow (fun n h0 h1 w ht => Tryd.strconv_FormatInt_10 n h0 h1 w ht)
theorem add64_any (x y c : Int) (hc : c.toNat ≤ 1) : Pu Tryd.prog 60 [.int .u64 x, .int .u64 y, .int .u64 c] (add64V x y c) :=
  add64_pu Tryd.func60 (by kernel_rfl) rfl (by kernel_rfl) (by kernel_rfl) x y c hc
def gls : List (Nat × List AV) := [(0, tabAV)]
def X : Go.Abs.Call := xOr (xFmt 50 0 gls) (xAdd64 60)
theorem X_ok : CallOk Tryd.prog gls X := xOr_ok (xFmt_ok fmts rfl) (xAdd64_ok add64_any)
theorem t_aw : eBg X eT gls 200 50 11 [] isTrue = true := by kernel_rfl
theorem t_kn : eBg X eT gls 200 50 7 [] isTrue = true := by kernel_rfl
theorem awake_pu : PuG Tryd.prog gls 11 [] (.bool true) := closed_trueG X_ok (tabB_ok eT_ok) rfl rfl t_aw
theorem known_pu : PuG Tryd.prog gls 7 [] (.bool true) := closed_trueG X_ok (tabB_ok eT_ok) rfl rfl t_kn
end Go.Proofs.YtfnhgenilbgklaaDoor
