/- Part 21 of the proof of AuditParts: an abstract semantics that is proved sound for the model, contracts of functions in it, and plain facts (Sh28 LW3 EV2 EV3 SM1). No condition. -/
import Derived.Test.YtbbkckogjdjjgaaDoorKAuditParts20
import Derived.Shelf.Strings.Builder1
import Derived.Shelf.Strings.Builder2
import Derived.Shelf.Strings.OnBuilder
import Derived.Shelf.Strconv.Itoa0
import Derived.Shelf.Strconv.Itoa1
import Derived.Shelf.LaysM
import Derived.Shelf.Strconv.Itoa2
import Derived.Shelf.Strconv.Itoa3
import Derived.Shelf.Strconv.Itoa4
import Derived.Test.YtbbkckogjdjjgaaDoorProg
set_option linter.all false
namespace Go.Proofs
open Go.Shelf
def Tryd.lays156_ren : Go.Shelf.Ren := ⟨fun | 156 => 54 | 165 => 67 | 166 => 68 | 169 => 69 | 240 => 76 | 241 => 77 | 276 => 83 | 277 => 84 | n => n, fun | 31 => 82 | 9 => 9 | 3 => 3 | 4 => 4 | 0 => 0 | 20 => 20 | 72 => 98 | 76 => 102 | 70 => 95 | 37 => 96 | 75 => 101 | 127 => 111 | 164 => 118 | 5 => 5 | 80 => 104 | n => n, fun | n => n⟩
theorem Tryd.lays156 : Go.Proofs.Lays.n156 Tryd.prog Tryd.lays156_ren := {
  mixed := by kernel_rfl
  f156 := Tryd.func54.trans (congrArg some (by kernel_rfl))
  f165 := Tryd.func67.trans (congrArg some (by kernel_rfl))
  f166 := Tryd.func68.trans (congrArg some (by kernel_rfl))
  f169 := Tryd.func69.trans (congrArg some (by kernel_rfl))
  f240 := Tryd.func76.trans (congrArg some (by kernel_rfl))
  f241 := Tryd.func77.trans (congrArg some (by kernel_rfl))
  f276 := Tryd.func83.trans (congrArg some (by kernel_rfl))
  f277 := Tryd.func84.trans (congrArg some (by kernel_rfl))
  t0 := Tryd.underlying0
  a0 := Tryd.isAgg0
  z0 := Tryd.sizeOf0
  v0 := Tryd.zeroValue0
  t3 := Tryd.underlying3
  a3 := Tryd.isAgg3
  z3 := Tryd.sizeOf3
  v3 := Tryd.zeroValue3
  t4 := Tryd.underlying4
  a4 := Tryd.isAgg4
  z4 := Tryd.sizeOf4
  v4 := Tryd.zeroValue4
  t9 := Tryd.underlying9
  a9 := Tryd.isAgg9
  z9 := Tryd.sizeOf9
  v9 := Tryd.zeroValue9
  t20 := Tryd.underlying20
  a20 := Tryd.isAgg20
  z20 := Tryd.sizeOf20
  v20 := Tryd.zeroValue20
  t31 := Tryd.underlying82
  a31 := Tryd.isAgg82
  z31 := Tryd.sizeOf82
  v31 := Tryd.zeroValue82
  t37 := Tryd.underlying96
  a37 := Tryd.isAgg96
  z37 := Tryd.sizeOf96
  v37 := Tryd.zeroValue96
  t70 := Tryd.underlying95
  a70 := Tryd.isAgg95
  z70 := Tryd.sizeOf95
  v70 := Tryd.zeroValue95
  t72 := Tryd.underlying98
  a72 := Tryd.isAgg98
  z72 := Tryd.sizeOf98
  v72 := Tryd.zeroValue98
  t75 := Tryd.underlying101
  a75 := Tryd.isAgg101
  z75 := Tryd.sizeOf101
  v75 := Tryd.zeroValue101
  t76 := Tryd.underlying102
  a76 := Tryd.isAgg102
  z76 := Tryd.sizeOf102
  v76 := Tryd.zeroValue102
  t127 := Tryd.underlying111
  a127 := Tryd.isAgg111
  z127 := Tryd.sizeOf111
  v127 := Tryd.zeroValue111
  t164 := Tryd.underlying118
  a164 := Tryd.isAgg118
  z164 := Tryd.sizeOf118
  v164 := Tryd.zeroValue118 }
theorem Tryd.Builder_Extra_156 : Builder.Extra Tryd.prog Tryd.lays156_ren := {
  sizeBuilder := by kernel_rfl
  liesBuilder := by kernel_rfl
  t5 := Tryd.underlying5
  a5 := Tryd.isAgg5
  z5 := Tryd.sizeOf5
  v5 := Tryd.zeroValue5
  infoByte := by kernel_rfl
  cellsByte := by kernel_rfl
  sizeByte := by kernel_rfl
  neB5 := by decide }
open Go.RowKit in
/-- No element: the empty string; the world is as it was. (Whatever the slice's address and capacity: a nil slice too.) (LAID: no walk: one application.) -/
theorem Tryd.strings_Join_none (a : Option Addr) (c : Nat) (sep : ByteArray) (w : World) :
    Calls Tryd.prog 54 #[.slice a 0 c, .string sep] w fun e w' => e = .returned (.string ⟨#[]⟩) ∧ w' = w := Any.strings_Join_none Tryd.lays156 Tryd.Builder_Extra_156 a c sep w
open Go.RowKit in
/-- strings.Join: "Join concatenates the elements of its first argument to create a single string. The separator string sep is placed between elements in the resulting string.": HOWEVER MANY ELEMENTS. Below the heap's end the world is as it was. (LAID: no walk: one application.) -/
theorem Tryd.strings_Join (bk o c : Nat) (xs : List ByteArray) (sep : ByteArray) (w : World) (hcells : ∀ (j : Nat) x, xs[j]? = some x → w.cell? ⟨bk, o + j, none⟩ = some (.string x)) (hbk : bk < w.heap.size) (hN : xs.length ≤ 140737488355328) (hcap : xs.length ≤ c) (hlen : (Lib.join (xs.map (·.data.toList)) sep.data.toList).length ≤ 140737488355328) :
    Calls Tryd.prog 54 #[.slice (some ⟨bk, o, none⟩) xs.length c, .string sep] w fun e w' => e = .returned (.string ⟨(Lib.join (xs.map (·.data.toList)) sep.data.toList).toArray⟩) ∧ Below w.heap.size w w' := Any.strings_Join Tryd.lays156 Tryd.Builder_Extra_156 bk o c xs sep w hcells hbk hN hcap hlen
def Tryd.lays283_ren : Go.Shelf.Ren := ⟨fun | 283 => 70 | n => n, fun | 3 => 3 | 9 => 9 | 4 => 4 | n => n, fun | n => n⟩
theorem Tryd.lays283 : Go.Proofs.Lays.n283 Tryd.prog Tryd.lays283_ren := {
  mixed := by kernel_rfl
  f283 := Tryd.func70.trans (congrArg some (by kernel_rfl))
  t3 := Tryd.underlying3
  a3 := Tryd.isAgg3
  z3 := Tryd.sizeOf3
  v3 := Tryd.zeroValue3
  t4 := Tryd.underlying4
  a4 := Tryd.isAgg4
  z4 := Tryd.sizeOf4
  v4 := Tryd.zeroValue4
  t9 := Tryd.underlying9
  a9 := Tryd.isAgg9
  z9 := Tryd.sizeOf9
  v9 := Tryd.zeroValue9 }
open Go.Lib in
/-- internal/strconv.small: "small returns the string for an i with 0 <= i < nSmalls.": i's decimal numeral. The world is as it was. (LAID: no walk: one application.) -/
theorem Tryd.internal_strconv_small (i : Nat) (h : i < 100) (w : World) :
    Calls Tryd.prog 70 #[.int .i64 i] w fun e w' => e = .returned (.string ⟨(Lib.decDigits i).toArray⟩) ∧ w' = w := Any.internal_strconv_small Tryd.lays283 i h w
def Tryd.laysM284_ren : Go.Shelf.Ren := ⟨fun | 284 => 71 | 129 => 79 | 317 => 78 | 318 => 80 | n => n, fun | 53 => 25 | 3 => 3 | 212 => 114 | 0 => 0 | 4 => 4 | 46 => 55 | 5 => 5 | 9 => 9 | n => n, fun | 17 => 1 | n => n⟩
theorem Tryd.laysM284 : Go.Proofs.LaysM.n284 Tryd.prog Tryd.laysM284_ren := {
  mixed := by kernel_rfl
  f129 := Tryd.func79.trans (congrArg some (by kernel_rfl))
  f284 := Tryd.func71.trans (congrArg some (by kernel_rfl))
  f317 := Tryd.func78.trans (congrArg some (by kernel_rfl))
  f318 := Tryd.func80.trans (congrArg some (by kernel_rfl))
  t0 := Tryd.underlying0
  a0 := Tryd.isAgg0
  z0 := Tryd.sizeOf0
  v0 := Tryd.zeroValue0
  t3 := Tryd.underlying3
  a3 := Tryd.isAgg3
  z3 := Tryd.sizeOf3
  v3 := Tryd.zeroValue3
  t4 := Tryd.underlying4
  a4 := Tryd.isAgg4
  z4 := Tryd.sizeOf4
  v4 := Tryd.zeroValue4
  t5 := Tryd.underlying5
  a5 := Tryd.isAgg5
  z5 := Tryd.sizeOf5
  v5 := Tryd.zeroValue5
  t9 := Tryd.underlying9
  a9 := Tryd.isAgg9
  z9 := Tryd.sizeOf9
  v9 := Tryd.zeroValue9
  t46 := Tryd.underlying55
  a46 := Tryd.isAgg55
  z46 := Tryd.sizeOf55
  v46 := Tryd.zeroValue55
  t53 := Tryd.underlying25
  a53 := Tryd.isAgg25
  z53 := Tryd.sizeOf25
  v53 := Tryd.zeroValue25
  t212 := Tryd.underlying114
  a212 := Tryd.isAgg114
  z212 := Tryd.sizeOf114
  v212 := Tryd.zeroValue114
  g17 := by kernel_rfl
  i0 := by kernel_rfl
  i3 := by kernel_rfl
  i4 := by kernel_rfl
  i5 := by kernel_rfl
  i9 := by kernel_rfl
  i46 := by kernel_rfl
  i53 := by kernel_rfl
  i212 := by kernel_rfl
  m17 := by kernel_rfl }
open Go.Lib in
/-- internal/strconv.numDigits, at a d that is not 0: THE NUMBER OF d's DECIMAL DIGITS. The world is as it was. (LAID: no walk: one application.) -/
theorem Tryd.internal_strconv_numDigits (u : Nat) (h1 : 1 ≤ u) (h2 : u < 18446744073709551616) (w : World) (htab : Lib.TabIs Tryd.prog w "internal/strconv.uint64pow10" .u64 Lib.pow10Tab) :
    Calls Tryd.prog 71 #[.int .u64 u] w fun e w' => e = .returned (.int .i64 (Lib.nDigits u)) ∧ w' = w := Any.internal_strconv_numDigits Tryd.laysM284 u h1 h2 w htab
def Tryd.lays285_ren : Go.Shelf.Ren := ⟨fun | 285 => 72 | n => n, fun | 37 => 96 | 53 => 25 | 3 => 3 | 4 => 4 | 51 => 115 | 9 => 9 | 5 => 5 | 0 => 0 | n => n, fun | n => n⟩
theorem Tryd.lays285 : Go.Proofs.Lays.n285 Tryd.prog Tryd.lays285_ren := {
  mixed := by kernel_rfl
  f285 := Tryd.func72.trans (congrArg some (by kernel_rfl))
  t0 := Tryd.underlying0
  a0 := Tryd.isAgg0
  z0 := Tryd.sizeOf0
  v0 := Tryd.zeroValue0
  t3 := Tryd.underlying3
  a3 := Tryd.isAgg3
  z3 := Tryd.sizeOf3
  v3 := Tryd.zeroValue3
  t4 := Tryd.underlying4
  a4 := Tryd.isAgg4
  z4 := Tryd.sizeOf4
  v4 := Tryd.zeroValue4
  t5 := Tryd.underlying5
  a5 := Tryd.isAgg5
  z5 := Tryd.sizeOf5
  v5 := Tryd.zeroValue5
  t9 := Tryd.underlying9
  a9 := Tryd.isAgg9
  z9 := Tryd.sizeOf9
  v9 := Tryd.zeroValue9
  t37 := Tryd.underlying96
  a37 := Tryd.isAgg96
  z37 := Tryd.sizeOf96
  v37 := Tryd.zeroValue96
  t51 := Tryd.underlying115
  a51 := Tryd.isAgg115
  z51 := Tryd.sizeOf115
  v51 := Tryd.zeroValue115
  t53 := Tryd.underlying25
  a53 := Tryd.isAgg25
  z53 := Tryd.sizeOf25
  v53 := Tryd.zeroValue25 }
open Go.RowKit Go.Sort Go.Lib in
/-- internal/strconv.formatBase10: "formatBase10 formats the decimal representation of u into a. The caller is responsible for ensuring that a is big enough to hold u. If a is too big, leading zeros will be filled in as needed.": THE ROW HOLDS u's DIGITS ('FmtInv .. 0 ..': every place t holds 'dg u (len - 1 - t)'); all else is as it was but for the count of draws. (LAID: no walk: one application.) -/
theorem Tryd.internal_strconv_formatBase10 (blk off cap : Nat) (u : Nat) (d : Array UInt8) (w : World) (hH : Holds (fun (b : UInt8) => Value.int .u8 (b.toNat : Int)) w blk off d) (hu : u < 10 ^ d.size) (hu64 : u < 18446744073709551616) (hsz : d.size < 4611686018427387904) :
    Calls Tryd.prog 72 #[.slice (some ⟨blk, off, none⟩) d.size cap, .int .u64 u] w fun e w' =>
      e = .returned (.tuple #[]) ∧ ∃ (n v' : Nat) (dk : Array UInt8), w' = (putRow (fun (b : UInt8) => Value.int .u8 (b.toNat : Int)) w blk off dk).drewN n ∧ FmtInv d.size u 0 v' dk := Any.internal_strconv_formatBase10 Tryd.lays285 blk off cap u d w hH hu hu64 hsz
def Tryd.lays171_ren : Go.Shelf.Ren := ⟨fun | 171 => 40 | 243 => 52 | 246 => 64 | 283 => 70 | 284 => 71 | 285 => 72 | 286 => 73 | 129 => 79 | 317 => 78 | 318 => 80 | 319 => 81 | 320 => 82 | 337 => 85 | 338 => 66 | n => n, fun | 3 => 3 | 9 => 9 | 2 => 2 | 4 => 4 | 171 => 105 | 0 => 0 | 53 => 25 | 37 => 96 | 5 => 5 | 173 => 107 | 212 => 114 | 51 => 115 | 20 => 20 | 213 => 116 | 46 => 55 | 232 => 122 | 233 => 110 | n => n, fun | 17 => 1 | 18 => 3 | 19 => 0 | n => n⟩
theorem Tryd.lays171 : Go.Proofs.Lays.n171 Tryd.prog Tryd.lays171_ren := {
  mixed := by kernel_rfl
  f129 := Tryd.func79.trans (congrArg some (by kernel_rfl))
  f171 := Tryd.func40.trans (congrArg some (by kernel_rfl))
  f243 := Tryd.func52.trans (congrArg some (by kernel_rfl))
  f246 := Tryd.func64.trans (congrArg some (by kernel_rfl))
  f283 := Tryd.func70.trans (congrArg some (by kernel_rfl))
  f284 := Tryd.func71.trans (congrArg some (by kernel_rfl))
  f285 := Tryd.func72.trans (congrArg some (by kernel_rfl))
  f286 := Tryd.func73.trans (congrArg some (by kernel_rfl))
  f317 := Tryd.func78.trans (congrArg some (by kernel_rfl))
  f318 := Tryd.func80.trans (congrArg some (by kernel_rfl))
  f319 := Tryd.func81.trans (congrArg some (by kernel_rfl))
  f320 := Tryd.func82.trans (congrArg some (by kernel_rfl))
  f337 := Tryd.func85.trans (congrArg some (by kernel_rfl))
  f338 := Tryd.func66.trans (congrArg some (by kernel_rfl))
  t0 := Tryd.underlying0
  a0 := Tryd.isAgg0
  z0 := Tryd.sizeOf0
  v0 := Tryd.zeroValue0
  t2 := Tryd.underlying2
  a2 := Tryd.isAgg2
  z2 := Tryd.sizeOf2
  v2 := Tryd.zeroValue2
  t3 := Tryd.underlying3
  a3 := Tryd.isAgg3
  z3 := Tryd.sizeOf3
  v3 := Tryd.zeroValue3
  t4 := Tryd.underlying4
  a4 := Tryd.isAgg4
  z4 := Tryd.sizeOf4
  v4 := Tryd.zeroValue4
  t5 := Tryd.underlying5
  a5 := Tryd.isAgg5
  z5 := Tryd.sizeOf5
  v5 := Tryd.zeroValue5
  t9 := Tryd.underlying9
  a9 := Tryd.isAgg9
  z9 := Tryd.sizeOf9
  v9 := Tryd.zeroValue9
  t20 := Tryd.underlying20
  a20 := Tryd.isAgg20
  z20 := Tryd.sizeOf20
  v20 := Tryd.zeroValue20
  t37 := Tryd.underlying96
  a37 := Tryd.isAgg96
  z37 := Tryd.sizeOf96
  v37 := Tryd.zeroValue96
  t46 := Tryd.underlying55
  a46 := Tryd.isAgg55
  z46 := Tryd.sizeOf55
  v46 := Tryd.zeroValue55
  t51 := Tryd.underlying115
  a51 := Tryd.isAgg115
  z51 := Tryd.sizeOf115
  v51 := Tryd.zeroValue115
  t53 := Tryd.underlying25
  a53 := Tryd.isAgg25
  z53 := Tryd.sizeOf25
  v53 := Tryd.zeroValue25
  t171 := Tryd.underlying105
  a171 := Tryd.isAgg105
  z171 := Tryd.sizeOf105
  v171 := Tryd.zeroValue105
  t173 := Tryd.underlying107
  a173 := Tryd.isAgg107
  z173 := Tryd.sizeOf107
  v173 := Tryd.zeroValue107
  t212 := Tryd.underlying114
  a212 := Tryd.isAgg114
  z212 := Tryd.sizeOf114
  v212 := Tryd.zeroValue114
  t213 := Tryd.underlying116
  a213 := Tryd.isAgg116
  z213 := Tryd.sizeOf116
  t232 := Tryd.underlying122
  a232 := Tryd.isAgg122
  z232 := Tryd.sizeOf122
  v232 := Tryd.zeroValue122
  t233 := Tryd.underlying110
  a233 := Tryd.isAgg110
  z233 := Tryd.sizeOf110
  v233 := Tryd.zeroValue110
  g17 := by kernel_rfl
  g18 := by kernel_rfl
  g19 := by kernel_rfl }
open Go.RowKit Go.Sort Go.Lib in
/-- THE ROAD WITHOUT THE TABLE: 0 <= i < 100: NO PREMISE ON THE WORLD, AND THE WORLD IS AS IT WAS: a row that keeps its argument in that range need list no table ('laid = []'). (LAID: no walk: one application.) -/
theorem Tryd.strconv_Itoa_small (i : Nat) (hi : i < 100) (w : World) :
    Calls Tryd.prog 40 #[.int .i64 i] w fun e w' => e = .returned (.string ⟨(Lib.decDigits i).toArray⟩) ∧ w' = w := Any.strconv_Itoa_small Tryd.lays171 i hi w
def Tryd.laysM173_ren : Go.Shelf.Ren := ⟨fun | 173 => 63 | 246 => 64 | 283 => 70 | 284 => 71 | 285 => 72 | 286 => 73 | 129 => 79 | 317 => 78 | 318 => 80 | 319 => 81 | 320 => 82 | 337 => 85 | 338 => 66 | n => n, fun | 2 => 2 | 3 => 3 | 9 => 9 | 4 => 4 | 171 => 105 | 0 => 0 | 53 => 25 | 37 => 96 | 5 => 5 | 173 => 107 | 212 => 114 | 51 => 115 | 20 => 20 | 213 => 116 | 46 => 55 | 232 => 122 | 233 => 110 | n => n, fun | 17 => 1 | 18 => 3 | 19 => 0 | n => n⟩
theorem Tryd.laysM173 : Go.Proofs.LaysM.n173 Tryd.prog Tryd.laysM173_ren := {
  mixed := by kernel_rfl
  f129 := Tryd.func79.trans (congrArg some (by kernel_rfl))
  f173 := Tryd.func63.trans (congrArg some (by kernel_rfl))
  f246 := Tryd.func64.trans (congrArg some (by kernel_rfl))
  f283 := Tryd.func70.trans (congrArg some (by kernel_rfl))
  f284 := Tryd.func71.trans (congrArg some (by kernel_rfl))
  f285 := Tryd.func72.trans (congrArg some (by kernel_rfl))
  f286 := Tryd.func73.trans (congrArg some (by kernel_rfl))
  f317 := Tryd.func78.trans (congrArg some (by kernel_rfl))
  f318 := Tryd.func80.trans (congrArg some (by kernel_rfl))
  f319 := Tryd.func81.trans (congrArg some (by kernel_rfl))
  f320 := Tryd.func82.trans (congrArg some (by kernel_rfl))
  f337 := Tryd.func85.trans (congrArg some (by kernel_rfl))
  f338 := Tryd.func66.trans (congrArg some (by kernel_rfl))
  t0 := Tryd.underlying0
  a0 := Tryd.isAgg0
  z0 := Tryd.sizeOf0
  v0 := Tryd.zeroValue0
  t2 := Tryd.underlying2
  a2 := Tryd.isAgg2
  z2 := Tryd.sizeOf2
  v2 := Tryd.zeroValue2
  t3 := Tryd.underlying3
  a3 := Tryd.isAgg3
  z3 := Tryd.sizeOf3
  v3 := Tryd.zeroValue3
  t4 := Tryd.underlying4
  a4 := Tryd.isAgg4
  z4 := Tryd.sizeOf4
  v4 := Tryd.zeroValue4
  t5 := Tryd.underlying5
  a5 := Tryd.isAgg5
  z5 := Tryd.sizeOf5
  v5 := Tryd.zeroValue5
  t9 := Tryd.underlying9
  a9 := Tryd.isAgg9
  z9 := Tryd.sizeOf9
  v9 := Tryd.zeroValue9
  t20 := Tryd.underlying20
  a20 := Tryd.isAgg20
  z20 := Tryd.sizeOf20
  v20 := Tryd.zeroValue20
  t37 := Tryd.underlying96
  a37 := Tryd.isAgg96
  z37 := Tryd.sizeOf96
  v37 := Tryd.zeroValue96
  t46 := Tryd.underlying55
  a46 := Tryd.isAgg55
  z46 := Tryd.sizeOf55
  v46 := Tryd.zeroValue55
  t51 := Tryd.underlying115
  a51 := Tryd.isAgg115
  z51 := Tryd.sizeOf115
  v51 := Tryd.zeroValue115
  t53 := Tryd.underlying25
  a53 := Tryd.isAgg25
  z53 := Tryd.sizeOf25
  v53 := Tryd.zeroValue25
  t171 := Tryd.underlying105
  a171 := Tryd.isAgg105
  z171 := Tryd.sizeOf105
  v171 := Tryd.zeroValue105
  t173 := Tryd.underlying107
  a173 := Tryd.isAgg107
  z173 := Tryd.sizeOf107
  v173 := Tryd.zeroValue107
  t212 := Tryd.underlying114
  a212 := Tryd.isAgg114
  z212 := Tryd.sizeOf114
  v212 := Tryd.zeroValue114
  t213 := Tryd.underlying116
  a213 := Tryd.isAgg116
  z213 := Tryd.sizeOf116
  t232 := Tryd.underlying122
  a232 := Tryd.isAgg122
  z232 := Tryd.sizeOf122
  v232 := Tryd.zeroValue122
  t233 := Tryd.underlying110
  a233 := Tryd.isAgg110
  z233 := Tryd.sizeOf110
  v233 := Tryd.zeroValue110
  g17 := by kernel_rfl
  g18 := by kernel_rfl
  g19 := by kernel_rfl
  i0 := by kernel_rfl
  i2 := by kernel_rfl
  i3 := by kernel_rfl
  i4 := by kernel_rfl
  i5 := by kernel_rfl
  i9 := by kernel_rfl
  i20 := by kernel_rfl
  i37 := by kernel_rfl
  i46 := by kernel_rfl
  i51 := by kernel_rfl
  i53 := by kernel_rfl
  i171 := by kernel_rfl
  i173 := by kernel_rfl
  i212 := by kernel_rfl
  i232 := by kernel_rfl
  i233 := by kernel_rfl
  m17 := by kernel_rfl
  m18 := by kernel_rfl
  m19 := by kernel_rfl }
open Go.RowKit Go.Sort Go.Lib in
/-- strconv.FormatInt: "FormatInt returns the string representation of i in the given base": AT BASE 10: i's decimal numeral, for every int64. (LAID: no walk: one application.) -/
theorem Tryd.strconv_FormatInt_10 (n : Int) (h0 : -9223372036854775808 ≤ n) (h1 : n ≤ 9223372036854775807) (w : World) (htab : Lib.TabIs Tryd.prog w "internal/strconv.uint64pow10" .u64 Lib.pow10Tab) :
    Calls Tryd.prog 63 #[.int .i64 n, .int .i64 10] w fun e w' => e = .returned (.string ⟨(Lib.itoa n).toArray⟩) ∧ ∃ k os, w' = grow (w.drewN k) os := Any.strconv_FormatInt_10 Tryd.laysM173 n h0 h1 w htab
end Go.Proofs
namespace Go.Proofs.YtbbkckogjdjjgaaDoor
open Go.Abs
set_option linter.all false
set_option maxRecDepth 100000
theorem joins : Joins Tryd.prog 54 :=
  joins_of (Go.Proofs.enters_of Tryd.func54 (by kernel_rfl) rfl) (fun x sep w => Tryd.strings_Join_none x 0 sep w) (fun bk o c xs sep w h1 h2 h3 h4 h5 => Tryd.strings_Join bk o c xs sep w h1 h2 h3 h4 h5)
theorem itoas : Itoas Tryd.prog 40 :=
  itoas_of (Go.Proofs.enters_of Tryd.func40 (by kernel_rfl) rfl) (fun i hi w => Tryd.strconv_Itoa_small i hi w)
theorem dec_small {k : Nat} (h : k < 100) : Lib.decDigits k = dec2 k := by
  rw [Lib.decDigits]
  unfold dec2
  split
  · rfl
  · rw [Lib.decDigits, dif_pos (by omega)]; rfl
theorem joinTail_commas : ∀ (l : List Nat), (∀ x ∈ l, x < 64) → Lib.joinTail [44] (l.map Lib.decDigits) = commas l
  | [], _ => rfl
  | k :: l, h => by
    have := joinTail_commas l (fun x hx => h x (by simp [hx]))
    simp only [Lib.joinTail, List.map_cons, List.flatten_cons, commas] at this ⊢
    rw [this, dec_small (by have := h k (by simp); omega)]
    simp
theorem join_bodyT (l : List Nat) (h : ∀ x ∈ l, x < 64) : Lib.join (l.map Lib.decDigits) [44] = bodyT l := by
  cases l with
  | nil => rfl
  | cons k l =>
    rw [List.map_cons, Lib.join_cons, joinTail_commas l (fun x hx => h x (by simp [hx])), dec_small (by have := h k (by simp); omega)]
    rfl
def strs (l : List Nat) : List AV := l.map fun n => AV.str (Lib.decDigits n)
theorem strs_len (l : List Nat) : (strs l).length = l.length := by simp [strs]
theorem strs_snoc (l : List Nat) (k : Nat) : strs l ++ [.str (Lib.decDigits k)] = strs (l ++ [k]) := by simp [strs]
theorem slv_strs (τ : Nat) (l : List Nat) : slv (.tsl τ l.length (strs l)) = some ((l.map Lib.decDigits).length, (l.map Lib.decDigits).map AV.str) := by simp [slv, strs]
theorem join_cats (a : BitVec 64) : Lib.join ((cats a).map Lib.decDigits) [44] = bodyT (cats a) := join_bodyT _ fun _ hx => cats_lt hx
theorem p41 (a : BitVec 64) : PuG Tryd.prog gls 41 [.int .u64 a.toNat] (.str (textL a)) := by
  intro σ hσ
  refine AC_intro c41 b41 (Nat.le_of_ble_eq_true rfl) ?_
  simp only [c41, ↓R1, R2, R3, R4, R5, Nat.reduceEqDiff, Nat.reduceAdd, Nat.reduceMul, Nat.reduceSub, Nat.reduceLeDiff, Nat.reduceLT, reduceIte, reduceCtorEq, Int.reduceBNe, Int.reduceBEq]
  repeat' (first | (with_reducible rw [allocV_eq]) | (refine gdV_split (fun hc => ?_) (fun hc => ?_) <;> (try simp only [hc, ↓R1, R2, R3, R4, R5, Nat.reduceEqDiff, Nat.reduceAdd, Nat.reduceMul, Nat.reduceSub, Nat.reduceLeDiff, Nat.reduceLT, reduceIte, reduceCtorEq, Int.reduceBNe, Int.reduceBEq])) | ((first | refine condV_split (fun hc => ?_) (fun hc => ?_) | (with_reducible intro β hβ; (try simp only [St.box_noneA, St.tip_noneA, St.tip_set, St.box_tip, St.box_lp, St.tip_lp] at hβ); (repeat (obtain ⟨⟨_, _⟩, hβ⟩ := hβ)); (try (have hbis := apart_is (by assumption) hβ; obtain ⟨_, _⟩ := hbis))) | ((first | (refine appD_tslK (.inr rfl) rfl ?_ ?_ ?_ ?_ ?_ ?_; (first | rfl | exact St.tip_same _ _ _ | (simp only [↓R1, R2, R3, R4, R5, Nat.reduceEqDiff, Nat.reduceAdd, Nat.reduceMul, Nat.reduceSub, Nat.reduceLeDiff, Nat.reduceLT, reduceIte, reduceCtorEq, Int.reduceBNe, Int.reduceBEq])); (first | omega | (simp only [strs_len, List.length_map, List.length_append, List.length_nil, List.length_cons]; omega) | (simp only [strs_len, List.length_map, List.length_append, List.length_nil, List.length_cons])); (first | rfl | first | omega | (simp only [strs_len, List.length_map, List.length_append, List.length_nil, List.length_cons]; omega) | (simp only [strs_len, List.length_map, List.length_append, List.length_nil, List.length_cons]))) | (refine appV_tslK rfl ?_ ?_ ?_ ?_ ?_ ?_; (first | rfl | exact St.tip_same _ _ _ | (simp only [↓R1, R2, R3, R4, R5, Nat.reduceEqDiff, Nat.reduceAdd, Nat.reduceMul, Nat.reduceSub, Nat.reduceLeDiff, Nat.reduceLT, reduceIte, reduceCtorEq, Int.reduceBNe, Int.reduceBEq])); (first | omega | (simp only [strs_len, List.length_map, List.length_append, List.length_nil, List.length_cons]; omega) | (simp only [strs_len, List.length_map, List.length_append, List.length_nil, List.length_cons])); (first | rfl | first | omega | (simp only [strs_len, List.length_map, List.length_append, List.length_nil, List.length_cons]; omega) | (simp only [strs_len, List.length_map, List.length_append, List.length_nil, List.length_cons]))) | (refine appV_own ?_ ?_ ?_ ?_; exact flat_len (by intro _; rfl) _) | (refine appD_own ?_ ?_ ?_ ?_ ?_; omega; exact flat_len (by intro _; rfl) _) | (refine appV_fresh rfl trivial rfl ?_ ?_ ?_ ?_ ?_; (first | rfl | first | omega | (simp only [strs_len, List.length_map, List.length_append, List.length_nil, List.length_cons]; omega) | (simp only [strs_len, List.length_map, List.length_append, List.length_nil, List.length_cons])); (first | rfl | first | omega | (simp only [strs_len, List.length_map, List.length_append, List.length_nil, List.length_cons]; omega) | (simp only [strs_len, List.length_map, List.length_append, List.length_nil, List.length_cons]))) | (refine appD_fresh rfl trivial rfl ?_ ?_ ?_ ?_ ?_ ?_; omega; (first | rfl | first | omega | (simp only [strs_len, List.length_map, List.length_append, List.length_nil, List.length_cons]; omega) | (simp only [strs_len, List.length_map, List.length_append, List.length_nil, List.length_cons])); (first | rfl | first | omega | (simp only [strs_len, List.length_map, List.length_append, List.length_nil, List.length_cons]; omega) | (simp only [strs_len, List.length_map, List.length_append, List.length_nil, List.length_cons])))); (unfold maxLen; omega); omega)) <;> (try simp only [↓R1, R2, R3, R4, R5, Nat.reduceEqDiff, Nat.reduceAdd, Nat.reduceMul, Nat.reduceSub, Nat.reduceLeDiff, Nat.reduceLT, reduceIte, reduceCtorEq, Int.reduceBNe, Int.reduceBEq])) | (with_reducible refine And.intro ?_ ?_; (focus (first | omega | (intros; (repeat' (with_reducible apply And.intro)) <;> first | omega | (simp only [strs_len, List.length_map, List.length_append]; omega))))) | (with_reducible apply And.intro))
  refine (p53 a _).mono ?_
  rintro _ _ ⟨γ, hγ, rfl, rfl⟩
  rw [St.box_noneA] at hγ
  obtain ⟨⟨_, _⟩, hγ⟩ := hγ
  simp only [↓R1, R2, R3, R4, R5, Nat.reduceEqDiff, Nat.reduceAdd, Nat.reduceMul, Nat.reduceSub, Nat.reduceLeDiff, Nat.reduceLT, reduceIte, reduceCtorEq, Int.reduceBNe, Int.reduceBEq]
  refine rfunV_start [(true, 3, 0, 9, 1)] ?_
  simp only [startP, List.set_cons_zero, ↓R1, R2, R3, R4, R5, Nat.reduceEqDiff, Nat.reduceAdd, Nat.reduceMul, Nat.reduceSub, Nat.reduceLeDiff, Nat.reduceLT, reduceIte, reduceCtorEq, Int.reduceBNe, Int.reduceBEq]
  refine fun τ hτ => ⟨_, _, rfl, ?_⟩
  refine RF_each a (fun pre c => ((σ.setBox β [.tsl τ pre.length (strs pre)]).setBox γ [.int .u64 c.toNat]).setTip τ (9, 1, pre.length)) (fun _ => True) rfl trivial ?_ ?_ ?_ ?_ ?_ ?_
  · intro pre b; simp only [↓R1, R2, R3, R4, R5, Nat.reduceEqDiff, Nat.reduceAdd, Nat.reduceMul, Nat.reduceSub, Nat.reduceLeDiff, Nat.reduceLT, reduceIte, reduceCtorEq, Int.reduceBNe, Int.reduceBEq]
  · intro pre b b'; simp only [↓R1, R2, R3, R4, R5, Nat.reduceEqDiff, Nat.reduceAdd, Nat.reduceMul, Nat.reduceSub, Nat.reduceLeDiff, Nat.reduceLT, reduceIte, reduceCtorEq, Int.reduceBNe, Int.reduceBEq]
  · intro pre b; exact hσ
  · intro pre b L; simp only [↓R1, R2, R3, R4, R5, Nat.reduceEqDiff, Nat.reduceAdd, Nat.reduceMul, Nat.reduceSub, Nat.reduceLeDiff, Nat.reduceLT, reduceIte, reduceCtorEq, Int.reduceBNe, Int.reduceBEq]
  · intro L r pre k b hL _ hk
    obtain ⟨rest, hr⟩ := hk
    have hlen : pre.length < 64 := by
      have := cats_len a
      rw [hr] at this
      simp at this
      omega
    have hk64 : k < 64 := cats_lt (a := a) (by rw [hr]; simp)
    simp only [↓R1, R2, R3, R4, R5, Nat.reduceEqDiff, Nat.reduceAdd, Nat.reduceMul, Nat.reduceSub, Nat.reduceLeDiff, Nat.reduceLT, reduceIte, reduceCtorEq, Int.reduceBNe, Int.reduceBEq]
    have hm : pre.length + 1 ≤ maxLen := by unfold maxLen; omega
    repeat' (first | (with_reducible rw [allocV_eq]) | (refine gdV_split (fun hc => ?_) (fun hc => ?_) <;> (try simp only [hc, ↓R1, R2, R3, R4, R5, Nat.reduceEqDiff, Nat.reduceAdd, Nat.reduceMul, Nat.reduceSub, Nat.reduceLeDiff, Nat.reduceLT, reduceIte, reduceCtorEq, Int.reduceBNe, Int.reduceBEq])) | ((first | refine condV_split (fun hc => ?_) (fun hc => ?_) | (with_reducible intro β hβ; (try simp only [St.box_noneA, St.tip_noneA, St.tip_set, St.box_tip, St.box_lp, St.tip_lp] at hβ); (repeat (obtain ⟨⟨_, _⟩, hβ⟩ := hβ)); (try (have hbis := apart_is (by assumption) hβ; obtain ⟨_, _⟩ := hbis))) | ((first | (refine appD_tslK (.inr rfl) rfl ?_ ?_ ?_ ?_ ?_ ?_; (first | rfl | exact St.tip_same _ _ _ | (simp only [↓R1, R2, R3, R4, R5, Nat.reduceEqDiff, Nat.reduceAdd, Nat.reduceMul, Nat.reduceSub, Nat.reduceLeDiff, Nat.reduceLT, reduceIte, reduceCtorEq, Int.reduceBNe, Int.reduceBEq])); (first | omega | (simp only [strs_len, List.length_map, List.length_append, List.length_nil, List.length_cons]; omega) | (simp only [strs_len, List.length_map, List.length_append, List.length_nil, List.length_cons])); (first | rfl | first | omega | (simp only [strs_len, List.length_map, List.length_append, List.length_nil, List.length_cons]; omega) | (simp only [strs_len, List.length_map, List.length_append, List.length_nil, List.length_cons]))) | (refine appV_tslK rfl ?_ ?_ ?_ ?_ ?_ ?_; (first | rfl | exact St.tip_same _ _ _ | (simp only [↓R1, R2, R3, R4, R5, Nat.reduceEqDiff, Nat.reduceAdd, Nat.reduceMul, Nat.reduceSub, Nat.reduceLeDiff, Nat.reduceLT, reduceIte, reduceCtorEq, Int.reduceBNe, Int.reduceBEq])); (first | omega | (simp only [strs_len, List.length_map, List.length_append, List.length_nil, List.length_cons]; omega) | (simp only [strs_len, List.length_map, List.length_append, List.length_nil, List.length_cons])); (first | rfl | first | omega | (simp only [strs_len, List.length_map, List.length_append, List.length_nil, List.length_cons]; omega) | (simp only [strs_len, List.length_map, List.length_append, List.length_nil, List.length_cons]))) | (refine appV_own ?_ ?_ ?_ ?_; exact flat_len (by intro _; rfl) _) | (refine appD_own ?_ ?_ ?_ ?_ ?_; omega; exact flat_len (by intro _; rfl) _) | (refine appV_fresh rfl trivial rfl ?_ ?_ ?_ ?_ ?_; (first | rfl | first | omega | (simp only [strs_len, List.length_map, List.length_append, List.length_nil, List.length_cons]; omega) | (simp only [strs_len, List.length_map, List.length_append, List.length_nil, List.length_cons])); (first | rfl | first | omega | (simp only [strs_len, List.length_map, List.length_append, List.length_nil, List.length_cons]; omega) | (simp only [strs_len, List.length_map, List.length_append, List.length_nil, List.length_cons]))) | (refine appD_fresh rfl trivial rfl ?_ ?_ ?_ ?_ ?_ ?_; omega; (first | rfl | first | omega | (simp only [strs_len, List.length_map, List.length_append, List.length_nil, List.length_cons]; omega) | (simp only [strs_len, List.length_map, List.length_append, List.length_nil, List.length_cons])); (first | rfl | first | omega | (simp only [strs_len, List.length_map, List.length_append, List.length_nil, List.length_cons]; omega) | (simp only [strs_len, List.length_map, List.length_append, List.length_nil, List.length_cons])))); (unfold maxLen; omega); omega)) <;> (try simp only [↓R1, R2, R3, R4, R5, Nat.reduceEqDiff, Nat.reduceAdd, Nat.reduceMul, Nat.reduceSub, Nat.reduceLeDiff, Nat.reduceLT, reduceIte, reduceCtorEq, Int.reduceBNe, Int.reduceBEq])) | (with_reducible refine And.intro ?_ ?_; (focus (first | omega | (intros; (repeat' (with_reducible apply And.intro)) <;> first | omega | (simp only [strs_len, List.length_map, List.length_append]; omega))))) | (with_reducible apply And.intro) | ((first | refine Pu.to (itoas k (by omega)) (wkL_refl _) ?_ | refine callDV_pu (itoas k (by omega)) (wkL_refl _) ?_); (try simp only [↓R1, R2, R3, R4, R5, Nat.reduceEqDiff, Nat.reduceAdd, Nat.reduceMul, Nat.reduceSub, Nat.reduceLeDiff, Nat.reduceLT, reduceIte, reduceCtorEq, Int.reduceBNe, Int.reduceBEq])))
    all_goals first | omega | exact Nat.le_refl _ | assumption | exact St.le_refl _ | (intros; (repeat' (with_reducible apply And.intro)) <;> first | omega | (simp only [strs_len, List.length_map, List.length_append]; omega)) | (simp only [subF, slot, wk_refl, ↓R1, R2, R3, R4, R5, Nat.reduceEqDiff, Nat.reduceAdd, Nat.reduceMul, Nat.reduceSub, Nat.reduceLeDiff, Nat.reduceLT, reduceIte, reduceCtorEq, Int.reduceBNe, Int.reduceBEq]; (repeat' (with_reducible apply And.intro)) <;> first | exact wk_k (by have := maxLen_lt; omega) | exact wk_tsl _ _ _ | exact wk_full _ _ | exact wk_of_eq (congrArg (AV.tsl _ _) (flat_step (by assumption)))) | ((repeat (first | exact St.le_refl _ | (refine St.le_new ?_ (by assumption)) | (refine St.le_newT ?_ (by assumption)))); done) | (simp_all; done) | skip
    all_goals (try simp only [↓R1, R2, R3, R4, R5, Nat.reduceEqDiff, Nat.reduceAdd, Nat.reduceMul, Nat.reduceSub, Nat.reduceLeDiff, Nat.reduceLT, reduceIte, reduceCtorEq, Int.reduceBNe, Int.reduceBEq])
    refine ⟨_, ?_, ?_, rfl⟩
    rotate_left
    · exact hL
    simp only [strs_snoc, List.length_append, ↓R1, R2, R3, R4, R5, Nat.reduceEqDiff, Nat.reduceAdd, Nat.reduceMul, Nat.reduceSub, Nat.reduceLeDiff, Nat.reduceLT, reduceIte, reduceCtorEq, Int.reduceBNe, Int.reduceBEq]
  · intro _
    simp only [↓R1, R2, R3, R4, R5, Nat.reduceEqDiff, Nat.reduceAdd, Nat.reduceMul, Nat.reduceSub, Nat.reduceLeDiff, Nat.reduceLT, reduceIte, reduceCtorEq, Int.reduceBNe, Int.reduceBEq]
    have hbl := bodyT_len a
    refine ((joins _ _ [44] _ (slv_strs τ (cats a)) (by have := cats_len a; simp; omega) (by rw [join_cats]; omega)).mono ?_)
    rintro _ _ ⟨rfl, rfl⟩
    rw [join_cats]
    simp only [↓R1, R2, R3, R4, R5, Nat.reduceEqDiff, Nat.reduceAdd, Nat.reduceMul, Nat.reduceSub, Nat.reduceLeDiff, Nat.reduceLT, reduceIte, reduceCtorEq, Int.reduceBNe, Int.reduceBEq]
    refine ⟨by omega, ?_, ?_⟩
    · omega
    (refine endP_pu (by simp) (by first | (simp [rvsS, rvS]; done) | (simp only [rvsS, rvS, ↓R1, R2, R3, R4, R5, Nat.reduceEqDiff, Nat.reduceAdd, Nat.reduceMul, Nat.reduceSub, Nat.reduceLeDiff, Nat.reduceLT, reduceIte, reduceCtorEq, Int.reduceBNe, Int.reduceBEq]; try simp)) (wk_of_eq ?_) (by (repeat (first | exact St.le_refl _ | (refine St.le_new ?_ (by assumption)) | (refine St.le_newT ?_ (by assumption))))))
    (simp only [resAV, rvV, List.map_cons, List.map_nil, ↓R1, R2, R3, R4, R5, Nat.reduceEqDiff, Nat.reduceAdd, Nat.reduceMul, Nat.reduceSub, Nat.reduceLeDiff, Nat.reduceLT, reduceIte, reduceCtorEq, Int.reduceBNe, Int.reduceBEq])
    simp [textL]
end Go.Proofs.YtbbkckogjdjjgaaDoor
namespace Go.Proofs.YtbbkckogjdjjgaaDoor
open Go.Abs Go.Lib
set_option linter.all false
set_option maxRecDepth 100000
def I64 (n : Int) : Prop := -9223372036854775808 ≤ n ∧ n ≤ 9223372036854775807
/-- The tables of this seat. -/
def gl3 : List (Nat × List AV) := [(0, gTab), (1, tabAV)]
theorem gls_sub {σ : St} (h : GlobsOk gl3 σ) : GlobsOk gls σ := fun k cs hk => by
  simp only [gls, Go.Abs.look] at hk
  cases hb : Nat.beq k 0 with
  | false => rw [hb] at hk; cases hk
  | true => rw [hb] at hk; exact h k cs (by simp only [gl3, Go.Abs.look, hb]; exact hk)
theorem PuG.up3 {f : Nat} {xs : List AV} {v : AV} (h : PuG Tryd.prog gls f xs v) : PuG Tryd.prog gl3 f xs v := fun σ hσ => h σ (gls_sub hσ)
theorem gPow : Tryd.prog.globalNamed "internal/strconv.uint64pow10" = some 1 := by kernel_rfl
theorem fmts : Fmts Tryd.prog 63 1 :=
  fmts_of (Go.Proofs.enters_of Tryd.func63 (by kernel_rfl) rfl) gPow (fun n h0 h1 w ht => Tryd.strconv_FormatInt_10 n h0 h1 w ht)
theorem p51 (n : Int) (hn : I64 n) : PuG Tryd.prog gl3 51 [.int .i64 n] (.str (itoa n)) := by
  intro σ hσ
  refine AC_intro c51 b51 (Nat.le_of_ble_eq_true rfl) ?_
  simp only [c51, ↓R1, R2, R3, R4, R5, Nat.reduceEqDiff, Nat.reduceAdd, Nat.reduceMul, Nat.reduceSub, Nat.reduceLeDiff, Nat.reduceLT, reduceIte, reduceCtorEq, Int.reduceBNe, Int.reduceBEq]
  refine AC.mono (fmts n σ hn.1 hn.2 (hσ _ _ rfl)) ?_
  rintro r s ⟨rfl, rfl⟩
  simp only [↓R1, R2, R3, R4, R5, Nat.reduceEqDiff, Nat.reduceAdd, Nat.reduceMul, Nat.reduceSub, Nat.reduceLeDiff, Nat.reduceLT, reduceIte, reduceCtorEq, Int.reduceBNe, Int.reduceBEq]
  (refine endP_pu (by simp) (by first | (simp [rvsS, rvS]; done) | (simp only [rvsS, rvS, ↓R1, R2, R3, R4, R5, Nat.reduceEqDiff, Nat.reduceAdd, Nat.reduceMul, Nat.reduceSub, Nat.reduceLeDiff, Nat.reduceLT, reduceIte, reduceCtorEq, Int.reduceBNe, Int.reduceBEq]; try simp)) (wk_of_eq ?_) (by (repeat (first | exact St.le_refl _ | (refine St.le_new ?_ (by assumption)) | (refine St.le_newT ?_ (by assumption))))))
  (simp only [resAV, rvV, List.map_cons, List.map_nil, ↓R1, R2, R3, R4, R5, Nat.reduceEqDiff, Nat.reduceAdd, Nat.reduceMul, Nat.reduceSub, Nat.reduceLeDiff, Nat.reduceLT, reduceIte, reduceCtorEq, Int.reduceBNe, Int.reduceBEq])
end Go.Proofs.YtbbkckogjdjjgaaDoor
namespace Go.Proofs.YtbbkckogjdjjgaaDoor
open Go.Abs Go.Lib
set_option linter.all false
set_option maxRecDepth 100000
theorem dec_len20 (n : Nat) (h : n < 18446744073709551616) : (decDigits n).length ≤ 20 := by
  have : ∀ (j : Nat) (n : Nat), n < 10 ^ (j + 1) → (decDigits n).length ≤ j + 1 := by
    intro j
    induction j with
    | zero => intro n h; rw [decDigits, dif_pos (by omega)]; simp
    | succ j ih =>
      intro n h
      rw [decDigits]
      split
      · simp
      · have := ih (n / 10) (by rw [Nat.pow_succ] at h; omega)
        simp only [List.length_append, List.length_cons, List.length_nil]; omega
  exact this 19 n (Nat.lt_trans h (by decide))
theorem textL_len (a : BitVec 64) : (textL a).length ≤ 194 := by
  have := bodyT_len a
  simp only [textL, List.length_cons, List.length_append, List.length_nil]; omega
end Go.Proofs.YtbbkckogjdjjgaaDoor
namespace Go.Proofs.YtbbkckogjdjjgaaDoor
open Go.Abs Go.Lib
set_option linter.all false
set_option maxRecDepth 100000
theorem wI (n : Int) : IntKind.i64.wrap n = if 9223372036854775808 ≤ n % 18446744073709551616 then n % 18446744073709551616 - 18446744073709551616 else n % 18446744073709551616 := by
  simp [IntKind.wrap, IntKind.bits, IntKind.signed]
def dg (c : UInt8) : Bool := decide (48 ≤ c.toNat) && decide (c.toNat ≤ 57)
def vstep (a : Nat) (c : UInt8) : Nat := a * 10 + (c.toNat - 48)
def val (a : Nat) (l : List UInt8) : Nat := l.foldl vstep a
theorem val_snoc (l : List UInt8) (a : Nat) (c : UInt8) : val a (l ++ [c]) = val a l * 10 + (c.toNat - 48) := by
  unfold val
  rw [List.foldl_append]
  rfl
theorem sm_toNat (n : Nat) (h : n < 256) : (UInt8.ofNat n).toNat = n := by simp [UInt8.toNat_ofNat']; omega
theorem dec_facts : ∀ (N : Nat), val 0 (decDigits N) = N ∧ (decDigits N).all dg = true ∧ decDigits N ≠ [] ∧ (0 < N → ((decDigits N)[0]?).getD 0 ≠ 48) ∧ ((decDigits N)[0]?).getD 0 ≠ 45 ∧ (N = 0 → decDigits N = [48]) := by
  intro N
  induction N using Nat.strongRecOn with
  | _ N ih =>
    rw [decDigits]
    split
    · rename_i h
      have e : (UInt8.ofNat (48 + N)).toNat = 48 + N := sm_toNat _ (by omega)
      refine ⟨?_, ?_, by simp, fun h0 h1 => ?_, fun h1 => ?_, fun h0 => by subst h0; rfl⟩
      · simp only [val, List.foldl_cons, List.foldl_nil, vstep, e]; omega
      · simp only [List.all_cons, List.all_nil, dg, e, Bool.and_true, Bool.and_eq_true, decide_eq_true_eq]; omega
      · have := congrArg UInt8.toNat h1
        simp only [List.getElem?_cons_zero, Option.getD_some, e] at this
        have h48 : (48 : UInt8).toNat = 48 := rfl
        omega
      · have := congrArg UInt8.toNat h1
        simp only [List.getElem?_cons_zero, Option.getD_some, e] at this
        have h48 : (45 : UInt8).toNat = 45 := rfl
        omega
    · rename_i h
      obtain ⟨i1, i2, i3, i4, i5, i6⟩ := ih (N / 10) (by omega)
      have e : (UInt8.ofNat (48 + N % 10)).toNat = 48 + N % 10 := sm_toNat _ (by omega)
      have hh : ((decDigits (N / 10) ++ [UInt8.ofNat (48 + N % 10)])[0]?).getD 0 = ((decDigits (N / 10))[0]?).getD 0 := by
        cases hd : decDigits (N / 10) with
        | nil => exact absurd hd i3
        | cons c l => rfl
      refine ⟨?_, ?_, by simp, fun h0 => ?_, ?_, fun h0 => by omega⟩
      · rw [val_snoc, i1, e]; omega
      · rw [List.all_append, i2]
        simp only [List.all_cons, List.all_nil, dg, e, Bool.and_true, Bool.true_and, Bool.and_eq_true, decide_eq_true_eq]; omega
      · rw [hh]; exact i4 (by omega)
      · rw [hh]; exact i5
end Go.Proofs.YtbbkckogjdjjgaaDoor
