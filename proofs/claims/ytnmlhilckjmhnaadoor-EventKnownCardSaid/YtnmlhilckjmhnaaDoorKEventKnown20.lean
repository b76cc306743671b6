/- Part 20 of the proof of EventKnown: an abstract semantics that is proved sound for the model, contracts of functions in it, and plain facts (Sh03 LW3 EV2 EV3 SM1 SM2 EV4 EW1 EW2). No condition. -/
import Derived.Test.YtnmlhilckjmhnaaDoorKEventKnown19
import Derived.Shelf.Strings.Builder1
import Derived.Shelf.Strings.Builder2
import Derived.Shelf.Strings.OnBuilder
import Derived.Shelf.Utf8.RuneCount
import Derived.Shelf.Strconv.Itoa0
import Derived.Shelf.Strconv.Itoa1
import Derived.Shelf.LaysM
import Derived.Shelf.Strconv.Itoa2
import Derived.Shelf.Strconv.Itoa3
import Derived.Shelf.Strconv.Itoa4
import Derived.Shelf.Strings.Search1
import Derived.Shelf.Strings.Search2
import Derived.Shelf.Strings.Search3
import Derived.Shelf.Strings.Cut
import Derived.Shelf.Strings.Count
import Derived.Shelf.Strings.Shaped
import Derived.Shelf.Strings.Split
import Derived.Shelf.Strings.SplitShaped
import Derived.Shelf.Unicode.Decode
import Derived.Shelf.Strings.RuneCount
import Derived.Shelf.Strings.Explode
import Derived.Shelf.Bits.Mul64
import Derived.Shelf.Unicode.DecodeSlow
import Derived.Shelf.Unicode.DecodeAny
import Derived.Test.YtnmlhilckjmhnaaDoorProg
set_option linter.all false
namespace Go.Proofs
open Go.Shelf
def Tryd.lays156_ren : Go.Shelf.Ren := ⟨fun | 156 => 65 | 165 => 80 | 166 => 81 | 169 => 82 | 240 => 99 | 241 => 100 | 276 => 112 | 277 => 113 | n => n, fun | 31 => 76 | 9 => 9 | 3 => 3 | 4 => 4 | 0 => 0 | 20 => 20 | 72 => 114 | 76 => 118 | 70 => 112 | 37 => 61 | 75 => 117 | 127 => 131 | 164 => 140 | 5 => 5 | 80 => 120 | n => n, fun | n => n⟩
theorem Tryd.lays156 : Go.Proofs.Lays.n156 Tryd.prog Tryd.lays156_ren := {
  mixed := by kernel_rfl
  f156 := Tryd.func65.trans (congrArg some (by kernel_rfl))
  f165 := Tryd.func80.trans (congrArg some (by kernel_rfl))
  f166 := Tryd.func81.trans (congrArg some (by kernel_rfl))
  f169 := Tryd.func82.trans (congrArg some (by kernel_rfl))
  f240 := Tryd.func99.trans (congrArg some (by kernel_rfl))
  f241 := Tryd.func100.trans (congrArg some (by kernel_rfl))
  f276 := Tryd.func112.trans (congrArg some (by kernel_rfl))
  f277 := Tryd.func113.trans (congrArg some (by kernel_rfl))
  t0 := Tryd.underlying0
  a0 := Tryd.isAgg0
  z0 := Tryd.sizeOf0
  v0 := Tryd.zeroValue0
  t3 := Tryd.underlying3
  a3 := Tryd.isAgg3
  z3 := Tryd.sizeOf3
  v3 := Tryd.zeroValue3
  t4 := Tryd.underlying4
  a4 := Tryd.isAgg4
  z4 := Tryd.sizeOf4
  v4 := Tryd.zeroValue4
  t9 := Tryd.underlying9
  a9 := Tryd.isAgg9
  z9 := Tryd.sizeOf9
  v9 := Tryd.zeroValue9
  t20 := Tryd.underlying20
  a20 := Tryd.isAgg20
  z20 := Tryd.sizeOf20
  v20 := Tryd.zeroValue20
  t31 := Tryd.underlying76
  a31 := Tryd.isAgg76
  z31 := Tryd.sizeOf76
  v31 := Tryd.zeroValue76
  t37 := Tryd.underlying61
  a37 := Tryd.isAgg61
  z37 := Tryd.sizeOf61
  v37 := Tryd.zeroValue61
  t70 := Tryd.underlying112
  a70 := Tryd.isAgg112
  z70 := Tryd.sizeOf112
  v70 := Tryd.zeroValue112
  t72 := Tryd.underlying114
  a72 := Tryd.isAgg114
  z72 := Tryd.sizeOf114
  v72 := Tryd.zeroValue114
  t75 := Tryd.underlying117
  a75 := Tryd.isAgg117
  z75 := Tryd.sizeOf117
  v75 := Tryd.zeroValue117
  t76 := Tryd.underlying118
  a76 := Tryd.isAgg118
  z76 := Tryd.sizeOf118
  v76 := Tryd.zeroValue118
  t127 := Tryd.underlying131
  a127 := Tryd.isAgg131
  z127 := Tryd.sizeOf131
  v127 := Tryd.zeroValue131
  t164 := Tryd.underlying140
  a164 := Tryd.isAgg140
  z164 := Tryd.sizeOf140
  v164 := Tryd.zeroValue140 }
theorem Tryd.Builder_Extra_156 : Builder.Extra Tryd.prog Tryd.lays156_ren := {
  sizeBuilder := by kernel_rfl
  liesBuilder := by kernel_rfl
  t5 := Tryd.underlying5
  a5 := Tryd.isAgg5
  z5 := Tryd.sizeOf5
  v5 := Tryd.zeroValue5
  infoByte := by kernel_rfl
  cellsByte := by kernel_rfl
  sizeByte := by kernel_rfl
  neB5 := by decide }
open Go.RowKit in
/-- No element: the empty string; the world is as it was. (Whatever the slice's address and capacity: a nil slice too.) (LAID: no walk: one application.) -/
theorem Tryd.strings_Join_none (a : Option Addr) (c : Nat) (sep : ByteArray) (w : World) :
    Calls Tryd.prog 65 #[.slice a 0 c, .string sep] w fun e w' => e = .returned (.string ⟨#[]⟩) ∧ w' = w := Any.strings_Join_none Tryd.lays156 Tryd.Builder_Extra_156 a c sep w
open Go.RowKit in
/-- strings.Join: "Join concatenates the elements of its first argument to create a single string. The separator string sep is placed between elements in the resulting string.": HOWEVER MANY ELEMENTS. Below the heap's end the world is as it was. (LAID: no walk: one application.) -/
theorem Tryd.strings_Join (bk o c : Nat) (xs : List ByteArray) (sep : ByteArray) (w : World) (hcells : ∀ (j : Nat) x, xs[j]? = some x → w.cell? ⟨bk, o + j, none⟩ = some (.string x)) (hbk : bk < w.heap.size) (hN : xs.length ≤ 140737488355328) (hcap : xs.length ≤ c) (hlen : (Lib.join (xs.map (·.data.toList)) sep.data.toList).length ≤ 140737488355328) :
    Calls Tryd.prog 65 #[.slice (some ⟨bk, o, none⟩) xs.length c, .string sep] w fun e w' => e = .returned (.string ⟨(Lib.join (xs.map (·.data.toList)) sep.data.toList).toArray⟩) ∧ Below w.heap.size w w' := Any.strings_Join Tryd.lays156 Tryd.Builder_Extra_156 bk o c xs sep w hcells hbk hN hcap hlen
def Tryd.lays171_ren : Go.Shelf.Ren := ⟨fun | 171 => 64 | 243 => 79 | 246 => 83 | 283 => 101 | 284 => 102 | 285 => 103 | 286 => 104 | 129 => 115 | 317 => 114 | 318 => 116 | 319 => 117 | 320 => 118 | 337 => 122 | 338 => 78 | n => n, fun | 3 => 3 | 9 => 9 | 2 => 2 | 4 => 4 | 171 => 132 | 0 => 0 | 53 => 22 | 37 => 61 | 5 => 5 | 173 => 134 | 212 => 144 | 51 => 145 | 20 => 20 | 213 => 146 | 46 => 95 | 232 => 155 | 233 => 130 | n => n, fun | 17 => 2 | 18 => 5 | 19 => 0 | n => n⟩
theorem Tryd.lays171 : Go.Proofs.Lays.n171 Tryd.prog Tryd.lays171_ren := {
  mixed := by kernel_rfl
  f129 := Tryd.func115.trans (congrArg some (by kernel_rfl))
  f171 := Tryd.func64.trans (congrArg some (by kernel_rfl))
  f243 := Tryd.func79.trans (congrArg some (by kernel_rfl))
  f246 := Tryd.func83.trans (congrArg some (by kernel_rfl))
  f283 := Tryd.func101.trans (congrArg some (by kernel_rfl))
  f284 := Tryd.func102.trans (congrArg some (by kernel_rfl))
  f285 := Tryd.func103.trans (congrArg some (by kernel_rfl))
  f286 := Tryd.func104.trans (congrArg some (by kernel_rfl))
  f317 := Tryd.func114.trans (congrArg some (by kernel_rfl))
  f318 := Tryd.func116.trans (congrArg some (by kernel_rfl))
  f319 := Tryd.func117.trans (congrArg some (by kernel_rfl))
  f320 := Tryd.func118.trans (congrArg some (by kernel_rfl))
  f337 := Tryd.func122.trans (congrArg some (by kernel_rfl))
  f338 := Tryd.func78.trans (congrArg some (by kernel_rfl))
  t0 := Tryd.underlying0
  a0 := Tryd.isAgg0
  z0 := Tryd.sizeOf0
  v0 := Tryd.zeroValue0
  t2 := Tryd.underlying2
  a2 := Tryd.isAgg2
  z2 := Tryd.sizeOf2
  v2 := Tryd.zeroValue2
  t3 := Tryd.underlying3
  a3 := Tryd.isAgg3
  z3 := Tryd.sizeOf3
  v3 := Tryd.zeroValue3
  t4 := Tryd.underlying4
  a4 := Tryd.isAgg4
  z4 := Tryd.sizeOf4
  v4 := Tryd.zeroValue4
  t5 := Tryd.underlying5
  a5 := Tryd.isAgg5
  z5 := Tryd.sizeOf5
  v5 := Tryd.zeroValue5
  t9 := Tryd.underlying9
  a9 := Tryd.isAgg9
  z9 := Tryd.sizeOf9
  v9 := Tryd.zeroValue9
  t20 := Tryd.underlying20
  a20 := Tryd.isAgg20
  z20 := Tryd.sizeOf20
  v20 := Tryd.zeroValue20
  t37 := Tryd.underlying61
  a37 := Tryd.isAgg61
  z37 := Tryd.sizeOf61
  v37 := Tryd.zeroValue61
  t46 := Tryd.underlying95
  a46 := Tryd.isAgg95
  z46 := Tryd.sizeOf95
  v46 := Tryd.zeroValue95
  t51 := Tryd.underlying145
  a51 := Tryd.isAgg145
  z51 := Tryd.sizeOf145
  v51 := Tryd.zeroValue145
  t53 := Tryd.underlying22
  a53 := Tryd.isAgg22
  z53 := Tryd.sizeOf22
  v53 := Tryd.zeroValue22
  t171 := Tryd.underlying132
  a171 := Tryd.isAgg132
  z171 := Tryd.sizeOf132
  v171 := Tryd.zeroValue132
  t173 := Tryd.underlying134
  a173 := Tryd.isAgg134
  z173 := Tryd.sizeOf134
  v173 := Tryd.zeroValue134
  t212 := Tryd.underlying144
  a212 := Tryd.isAgg144
  z212 := Tryd.sizeOf144
  v212 := Tryd.zeroValue144
  t213 := Tryd.underlying146
  a213 := Tryd.isAgg146
  z213 := Tryd.sizeOf146
  t232 := Tryd.underlying155
  a232 := Tryd.isAgg155
  z232 := Tryd.sizeOf155
  v232 := Tryd.zeroValue155
  t233 := Tryd.underlying130
  a233 := Tryd.isAgg130
  z233 := Tryd.sizeOf130
  v233 := Tryd.zeroValue130
  g17 := by kernel_rfl
  g18 := by kernel_rfl
  g19 := by kernel_rfl }
open Go.RowKit Go.Sort Go.Lib in
/-- THE ROAD WITHOUT THE TABLE: 0 <= i < 100: NO PREMISE ON THE WORLD, AND THE WORLD IS AS IT WAS: a row that keeps its argument in that range need list no table ('laid = []'). (LAID: no walk: one application.) -/
theorem Tryd.strconv_Itoa_small (i : Nat) (hi : i < 100) (w : World) :
    Calls Tryd.prog 64 #[.int .i64 i] w fun e w' => e = .returned (.string ⟨(Lib.decDigits i).toArray⟩) ∧ w' = w := Any.strconv_Itoa_small Tryd.lays171 i hi w
def Tryd.laysM173_ren : Go.Shelf.Ren := ⟨fun | 173 => 66 | 246 => 83 | 283 => 101 | 284 => 102 | 285 => 103 | 286 => 104 | 129 => 115 | 317 => 114 | 318 => 116 | 319 => 117 | 320 => 118 | 337 => 122 | 338 => 78 | n => n, fun | 2 => 2 | 3 => 3 | 9 => 9 | 4 => 4 | 171 => 132 | 0 => 0 | 53 => 22 | 37 => 61 | 5 => 5 | 173 => 134 | 212 => 144 | 51 => 145 | 20 => 20 | 213 => 146 | 46 => 95 | 232 => 155 | 233 => 130 | n => n, fun | 17 => 2 | 18 => 5 | 19 => 0 | n => n⟩
theorem Tryd.laysM173 : Go.Proofs.LaysM.n173 Tryd.prog Tryd.laysM173_ren := {
  mixed := by kernel_rfl
  f129 := Tryd.func115.trans (congrArg some (by kernel_rfl))
  f173 := Tryd.func66.trans (congrArg some (by kernel_rfl))
  f246 := Tryd.func83.trans (congrArg some (by kernel_rfl))
  f283 := Tryd.func101.trans (congrArg some (by kernel_rfl))
  f284 := Tryd.func102.trans (congrArg some (by kernel_rfl))
  f285 := Tryd.func103.trans (congrArg some (by kernel_rfl))
  f286 := Tryd.func104.trans (congrArg some (by kernel_rfl))
  f317 := Tryd.func114.trans (congrArg some (by kernel_rfl))
  f318 := Tryd.func116.trans (congrArg some (by kernel_rfl))
  f319 := Tryd.func117.trans (congrArg some (by kernel_rfl))
  f320 := Tryd.func118.trans (congrArg some (by kernel_rfl))
  f337 := Tryd.func122.trans (congrArg some (by kernel_rfl))
  f338 := Tryd.func78.trans (congrArg some (by kernel_rfl))
  t0 := Tryd.underlying0
  a0 := Tryd.isAgg0
  z0 := Tryd.sizeOf0
  v0 := Tryd.zeroValue0
  t2 := Tryd.underlying2
  a2 := Tryd.isAgg2
  z2 := Tryd.sizeOf2
  v2 := Tryd.zeroValue2
  t3 := Tryd.underlying3
  a3 := Tryd.isAgg3
  z3 := Tryd.sizeOf3
  v3 := Tryd.zeroValue3
  t4 := Tryd.underlying4
  a4 := Tryd.isAgg4
  z4 := Tryd.sizeOf4
  v4 := Tryd.zeroValue4
  t5 := Tryd.underlying5
  a5 := Tryd.isAgg5
  z5 := Tryd.sizeOf5
  v5 := Tryd.zeroValue5
  t9 := Tryd.underlying9
  a9 := Tryd.isAgg9
  z9 := Tryd.sizeOf9
  v9 := Tryd.zeroValue9
  t20 := Tryd.underlying20
  a20 := Tryd.isAgg20
  z20 := Tryd.sizeOf20
  v20 := Tryd.zeroValue20
  t37 := Tryd.underlying61
  a37 := Tryd.isAgg61
  z37 := Tryd.sizeOf61
  v37 := Tryd.zeroValue61
  t46 := Tryd.underlying95
  a46 := Tryd.isAgg95
  z46 := Tryd.sizeOf95
  v46 := Tryd.zeroValue95
  t51 := Tryd.underlying145
  a51 := Tryd.isAgg145
  z51 := Tryd.sizeOf145
  v51 := Tryd.zeroValue145
  t53 := Tryd.underlying22
  a53 := Tryd.isAgg22
  z53 := Tryd.sizeOf22
  v53 := Tryd.zeroValue22
  t171 := Tryd.underlying132
  a171 := Tryd.isAgg132
  z171 := Tryd.sizeOf132
  v171 := Tryd.zeroValue132
  t173 := Tryd.underlying134
  a173 := Tryd.isAgg134
  z173 := Tryd.sizeOf134
  v173 := Tryd.zeroValue134
  t212 := Tryd.underlying144
  a212 := Tryd.isAgg144
  z212 := Tryd.sizeOf144
  v212 := Tryd.zeroValue144
  t213 := Tryd.underlying146
  a213 := Tryd.isAgg146
  z213 := Tryd.sizeOf146
  t232 := Tryd.underlying155
  a232 := Tryd.isAgg155
  z232 := Tryd.sizeOf155
  v232 := Tryd.zeroValue155
  t233 := Tryd.underlying130
  a233 := Tryd.isAgg130
  z233 := Tryd.sizeOf130
  v233 := Tryd.zeroValue130
  g17 := by kernel_rfl
  g18 := by kernel_rfl
  g19 := by kernel_rfl
  i0 := by kernel_rfl
  i2 := by kernel_rfl
  i3 := by kernel_rfl
  i4 := by kernel_rfl
  i5 := by kernel_rfl
  i9 := by kernel_rfl
  i20 := by kernel_rfl
  i37 := by kernel_rfl
  i46 := by kernel_rfl
  i51 := by kernel_rfl
  i53 := by kernel_rfl
  i171 := by kernel_rfl
  i173 := by kernel_rfl
  i212 := by kernel_rfl
  i232 := by kernel_rfl
  i233 := by kernel_rfl
  m17 := by kernel_rfl
  m18 := by kernel_rfl
  m19 := by kernel_rfl }
open Go.RowKit Go.Sort Go.Lib in
/-- strconv.FormatInt: "FormatInt returns the string representation of i in the given base": AT BASE 10: i's decimal numeral, for every int64. (LAID: no walk: one application.) -/
theorem Tryd.strconv_FormatInt_10 (n : Int) (h0 : -9223372036854775808 ≤ n) (h1 : n ≤ 9223372036854775807) (w : World) (htab : Lib.TabIs Tryd.prog w "internal/strconv.uint64pow10" .u64 Lib.pow10Tab) :
    Calls Tryd.prog 66 #[.int .i64 n, .int .i64 10] w fun e w' => e = .returned (.string ⟨(Lib.itoa n).toArray⟩) ∧ ∃ k os, w' = grow (w.drewN k) os := Any.strconv_FormatInt_10 Tryd.laysM173 n h0 h1 w htab
def Tryd.lays219_ren : Go.Shelf.Ren := ⟨fun | 219 => 98 | 217 => 108 | 225 => 109 | 224 => 110 | 267 => 111 | 266 => 120 | 314 => 121 | n => n, fun | 9 => 9 | 3 => 3 | 4 => 4 | 5 => 5 | 46 => 95 | 146 => 148 | 51 => 145 | n => n, fun | 1 => 1 | n => n⟩
theorem Tryd.lays219 : Go.Proofs.Lays.n219 Tryd.prog Tryd.lays219_ren := {
  mixed := by kernel_rfl
  f217 := Tryd.func108.trans (congrArg some (by kernel_rfl))
  f219 := Tryd.func98.trans (congrArg some (by kernel_rfl))
  f224 := Tryd.func110.trans (congrArg some (by kernel_rfl))
  f225 := Tryd.func109.trans (congrArg some (by kernel_rfl))
  f266 := Tryd.func120.trans (congrArg some (by kernel_rfl))
  f267 := Tryd.func111.trans (congrArg some (by kernel_rfl))
  f314 := Tryd.func121.trans (congrArg some (by kernel_rfl))
  t3 := Tryd.underlying3
  a3 := Tryd.isAgg3
  z3 := Tryd.sizeOf3
  v3 := Tryd.zeroValue3
  t4 := Tryd.underlying4
  a4 := Tryd.isAgg4
  z4 := Tryd.sizeOf4
  v4 := Tryd.zeroValue4
  t5 := Tryd.underlying5
  a5 := Tryd.isAgg5
  z5 := Tryd.sizeOf5
  v5 := Tryd.zeroValue5
  t9 := Tryd.underlying9
  a9 := Tryd.isAgg9
  z9 := Tryd.sizeOf9
  v9 := Tryd.zeroValue9
  t46 := Tryd.underlying95
  a46 := Tryd.isAgg95
  z46 := Tryd.sizeOf95
  v46 := Tryd.zeroValue95
  t51 := Tryd.underlying145
  a51 := Tryd.isAgg145
  z51 := Tryd.sizeOf145
  v51 := Tryd.zeroValue145
  t146 := Tryd.underlying148
  a146 := Tryd.isAgg148
  z146 := Tryd.sizeOf148
  v146 := Tryd.zeroValue148
  g1 := by kernel_rfl }
open Go.RowKit Go.Lib in
/-- internal/stringslite.Index (what strings.Index calls) AT A substr OF ONE BYTE c: IT RETURNS 'Lib.indexByte s c'; the world is as it was. (LAID: no walk: one application.) -/
theorem Tryd.stringslite_Index_one (s : ByteArray) (c : UInt8) (w : World) :
    Calls Tryd.prog 98 #[.string s, .string ⟨#[c]⟩] w fun e w' => e = .returned (.int .i64 (Lib.indexByte s.data.toList c)) ∧ w' = w := Any.stringslite_Index_one Tryd.lays219 s c w
def Tryd.lays143_ren : Go.Shelf.Ren := ⟨fun | 143 => 91 | 219 => 98 | 217 => 108 | 225 => 109 | 224 => 110 | 267 => 111 | 266 => 120 | 314 => 121 | n => n, fun | 9 => 9 | 3 => 3 | 4 => 4 | 5 => 5 | 46 => 95 | 146 => 148 | 51 => 145 | n => n, fun | 1 => 1 | n => n⟩
theorem Tryd.lays143 : Go.Proofs.Lays.n143 Tryd.prog Tryd.lays143_ren := {
  mixed := by kernel_rfl
  f143 := Tryd.func91.trans (congrArg some (by kernel_rfl))
  f217 := Tryd.func108.trans (congrArg some (by kernel_rfl))
  f219 := Tryd.func98.trans (congrArg some (by kernel_rfl))
  f224 := Tryd.func110.trans (congrArg some (by kernel_rfl))
  f225 := Tryd.func109.trans (congrArg some (by kernel_rfl))
  f266 := Tryd.func120.trans (congrArg some (by kernel_rfl))
  f267 := Tryd.func111.trans (congrArg some (by kernel_rfl))
  f314 := Tryd.func121.trans (congrArg some (by kernel_rfl))
  t3 := Tryd.underlying3
  a3 := Tryd.isAgg3
  z3 := Tryd.sizeOf3
  v3 := Tryd.zeroValue3
  t4 := Tryd.underlying4
  a4 := Tryd.isAgg4
  z4 := Tryd.sizeOf4
  v4 := Tryd.zeroValue4
  t5 := Tryd.underlying5
  a5 := Tryd.isAgg5
  z5 := Tryd.sizeOf5
  v5 := Tryd.zeroValue5
  t9 := Tryd.underlying9
  a9 := Tryd.isAgg9
  z9 := Tryd.sizeOf9
  v9 := Tryd.zeroValue9
  t46 := Tryd.underlying95
  a46 := Tryd.isAgg95
  z46 := Tryd.sizeOf95
  v46 := Tryd.zeroValue95
  t51 := Tryd.underlying145
  a51 := Tryd.isAgg145
  z51 := Tryd.sizeOf145
  v51 := Tryd.zeroValue145
  t146 := Tryd.underlying148
  a146 := Tryd.isAgg148
  z146 := Tryd.sizeOf148
  v146 := Tryd.zeroValue148
  g1 := by kernel_rfl }
open Go.RowKit Go.Lib in
/-- strings.Index: "Index returns the index of the first instance of substr in s, or -1 if substr is not present in s.": AT A substr OF ONE BYTE c: IT RETURNS 'Lib.indexByte s c'; the world is as it was. (LAID: no walk: one application.) -/
theorem Tryd.strings_Index_one (s : ByteArray) (c : UInt8) (w : World) :
    Calls Tryd.prog 91 #[.string s, .string ⟨#[c]⟩] w fun e w' => e = .returned (.int .i64 (Lib.indexByte s.data.toList c)) ∧ w' = w := Any.strings_Index_one Tryd.lays143 s c w
def Tryd.lays138_ren : Go.Shelf.Ren := ⟨fun | 138 => 90 | 195 => 105 | 218 => 107 | 143 => 91 | 219 => 98 | 217 => 108 | 225 => 109 | 224 => 110 | 267 => 111 | 266 => 120 | 314 => 121 | n => n, fun | 9 => 9 | 3 => 3 | 4 => 4 | 5 => 5 | 0 => 0 | 46 => 95 | 146 => 148 | 51 => 145 | n => n, fun | 1 => 1 | n => n⟩
theorem Tryd.lays138 : Go.Proofs.Lays.n138 Tryd.prog Tryd.lays138_ren := {
  mixed := by kernel_rfl
  f138 := Tryd.func90.trans (congrArg some (by kernel_rfl))
  f143 := Tryd.func91.trans (congrArg some (by kernel_rfl))
  f195 := Tryd.func105.trans (congrArg some (by kernel_rfl))
  f217 := Tryd.func108.trans (congrArg some (by kernel_rfl))
  f218 := Tryd.func107.trans (congrArg some (by kernel_rfl))
  f219 := Tryd.func98.trans (congrArg some (by kernel_rfl))
  f224 := Tryd.func110.trans (congrArg some (by kernel_rfl))
  f225 := Tryd.func109.trans (congrArg some (by kernel_rfl))
  f266 := Tryd.func120.trans (congrArg some (by kernel_rfl))
  f267 := Tryd.func111.trans (congrArg some (by kernel_rfl))
  f314 := Tryd.func121.trans (congrArg some (by kernel_rfl))
  t0 := Tryd.underlying0
  a0 := Tryd.isAgg0
  z0 := Tryd.sizeOf0
  v0 := Tryd.zeroValue0
  t3 := Tryd.underlying3
  a3 := Tryd.isAgg3
  z3 := Tryd.sizeOf3
  v3 := Tryd.zeroValue3
  t4 := Tryd.underlying4
  a4 := Tryd.isAgg4
  z4 := Tryd.sizeOf4
  v4 := Tryd.zeroValue4
  t5 := Tryd.underlying5
  a5 := Tryd.isAgg5
  z5 := Tryd.sizeOf5
  v5 := Tryd.zeroValue5
  t9 := Tryd.underlying9
  a9 := Tryd.isAgg9
  z9 := Tryd.sizeOf9
  v9 := Tryd.zeroValue9
  t46 := Tryd.underlying95
  a46 := Tryd.isAgg95
  z46 := Tryd.sizeOf95
  v46 := Tryd.zeroValue95
  t51 := Tryd.underlying145
  a51 := Tryd.isAgg145
  z51 := Tryd.sizeOf145
  v51 := Tryd.zeroValue145
  t146 := Tryd.underlying148
  a146 := Tryd.isAgg148
  z146 := Tryd.sizeOf148
  v146 := Tryd.zeroValue148
  g1 := by kernel_rfl }
open Go.RowKit Go.Lib in
/-- strings.Count AT A substr OF ONE BYTE ('hp'): "Count counts the number of non-overlapping instances of substr in s.": IT RETURNS 'Lib.countByte s (that byte)'; the world is as it was. ✋ NO CONTRACT HERE YET at an empty substr (utf8.RuneCountInString) or at a longer one (a loop over strings.Index). (LAID: no walk: one application.) -/
theorem Tryd.strings_Count_one (s : ByteArray) (c : UInt8) (w : World) :
    Calls Tryd.prog 90 #[.string s, .string ⟨#[c]⟩] w fun e w' => e = .returned (.int .i64 (Lib.countByte s.data.toList c)) ∧ w' = w := Any.strings_Count_one Tryd.lays138 s c w
def Tryd.lays221_ren : Go.Shelf.Ren := ⟨fun | 221 => 72 | 268 => 89 | 138 => 90 | 143 => 91 | 195 => 105 | 197 => 106 | 218 => 107 | 219 => 98 | 260 => 119 | 217 => 108 | 225 => 109 | 224 => 110 | 267 => 111 | 266 => 120 | 314 => 121 | n => n, fun | 9 => 9 | 3 => 3 | 31 => 76 | 4 => 4 | 0 => 0 | 105 => 137 | 21 => 21 | 5 => 5 | 46 => 95 | 119 => 151 | 139 => 154 | 138 => 153 | 146 => 148 | 51 => 145 | n => n, fun | 1 => 1 | 3 => 3 | 4 => 4 | n => n⟩
theorem Tryd.lays221 : Go.Proofs.Lays.n221 Tryd.prog Tryd.lays221_ren := {
  mixed := by kernel_rfl
  f138 := Tryd.func90.trans (congrArg some (by kernel_rfl))
  f143 := Tryd.func91.trans (congrArg some (by kernel_rfl))
  f195 := Tryd.func105.trans (congrArg some (by kernel_rfl))
  f197 := Tryd.func106.trans (congrArg some (by kernel_rfl))
  f217 := Tryd.func108.trans (congrArg some (by kernel_rfl))
  f218 := Tryd.func107.trans (congrArg some (by kernel_rfl))
  f219 := Tryd.func98.trans (congrArg some (by kernel_rfl))
  f221 := Tryd.func72.trans (congrArg some (by kernel_rfl))
  f224 := Tryd.func110.trans (congrArg some (by kernel_rfl))
  f225 := Tryd.func109.trans (congrArg some (by kernel_rfl))
  f260 := Tryd.func119.trans (congrArg some (by kernel_rfl))
  f266 := Tryd.func120.trans (congrArg some (by kernel_rfl))
  f267 := Tryd.func111.trans (congrArg some (by kernel_rfl))
  f268 := Tryd.func89.trans (congrArg some (by kernel_rfl))
  f314 := Tryd.func121.trans (congrArg some (by kernel_rfl))
  t0 := Tryd.underlying0
  a0 := Tryd.isAgg0
  z0 := Tryd.sizeOf0
  v0 := Tryd.zeroValue0
  t3 := Tryd.underlying3
  a3 := Tryd.isAgg3
  z3 := Tryd.sizeOf3
  v3 := Tryd.zeroValue3
  t4 := Tryd.underlying4
  a4 := Tryd.isAgg4
  z4 := Tryd.sizeOf4
  v4 := Tryd.zeroValue4
  t5 := Tryd.underlying5
  a5 := Tryd.isAgg5
  z5 := Tryd.sizeOf5
  v5 := Tryd.zeroValue5
  t9 := Tryd.underlying9
  a9 := Tryd.isAgg9
  z9 := Tryd.sizeOf9
  v9 := Tryd.zeroValue9
  t21 := Tryd.underlying21
  a21 := Tryd.isAgg21
  z21 := Tryd.sizeOf21
  v21 := Tryd.zeroValue21
  t31 := Tryd.underlying76
  a31 := Tryd.isAgg76
  z31 := Tryd.sizeOf76
  v31 := Tryd.zeroValue76
  t46 := Tryd.underlying95
  a46 := Tryd.isAgg95
  z46 := Tryd.sizeOf95
  v46 := Tryd.zeroValue95
  t51 := Tryd.underlying145
  a51 := Tryd.isAgg145
  z51 := Tryd.sizeOf145
  v51 := Tryd.zeroValue145
  t105 := Tryd.underlying137
  a105 := Tryd.isAgg137
  z105 := Tryd.sizeOf137
  v105 := Tryd.zeroValue137
  t119 := Tryd.underlying151
  a119 := Tryd.isAgg151
  z119 := Tryd.sizeOf151
  t138 := Tryd.underlying153
  a138 := Tryd.isAgg153
  z138 := Tryd.sizeOf153
  v138 := Tryd.zeroValue153
  t139 := Tryd.underlying154
  a139 := Tryd.isAgg154
  z139 := Tryd.sizeOf154
  v139 := Tryd.zeroValue154
  t146 := Tryd.underlying148
  a146 := Tryd.isAgg148
  z146 := Tryd.sizeOf148
  v146 := Tryd.zeroValue148
  g1 := by kernel_rfl
  g3 := by kernel_rfl
  g4 := by kernel_rfl }
def Tryd.lays264_ren : Go.Shelf.Ren := ⟨fun | 264 => 94 | n => n, fun | 53 => 22 | 46 => 95 | n => n, fun | n => n⟩
theorem Tryd.lays264 : Go.Proofs.Lays.n264 Tryd.prog Tryd.lays264_ren := {
  mixed := by kernel_rfl
  f264 := Tryd.func94.trans (congrArg some (by kernel_rfl))
  t46 := Tryd.underlying95
  a46 := Tryd.isAgg95
  z46 := Tryd.sizeOf95
  v46 := Tryd.zeroValue95
  t53 := Tryd.underlying22
  a53 := Tryd.isAgg22
  z53 := Tryd.sizeOf22
  v53 := Tryd.zeroValue22 }
open Go.RowKit Go.Lib in
theorem Tryd.bits_Mul64 (x y : Nat) (hx : x < 18446744073709551616) (hy : y < 18446744073709551616) (w : World) :
    Calls Tryd.prog 94 #[.int .u64 x, .int .u64 y] w fun e w' => e = .returned (.tuple #[.int .u64 ((x * y / 18446744073709551616 : Nat) : Int), .int .u64 ((x * y % 18446744073709551616 : Nat) : Int)]) ∧ w' = w := Any.bits_Mul64 Tryd.lays264 x y hx hy w
end Go.Proofs
namespace Go.Proofs.YtnmlhilckjmhnaaDoor
open Go.Abs
set_option linter.all false
set_option maxRecDepth 100000
theorem joins : Joins Tryd.prog 65 :=
  joins_of (Go.Proofs.enters_of Tryd.func65 (by kernel_rfl) rfl) (fun x sep w => Tryd.strings_Join_none x 0 sep w) (fun bk o c xs sep w h1 h2 h3 h4 h5 => Tryd.strings_Join bk o c xs sep w h1 h2 h3 h4 h5)
theorem itoas : Itoas Tryd.prog 64 :=
  itoas_of (Go.Proofs.enters_of Tryd.func64 (by kernel_rfl) rfl) (fun i hi w => Tryd.strconv_Itoa_small i hi w)
theorem dec_small {k : Nat} (h : k < 100) : Lib.decDigits k = dec2 k := by
  rw [Lib.decDigits]
  unfold dec2
  split
  · rfl
  · rw [Lib.decDigits, dif_pos (by omega)]; rfl
theorem joinTail_commas : ∀ (l : List Nat), (∀ x ∈ l, x < 64) → Lib.joinTail [44] (l.map Lib.decDigits) = commas l
  | [], _ => rfl
  | k :: l, h => by
    have := joinTail_commas l (fun x hx => h x (by simp [hx]))
    simp only [Lib.joinTail, List.map_cons, List.flatten_cons, commas] at this ⊢
    rw [this, dec_small (by have := h k (by simp); omega)]
    simp
theorem join_bodyT (l : List Nat) (h : ∀ x ∈ l, x < 64) : Lib.join (l.map Lib.decDigits) [44] = bodyT l := by
  cases l with
  | nil => rfl
  | cons k l =>
    rw [List.map_cons, Lib.join_cons, joinTail_commas l (fun x hx => h x (by simp [hx])), dec_small (by have := h k (by simp); omega)]
    rfl
def strs (l : List Nat) : List AV := l.map fun n => AV.str (Lib.decDigits n)
theorem strs_len (l : List Nat) : (strs l).length = l.length := by simp [strs]
theorem strs_snoc (l : List Nat) (k : Nat) : strs l ++ [.str (Lib.decDigits k)] = strs (l ++ [k]) := by simp [strs]
theorem slv_strs (τ : Nat) (l : List Nat) : slv (.tsl τ l.length (strs l)) = some ((l.map Lib.decDigits).length, (l.map Lib.decDigits).map AV.str) := by simp [slv, strs]
theorem join_cats (a : BitVec 64) : Lib.join ((cats a).map Lib.decDigits) [44] = bodyT (cats a) := join_bodyT _ fun _ hx => cats_lt hx
theorem p44 (a : BitVec 64) : PuG Tryd.prog gls 44 [.int .u64 a.toNat] (.str (textL a)) := by
  intro σ hσ
  refine AC_intro c44 b44 (Nat.le_of_ble_eq_true rfl) ?_
  simp only [c44, ↓R1, R2, R3, R4, R5, Nat.reduceEqDiff, Nat.reduceAdd, Nat.reduceMul, Nat.reduceSub, Nat.reduceLeDiff, Nat.reduceLT, reduceIte, reduceCtorEq, Int.reduceBNe, Int.reduceBEq]
  repeat' (first | (with_reducible rw [allocV_eq]) | (refine gdV_split (fun hc => ?_) (fun hc => ?_) <;> (try simp only [hc, ↓R1, R2, R3, R4, R5, Nat.reduceEqDiff, Nat.reduceAdd, Nat.reduceMul, Nat.reduceSub, Nat.reduceLeDiff, Nat.reduceLT, reduceIte, reduceCtorEq, Int.reduceBNe, Int.reduceBEq])) | ((first | refine condV_split (fun hc => ?_) (fun hc => ?_) | (with_reducible intro β hβ; (try simp only [St.box_noneA, St.tip_noneA, St.tip_set, St.box_tip, St.box_lp, St.tip_lp] at hβ); (repeat (obtain ⟨⟨_, _⟩, hβ⟩ := hβ)); (try (have hbis := apart_is (by assumption) hβ; obtain ⟨_, _⟩ := hbis))) | ((first | (refine appD_tslK (.inr rfl) rfl ?_ ?_ ?_ ?_ ?_ ?_; (first | rfl | exact St.tip_same _ _ _ | (simp only [↓R1, R2, R3, R4, R5, Nat.reduceEqDiff, Nat.reduceAdd, Nat.reduceMul, Nat.reduceSub, Nat.reduceLeDiff, Nat.reduceLT, reduceIte, reduceCtorEq, Int.reduceBNe, Int.reduceBEq])); (first | omega | (simp only [strs_len, List.length_map, List.length_append, List.length_nil, List.length_cons]; omega) | (simp only [strs_len, List.length_map, List.length_append, List.length_nil, List.length_cons])); (first | rfl | first | omega | (simp only [strs_len, List.length_map, List.length_append, List.length_nil, List.length_cons]; omega) | (simp only [strs_len, List.length_map, List.length_append, List.length_nil, List.length_cons]))) | (refine appV_tslK rfl ?_ ?_ ?_ ?_ ?_ ?_; (first | rfl | exact St.tip_same _ _ _ | (simp only [↓R1, R2, R3, R4, R5, Nat.reduceEqDiff, Nat.reduceAdd, Nat.reduceMul, Nat.reduceSub, Nat.reduceLeDiff, Nat.reduceLT, reduceIte, reduceCtorEq, Int.reduceBNe, Int.reduceBEq])); (first | omega | (simp only [strs_len, List.length_map, List.length_append, List.length_nil, List.length_cons]; omega) | (simp only [strs_len, List.length_map, List.length_append, List.length_nil, List.length_cons])); (first | rfl | first | omega | (simp only [strs_len, List.length_map, List.length_append, List.length_nil, List.length_cons]; omega) | (simp only [strs_len, List.length_map, List.length_append, List.length_nil, List.length_cons]))) | (refine appV_own ?_ ?_ ?_ ?_; exact flat_len (by intro _; rfl) _) | (refine appD_own ?_ ?_ ?_ ?_ ?_; omega; exact flat_len (by intro _; rfl) _) | (refine appV_fresh rfl trivial rfl ?_ ?_ ?_ ?_ ?_; (first | rfl | first | omega | (simp only [strs_len, List.length_map, List.length_append, List.length_nil, List.length_cons]; omega) | (simp only [strs_len, List.length_map, List.length_append, List.length_nil, List.length_cons])); (first | rfl | first | omega | (simp only [strs_len, List.length_map, List.length_append, List.length_nil, List.length_cons]; omega) | (simp only [strs_len, List.length_map, List.length_append, List.length_nil, List.length_cons]))) | (refine appD_fresh rfl trivial rfl ?_ ?_ ?_ ?_ ?_ ?_; omega; (first | rfl | first | omega | (simp only [strs_len, List.length_map, List.length_append, List.length_nil, List.length_cons]; omega) | (simp only [strs_len, List.length_map, List.length_append, List.length_nil, List.length_cons])); (first | rfl | first | omega | (simp only [strs_len, List.length_map, List.length_append, List.length_nil, List.length_cons]; omega) | (simp only [strs_len, List.length_map, List.length_append, List.length_nil, List.length_cons])))); (unfold maxLen; omega); omega)) <;> (try simp only [↓R1, R2, R3, R4, R5, Nat.reduceEqDiff, Nat.reduceAdd, Nat.reduceMul, Nat.reduceSub, Nat.reduceLeDiff, Nat.reduceLT, reduceIte, reduceCtorEq, Int.reduceBNe, Int.reduceBEq])) | (with_reducible refine And.intro ?_ ?_; (focus (first | omega | (intros; (repeat' (with_reducible apply And.intro)) <;> first | omega | (simp only [strs_len, List.length_map, List.length_append]; omega))))) | (with_reducible apply And.intro))
  refine (p63 a _).mono ?_
  rintro _ _ ⟨γ, hγ, rfl, rfl⟩
  rw [St.box_noneA] at hγ
  obtain ⟨⟨_, _⟩, hγ⟩ := hγ
  simp only [↓R1, R2, R3, R4, R5, Nat.reduceEqDiff, Nat.reduceAdd, Nat.reduceMul, Nat.reduceSub, Nat.reduceLeDiff, Nat.reduceLT, reduceIte, reduceCtorEq, Int.reduceBNe, Int.reduceBEq]
  refine rfunV_start [(true, 3, 0, 9, 1)] ?_
  simp only [startP, List.set_cons_zero, ↓R1, R2, R3, R4, R5, Nat.reduceEqDiff, Nat.reduceAdd, Nat.reduceMul, Nat.reduceSub, Nat.reduceLeDiff, Nat.reduceLT, reduceIte, reduceCtorEq, Int.reduceBNe, Int.reduceBEq]
  refine fun τ hτ => ⟨_, _, rfl, ?_⟩
  refine RF_each a (fun pre c => ((σ.setBox β [.tsl τ pre.length (strs pre)]).setBox γ [.int .u64 c.toNat]).setTip τ (9, 1, pre.length)) (fun _ => True) rfl trivial ?_ ?_ ?_ ?_ ?_ ?_
  · intro pre b; simp only [↓R1, R2, R3, R4, R5, Nat.reduceEqDiff, Nat.reduceAdd, Nat.reduceMul, Nat.reduceSub, Nat.reduceLeDiff, Nat.reduceLT, reduceIte, reduceCtorEq, Int.reduceBNe, Int.reduceBEq]
  · intro pre b b'; simp only [↓R1, R2, R3, R4, R5, Nat.reduceEqDiff, Nat.reduceAdd, Nat.reduceMul, Nat.reduceSub, Nat.reduceLeDiff, Nat.reduceLT, reduceIte, reduceCtorEq, Int.reduceBNe, Int.reduceBEq]
  · intro pre b; exact hσ
  · intro pre b L; simp only [↓R1, R2, R3, R4, R5, Nat.reduceEqDiff, Nat.reduceAdd, Nat.reduceMul, Nat.reduceSub, Nat.reduceLeDiff, Nat.reduceLT, reduceIte, reduceCtorEq, Int.reduceBNe, Int.reduceBEq]
  · intro L r pre k b hL _ hk
    obtain ⟨rest, hr⟩ := hk
    have hlen : pre.length < 64 := by
      have := cats_len a
      rw [hr] at this
      simp at this
      omega
    have hk64 : k < 64 := cats_lt (a := a) (by rw [hr]; simp)
    simp only [↓R1, R2, R3, R4, R5, Nat.reduceEqDiff, Nat.reduceAdd, Nat.reduceMul, Nat.reduceSub, Nat.reduceLeDiff, Nat.reduceLT, reduceIte, reduceCtorEq, Int.reduceBNe, Int.reduceBEq]
    have hm : pre.length + 1 ≤ maxLen := by unfold maxLen; omega
    repeat' (first | (with_reducible rw [allocV_eq]) | (refine gdV_split (fun hc => ?_) (fun hc => ?_) <;> (try simp only [hc, ↓R1, R2, R3, R4, R5, Nat.reduceEqDiff, Nat.reduceAdd, Nat.reduceMul, Nat.reduceSub, Nat.reduceLeDiff, Nat.reduceLT, reduceIte, reduceCtorEq, Int.reduceBNe, Int.reduceBEq])) | ((first | refine condV_split (fun hc => ?_) (fun hc => ?_) | (with_reducible intro β hβ; (try simp only [St.box_noneA, St.tip_noneA, St.tip_set, St.box_tip, St.box_lp, St.tip_lp] at hβ); (repeat (obtain ⟨⟨_, _⟩, hβ⟩ := hβ)); (try (have hbis := apart_is (by assumption) hβ; obtain ⟨_, _⟩ := hbis))) | ((first | (refine appD_tslK (.inr rfl) rfl ?_ ?_ ?_ ?_ ?_ ?_; (first | rfl | exact St.tip_same _ _ _ | (simp only [↓R1, R2, R3, R4, R5, Nat.reduceEqDiff, Nat.reduceAdd, Nat.reduceMul, Nat.reduceSub, Nat.reduceLeDiff, Nat.reduceLT, reduceIte, reduceCtorEq, Int.reduceBNe, Int.reduceBEq])); (first | omega | (simp only [strs_len, List.length_map, List.length_append, List.length_nil, List.length_cons]; omega) | (simp only [strs_len, List.length_map, List.length_append, List.length_nil, List.length_cons])); (first | rfl | first | omega | (simp only [strs_len, List.length_map, List.length_append, List.length_nil, List.length_cons]; omega) | (simp only [strs_len, List.length_map, List.length_append, List.length_nil, List.length_cons]))) | (refine appV_tslK rfl ?_ ?_ ?_ ?_ ?_ ?_; (first | rfl | exact St.tip_same _ _ _ | (simp only [↓R1, R2, R3, R4, R5, Nat.reduceEqDiff, Nat.reduceAdd, Nat.reduceMul, Nat.reduceSub, Nat.reduceLeDiff, Nat.reduceLT, reduceIte, reduceCtorEq, Int.reduceBNe, Int.reduceBEq])); (first | omega | (simp only [strs_len, List.length_map, List.length_append, List.length_nil, List.length_cons]; omega) | (simp only [strs_len, List.length_map, List.length_append, List.length_nil, List.length_cons])); (first | rfl | first | omega | (simp only [strs_len, List.length_map, List.length_append, List.length_nil, List.length_cons]; omega) | (simp only [strs_len, List.length_map, List.length_append, List.length_nil, List.length_cons]))) | (refine appV_own ?_ ?_ ?_ ?_; exact flat_len (by intro _; rfl) _) | (refine appD_own ?_ ?_ ?_ ?_ ?_; omega; exact flat_len (by intro _; rfl) _) | (refine appV_fresh rfl trivial rfl ?_ ?_ ?_ ?_ ?_; (first | rfl | first | omega | (simp only [strs_len, List.length_map, List.length_append, List.length_nil, List.length_cons]; omega) | (simp only [strs_len, List.length_map, List.length_append, List.length_nil, List.length_cons])); (first | rfl | first | omega | (simp only [strs_len, List.length_map, List.length_append, List.length_nil, List.length_cons]; omega) | (simp only [strs_len, List.length_map, List.length_append, List.length_nil, List.length_cons]))) | (refine appD_fresh rfl trivial rfl ?_ ?_ ?_ ?_ ?_ ?_; omega; (first | rfl | first | omega | (simp only [strs_len, List.length_map, List.length_append, List.length_nil, List.length_cons]; omega) | (simp only [strs_len, List.length_map, List.length_append, List.length_nil, List.length_cons])); (first | rfl | first | omega | (simp only [strs_len, List.length_map, List.length_append, List.length_nil, List.length_cons]; omega) | (simp only [strs_len, List.length_map, List.length_append, List.length_nil, List.length_cons])))); (unfold maxLen; omega); omega)) <;> (try simp only [↓R1, R2, R3, R4, R5, Nat.reduceEqDiff, Nat.reduceAdd, Nat.reduceMul, Nat.reduceSub, Nat.reduceLeDiff, Nat.reduceLT, reduceIte, reduceCtorEq, Int.reduceBNe, Int.reduceBEq])) | (with_reducible refine And.intro ?_ ?_; (focus (first | omega | (intros; (repeat' (with_reducible apply And.intro)) <;> first | omega | (simp only [strs_len, List.length_map, List.length_append]; omega))))) | (with_reducible apply And.intro) | ((first | refine Pu.to (itoas k (by omega)) (wkL_refl _) ?_ | refine callDV_pu (itoas k (by omega)) (wkL_refl _) ?_); (try simp only [↓R1, R2, R3, R4, R5, Nat.reduceEqDiff, Nat.reduceAdd, Nat.reduceMul, Nat.reduceSub, Nat.reduceLeDiff, Nat.reduceLT, reduceIte, reduceCtorEq, Int.reduceBNe, Int.reduceBEq])))
    all_goals first | omega | exact Nat.le_refl _ | assumption | exact St.le_refl _ | (intros; (repeat' (with_reducible apply And.intro)) <;> first | omega | (simp only [strs_len, List.length_map, List.length_append]; omega)) | (simp only [subF, slot, wk_refl, ↓R1, R2, R3, R4, R5, Nat.reduceEqDiff, Nat.reduceAdd, Nat.reduceMul, Nat.reduceSub, Nat.reduceLeDiff, Nat.reduceLT, reduceIte, reduceCtorEq, Int.reduceBNe, Int.reduceBEq]; (repeat' (with_reducible apply And.intro)) <;> first | exact wk_k (by have := maxLen_lt; omega) | exact wk_tsl _ _ _ | exact wk_full _ _ | exact wk_of_eq (congrArg (AV.tsl _ _) (flat_step (by assumption)))) | ((repeat (first | exact St.le_refl _ | (refine St.le_new ?_ (by assumption)) | (refine St.le_newT ?_ (by assumption)))); done) | (simp_all; done) | skip
    all_goals (try simp only [↓R1, R2, R3, R4, R5, Nat.reduceEqDiff, Nat.reduceAdd, Nat.reduceMul, Nat.reduceSub, Nat.reduceLeDiff, Nat.reduceLT, reduceIte, reduceCtorEq, Int.reduceBNe, Int.reduceBEq])
    refine ⟨_, ?_, ?_, rfl⟩
    rotate_left
    · exact hL
    simp only [strs_snoc, List.length_append, ↓R1, R2, R3, R4, R5, Nat.reduceEqDiff, Nat.reduceAdd, Nat.reduceMul, Nat.reduceSub, Nat.reduceLeDiff, Nat.reduceLT, reduceIte, reduceCtorEq, Int.reduceBNe, Int.reduceBEq]
  · intro _
    simp only [↓R1, R2, R3, R4, R5, Nat.reduceEqDiff, Nat.reduceAdd, Nat.reduceMul, Nat.reduceSub, Nat.reduceLeDiff, Nat.reduceLT, reduceIte, reduceCtorEq, Int.reduceBNe, Int.reduceBEq]
    have hbl := bodyT_len a
    refine ((joins _ _ [44] _ (slv_strs τ (cats a)) (by have := cats_len a; simp; omega) (by rw [join_cats]; omega)).mono ?_)
    rintro _ _ ⟨rfl, rfl⟩
    rw [join_cats]
    simp only [↓R1, R2, R3, R4, R5, Nat.reduceEqDiff, Nat.reduceAdd, Nat.reduceMul, Nat.reduceSub, Nat.reduceLeDiff, Nat.reduceLT, reduceIte, reduceCtorEq, Int.reduceBNe, Int.reduceBEq]
    refine ⟨by omega, ?_, ?_⟩
    · omega
    (refine endP_pu (by simp) (by first | (simp [rvsS, rvS]; done) | (simp only [rvsS, rvS, ↓R1, R2, R3, R4, R5, Nat.reduceEqDiff, Nat.reduceAdd, Nat.reduceMul, Nat.reduceSub, Nat.reduceLeDiff, Nat.reduceLT, reduceIte, reduceCtorEq, Int.reduceBNe, Int.reduceBEq]; try simp)) (wk_of_eq ?_) (by (repeat (first | exact St.le_refl _ | (refine St.le_new ?_ (by assumption)) | (refine St.le_newT ?_ (by assumption))))))
    (simp only [resAV, rvV, List.map_cons, List.map_nil, ↓R1, R2, R3, R4, R5, Nat.reduceEqDiff, Nat.reduceAdd, Nat.reduceMul, Nat.reduceSub, Nat.reduceLeDiff, Nat.reduceLT, reduceIte, reduceCtorEq, Int.reduceBNe, Int.reduceBEq])
    simp [textL]
end Go.Proofs.YtnmlhilckjmhnaaDoor
namespace Go.Proofs.YtnmlhilckjmhnaaDoor
open Go.Abs Go.Lib
set_option linter.all false
set_option maxRecDepth 100000
def I64 (n : Int) : Prop := -9223372036854775808 ≤ n ∧ n ≤ 9223372036854775807
/-- The tables of this seat. -/
def gl3 : List (Nat × List AV) := [(0, gTab), (2, tabAV)]
theorem gls_sub {σ : St} (h : GlobsOk gl3 σ) : GlobsOk gls σ := fun k cs hk => by
  simp only [gls, Go.Abs.look] at hk
  cases hb : Nat.beq k 0 with
  | false => rw [hb] at hk; cases hk
  | true => rw [hb] at hk; exact h k cs (by simp only [gl3, Go.Abs.look, hb]; exact hk)
theorem PuG.up3 {f : Nat} {xs : List AV} {v : AV} (h : PuG Tryd.prog gls f xs v) : PuG Tryd.prog gl3 f xs v := fun σ hσ => h σ (gls_sub hσ)
theorem gPow : Tryd.prog.globalNamed "internal/strconv.uint64pow10" = some 2 := by kernel_rfl
theorem fmts : Fmts Tryd.prog 66 2 :=
  fmts_of (Go.Proofs.enters_of Tryd.func66 (by kernel_rfl) rfl) gPow (fun n h0 h1 w ht => Tryd.strconv_FormatInt_10 n h0 h1 w ht)
theorem p45 (n : Int) (hn : I64 n) : PuG Tryd.prog gl3 45 [.int .i64 n] (.str (itoa n)) := by
  intro σ hσ
  refine AC_intro c45 b45 (Nat.le_of_ble_eq_true rfl) ?_
  simp only [c45, ↓R1, R2, R3, R4, R5, Nat.reduceEqDiff, Nat.reduceAdd, Nat.reduceMul, Nat.reduceSub, Nat.reduceLeDiff, Nat.reduceLT, reduceIte, reduceCtorEq, Int.reduceBNe, Int.reduceBEq]
  refine AC.mono (fmts n σ hn.1 hn.2 (hσ _ _ rfl)) ?_
  rintro r s ⟨rfl, rfl⟩
  simp only [↓R1, R2, R3, R4, R5, Nat.reduceEqDiff, Nat.reduceAdd, Nat.reduceMul, Nat.reduceSub, Nat.reduceLeDiff, Nat.reduceLT, reduceIte, reduceCtorEq, Int.reduceBNe, Int.reduceBEq]
  (refine endP_pu (by simp) (by first | (simp [rvsS, rvS]; done) | (simp only [rvsS, rvS, ↓R1, R2, R3, R4, R5, Nat.reduceEqDiff, Nat.reduceAdd, Nat.reduceMul, Nat.reduceSub, Nat.reduceLeDiff, Nat.reduceLT, reduceIte, reduceCtorEq, Int.reduceBNe, Int.reduceBEq]; try simp)) (wk_of_eq ?_) (by (repeat (first | exact St.le_refl _ | (refine St.le_new ?_ (by assumption)) | (refine St.le_newT ?_ (by assumption))))))
  (simp only [resAV, rvV, List.map_cons, List.map_nil, ↓R1, R2, R3, R4, R5, Nat.reduceEqDiff, Nat.reduceAdd, Nat.reduceMul, Nat.reduceSub, Nat.reduceLeDiff, Nat.reduceLT, reduceIte, reduceCtorEq, Int.reduceBNe, Int.reduceBEq])
def letters : List UInt8 := [65, 66, 67, 68, 69, 70, 71, 72, 73, 74, 75, 76, 77, 78, 79, 80, 81, 82, 83, 84, 85, 86, 87, 88, 89, 90]
def letterL (k : Int) : List UInt8 := bif decide (k < 0) || decide (26 ≤ k) then [] else (letters.drop k.toNat).take 1
theorem lt_w {k : Int} (h : (decide (k < 0) || decide (26 ≤ k)) = false) : (0 ≤ k ∧ k < 26) ∧ IntKind.i64.wrap (k + 1) = k + 1 ∧ (k + 1).toNat - k.toNat = 1 := by
  simp only [Bool.or_eq_false_iff, decide_eq_false_iff_not] at h
  exact ⟨by omega, wrap64 (by omega) (by omega), by omega⟩
theorem p27 (k : Int) : Pu Tryd.prog 27 [.int .i64 k] (.tup [.str (letterL k), .int .i64 (checkE k)]) := by
  (refine Pu_intro c27 b27 (Nat.le_of_ble_eq_true rfl) fun σ => ?_; simp only [c27, ↓R1, R2, R3, R4, R5, Nat.reduceEqDiff, Nat.reduceAdd, Nat.reduceMul, Nat.reduceSub, Nat.reduceLeDiff, Nat.reduceLT, reduceIte, reduceCtorEq, Int.reduceBNe, Int.reduceBEq])
  refine condV_split (fun hc => ?_) (fun hc => ?_)
  · simp only [↓R1, R2, R3, R4, R5, Nat.reduceEqDiff, Nat.reduceAdd, Nat.reduceMul, Nat.reduceSub, Nat.reduceLeDiff, Nat.reduceLT, reduceIte, reduceCtorEq, Int.reduceBNe, Int.reduceBEq]
    (refine endP_pu (by simp) (by first | (simp [rvsS, rvS]; done) | (simp only [rvsS, rvS, ↓R1, R2, R3, R4, R5, Nat.reduceEqDiff, Nat.reduceAdd, Nat.reduceMul, Nat.reduceSub, Nat.reduceLeDiff, Nat.reduceLT, reduceIte, reduceCtorEq, Int.reduceBNe, Int.reduceBEq]; try simp)) (wk_of_eq ?_) (by (repeat (first | exact St.le_refl _ | (refine St.le_new ?_ (by assumption)) | (refine St.le_newT ?_ (by assumption))))))
    (simp only [resAV, rvV, List.map_cons, List.map_nil, ↓R1, R2, R3, R4, R5, Nat.reduceEqDiff, Nat.reduceAdd, Nat.reduceMul, Nat.reduceSub, Nat.reduceLeDiff, Nat.reduceLT, reduceIte, reduceCtorEq, Int.reduceBNe, Int.reduceBEq])
    simp only [letterL, checkE, hc, cond_true]
  · obtain ⟨h1, h2, h3⟩ := lt_w hc
    simp only [h2, ↓R1, R2, R3, R4, R5, Nat.reduceEqDiff, Nat.reduceAdd, Nat.reduceMul, Nat.reduceSub, Nat.reduceLeDiff, Nat.reduceLT, reduceIte, reduceCtorEq, Int.reduceBNe, Int.reduceBEq]
    simp only [h3]
    refine ⟨⟨by omega, by omega, by simp; omega⟩, ?_⟩
    (refine endP_pu (by simp) (by first | (simp [rvsS, rvS]; done) | (simp only [rvsS, rvS, ↓R1, R2, R3, R4, R5, Nat.reduceEqDiff, Nat.reduceAdd, Nat.reduceMul, Nat.reduceSub, Nat.reduceLeDiff, Nat.reduceLT, reduceIte, reduceCtorEq, Int.reduceBNe, Int.reduceBEq]; try simp)) (wk_of_eq ?_) (by (repeat (first | exact St.le_refl _ | (refine St.le_new ?_ (by assumption)) | (refine St.le_newT ?_ (by assumption))))))
    (simp only [resAV, rvV, List.map_cons, List.map_nil, ↓R1, R2, R3, R4, R5, Nat.reduceEqDiff, Nat.reduceAdd, Nat.reduceMul, Nat.reduceSub, Nat.reduceLeDiff, Nat.reduceLT, reduceIte, reduceCtorEq, Int.reduceBNe, Int.reduceBEq])
    simp only [letterL, checkE, hc, cond_false]
    rfl
theorem wrapI (v : Int) : IntKind.u64.wrap v = ((BitVec.ofInt 64 v).toNat : Int) := by
  rw [IntKind.wrap_u64, BitVec.toNat_ofInt]; omega
theorem byteI (a : BitVec 64) {k : Nat} (h : k < 8) : IntKind.u8.wrap ((a.toNat : Int).fdiv (2 ^ min (56 - 8 * (k : Int)).toNat IntKind.u64.bits)) = (byteN a k : Nat) := by
  have e : (56 - 8 * (k : Int)).toNat = 56 - 8 * k := by omega
  rw [e, byte_k]
theorem p42 (a : BitVec 64) : Tp Tryd.prog 42 [.int .u64 a.toNat] 5 1 8 (rowK a 8) := by
  have hby := True.intro
  have hge : ∀ k : Nat, decide ((0 : Int) ≤ 56 - 8 * (k : Int)) = decide (k < 8) := fun k => by rw [Bool.eq_iff_iff]; simp; omega
  intro σ
  (refine AC_intro c42 b42 (Nat.le_of_ble_eq_true rfl) ?_; simp only [c42, ↓R1, R2, R3, R4, R5, Nat.reduceEqDiff, Nat.reduceAdd, Nat.reduceMul, Nat.reduceSub, Nat.reduceLeDiff, Nat.reduceLT, reduceIte, reduceCtorEq, Int.reduceBNe, Int.reduceBEq, hby])
  refine loopV_forT 8 4 5 1 0 [] (fun τ k => [(5, .int .i64 (56 - 8 * (k : Int))), (3, .int .u64 a.toNat), (4, .tsl τ k (rowK a k))]) (fun τ k => σ.setTip τ (5, 1, k)) (fun _ => True) trivial rfl trivial (fun τ => by simp [subF, slot, wk_refl, rowK]) (fun τ _ => St.le_refl _) (fun τ hτ k hk _ => ?_)
  simp only [hge, ↓R1, R2, R3, R4, R5, Nat.reduceEqDiff, Nat.reduceAdd, Nat.reduceMul, Nat.reduceSub, Nat.reduceLeDiff, Nat.reduceLT, reduceIte, reduceCtorEq, Int.reduceBNe, Int.reduceBEq, hby]
  refine condV_split (fun hc => ?_) (fun hc => ?_)
  · have hlt : k < 8 := by simpa using hc
    have hby := byteI a hlt
    have hl := rowK_len a k
    have hm : k + 1 ≤ maxLen := by unfold maxLen; omega
    simp only [↓R1, R2, R3, R4, R5, Nat.reduceEqDiff, Nat.reduceAdd, Nat.reduceMul, Nat.reduceSub, Nat.reduceLeDiff, Nat.reduceLT, reduceIte, reduceCtorEq, Int.reduceBNe, Int.reduceBEq, hby]
    repeat' (first | (with_reducible rw [allocV_eq]) | (refine gdV_split (fun hc => ?_) (fun hc => ?_) <;> (try simp only [hc, ↓R1, R2, R3, R4, R5, Nat.reduceEqDiff, Nat.reduceAdd, Nat.reduceMul, Nat.reduceSub, Nat.reduceLeDiff, Nat.reduceLT, reduceIte, reduceCtorEq, Int.reduceBNe, Int.reduceBEq, hby])) | ((first | refine condV_split (fun hc => ?_) (fun hc => ?_) | (with_reducible intro β hβ; (try simp only [St.box_noneA, St.tip_noneA, St.tip_set, St.box_tip, St.box_lp, St.tip_lp] at hβ); (repeat (obtain ⟨⟨_, _⟩, hβ⟩ := hβ)); (try (have hbis := apart_is (by assumption) hβ; obtain ⟨_, _⟩ := hbis))) | ((first | (refine appD_tslK (.inr rfl) rfl ?_ ?_ ?_ ?_ ?_ ?_; (first | rfl | exact St.tip_same _ _ _ | (simp only [↓R1, R2, R3, R4, R5, Nat.reduceEqDiff, Nat.reduceAdd, Nat.reduceMul, Nat.reduceSub, Nat.reduceLeDiff, Nat.reduceLT, reduceIte, reduceCtorEq, Int.reduceBNe, Int.reduceBEq, hby])); (first | omega | (simp only [rowK_len, List.length_append, List.length_map, List.length_nil, List.length_cons]; omega) | (simp only [rowK_len, List.length_append, List.length_map, List.length_nil, List.length_cons])); (first | rfl | first | omega | (simp only [rowK_len, List.length_append, List.length_map, List.length_nil, List.length_cons]; omega) | (simp only [rowK_len, List.length_append, List.length_map, List.length_nil, List.length_cons]))) | (refine appV_tslK rfl ?_ ?_ ?_ ?_ ?_ ?_; (first | rfl | exact St.tip_same _ _ _ | (simp only [↓R1, R2, R3, R4, R5, Nat.reduceEqDiff, Nat.reduceAdd, Nat.reduceMul, Nat.reduceSub, Nat.reduceLeDiff, Nat.reduceLT, reduceIte, reduceCtorEq, Int.reduceBNe, Int.reduceBEq, hby])); (first | omega | (simp only [rowK_len, List.length_append, List.length_map, List.length_nil, List.length_cons]; omega) | (simp only [rowK_len, List.length_append, List.length_map, List.length_nil, List.length_cons])); (first | rfl | first | omega | (simp only [rowK_len, List.length_append, List.length_map, List.length_nil, List.length_cons]; omega) | (simp only [rowK_len, List.length_append, List.length_map, List.length_nil, List.length_cons]))) | (refine appV_own ?_ ?_ ?_ ?_; exact flat_len (by intro _; rfl) _) | (refine appD_own ?_ ?_ ?_ ?_ ?_; omega; exact flat_len (by intro _; rfl) _) | (refine appV_fresh rfl trivial rfl ?_ ?_ ?_ ?_ ?_; (first | rfl | first | omega | (simp only [rowK_len, List.length_append, List.length_map, List.length_nil, List.length_cons]; omega) | (simp only [rowK_len, List.length_append, List.length_map, List.length_nil, List.length_cons])); (first | rfl | first | omega | (simp only [rowK_len, List.length_append, List.length_map, List.length_nil, List.length_cons]; omega) | (simp only [rowK_len, List.length_append, List.length_map, List.length_nil, List.length_cons]))) | (refine appD_fresh rfl trivial rfl ?_ ?_ ?_ ?_ ?_ ?_; omega; (first | rfl | first | omega | (simp only [rowK_len, List.length_append, List.length_map, List.length_nil, List.length_cons]; omega) | (simp only [rowK_len, List.length_append, List.length_map, List.length_nil, List.length_cons])); (first | rfl | first | omega | (simp only [rowK_len, List.length_append, List.length_map, List.length_nil, List.length_cons]; omega) | (simp only [rowK_len, List.length_append, List.length_map, List.length_nil, List.length_cons])))); (unfold maxLen; omega); omega)) <;> (try simp only [↓R1, R2, R3, R4, R5, Nat.reduceEqDiff, Nat.reduceAdd, Nat.reduceMul, Nat.reduceSub, Nat.reduceLeDiff, Nat.reduceLT, reduceIte, reduceCtorEq, Int.reduceBNe, Int.reduceBEq, hby])) | (with_reducible refine And.intro ?_ ?_; (focus (first | omega | (intros; (repeat' (with_reducible apply And.intro)) <;> first | omega | (simp only [rowK_len, List.length_append, List.length_map]; omega))))) | (with_reducible apply And.intro))
    all_goals first | omega | exact Nat.le_refl _ | assumption | exact St.le_refl _ | (intros; (repeat' (with_reducible apply And.intro)) <;> first | omega | (simp only [rowK_len, List.length_append, List.length_map]; omega)) | (simp only [subF, slot, wk_refl, ↓R1, R2, R3, R4, R5, Nat.reduceEqDiff, Nat.reduceAdd, Nat.reduceMul, Nat.reduceSub, Nat.reduceLeDiff, Nat.reduceLT, reduceIte, reduceCtorEq, Int.reduceBNe, Int.reduceBEq, hby]; (repeat' (with_reducible apply And.intro)) <;> first | exact wk_k (by have := maxLen_lt; omega) | exact wk_tsl _ _ _ | exact wk_full _ _ | exact wk_of_eq (congrArg (AV.tsl _ _) (flat_step (by assumption)))) | ((repeat (first | exact St.le_refl _ | (refine St.le_new ?_ (by assumption)) | (refine St.le_newT ?_ (by assumption)))); done) | (simp_all; done) | skip
    simp only [subF, slot, wk_refl, rowK_step, ↓R1, R2, R3, R4, R5, Nat.reduceEqDiff, Nat.reduceAdd, Nat.reduceMul, Nat.reduceSub, Nat.reduceLeDiff, Nat.reduceLT, reduceIte, reduceCtorEq, Int.reduceBNe, Int.reduceBEq, hby]
    exact wk_of_eq (by rw [wrap64 (by omega) (by omega)]; congr 1; omega)
  · have : k = 8 := by simp at hc; omega
    subst this
    simp only [↓R1, R2, R3, R4, R5, Nat.reduceEqDiff, Nat.reduceAdd, Nat.reduceMul, Nat.reduceSub, Nat.reduceLeDiff, Nat.reduceLT, reduceIte, reduceCtorEq, Int.reduceBNe, Int.reduceBEq, hby]
    refine endP_tip τ hτ (by simp) (by first | (simp [rvsS, rvS]; done) | (simp only [rvsS, rvS, ↓R1, R2, R3, R4, R5, Nat.reduceEqDiff, Nat.reduceAdd, Nat.reduceMul, Nat.reduceSub, Nat.reduceLeDiff, Nat.reduceLT, reduceIte, reduceCtorEq, Int.reduceBNe, Int.reduceBEq, hby]; try simp)) (wk_of_eq (by (simp only [resAV, rvV, List.map_cons, List.map_nil, ↓R1, R2, R3, R4, R5, Nat.reduceEqDiff, Nat.reduceAdd, Nat.reduceMul, Nat.reduceSub, Nat.reduceLeDiff, Nat.reduceLT, reduceIte, reduceCtorEq, Int.reduceBNe, Int.reduceBEq, hby]))) (St.le_refl _)
theorem p43 (v : Int) : Tp Tryd.prog 43 [.int .i64 v] 5 1 8 (rowK (BitVec.ofInt 64 v) 8) := by
  have hby := True.intro
  have hge : ∀ k : Nat, decide ((0 : Int) ≤ 56 - 8 * (k : Int)) = decide (k < 8) := fun k => by rw [Bool.eq_iff_iff]; simp; omega
  intro σ
  (refine AC_intro c43 b43 (Nat.le_of_ble_eq_true rfl) ?_; simp only [c43, ↓R1, R2, R3, R4, R5, Nat.reduceEqDiff, Nat.reduceAdd, Nat.reduceMul, Nat.reduceSub, Nat.reduceLeDiff, Nat.reduceLT, reduceIte, reduceCtorEq, Int.reduceBNe, Int.reduceBEq, hby])
  simp only [wrapI]
  obtain ⟨a, ha⟩ : ∃ a, BitVec.ofInt 64 v = a := ⟨_, rfl⟩
  rw [ha]
  refine loopV_forT 8 4 5 1 0 [] (fun τ k => [(5, .int .i64 (56 - 8 * (k : Int))), (3, .int .u64 a.toNat), (4, .tsl τ k (rowK a k))]) (fun τ k => σ.setTip τ (5, 1, k)) (fun _ => True) trivial rfl trivial (fun τ => by simp [subF, slot, wk_refl, rowK]) (fun τ _ => St.le_refl _) (fun τ hτ k hk _ => ?_)
  simp only [hge, ↓R1, R2, R3, R4, R5, Nat.reduceEqDiff, Nat.reduceAdd, Nat.reduceMul, Nat.reduceSub, Nat.reduceLeDiff, Nat.reduceLT, reduceIte, reduceCtorEq, Int.reduceBNe, Int.reduceBEq, hby]
  refine condV_split (fun hc => ?_) (fun hc => ?_)
  · have hlt : k < 8 := by simpa using hc
    have hby := byteI a hlt
    have hl := rowK_len a k
    have hm : k + 1 ≤ maxLen := by unfold maxLen; omega
    simp only [↓R1, R2, R3, R4, R5, Nat.reduceEqDiff, Nat.reduceAdd, Nat.reduceMul, Nat.reduceSub, Nat.reduceLeDiff, Nat.reduceLT, reduceIte, reduceCtorEq, Int.reduceBNe, Int.reduceBEq, hby]
    repeat' (first | (with_reducible rw [allocV_eq]) | (refine gdV_split (fun hc => ?_) (fun hc => ?_) <;> (try simp only [hc, ↓R1, R2, R3, R4, R5, Nat.reduceEqDiff, Nat.reduceAdd, Nat.reduceMul, Nat.reduceSub, Nat.reduceLeDiff, Nat.reduceLT, reduceIte, reduceCtorEq, Int.reduceBNe, Int.reduceBEq, hby])) | ((first | refine condV_split (fun hc => ?_) (fun hc => ?_) | (with_reducible intro β hβ; (try simp only [St.box_noneA, St.tip_noneA, St.tip_set, St.box_tip, St.box_lp, St.tip_lp] at hβ); (repeat (obtain ⟨⟨_, _⟩, hβ⟩ := hβ)); (try (have hbis := apart_is (by assumption) hβ; obtain ⟨_, _⟩ := hbis))) | ((first | (refine appD_tslK (.inr rfl) rfl ?_ ?_ ?_ ?_ ?_ ?_; (first | rfl | exact St.tip_same _ _ _ | (simp only [↓R1, R2, R3, R4, R5, Nat.reduceEqDiff, Nat.reduceAdd, Nat.reduceMul, Nat.reduceSub, Nat.reduceLeDiff, Nat.reduceLT, reduceIte, reduceCtorEq, Int.reduceBNe, Int.reduceBEq, hby])); (first | omega | (simp only [rowK_len, List.length_append, List.length_map, List.length_nil, List.length_cons]; omega) | (simp only [rowK_len, List.length_append, List.length_map, List.length_nil, List.length_cons])); (first | rfl | first | omega | (simp only [rowK_len, List.length_append, List.length_map, List.length_nil, List.length_cons]; omega) | (simp only [rowK_len, List.length_append, List.length_map, List.length_nil, List.length_cons]))) | (refine appV_tslK rfl ?_ ?_ ?_ ?_ ?_ ?_; (first | rfl | exact St.tip_same _ _ _ | (simp only [↓R1, R2, R3, R4, R5, Nat.reduceEqDiff, Nat.reduceAdd, Nat.reduceMul, Nat.reduceSub, Nat.reduceLeDiff, Nat.reduceLT, reduceIte, reduceCtorEq, Int.reduceBNe, Int.reduceBEq, hby])); (first | omega | (simp only [rowK_len, List.length_append, List.length_map, List.length_nil, List.length_cons]; omega) | (simp only [rowK_len, List.length_append, List.length_map, List.length_nil, List.length_cons])); (first | rfl | first | omega | (simp only [rowK_len, List.length_append, List.length_map, List.length_nil, List.length_cons]; omega) | (simp only [rowK_len, List.length_append, List.length_map, List.length_nil, List.length_cons]))) | (refine appV_own ?_ ?_ ?_ ?_; exact flat_len (by intro _; rfl) _) | (refine appD_own ?_ ?_ ?_ ?_ ?_; omega; exact flat_len (by intro _; rfl) _) | (refine appV_fresh rfl trivial rfl ?_ ?_ ?_ ?_ ?_; (first | rfl | first | omega | (simp only [rowK_len, List.length_append, List.length_map, List.length_nil, List.length_cons]; omega) | (simp only [rowK_len, List.length_append, List.length_map, List.length_nil, List.length_cons])); (first | rfl | first | omega | (simp only [rowK_len, List.length_append, List.length_map, List.length_nil, List.length_cons]; omega) | (simp only [rowK_len, List.length_append, List.length_map, List.length_nil, List.length_cons]))) | (refine appD_fresh rfl trivial rfl ?_ ?_ ?_ ?_ ?_ ?_; omega; (first | rfl | first | omega | (simp only [rowK_len, List.length_append, List.length_map, List.length_nil, List.length_cons]; omega) | (simp only [rowK_len, List.length_append, List.length_map, List.length_nil, List.length_cons])); (first | rfl | first | omega | (simp only [rowK_len, List.length_append, List.length_map, List.length_nil, List.length_cons]; omega) | (simp only [rowK_len, List.length_append, List.length_map, List.length_nil, List.length_cons])))); (unfold maxLen; omega); omega)) <;> (try simp only [↓R1, R2, R3, R4, R5, Nat.reduceEqDiff, Nat.reduceAdd, Nat.reduceMul, Nat.reduceSub, Nat.reduceLeDiff, Nat.reduceLT, reduceIte, reduceCtorEq, Int.reduceBNe, Int.reduceBEq, hby])) | (with_reducible refine And.intro ?_ ?_; (focus (first | omega | (intros; (repeat' (with_reducible apply And.intro)) <;> first | omega | (simp only [rowK_len, List.length_append, List.length_map]; omega))))) | (with_reducible apply And.intro))
    all_goals first | omega | exact Nat.le_refl _ | assumption | exact St.le_refl _ | (intros; (repeat' (with_reducible apply And.intro)) <;> first | omega | (simp only [rowK_len, List.length_append, List.length_map]; omega)) | (simp only [subF, slot, wk_refl, ↓R1, R2, R3, R4, R5, Nat.reduceEqDiff, Nat.reduceAdd, Nat.reduceMul, Nat.reduceSub, Nat.reduceLeDiff, Nat.reduceLT, reduceIte, reduceCtorEq, Int.reduceBNe, Int.reduceBEq, hby]; (repeat' (with_reducible apply And.intro)) <;> first | exact wk_k (by have := maxLen_lt; omega) | exact wk_tsl _ _ _ | exact wk_full _ _ | exact wk_of_eq (congrArg (AV.tsl _ _) (flat_step (by assumption)))) | ((repeat (first | exact St.le_refl _ | (refine St.le_new ?_ (by assumption)) | (refine St.le_newT ?_ (by assumption)))); done) | (simp_all; done) | skip
    simp only [subF, slot, wk_refl, rowK_step, ↓R1, R2, R3, R4, R5, Nat.reduceEqDiff, Nat.reduceAdd, Nat.reduceMul, Nat.reduceSub, Nat.reduceLeDiff, Nat.reduceLT, reduceIte, reduceCtorEq, Int.reduceBNe, Int.reduceBEq, hby]
    exact wk_of_eq (by rw [wrap64 (by omega) (by omega)]; congr 1; omega)
  · have : k = 8 := by simp at hc; omega
    subst this
    simp only [↓R1, R2, R3, R4, R5, Nat.reduceEqDiff, Nat.reduceAdd, Nat.reduceMul, Nat.reduceSub, Nat.reduceLeDiff, Nat.reduceLT, reduceIte, reduceCtorEq, Int.reduceBNe, Int.reduceBEq, hby]
    refine endP_tip τ hτ (by simp) (by first | (simp [rvsS, rvS]; done) | (simp only [rvsS, rvS, ↓R1, R2, R3, R4, R5, Nat.reduceEqDiff, Nat.reduceAdd, Nat.reduceMul, Nat.reduceSub, Nat.reduceLeDiff, Nat.reduceLT, reduceIte, reduceCtorEq, Int.reduceBNe, Int.reduceBEq, hby]; try simp)) (wk_of_eq (by (simp only [resAV, rvV, List.map_cons, List.map_nil, ↓R1, R2, R3, R4, R5, Nat.reduceEqDiff, Nat.reduceAdd, Nat.reduceMul, Nat.reduceSub, Nat.reduceLeDiff, Nat.reduceLT, reduceIte, reduceCtorEq, Int.reduceBNe, Int.reduceBEq, hby]))) (St.le_refl _)
def evBytes (l : BitVec 64) (k v : Int) : List UInt8 := bif checkE k == 0 then bytesL l ++ UInt8.ofNat (IntKind.u8.wrap k).toNat :: bytesL (BitVec.ofInt 64 v) else []
theorem all_bytes (a b : BitVec 64) (x : Int) : ((rowK a 8 ++ [AV.int .u8 x]) ++ rowK b 8).all isByte = true ∧ ((rowK a 8 ++ [AV.int .u8 x]) ++ rowK b 8).map Go.Abs.byteOf = bytesL a ++ UInt8.ofNat x.toNat :: bytesL b ∧ ((rowK a 8 ++ [AV.int .u8 x]) ++ rowK b 8).length = 17 := by
  refine ⟨by simp [List.all_append, rowK_isByte, isByte], ?_, by simp [rowK_len]⟩
  rw [List.map_append, List.map_append, rowK_bytes, rowK_bytes]
  simp [Go.Abs.byteOf]
set_option maxHeartbeats 4000000 in
theorem p13 (l : BitVec 64) (k v : Int) : Pu Tryd.prog 13 [.agg [.int .u64 l.toNat, .int .i64 k, .int .i64 v]] (.tup [.str (evBytes l k v), .int .i64 (checkE k)]) := by
  obtain ⟨g1, g2, g3⟩ := all_bytes l (BitVec.ofInt 64 v) (IntKind.u8.wrap k)
  (refine Pu_intro c13 b13 (Nat.le_of_ble_eq_true rfl) fun σ => ?_; simp only [c13, ↓R1, R2, R3, R4, R5, Nat.reduceEqDiff, Nat.reduceAdd, Nat.reduceMul, Nat.reduceSub, Nat.reduceLeDiff, Nat.reduceLT, reduceIte, reduceCtorEq, Int.reduceBNe, Int.reduceBEq])
  repeat' (first | (with_reducible rw [allocV_eq]) | (refine gdV_split (fun hc => ?_) (fun hc => ?_) <;> (try simp only [hc, ↓R1, R2, R3, R4, R5, Nat.reduceEqDiff, Nat.reduceAdd, Nat.reduceMul, Nat.reduceSub, Nat.reduceLeDiff, Nat.reduceLT, reduceIte, reduceCtorEq, Int.reduceBNe, Int.reduceBEq])) | ((first | refine condV_split (fun hc => ?_) (fun hc => ?_) | (with_reducible intro β hβ; (try simp only [St.box_noneA, St.tip_noneA, St.tip_set, St.box_tip, St.box_lp, St.tip_lp] at hβ); (repeat (obtain ⟨⟨_, _⟩, hβ⟩ := hβ)); (try (have hbis := apart_is (by assumption) hβ; obtain ⟨_, _⟩ := hbis))) | ((first | (refine appD_tslK (.inr rfl) rfl ?_ ?_ ?_ ?_ ?_ ?_; (first | rfl | exact St.tip_same _ _ _ | (simp only [↓R1, R2, R3, R4, R5, Nat.reduceEqDiff, Nat.reduceAdd, Nat.reduceMul, Nat.reduceSub, Nat.reduceLeDiff, Nat.reduceLT, reduceIte, reduceCtorEq, Int.reduceBNe, Int.reduceBEq])); (first | omega | (simp only [rowK_len, List.length_append, List.length_map, List.length_nil, List.length_cons]; omega) | (simp only [rowK_len, List.length_append, List.length_map, List.length_nil, List.length_cons])); (first | rfl | first | omega | (simp only [rowK_len, List.length_append, List.length_map, List.length_nil, List.length_cons]; omega) | (simp only [rowK_len, List.length_append, List.length_map, List.length_nil, List.length_cons]))) | (refine appV_tslK rfl ?_ ?_ ?_ ?_ ?_ ?_; (first | rfl | exact St.tip_same _ _ _ | (simp only [↓R1, R2, R3, R4, R5, Nat.reduceEqDiff, Nat.reduceAdd, Nat.reduceMul, Nat.reduceSub, Nat.reduceLeDiff, Nat.reduceLT, reduceIte, reduceCtorEq, Int.reduceBNe, Int.reduceBEq])); (first | omega | (simp only [rowK_len, List.length_append, List.length_map, List.length_nil, List.length_cons]; omega) | (simp only [rowK_len, List.length_append, List.length_map, List.length_nil, List.length_cons])); (first | rfl | first | omega | (simp only [rowK_len, List.length_append, List.length_map, List.length_nil, List.length_cons]; omega) | (simp only [rowK_len, List.length_append, List.length_map, List.length_nil, List.length_cons]))) | (refine appV_own ?_ ?_ ?_ ?_; exact flat_len (by intro _; rfl) _) | (refine appD_own ?_ ?_ ?_ ?_ ?_; omega; exact flat_len (by intro _; rfl) _) | (refine appV_fresh rfl trivial rfl ?_ ?_ ?_ ?_ ?_; (first | rfl | first | omega | (simp only [rowK_len, List.length_append, List.length_map, List.length_nil, List.length_cons]; omega) | (simp only [rowK_len, List.length_append, List.length_map, List.length_nil, List.length_cons])); (first | rfl | first | omega | (simp only [rowK_len, List.length_append, List.length_map, List.length_nil, List.length_cons]; omega) | (simp only [rowK_len, List.length_append, List.length_map, List.length_nil, List.length_cons]))) | (refine appD_fresh rfl trivial rfl ?_ ?_ ?_ ?_ ?_ ?_; omega; (first | rfl | first | omega | (simp only [rowK_len, List.length_append, List.length_map, List.length_nil, List.length_cons]; omega) | (simp only [rowK_len, List.length_append, List.length_map, List.length_nil, List.length_cons])); (first | rfl | first | omega | (simp only [rowK_len, List.length_append, List.length_map, List.length_nil, List.length_cons]; omega) | (simp only [rowK_len, List.length_append, List.length_map, List.length_nil, List.length_cons])))); (unfold maxLen; omega); omega)) <;> (try simp only [↓R1, R2, R3, R4, R5, Nat.reduceEqDiff, Nat.reduceAdd, Nat.reduceMul, Nat.reduceSub, Nat.reduceLeDiff, Nat.reduceLT, reduceIte, reduceCtorEq, Int.reduceBNe, Int.reduceBEq])) | (with_reducible refine And.intro ?_ ?_; (focus (first | omega | (intros; (repeat' (with_reducible apply And.intro)) <;> first | omega | (simp only [rowK_len, List.length_append, List.length_map]; omega))))) | (with_reducible apply And.intro) | ((first | refine Pu.to (p25 l.toNat k v) (wkL_refl _) ?_ | refine callDV_pu (p25 l.toNat k v) (wkL_refl _) ?_); (try simp only [↓R1, R2, R3, R4, R5, Nat.reduceEqDiff, Nat.reduceAdd, Nat.reduceMul, Nat.reduceSub, Nat.reduceLeDiff, Nat.reduceLT, reduceIte, reduceCtorEq, Int.reduceBNe, Int.reduceBEq])) | (refine Tp.to (p42 l) ?_ ?_; (focus ((repeat' (first | exact wk_refl _ | exact wk_nils | exact wk_tsl _ _ _ | exact wk_full _ _ | exact wkL.nil | exact wkL_refl _ | refine wk_tup ?_ | refine wk_agg ?_ | refine wkL.cons ?_ ?_)); done)); intro τ hβ; (try simp only [St.box_noneA, St.tip_noneA, St.tip_set, St.box_tip, St.box_lp, St.tip_lp] at hβ); (repeat (obtain ⟨⟨_, _⟩, hβ⟩ := hβ)); (try (have hbis := apart_is (by assumption) hβ; obtain ⟨_, _⟩ := hbis)); (try simp only [↓R1, R2, R3, R4, R5, Nat.reduceEqDiff, Nat.reduceAdd, Nat.reduceMul, Nat.reduceSub, Nat.reduceLeDiff, Nat.reduceLT, reduceIte, reduceCtorEq, Int.reduceBNe, Int.reduceBEq])) | (refine Tp.to (p43 v) ?_ ?_; (focus ((repeat' (first | exact wk_refl _ | exact wk_nils | exact wk_tsl _ _ _ | exact wk_full _ _ | exact wkL.nil | exact wkL_refl _ | refine wk_tup ?_ | refine wk_agg ?_ | refine wkL.cons ?_ ?_)); done)); intro τ hβ; (try simp only [St.box_noneA, St.tip_noneA, St.tip_set, St.box_tip, St.box_lp, St.tip_lp] at hβ); (repeat (obtain ⟨⟨_, _⟩, hβ⟩ := hβ)); (try (have hbis := apart_is (by assumption) hβ; obtain ⟨_, _⟩ := hbis)); (try simp only [↓R1, R2, R3, R4, R5, Nat.reduceEqDiff, Nat.reduceAdd, Nat.reduceMul, Nat.reduceSub, Nat.reduceLeDiff, Nat.reduceLT, reduceIte, reduceCtorEq, Int.reduceBNe, Int.reduceBEq])))
  · (refine endP_pu (by simp) (by first | (simp [rvsS, rvS]; done) | (simp only [rvsS, rvS, ↓R1, R2, R3, R4, R5, Nat.reduceEqDiff, Nat.reduceAdd, Nat.reduceMul, Nat.reduceSub, Nat.reduceLeDiff, Nat.reduceLT, reduceIte, reduceCtorEq, Int.reduceBNe, Int.reduceBEq]; try simp)) (wk_of_eq ?_) (by (repeat (first | exact St.le_refl _ | (refine St.le_new ?_ (by assumption)) | (refine St.le_newT ?_ (by assumption))))))
    (simp only [resAV, rvV, List.map_cons, List.map_nil, ↓R1, R2, R3, R4, R5, Nat.reduceEqDiff, Nat.reduceAdd, Nat.reduceMul, Nat.reduceSub, Nat.reduceLeDiff, Nat.reduceLT, reduceIte, reduceCtorEq, Int.reduceBNe, Int.reduceBEq])
    have he : (checkE k == 0) = false := by simpa using hc
    simp only [evBytes, he, cond_false]
  all_goals ((refine endP_pu (by simp) (by first | (simp [rvsS, rvS]; done) | (simp only [rvsS, rvS, ↓R1, R2, R3, R4, R5, Nat.reduceEqDiff, Nat.reduceAdd, Nat.reduceMul, Nat.reduceSub, Nat.reduceLeDiff, Nat.reduceLT, reduceIte, reduceCtorEq, Int.reduceBNe, Int.reduceBEq]; try simp)) (wk_of_eq ?_) (by (repeat (first | exact St.le_refl _ | (refine St.le_new ?_ (by assumption)) | (refine St.le_newT ?_ (by assumption)))))); (simp only [resAV, rvV, List.map_cons, List.map_nil, ↓R1, R2, R3, R4, R5, Nat.reduceEqDiff, Nat.reduceAdd, Nat.reduceMul, Nat.reduceSub, Nat.reduceLeDiff, Nat.reduceLT, reduceIte, reduceCtorEq, Int.reduceBNe, Int.reduceBEq]); rw [g2]; have he : checkE k = 0 := by simpa using hc)
  all_goals simp [evBytes, he]
def someB : List UInt8 := [0, 0, 0, 0, 0, 0, 1, 1, 2, 255, 255, 255, 255, 255, 255, 255, 254]
theorem some_bytes : evBytes 257#64 2 (-2) = someB ∧ checkE 2 = 0 := by decide
end Go.Proofs.YtnmlhilckjmhnaaDoor
namespace Go.Proofs.YtnmlhilckjmhnaaDoor
open Go.Abs Go.Lib
set_option linter.all false
set_option maxRecDepth 100000
theorem dec_len20 (n : Nat) (h : n < 18446744073709551616) : (decDigits n).length ≤ 20 := by
  have : ∀ (j : Nat) (n : Nat), n < 10 ^ (j + 1) → (decDigits n).length ≤ j + 1 := by
    intro j
    induction j with
    | zero => intro n h; rw [decDigits, dif_pos (by omega)]; simp
    | succ j ih =>
      intro n h
      rw [decDigits]
      split
      · simp
      · have := ih (n / 10) (by rw [Nat.pow_succ] at h; omega)
        simp only [List.length_append, List.length_cons, List.length_nil]; omega
  exact this 19 n (Nat.lt_trans h (by decide))
theorem itoa_len (v : Int) (hv : I64 v) : (itoa v).length ≤ 21 := by
  unfold I64 at hv
  unfold itoa
  split
  · have := dec_len20 v.natAbs (by omega)
    simp only [List.length_cons]; omega
  · have := dec_len20 v.toNat (by omega)
    omega
def evText (l : BitVec 64) (k v : Int) : List UInt8 := bif checkE k == 0 then letterL k ++ [32] ++ textL l ++ [32] ++ itoa v else []
theorem textL_len (a : BitVec 64) : (textL a).length ≤ 194 := by
  have := bodyT_len a
  simp only [textL, List.length_cons, List.length_append, List.length_nil]; omega
theorem letterL_len (k : Int) : (letterL k).length ≤ 1 := by unfold letterL; cases (decide (k < 0) || decide (26 ≤ k)) <;> simp; omega
theorem p14 (l : BitVec 64) (k v : Int) (hv : I64 v) : PuG Tryd.prog gl3 14 [.agg [.int .u64 l.toNat, .int .i64 k, .int .i64 v]] (.tup [.str (evText l k v), .int .i64 (checkE k)]) := by
  have h1 := PuG.up3 (p44 l)
  have h2 := p45 v hv
  have l1 := textL_len l
  have l2 := itoa_len v hv
  have l3 := letterL_len k
  (refine PuG_intro c14 b14 (Nat.le_of_ble_eq_true rfl) fun σ hσ => ?_; simp only [c14, ↓R1, R2, R3, R4, R5, Nat.reduceEqDiff, Nat.reduceAdd, Nat.reduceMul, Nat.reduceSub, Nat.reduceLeDiff, Nat.reduceLT, reduceIte, reduceCtorEq, Int.reduceBNe, Int.reduceBEq])
  repeat' (first | (with_reducible rw [allocV_eq]) | (refine gdV_split (fun hc => ?_) (fun hc => ?_) <;> (try simp only [hc, ↓R1, R2, R3, R4, R5, Nat.reduceEqDiff, Nat.reduceAdd, Nat.reduceMul, Nat.reduceSub, Nat.reduceLeDiff, Nat.reduceLT, reduceIte, reduceCtorEq, Int.reduceBNe, Int.reduceBEq])) | ((first | refine condV_split (fun hc => ?_) (fun hc => ?_) | (with_reducible intro β hβ; (try simp only [St.box_noneA, St.tip_noneA, St.tip_set, St.box_tip, St.box_lp, St.tip_lp] at hβ); (repeat (obtain ⟨⟨_, _⟩, hβ⟩ := hβ)); (try (have hbis := apart_is (by assumption) hβ; obtain ⟨_, _⟩ := hbis))) | ((first | (refine appD_tslK (.inr rfl) rfl ?_ ?_ ?_ ?_ ?_ ?_; (first | rfl | exact St.tip_same _ _ _ | (simp only [↓R1, R2, R3, R4, R5, Nat.reduceEqDiff, Nat.reduceAdd, Nat.reduceMul, Nat.reduceSub, Nat.reduceLeDiff, Nat.reduceLT, reduceIte, reduceCtorEq, Int.reduceBNe, Int.reduceBEq])); (first | omega | (simp only [List.length_append, List.length_cons, List.length_nil, List.length_nil, List.length_cons]; omega) | (simp only [List.length_append, List.length_cons, List.length_nil, List.length_nil, List.length_cons])); (first | rfl | first | omega | (simp only [List.length_append, List.length_cons, List.length_nil, List.length_nil, List.length_cons]; omega) | (simp only [List.length_append, List.length_cons, List.length_nil, List.length_nil, List.length_cons]))) | (refine appV_tslK rfl ?_ ?_ ?_ ?_ ?_ ?_; (first | rfl | exact St.tip_same _ _ _ | (simp only [↓R1, R2, R3, R4, R5, Nat.reduceEqDiff, Nat.reduceAdd, Nat.reduceMul, Nat.reduceSub, Nat.reduceLeDiff, Nat.reduceLT, reduceIte, reduceCtorEq, Int.reduceBNe, Int.reduceBEq])); (first | omega | (simp only [List.length_append, List.length_cons, List.length_nil, List.length_nil, List.length_cons]; omega) | (simp only [List.length_append, List.length_cons, List.length_nil, List.length_nil, List.length_cons])); (first | rfl | first | omega | (simp only [List.length_append, List.length_cons, List.length_nil, List.length_nil, List.length_cons]; omega) | (simp only [List.length_append, List.length_cons, List.length_nil, List.length_nil, List.length_cons]))) | (refine appV_own ?_ ?_ ?_ ?_; exact flat_len (by intro _; rfl) _) | (refine appD_own ?_ ?_ ?_ ?_ ?_; omega; exact flat_len (by intro _; rfl) _) | (refine appV_fresh rfl trivial rfl ?_ ?_ ?_ ?_ ?_; (first | rfl | first | omega | (simp only [List.length_append, List.length_cons, List.length_nil, List.length_nil, List.length_cons]; omega) | (simp only [List.length_append, List.length_cons, List.length_nil, List.length_nil, List.length_cons])); (first | rfl | first | omega | (simp only [List.length_append, List.length_cons, List.length_nil, List.length_nil, List.length_cons]; omega) | (simp only [List.length_append, List.length_cons, List.length_nil, List.length_nil, List.length_cons]))) | (refine appD_fresh rfl trivial rfl ?_ ?_ ?_ ?_ ?_ ?_; omega; (first | rfl | first | omega | (simp only [List.length_append, List.length_cons, List.length_nil, List.length_nil, List.length_cons]; omega) | (simp only [List.length_append, List.length_cons, List.length_nil, List.length_nil, List.length_cons])); (first | rfl | first | omega | (simp only [List.length_append, List.length_cons, List.length_nil, List.length_nil, List.length_cons]; omega) | (simp only [List.length_append, List.length_cons, List.length_nil, List.length_nil, List.length_cons])))); (unfold maxLen; omega); omega)) <;> (try simp only [↓R1, R2, R3, R4, R5, Nat.reduceEqDiff, Nat.reduceAdd, Nat.reduceMul, Nat.reduceSub, Nat.reduceLeDiff, Nat.reduceLT, reduceIte, reduceCtorEq, Int.reduceBNe, Int.reduceBEq])) | (with_reducible refine And.intro ?_ ?_; (focus (first | omega | (intros; (repeat' (with_reducible apply And.intro)) <;> first | omega | (simp only [List.length_append, List.length_cons, List.length_nil]; omega))))) | (with_reducible apply And.intro) | ((first | refine Pu.to (p27 k) (wkL_refl _) ?_ | refine callDV_pu (p27 k) (wkL_refl _) ?_ | refine callDV_puG (h1) hσ (wkL_refl _) ?_ | refine callDV_puG (h2) hσ (wkL_refl _) ?_); (try simp only [↓R1, R2, R3, R4, R5, Nat.reduceEqDiff, Nat.reduceAdd, Nat.reduceMul, Nat.reduceSub, Nat.reduceLeDiff, Nat.reduceLT, reduceIte, reduceCtorEq, Int.reduceBNe, Int.reduceBEq])))
  · (refine endP_pu (by simp) (by first | (simp [rvsS, rvS]; done) | (simp only [rvsS, rvS, ↓R1, R2, R3, R4, R5, Nat.reduceEqDiff, Nat.reduceAdd, Nat.reduceMul, Nat.reduceSub, Nat.reduceLeDiff, Nat.reduceLT, reduceIte, reduceCtorEq, Int.reduceBNe, Int.reduceBEq]; try simp)) (wk_of_eq ?_) (by (repeat (first | exact St.le_refl _ | (refine St.le_new ?_ (by assumption)) | (refine St.le_newT ?_ (by assumption))))))
    (simp only [resAV, rvV, List.map_cons, List.map_nil, ↓R1, R2, R3, R4, R5, Nat.reduceEqDiff, Nat.reduceAdd, Nat.reduceMul, Nat.reduceSub, Nat.reduceLeDiff, Nat.reduceLT, reduceIte, reduceCtorEq, Int.reduceBNe, Int.reduceBEq])
    have he : (checkE k == 0) = false := by simpa using hc
    simp only [evText, he, cond_false]
  · have he : checkE k = 0 := by simpa using hc
    (refine endP_pu (by simp) (by first | (simp [rvsS, rvS]; done) | (simp only [rvsS, rvS, ↓R1, R2, R3, R4, R5, Nat.reduceEqDiff, Nat.reduceAdd, Nat.reduceMul, Nat.reduceSub, Nat.reduceLeDiff, Nat.reduceLT, reduceIte, reduceCtorEq, Int.reduceBNe, Int.reduceBEq]; try simp)) (wk_of_eq ?_) (by (repeat (first | exact St.le_refl _ | (refine St.le_new ?_ (by assumption)) | (refine St.le_newT ?_ (by assumption))))))
    (simp only [resAV, rvV, List.map_cons, List.map_nil, ↓R1, R2, R3, R4, R5, Nat.reduceEqDiff, Nat.reduceAdd, Nat.reduceMul, Nat.reduceSub, Nat.reduceLeDiff, Nat.reduceLT, reduceIte, reduceCtorEq, Int.reduceBNe, Int.reduceBEq])
    simp [evText, he]
end Go.Proofs.YtnmlhilckjmhnaaDoor
namespace Go.Proofs.YtnmlhilckjmhnaaDoor
open Go.Abs Go.Lib
set_option linter.all false
set_option maxRecDepth 100000
def fit (n : Int) : Bool := decide (-9223372036854775808 ≤ n ∧ n ≤ 9223372036854775807)
theorem fit_iff (n : Int) : fit n = true ↔ -9223372036854775808 ≤ n ∧ n ≤ 9223372036854775807 := by simp [fit]
theorem wI (n : Int) : IntKind.i64.wrap n = if 9223372036854775808 ≤ n % 18446744073709551616 then n % 18446744073709551616 - 18446744073709551616 else n % 18446744073709551616 := by
  simp [IntKind.wrap, IntKind.bits, IntKind.signed]
theorem wU (n : Int) : IntKind.u64.wrap n = n % 18446744073709551616 := by
  simp [IntKind.wrap, IntKind.bits, IntKind.signed]
theorem wU8 (n : Int) : IntKind.u8.wrap n = n % 256 := by
  simp [IntKind.wrap, IntKind.bits, IntKind.signed]
def dg (c : UInt8) : Bool := decide (48 ≤ c.toNat) && decide (c.toNat ≤ 57)
def vstep (a : Nat) (c : UInt8) : Nat := a * 10 + (c.toNat - 48)
def val (a : Nat) (l : List UInt8) : Nat := l.foldl vstep a
theorem val_snoc (l : List UInt8) (a : Nat) (c : UInt8) : val a (l ++ [c]) = val a l * 10 + (c.toNat - 48) := by
  unfold val
  rw [List.foldl_append]
  rfl
def firstB (s : List UInt8) : Bool := s == [] || (decide ((1 : Int) < s.length) && ((((s[0]?).getD 0).toNat : Nat) : Int) == 48)
def goodS (s : List UInt8) : Bool := !firstB s && s.all dg
theorem take_succ_val (s : List UInt8) (k : Nat) (h : k < s.length) : val 0 (s.take (k + 1)) = val 0 (s.take k) * 10 + (s[k].toNat - 48) := by
  rw [← List.take_append_getElem h, val_snoc]
theorem dg_no {s : List UInt8} (k : Nat) (h : k < s.length) (hc : dg s[k] = false) : s.all dg = false := by
  cases h2 : s.all dg with
  | false => rfl
  | true => rw [List.all_eq_true] at h2; rw [h2 _ (List.getElem_mem h)] at hc; cases hc
def digL (s : List UInt8) : List AV := [.int .u64 (bif goodS s then ((val 0 s % 18446744073709551616 : Nat) : Int) else 0), .bool (goodS s && decide (18446744073709551616 ≤ val 0 s)), .bool (goodS s)]
theorem sm_a1 (V d : Nat) (hd : d ≤ 9) : (18446744073709551616 ≤ V ∨ (V % 18446744073709551616 * 10) / 18446744073709551616 ≠ 0 ∨ ((V % 18446744073709551616 * 10) % 18446744073709551616 + d) / 18446744073709551616 ≠ 0) ↔ 18446744073709551616 ≤ V * 10 + d := by omega
theorem sm_a2 (V d : Nat) : ((V % 18446744073709551616 * 10) % 18446744073709551616 + d) % 18446744073709551616 = (V * 10 + d) % 18446744073709551616 := by omega
theorem step1 (V d : Nat) (hd : d ≤ 9) : (decide (18446744073709551616 ≤ V) || (((V % 18446744073709551616 * 10 / 18446744073709551616 : Nat) : Int) != 0) || ((((V % 18446744073709551616 * 10 % 18446744073709551616 + d) / 18446744073709551616 : Nat) : Int) != 0)) = decide (18446744073709551616 ≤ V * 10 + d) := by
  have h := sm_a1 V d hd
  rw [Bool.eq_iff_iff]
  simp only [Bool.or_eq_true, decide_eq_true_eq, bne_iff_ne, ne_eq, Int.natCast_eq_zero]
  rw [or_assoc]
  exact h
def minusB (s : List UInt8) : Bool := decide ((0 : Int) < s.length) && ((((s[0]?).getD 0).toNat : Nat) : Int) == 45
def tailS (s : List UInt8) : List UInt8 := bif minusB s then s.drop 1 else s
def intV5 (s : List UInt8) : Int := bif minusB s then -(val 0 (tailS s) : Int) else (val 0 (tailS s) : Int)
def badI (s : List UInt8) : Bool := !goodS (tailS s) || minusB s && tailS s == [48]
def intL (s : List UInt8) : List AV := bif badI s then [.int .i64 0, .int .i64 3] else bif fit (intV5 s) then [.int .i64 (intV5 s), .int .i64 0] else [.int .i64 0, .int .i64 2]
theorem intL_bad {s : List UInt8} (h : badI s = true) : AV.tup [.int .i64 0, .int .i64 3] = .tup (intL s) := by simp only [intL, h, cond_true]
theorem intL_no {s : List UInt8} (h : badI s = false) (hf : intV5 s < -9223372036854775808 ∨ 9223372036854775807 < intV5 s) : AV.tup [.int .i64 0, .int .i64 2] = .tup (intL s) := by
  have : fit (intV5 s) = false := by
    cases hq : fit (intV5 s) with
    | false => rfl
    | true => rw [fit_iff] at hq; omega
  simp only [intL, h, this, cond_false]
theorem intL_yes {s : List UInt8} {x : Int} (h : badI s = false) (h1 : -9223372036854775808 ≤ intV5 s) (h2 : intV5 s ≤ 9223372036854775807) (hx : x = intV5 s) : AV.tup [.int .i64 x, .int .i64 0] = .tup (intL s) := by
  have : fit (intV5 s) = true := (fit_iff _).2 ⟨h1, h2⟩
  subst hx
  simp only [intL, h, this, cond_false, cond_true]
theorem u_neg (n : Nat) (h : n ≤ 9223372036854775808) : IntKind.i64.wrap (IntKind.u64.wrap (0 - (n : Int))) = -(n : Int) := by
  rw [wU, wI]; split <;> omega
theorem u_pos (n : Nat) (h : n < 9223372036854775808) : IntKind.i64.wrap (n : Int) = (n : Int) := by
  rw [wI]; split <;> omega
theorem val_ge : ∀ (l : List UInt8) (a : Nat), a ≤ val a l
  | [], a => Nat.le_refl _
  | c :: l, a => by
    have := val_ge l (vstep a c)
    have h2 : a ≤ vstep a c := by unfold vstep; omega
    exact Nat.le_trans h2 this
theorem val_zero {t : List UInt8} (hg : goodS t = true) : (val 0 t == 0) = (t == [48]) := by
  simp only [goodS, Bool.and_eq_true, Bool.not_eq_true'] at hg
  obtain ⟨h1, h2⟩ := hg
  cases t with
  | nil => simp [firstB] at h1
  | cons c l =>
    simp only [List.all_cons, Bool.and_eq_true, dg, decide_eq_true_eq] at h2
    have e : val 0 (c :: l) = val (c.toNat - 48) l := by unfold val; simp [vstep]
    rw [e]
    cases l with
    | nil =>
      rw [Bool.eq_iff_iff]
      simp only [val, List.foldl_nil, beq_iff_eq, List.cons.injEq, and_true]
      constructor
      · intro h; exact UInt8.toNat_inj.1 (show c.toNat = 48 by omega)
      · intro h; subst h; rfl
    | cons d l =>
      have h3 : c.toNat ≠ 48 := by
        intro h
        simp [firstB, h] at h1
        omega
      have h4 := val_ge (d :: l) (c.toNat - 48)
      rw [Bool.eq_iff_iff]
      simp only [beq_iff_eq, List.cons.injEq]
      constructor
      · intro h; omega
      · intro h; simp at h
def intX (s : List UInt8) : Int := bif badI s then 0 else bif fit (intV5 s) then intV5 s else 0
def intE (s : List UInt8) : Int := bif badI s then 3 else bif fit (intV5 s) then 0 else 2
theorem intL_eq (s : List UInt8) : intL s = [.int .i64 (intX s), .int .i64 (intE s)] := by
  unfold intL intX intE
  cases badI s <;> cases fit (intV5 s) <;> rfl
def natN (s : List UInt8) (m : Int) : List AV := bif goodS s then (bif decide (18446744073709551616 ≤ val 0 s) || decide (m < ((val 0 s % 18446744073709551616 : Nat) : Int)) then [.int .u64 0, .int .i64 2] else [.int .u64 ((val 0 s % 18446744073709551616 : Nat) : Int), .int .i64 0]) else [.int .u64 0, .int .i64 3]
def natB (s : List UInt8) (m : Int) : Bool := decide (18446744073709551616 ≤ val 0 s) || decide (m < ((val 0 s % 18446744073709551616 : Nat) : Int))
def natX (s : List UInt8) (m : Int) : Int := bif goodS s then (bif natB s m then 0 else ((val 0 s % 18446744073709551616 : Nat) : Int)) else 0
def natE (s : List UInt8) (m : Int) : Int := bif goodS s then (bif natB s m then 2 else 0) else 3
theorem natN_eq (s : List UInt8) (m : Int) : natN s m = [.int .u64 (natX s m), .int .i64 (natE s m)] := by
  have e : natN s m = bif goodS s then (bif natB s m then [.int .u64 0, .int .i64 2] else [.int .u64 ((val 0 s % 18446744073709551616 : Nat) : Int), .int .i64 0]) else [.int .u64 0, .int .i64 3] := rfl
  rw [e]
  unfold natX natE
  cases goodS s <;> cases natB s m <;> rfl
theorem sm_toNat (n : Nat) (h : n < 256) : (UInt8.ofNat n).toNat = n := by simp [UInt8.toNat_ofNat']; omega
theorem dec_facts : ∀ (N : Nat), val 0 (decDigits N) = N ∧ (decDigits N).all dg = true ∧ decDigits N ≠ [] ∧ (0 < N → ((decDigits N)[0]?).getD 0 ≠ 48) ∧ ((decDigits N)[0]?).getD 0 ≠ 45 ∧ (N = 0 → decDigits N = [48]) := by
  intro N
  induction N using Nat.strongRecOn with
  | _ N ih =>
    rw [decDigits]
    split
    · rename_i h
      have e : (UInt8.ofNat (48 + N)).toNat = 48 + N := sm_toNat _ (by omega)
      refine ⟨?_, ?_, by simp, fun h0 h1 => ?_, fun h1 => ?_, fun h0 => by subst h0; rfl⟩
      · simp only [val, List.foldl_cons, List.foldl_nil, vstep, e]; omega
      · simp only [List.all_cons, List.all_nil, dg, e, Bool.and_true, Bool.and_eq_true, decide_eq_true_eq]; omega
      · have := congrArg UInt8.toNat h1
        simp only [List.getElem?_cons_zero, Option.getD_some, e] at this
        have h48 : (48 : UInt8).toNat = 48 := rfl
        omega
      · have := congrArg UInt8.toNat h1
        simp only [List.getElem?_cons_zero, Option.getD_some, e] at this
        have h48 : (45 : UInt8).toNat = 45 := rfl
        omega
    · rename_i h
      obtain ⟨i1, i2, i3, i4, i5, i6⟩ := ih (N / 10) (by omega)
      have e : (UInt8.ofNat (48 + N % 10)).toNat = 48 + N % 10 := sm_toNat _ (by omega)
      have hh : ((decDigits (N / 10) ++ [UInt8.ofNat (48 + N % 10)])[0]?).getD 0 = ((decDigits (N / 10))[0]?).getD 0 := by
        cases hd : decDigits (N / 10) with
        | nil => exact absurd hd i3
        | cons c l => rfl
      refine ⟨?_, ?_, by simp, fun h0 => ?_, ?_, fun h0 => by omega⟩
      · rw [val_snoc, i1, e]; omega
      · rw [List.all_append, i2]
        simp only [List.all_cons, List.all_nil, dg, e, Bool.and_true, Bool.true_and, Bool.and_eq_true, decide_eq_true_eq]; omega
      · rw [hh]; exact i4 (by omega)
      · rw [hh]; exact i5
theorem dec_snoc (N : Nat) (c : UInt8) (hN : 0 < N) (hc : dg c = true) : decDigits (N * 10 + (c.toNat - 48)) = decDigits N ++ [c] := by
  simp only [dg, Bool.and_eq_true, decide_eq_true_eq] at hc
  rw [decDigits, dif_neg (by omega)]
  have h1 : (N * 10 + (c.toNat - 48)) / 10 = N := by omega
  have h2 : 48 + (N * 10 + (c.toNat - 48)) % 10 = c.toNat := by omega
  rw [h1, h2]
  congr 2
  exact UInt8.ofNat_toNat
theorem dec_of_val : ∀ (r : List UInt8) (a : Nat), 0 < a → r.all dg = true → decDigits (val a r) = decDigits a ++ r
  | [], a, _, _ => by simp [val]
  | c :: l, a, ha, h => by
    rw [List.all_cons, Bool.and_eq_true] at h
    have e : val a (c :: l) = val (a * 10 + (c.toNat - 48)) l := rfl
    rw [e, dec_of_val l _ (by omega) h.2, dec_snoc a c ha h.1, List.append_assoc]; rfl
theorem dec_val {t : List UInt8} (hg : goodS t = true) : decDigits (val 0 t) = t := by
  have hz := val_zero hg
  simp only [goodS, Bool.and_eq_true, Bool.not_eq_true'] at hg
  obtain ⟨h1, h2⟩ := hg
  cases t with
  | nil => simp [firstB] at h1
  | cons c l =>
    have hall := h2
    simp only [List.all_cons, Bool.and_eq_true] at h2
    have hc := h2.1
    simp only [dg, Bool.and_eq_true, decide_eq_true_eq] at hc
    have e : val 0 (c :: l) = val (c.toNat - 48) l := by unfold val; simp [vstep]
    have hone : decDigits (c.toNat - 48) = [c] := by
      rw [decDigits, dif_pos (by omega)]
      congr 1
      rw [show 48 + (c.toNat - 48) = c.toNat by omega]
      exact UInt8.ofNat_toNat
    by_cases h0 : c.toNat - 48 = 0
    · cases l with
      | nil => rw [e, h0]; rw [h0] at hone; exact hone
      | cons d l =>
        have : c.toNat = 48 := by omega
        simp [firstB, this] at h1
        omega
    · rw [e, dec_of_val l _ (by omega) h2.2, hone]; rfl
theorem write_read (s : List UInt8) (h : intE s = 0) : itoa (intX s) = s := by
  unfold intE at h
  cases hb : badI s with
  | true => rw [hb] at h; simp at h
  | false =>
    rw [hb] at h
    cases hf : fit (intV5 s) with
    | false => rw [hf] at h; simp at h
    | true =>
      have hx : intX s = intV5 s := by simp [intX, hb, hf]
      rw [hx]
      simp only [badI, Bool.or_eq_false_iff, Bool.not_eq_false'] at hb
      have hd := dec_val hb.1
      cases hm : minusB s with
      | false =>
        have ht : tailS s = s := by simp only [tailS, hm, cond_false]
        have hv : intV5 s = (val 0 s : Int) := by simp only [intV5, hm, ht, cond_false]
        rw [hv]
        unfold itoa
        rw [if_neg (by omega), Int.toNat_natCast]
        rw [ht] at hd
        exact hd
      | true =>
        have ht : tailS s = s.drop 1 := by simp only [tailS, hm, cond_true]
        have hv : intV5 s = -(val 0 (s.drop 1) : Int) := by simp only [intV5, hm, ht, cond_true]
        rw [ht] at hb hd
        have hz : (val 0 (s.drop 1) == 0) = false := by rw [val_zero hb.1]; simpa [hm] using hb.2
        have hp : 0 < val 0 (s.drop 1) := Nat.pos_of_ne_zero (beq_eq_false_iff_ne.1 hz)
        rw [hv]
        unfold itoa
        rw [if_pos (by omega), Int.natAbs_neg, Int.natAbs_natCast, hd]
        simp only [minusB, Bool.and_eq_true, beq_iff_eq] at hm
        cases s with
        | nil => simp at hm
        | cons c l =>
          have q : ((c.toNat : Nat) : Int) = 45 := hm.2
          have q2 : c.toNat = 45 := by omega
          have : c = 45 := UInt8.toNat_inj.1 (q2.trans rfl)
          rw [this]; rfl
end Go.Proofs.YtnmlhilckjmhnaaDoor
namespace Go.Proofs.YtnmlhilckjmhnaaDoor
open Go.Abs Go.Lib
set_option linter.all false
set_option maxRecDepth 100000
theorem add64_any (x y c : Int) (hc : c.toNat ≤ 1) : Pu Tryd.prog 95 [.int .u64 x, .int .u64 y, .int .u64 c] (add64V x y c) :=
  add64_pu Tryd.func95 (by kernel_rfl) rfl (by kernel_rfl) (by kernel_rfl) x y c hc
theorem mul64N (x y : Nat) (hx : x < 18446744073709551616) (hy : y < 18446744073709551616) : Pu Tryd.prog 94 [.int .u64 x, .int .u64 y] (.tup [.int .u64 ((x * y / 18446744073709551616 : Nat) : Int), .int .u64 ((x * y % 18446744073709551616 : Nat) : Int)]) := by
  intro σ
  refine AC.of_calls (Go.Proofs.enters_of Tryd.func94 (by kernel_rfl) rfl) ?_
  intro g w vs hI hv
  obtain ⟨v1, vs, rfl, r1, hv⟩ := hv.cons_inv
  obtain ⟨v2, vs, rfl, r2, hv⟩ := hv.cons_inv
  rw [hv.nil_inv, r1.int_inv, r2.int_inv]
  refine (Tryd.bits_Mul64 x y hx hy w).mono ?_
  rintro e w' ⟨rfl, rfl⟩
  exact ⟨_, rfl, Go.RowKit.Below.refl _ _, fun g' _ => Rel.tup_mk (.cons (.int _ _) (.cons (.int _ _) .nil))⟩
theorem add64N (x y : Nat) : Pu Tryd.prog 95 [.int .u64 x, .int .u64 y, .int .u64 0] (.tup [.int .u64 (((x + y) % 18446744073709551616 : Nat) : Int), .int .u64 (((x + y) / 18446744073709551616 : Nat) : Int)]) := by
  have h := add64_any x y 0 (by decide)
  unfold add64V at h
  simp only [Int.toNat_natCast, Int.toNat_zero, Nat.add_zero] at h
  exact h
theorem p74 (s : List UInt8) (hs : s.length ≤ maxLen) : Pu Tryd.prog 74 [.str s] (.tup (digL s)) := by
  refine Pu_intro c74 b74 (Nat.le_of_ble_eq_true rfl) fun σ => ?_
  simp only [c74, ↓R1, R2, R3, R4, R5, Nat.reduceEqDiff, Nat.reduceAdd, Nat.reduceMul, Nat.reduceSub, Nat.reduceLeDiff, Nat.reduceLT, reduceIte, reduceCtorEq, Int.reduceBNe, Int.reduceBEq]
  (repeat' (with_reducible apply And.intro))
  · intro h; simp at h; omega
  · intro h1 h2; simp [h1, h2]
  · refine condV_split (fun h5 => ?_) (fun h5 => ?_) <;> simp only [↓R1, R2, R3, R4, R5, Nat.reduceEqDiff, Nat.reduceAdd, Nat.reduceMul, Nat.reduceSub, Nat.reduceLeDiff, Nat.reduceLT, reduceIte, reduceCtorEq, Int.reduceBNe, Int.reduceBEq]
    · (refine endP_pu (by simp) (by first | (simp [rvsS, rvS]; done) | (simp only [rvsS, rvS, ↓R1, R2, R3, R4, R5, Nat.reduceEqDiff, Nat.reduceAdd, Nat.reduceMul, Nat.reduceSub, Nat.reduceLeDiff, Nat.reduceLT, reduceIte, reduceCtorEq, Int.reduceBNe, Int.reduceBEq]; try simp)) (wk_of_eq ?_) (by (repeat (first | exact St.le_refl _ | (refine St.le_new ?_ (by assumption)) | (refine St.le_newT ?_ (by assumption))))))
      (simp only [resAV, rvV, List.map_cons, List.map_nil, ↓R1, R2, R3, R4, R5, Nat.reduceEqDiff, Nat.reduceAdd, Nat.reduceMul, Nat.reduceSub, Nat.reduceLeDiff, Nat.reduceLT, reduceIte, reduceCtorEq, Int.reduceBNe, Int.reduceBEq])
      have hf : firstB s = true := h5
      simp only [digL, goodS, hf, Bool.not_true, Bool.false_and, cond_false]
    · have hf : firstB s = false := h5
      clear h5
      refine loopV_for s.length (fun k => [(24, .int .i64 k), (23, .int .i64 s.length), (0, .str s), (2, .int .u64 ((val 0 (s.take k) % 18446744073709551616 : Nat) : Int)), (3, .bool (decide (18446744073709551616 ≤ val 0 (s.take k))))]) (fun _ => σ) (fun k => (s.take k).all dg = true) (by refine ⟨wk_refl _, wk_refl _, wk_refl _, wk_of_eq rfl, wk_of_eq rfl, trivial⟩) (St.le_refl _) (by simp) (fun k hk hI => ?_)
      simp only [↓R1, R2, R3, R4, R5, Nat.reduceEqDiff, Nat.reduceAdd, Nat.reduceMul, Nat.reduceSub, Nat.reduceLeDiff, Nat.reduceLT, reduceIte, reduceCtorEq, Int.reduceBNe, Int.reduceBEq]
      refine condV_split (fun h6 => ?_) (fun h6 => ?_) <;> simp at h6
      · have ht : (s.take (k + 1)).all dg = dg s[k] := by
          rw [← List.take_append_getElem h6, List.all_append, hI]; simp
        have hV := take_succ_val s k h6
        generalize val 0 (s.take k) = V at *
        simp only [List.getElem?_eq_getElem h6, ↓R1, R2, R3, R4, R5, Nat.reduceEqDiff, Nat.reduceAdd, Nat.reduceMul, Nat.reduceSub, Nat.reduceLeDiff, Nat.reduceLT, reduceIte, reduceCtorEq, Int.reduceBNe, Int.reduceBEq]
        refine ⟨⟨by omega, by omega⟩, fun _ => ⟨by omega, by omega⟩, ?_⟩
        refine condV_split (fun h7 => ?_) (fun h7 => ?_)
        · simp only [↓R1, R2, R3, R4, R5, Nat.reduceEqDiff, Nat.reduceAdd, Nat.reduceMul, Nat.reduceSub, Nat.reduceLeDiff, Nat.reduceLT, reduceIte, reduceCtorEq, Int.reduceBNe, Int.reduceBEq]
          (refine endP_pu (by simp) (by first | (simp [rvsS, rvS]; done) | (simp only [rvsS, rvS, ↓R1, R2, R3, R4, R5, Nat.reduceEqDiff, Nat.reduceAdd, Nat.reduceMul, Nat.reduceSub, Nat.reduceLeDiff, Nat.reduceLT, reduceIte, reduceCtorEq, Int.reduceBNe, Int.reduceBEq]; try simp)) (wk_of_eq ?_) (by (repeat (first | exact St.le_refl _ | (refine St.le_new ?_ (by assumption)) | (refine St.le_newT ?_ (by assumption))))))
          (simp only [resAV, rvV, List.map_cons, List.map_nil, ↓R1, R2, R3, R4, R5, Nat.reduceEqDiff, Nat.reduceAdd, Nat.reduceMul, Nat.reduceSub, Nat.reduceLeDiff, Nat.reduceLT, reduceIte, reduceCtorEq, Int.reduceBNe, Int.reduceBEq])
          have hd0 : dg s[k] = false := by
            simp only [Bool.or_eq_true, decide_eq_true_eq] at h7
            simp only [dg, Bool.and_eq_false_iff, decide_eq_false_iff_not]
            omega
          have hg : goodS s = false := by simp only [goodS, dg_no k h6 hd0, Bool.and_false]
          simp only [digL, hg, Bool.false_and, cond_false]
        · simp only [Bool.or_eq_false_iff, decide_eq_false_iff_not] at h7
          have hd1 : dg s[k] = true := by
            simp only [dg, Bool.and_eq_true, decide_eq_true_eq]
            omega
          have hw : IntKind.u64.wrap (IntKind.u8.wrap ((s[k].toNat : Int) - 48)) = ((s[k].toNat - 48 : Nat) : Int) := by rw [wU, wU8]; omega
          have hd9 : s[k].toNat - 48 ≤ 9 := by omega
          generalize s[k].toNat - 48 = d at *
          simp only [↓R1, R2, R3, R4, R5, Nat.reduceEqDiff, Nat.reduceAdd, Nat.reduceMul, Nat.reduceSub, Nat.reduceLeDiff, Nat.reduceLT, reduceIte, reduceCtorEq, Int.reduceBNe, Int.reduceBEq]
          refine (mul64N (V % 18446744073709551616) 10 (Nat.mod_lt _ (by decide)) (by decide)).to (wkL_refl _) ?_
          simp only [List.getElem?_eq_getElem h6, hw, ↓R1, R2, R3, R4, R5, Nat.reduceEqDiff, Nat.reduceAdd, Nat.reduceMul, Nat.reduceSub, Nat.reduceLeDiff, Nat.reduceLT, reduceIte, reduceCtorEq, Int.reduceBNe, Int.reduceBEq]
          refine ⟨⟨by omega, by omega⟩, ?_⟩
          refine (add64N _ d).to (wkL_refl _) ?_
          simp only [sm_a2, step1 V d hd9, ↓R1, R2, R3, R4, R5, Nat.reduceEqDiff, Nat.reduceAdd, Nat.reduceMul, Nat.reduceSub, Nat.reduceLeDiff, Nat.reduceLT, reduceIte, reduceCtorEq, Int.reduceBNe, Int.reduceBEq]
          refine ⟨h6, by rw [ht]; exact hd1, ?_, St.le_refl _⟩
          rw [hV]
          refine ⟨wk_of_eq ?_, wk_refl _, wk_refl _, wk_refl _, wk_refl _, trivial⟩
          simp only [slot, ↓R1, R2, R3, R4, R5, Nat.reduceEqDiff, Nat.reduceAdd, Nat.reduceMul, Nat.reduceSub, Nat.reduceLeDiff, Nat.reduceLT, reduceIte, reduceCtorEq, Int.reduceBNe, Int.reduceBEq]
          rw [wrap_succ h6 hs]
      · rw [List.take_of_length_le h6] at hI
        simp only [List.take_of_length_le h6, ↓R1, R2, R3, R4, R5, Nat.reduceEqDiff, Nat.reduceAdd, Nat.reduceMul, Nat.reduceSub, Nat.reduceLeDiff, Nat.reduceLT, reduceIte, reduceCtorEq, Int.reduceBNe, Int.reduceBEq]
        (refine endP_pu (by simp) (by first | (simp [rvsS, rvS]; done) | (simp only [rvsS, rvS, ↓R1, R2, R3, R4, R5, Nat.reduceEqDiff, Nat.reduceAdd, Nat.reduceMul, Nat.reduceSub, Nat.reduceLeDiff, Nat.reduceLT, reduceIte, reduceCtorEq, Int.reduceBNe, Int.reduceBEq]; try simp)) (wk_of_eq ?_) (by (repeat (first | exact St.le_refl _ | (refine St.le_new ?_ (by assumption)) | (refine St.le_newT ?_ (by assumption))))))
        (simp only [resAV, rvV, List.map_cons, List.map_nil, ↓R1, R2, R3, R4, R5, Nat.reduceEqDiff, Nat.reduceAdd, Nat.reduceMul, Nat.reduceSub, Nat.reduceLeDiff, Nat.reduceLT, reduceIte, reduceCtorEq, Int.reduceBNe, Int.reduceBEq])
        have hg : goodS s = true := by simp only [goodS, hf, hI]; rfl
        simp only [digL, hg, Bool.true_and, cond_true]
theorem p62 (s : List UInt8) (m : Int) (hs : s.length ≤ maxLen) : Pu Tryd.prog 62 [.str s, .int .u64 m] (.tup (natN s m)) := by
  refine Pu_intro c62 b62 (Nat.le_of_ble_eq_true rfl) fun σ => ?_
  simp only [c62, ↓R1, R2, R3, R4, R5, Nat.reduceEqDiff, Nat.reduceAdd, Nat.reduceMul, Nat.reduceSub, Nat.reduceLeDiff, Nat.reduceLT, reduceIte, reduceCtorEq, Int.reduceBNe, Int.reduceBEq]
  refine (p74 s hs).to (wkL_refl _) ?_
  cases hg : goodS s with
  | false =>
    simp only [digL, hg, bne_self_eq_false, Bool.or_self, Bool.or_false, Bool.false_or, beq_self_eq_true, Bool.and_self, Bool.and_true, Bool.true_and, Bool.and_false, Bool.false_and, Int.reduceBEq, Int.reduceBNe, Bool.or_true, Bool.true_or, Int.toNat_zero, ↓R1, R2, R3, R4, R5, Nat.reduceEqDiff, Nat.reduceAdd, Nat.reduceMul, Nat.reduceSub, Nat.reduceLeDiff, Nat.reduceLT, reduceIte, reduceCtorEq, Int.reduceBNe, Int.reduceBEq]
    (refine endP_pu (by simp) (by first | (simp [rvsS, rvS]; done) | (simp only [rvsS, rvS, ↓R1, R2, R3, R4, R5, Nat.reduceEqDiff, Nat.reduceAdd, Nat.reduceMul, Nat.reduceSub, Nat.reduceLeDiff, Nat.reduceLT, reduceIte, reduceCtorEq, Int.reduceBNe, Int.reduceBEq]; try simp)) (wk_of_eq ?_) (by (repeat (first | exact St.le_refl _ | (refine St.le_new ?_ (by assumption)) | (refine St.le_newT ?_ (by assumption))))))
    (simp only [resAV, rvV, List.map_cons, List.map_nil, ↓R1, R2, R3, R4, R5, Nat.reduceEqDiff, Nat.reduceAdd, Nat.reduceMul, Nat.reduceSub, Nat.reduceLeDiff, Nat.reduceLT, reduceIte, reduceCtorEq, Int.reduceBNe, Int.reduceBEq])
    simp only [natN, hg, cond_false]
  | true =>
    simp only [digL, hg, bne_self_eq_false, Bool.or_self, Bool.or_false, Bool.false_or, beq_self_eq_true, Bool.and_self, Bool.and_true, Bool.true_and, Bool.and_false, Bool.false_and, Int.reduceBEq, Int.reduceBNe, Bool.or_true, Bool.true_or, Int.toNat_zero, ↓R1, R2, R3, R4, R5, Nat.reduceEqDiff, Nat.reduceAdd, Nat.reduceMul, Nat.reduceSub, Nat.reduceLeDiff, Nat.reduceLT, reduceIte, reduceCtorEq, Int.reduceBNe, Int.reduceBEq]
    repeat' (first | (with_reducible rw [allocV_eq]) | (refine gdV_split (fun hc => ?_) (fun hc => ?_) <;> (try simp only [hc, ↓R1, R2, R3, R4, R5, Nat.reduceEqDiff, Nat.reduceAdd, Nat.reduceMul, Nat.reduceSub, Nat.reduceLeDiff, Nat.reduceLT, reduceIte, reduceCtorEq, Int.reduceBNe, Int.reduceBEq])) | ((first | refine condV_split (fun hc => ?_) (fun hc => ?_) | (with_reducible intro β hβ; (try simp only [St.box_noneA, St.tip_noneA, St.tip_set, St.box_tip, St.box_lp, St.tip_lp] at hβ); (repeat (obtain ⟨⟨_, _⟩, hβ⟩ := hβ)); (try (have hbis := apart_is (by assumption) hβ; obtain ⟨_, _⟩ := hbis))) | ((first | (refine appD_tslK (.inr rfl) rfl ?_ ?_ ?_ ?_ ?_ ?_; (first | rfl | exact St.tip_same _ _ _ | (simp only [↓R1, R2, R3, R4, R5, Nat.reduceEqDiff, Nat.reduceAdd, Nat.reduceMul, Nat.reduceSub, Nat.reduceLeDiff, Nat.reduceLT, reduceIte, reduceCtorEq, Int.reduceBNe, Int.reduceBEq])); (first | omega | (simp only [List.length_append, List.length_cons, List.length_nil, List.length_nil, List.length_cons]; omega) | (simp only [List.length_append, List.length_cons, List.length_nil, List.length_nil, List.length_cons])); (first | rfl | first | omega | (simp only [List.length_append, List.length_cons, List.length_nil, List.length_nil, List.length_cons]; omega) | (simp only [List.length_append, List.length_cons, List.length_nil, List.length_nil, List.length_cons]))) | (refine appV_tslK rfl ?_ ?_ ?_ ?_ ?_ ?_; (first | rfl | exact St.tip_same _ _ _ | (simp only [↓R1, R2, R3, R4, R5, Nat.reduceEqDiff, Nat.reduceAdd, Nat.reduceMul, Nat.reduceSub, Nat.reduceLeDiff, Nat.reduceLT, reduceIte, reduceCtorEq, Int.reduceBNe, Int.reduceBEq])); (first | omega | (simp only [List.length_append, List.length_cons, List.length_nil, List.length_nil, List.length_cons]; omega) | (simp only [List.length_append, List.length_cons, List.length_nil, List.length_nil, List.length_cons])); (first | rfl | first | omega | (simp only [List.length_append, List.length_cons, List.length_nil, List.length_nil, List.length_cons]; omega) | (simp only [List.length_append, List.length_cons, List.length_nil, List.length_nil, List.length_cons]))) | (refine appV_own ?_ ?_ ?_ ?_; exact flat_len (by intro _; rfl) _) | (refine appD_own ?_ ?_ ?_ ?_ ?_; omega; exact flat_len (by intro _; rfl) _) | (refine appV_fresh rfl trivial rfl ?_ ?_ ?_ ?_ ?_; (first | rfl | first | omega | (simp only [List.length_append, List.length_cons, List.length_nil, List.length_nil, List.length_cons]; omega) | (simp only [List.length_append, List.length_cons, List.length_nil, List.length_nil, List.length_cons])); (first | rfl | first | omega | (simp only [List.length_append, List.length_cons, List.length_nil, List.length_nil, List.length_cons]; omega) | (simp only [List.length_append, List.length_cons, List.length_nil, List.length_nil, List.length_cons]))) | (refine appD_fresh rfl trivial rfl ?_ ?_ ?_ ?_ ?_ ?_; omega; (first | rfl | first | omega | (simp only [List.length_append, List.length_cons, List.length_nil, List.length_nil, List.length_cons]; omega) | (simp only [List.length_append, List.length_cons, List.length_nil, List.length_nil, List.length_cons])); (first | rfl | first | omega | (simp only [List.length_append, List.length_cons, List.length_nil, List.length_nil, List.length_cons]; omega) | (simp only [List.length_append, List.length_cons, List.length_nil, List.length_nil, List.length_cons])))); (unfold maxLen; omega); omega)) <;> (try simp only [↓R1, R2, R3, R4, R5, Nat.reduceEqDiff, Nat.reduceAdd, Nat.reduceMul, Nat.reduceSub, Nat.reduceLeDiff, Nat.reduceLT, reduceIte, reduceCtorEq, Int.reduceBNe, Int.reduceBEq])) | (with_reducible refine And.intro ?_ ?_; (focus (first | omega | (intros; (repeat' (with_reducible apply And.intro)) <;> first | omega | (simp only [List.length_append, List.length_cons, List.length_nil]; omega))))) | (with_reducible apply And.intro))
    all_goals ((refine endP_pu (by simp) (by first | (simp [rvsS, rvS]; done) | (simp only [rvsS, rvS, ↓R1, R2, R3, R4, R5, Nat.reduceEqDiff, Nat.reduceAdd, Nat.reduceMul, Nat.reduceSub, Nat.reduceLeDiff, Nat.reduceLT, reduceIte, reduceCtorEq, Int.reduceBNe, Int.reduceBEq]; try simp)) (wk_of_eq ?_) (by (repeat (first | exact St.le_refl _ | (refine St.le_new ?_ (by assumption)) | (refine St.le_newT ?_ (by assumption)))))); (simp only [resAV, rvV, List.map_cons, List.map_nil, ↓R1, R2, R3, R4, R5, Nat.reduceEqDiff, Nat.reduceAdd, Nat.reduceMul, Nat.reduceSub, Nat.reduceLeDiff, Nat.reduceLT, reduceIte, reduceCtorEq, Int.reduceBNe, Int.reduceBEq]); simp only [natN, hg, hc, cond_true, cond_false])
theorem p56 (s : List UInt8) (hs : s.length ≤ maxLen) : Pu Tryd.prog 56 [.str s] (.tup (intL s)) := by
  refine Pu_intro c56 b56 (Nat.le_of_ble_eq_true rfl) fun σ => ?_
  simp only [c56, bne_self_eq_false, Bool.or_self, Bool.or_false, Bool.false_or, beq_self_eq_true, Bool.and_self, Bool.and_true, Bool.true_and, Bool.and_false, Bool.false_and, Int.reduceBEq, Int.reduceBNe, Bool.or_true, Bool.true_or, Int.toNat_zero, ↓R1, R2, R3, R4, R5, Nat.reduceEqDiff, Nat.reduceAdd, Nat.reduceMul, Nat.reduceSub, Nat.reduceLeDiff, Nat.reduceLT, reduceIte, reduceCtorEq, Int.reduceBNe, Int.reduceBEq]
  refine ⟨fun h => by simp at h; omega, ?_⟩
  cases hm : minusB s with
  | false =>
    have hm' : (decide ((0 : Int) < s.length) && ((((s[0]?).getD 0).toNat : Nat) : Int) == 45) = false := hm
    have ht : tailS s = s := by simp only [tailS, hm, cond_false]
    have hv : intV5 s = (val 0 s : Int) := by simp only [intV5, hm, ht, cond_false]
    simp only [hm', bne_self_eq_false, Bool.or_self, Bool.or_false, Bool.false_or, beq_self_eq_true, Bool.and_self, Bool.and_true, Bool.true_and, Bool.and_false, Bool.false_and, Int.reduceBEq, Int.reduceBNe, Bool.or_true, Bool.true_or, Int.toNat_zero, ↓R1, R2, R3, R4, R5, Nat.reduceEqDiff, Nat.reduceAdd, Nat.reduceMul, Nat.reduceSub, Nat.reduceLeDiff, Nat.reduceLT, reduceIte, reduceCtorEq, Int.reduceBNe, Int.reduceBEq]
    refine (p74 s hs).to (wkL_refl _) ?_
    cases hg : goodS s with
    | false =>
      simp only [digL, hg, bne_self_eq_false, Bool.or_self, Bool.or_false, Bool.false_or, beq_self_eq_true, Bool.and_self, Bool.and_true, Bool.true_and, Bool.and_false, Bool.false_and, Int.reduceBEq, Int.reduceBNe, Bool.or_true, Bool.true_or, Int.toNat_zero, ↓R1, R2, R3, R4, R5, Nat.reduceEqDiff, Nat.reduceAdd, Nat.reduceMul, Nat.reduceSub, Nat.reduceLeDiff, Nat.reduceLT, reduceIte, reduceCtorEq, Int.reduceBNe, Int.reduceBEq]
      (refine endP_pu (by simp) (by first | (simp [rvsS, rvS]; done) | (simp only [rvsS, rvS, ↓R1, R2, R3, R4, R5, Nat.reduceEqDiff, Nat.reduceAdd, Nat.reduceMul, Nat.reduceSub, Nat.reduceLeDiff, Nat.reduceLT, reduceIte, reduceCtorEq, Int.reduceBNe, Int.reduceBEq]; try simp)) (wk_of_eq ?_) (by (repeat (first | exact St.le_refl _ | (refine St.le_new ?_ (by assumption)) | (refine St.le_newT ?_ (by assumption))))))
      (simp only [resAV, rvV, List.map_cons, List.map_nil, ↓R1, R2, R3, R4, R5, Nat.reduceEqDiff, Nat.reduceAdd, Nat.reduceMul, Nat.reduceSub, Nat.reduceLeDiff, Nat.reduceLT, reduceIte, reduceCtorEq, Int.reduceBNe, Int.reduceBEq])
      exact intL_bad (by simp only [badI, ht, hg]; rfl)
    | true =>
      have hb : badI s = false := by simp only [badI, ht, hg, hm]; rfl
      generalize hV : val 0 s = V at *
      simp only [digL, hg, hV, bne_self_eq_false, Bool.or_self, Bool.or_false, Bool.false_or, beq_self_eq_true, Bool.and_self, Bool.and_true, Bool.true_and, Bool.and_false, Bool.false_and, Int.reduceBEq, Int.reduceBNe, Bool.or_true, Bool.true_or, Int.toNat_zero, ↓R1, R2, R3, R4, R5, Nat.reduceEqDiff, Nat.reduceAdd, Nat.reduceMul, Nat.reduceSub, Nat.reduceLeDiff, Nat.reduceLT, reduceIte, reduceCtorEq, Int.reduceBNe, Int.reduceBEq]
      repeat' (first | (with_reducible rw [allocV_eq]) | (refine gdV_split (fun hc => ?_) (fun hc => ?_) <;> (try simp only [hc, ↓R1, R2, R3, R4, R5, Nat.reduceEqDiff, Nat.reduceAdd, Nat.reduceMul, Nat.reduceSub, Nat.reduceLeDiff, Nat.reduceLT, reduceIte, reduceCtorEq, Int.reduceBNe, Int.reduceBEq])) | ((first | refine condV_split (fun hc => ?_) (fun hc => ?_) | (with_reducible intro β hβ; (try simp only [St.box_noneA, St.tip_noneA, St.tip_set, St.box_tip, St.box_lp, St.tip_lp] at hβ); (repeat (obtain ⟨⟨_, _⟩, hβ⟩ := hβ)); (try (have hbis := apart_is (by assumption) hβ; obtain ⟨_, _⟩ := hbis))) | ((first | (refine appD_tslK (.inr rfl) rfl ?_ ?_ ?_ ?_ ?_ ?_; (first | rfl | exact St.tip_same _ _ _ | (simp only [↓R1, R2, R3, R4, R5, Nat.reduceEqDiff, Nat.reduceAdd, Nat.reduceMul, Nat.reduceSub, Nat.reduceLeDiff, Nat.reduceLT, reduceIte, reduceCtorEq, Int.reduceBNe, Int.reduceBEq])); (first | omega | (simp only [List.length_append, List.length_cons, List.length_nil, List.length_nil, List.length_cons]; omega) | (simp only [List.length_append, List.length_cons, List.length_nil, List.length_nil, List.length_cons])); (first | rfl | first | omega | (simp only [List.length_append, List.length_cons, List.length_nil, List.length_nil, List.length_cons]; omega) | (simp only [List.length_append, List.length_cons, List.length_nil, List.length_nil, List.length_cons]))) | (refine appV_tslK rfl ?_ ?_ ?_ ?_ ?_ ?_; (first | rfl | exact St.tip_same _ _ _ | (simp only [↓R1, R2, R3, R4, R5, Nat.reduceEqDiff, Nat.reduceAdd, Nat.reduceMul, Nat.reduceSub, Nat.reduceLeDiff, Nat.reduceLT, reduceIte, reduceCtorEq, Int.reduceBNe, Int.reduceBEq])); (first | omega | (simp only [List.length_append, List.length_cons, List.length_nil, List.length_nil, List.length_cons]; omega) | (simp only [List.length_append, List.length_cons, List.length_nil, List.length_nil, List.length_cons])); (first | rfl | first | omega | (simp only [List.length_append, List.length_cons, List.length_nil, List.length_nil, List.length_cons]; omega) | (simp only [List.length_append, List.length_cons, List.length_nil, List.length_nil, List.length_cons]))) | (refine appV_own ?_ ?_ ?_ ?_; exact flat_len (by intro _; rfl) _) | (refine appD_own ?_ ?_ ?_ ?_ ?_; omega; exact flat_len (by intro _; rfl) _) | (refine appV_fresh rfl trivial rfl ?_ ?_ ?_ ?_ ?_; (first | rfl | first | omega | (simp only [List.length_append, List.length_cons, List.length_nil, List.length_nil, List.length_cons]; omega) | (simp only [List.length_append, List.length_cons, List.length_nil, List.length_nil, List.length_cons])); (first | rfl | first | omega | (simp only [List.length_append, List.length_cons, List.length_nil, List.length_nil, List.length_cons]; omega) | (simp only [List.length_append, List.length_cons, List.length_nil, List.length_nil, List.length_cons]))) | (refine appD_fresh rfl trivial rfl ?_ ?_ ?_ ?_ ?_ ?_; omega; (first | rfl | first | omega | (simp only [List.length_append, List.length_cons, List.length_nil, List.length_nil, List.length_cons]; omega) | (simp only [List.length_append, List.length_cons, List.length_nil, List.length_nil, List.length_cons])); (first | rfl | first | omega | (simp only [List.length_append, List.length_cons, List.length_nil, List.length_nil, List.length_cons]; omega) | (simp only [List.length_append, List.length_cons, List.length_nil, List.length_nil, List.length_cons])))); (unfold maxLen; omega); omega)) <;> (try simp only [↓R1, R2, R3, R4, R5, Nat.reduceEqDiff, Nat.reduceAdd, Nat.reduceMul, Nat.reduceSub, Nat.reduceLeDiff, Nat.reduceLT, reduceIte, reduceCtorEq, Int.reduceBNe, Int.reduceBEq])) | (with_reducible refine And.intro ?_ ?_; (focus (first | omega | (intros; (repeat' (with_reducible apply And.intro)) <;> first | omega | (simp only [List.length_append, List.length_cons, List.length_nil]; omega))))) | (with_reducible apply And.intro))
      all_goals (try simp only [Bool.or_eq_true, Bool.or_eq_false_iff, decide_eq_true_eq, decide_eq_false_iff_not, beq_iff_eq, beq_eq_false_iff_ne] at hc)
      · rw [β, hβ]; rfl
      · (refine endP_pu (by simp) (by first | (simp [rvsS, rvS]; done) | (simp only [rvsS, rvS, ↓R1, R2, R3, R4, R5, Nat.reduceEqDiff, Nat.reduceAdd, Nat.reduceMul, Nat.reduceSub, Nat.reduceLeDiff, Nat.reduceLT, reduceIte, reduceCtorEq, Int.reduceBNe, Int.reduceBEq]; try simp)) (wk_of_eq ?_) (by (repeat (first | exact St.le_refl _ | (refine St.le_new ?_ (by assumption)) | (refine St.le_newT ?_ (by assumption))))))
        (simp only [resAV, rvV, List.map_cons, List.map_nil, ↓R1, R2, R3, R4, R5, Nat.reduceEqDiff, Nat.reduceAdd, Nat.reduceMul, Nat.reduceSub, Nat.reduceLeDiff, Nat.reduceLT, reduceIte, reduceCtorEq, Int.reduceBNe, Int.reduceBEq])
        exact intL_no hb (by rw [hv]; omega)
      · have e : V % 18446744073709551616 = V := Nat.mod_eq_of_lt (by omega)
        rw [e] at hc ⊢
        (refine endP_pu (by simp) (by first | (simp [rvsS, rvS]; done) | (simp only [rvsS, rvS, ↓R1, R2, R3, R4, R5, Nat.reduceEqDiff, Nat.reduceAdd, Nat.reduceMul, Nat.reduceSub, Nat.reduceLeDiff, Nat.reduceLT, reduceIte, reduceCtorEq, Int.reduceBNe, Int.reduceBEq]; try simp)) (wk_of_eq ?_) (by (repeat (first | exact St.le_refl _ | (refine St.le_new ?_ (by assumption)) | (refine St.le_newT ?_ (by assumption))))))
        (simp only [resAV, rvV, List.map_cons, List.map_nil, ↓R1, R2, R3, R4, R5, Nat.reduceEqDiff, Nat.reduceAdd, Nat.reduceMul, Nat.reduceSub, Nat.reduceLeDiff, Nat.reduceLT, reduceIte, reduceCtorEq, Int.reduceBNe, Int.reduceBEq])
        refine intL_yes hb (by rw [hv]; omega) (by rw [hv]; omega) ?_
        rw [hv, u_pos V (by omega)]
  | true =>
    have hm' : (decide ((0 : Int) < s.length) && ((((s[0]?).getD 0).toNat : Nat) : Int) == 45) = true := hm
    have hlen : 0 < s.length := by simp at hm'; omega
    have ht : tailS s = s.drop 1 := by simp only [tailS, hm, cond_true]
    have hv : intV5 s = -(val 0 (s.drop 1) : Int) := by simp only [intV5, hm, ht, cond_true]
    have htk : (s.drop (Int.toNat 1)).take (s.length - Int.toNat 1) = s.drop 1 := by
      rw [List.take_of_length_le (by simp)]; rfl
    have hs2 : (s.drop 1).length ≤ maxLen := by simp; omega
    simp only [hm', Option.map_none, htk, bne_self_eq_false, Bool.or_self, Bool.or_false, Bool.false_or, beq_self_eq_true, Bool.and_self, Bool.and_true, Bool.true_and, Bool.and_false, Bool.false_and, Int.reduceBEq, Int.reduceBNe, Bool.or_true, Bool.true_or, Int.toNat_zero, ↓R1, R2, R3, R4, R5, Nat.reduceEqDiff, Nat.reduceAdd, Nat.reduceMul, Nat.reduceSub, Nat.reduceLeDiff, Nat.reduceLT, reduceIte, reduceCtorEq, Int.reduceBNe, Int.reduceBEq]
    refine ⟨⟨by omega, by omega, by omega⟩, ?_⟩
    generalize s.drop 1 = t at *
    refine (p74 t hs2).to (wkL_refl _) ?_
    cases hg : goodS t with
    | false =>
      simp only [digL, hg, bne_self_eq_false, Bool.or_self, Bool.or_false, Bool.false_or, beq_self_eq_true, Bool.and_self, Bool.and_true, Bool.true_and, Bool.and_false, Bool.false_and, Int.reduceBEq, Int.reduceBNe, Bool.or_true, Bool.true_or, Int.toNat_zero, ↓R1, R2, R3, R4, R5, Nat.reduceEqDiff, Nat.reduceAdd, Nat.reduceMul, Nat.reduceSub, Nat.reduceLeDiff, Nat.reduceLT, reduceIte, reduceCtorEq, Int.reduceBNe, Int.reduceBEq]
      (refine endP_pu (by simp) (by first | (simp [rvsS, rvS]; done) | (simp only [rvsS, rvS, ↓R1, R2, R3, R4, R5, Nat.reduceEqDiff, Nat.reduceAdd, Nat.reduceMul, Nat.reduceSub, Nat.reduceLeDiff, Nat.reduceLT, reduceIte, reduceCtorEq, Int.reduceBNe, Int.reduceBEq]; try simp)) (wk_of_eq ?_) (by (repeat (first | exact St.le_refl _ | (refine St.le_new ?_ (by assumption)) | (refine St.le_newT ?_ (by assumption))))))
      (simp only [resAV, rvV, List.map_cons, List.map_nil, ↓R1, R2, R3, R4, R5, Nat.reduceEqDiff, Nat.reduceAdd, Nat.reduceMul, Nat.reduceSub, Nat.reduceLeDiff, Nat.reduceLT, reduceIte, reduceCtorEq, Int.reduceBNe, Int.reduceBEq])
      exact intL_bad (by simp only [badI, ht, hg]; rfl)
    | true =>
      cases h48 : t == [48] with
      | true =>
        simp only [digL, hg, h48, bne_self_eq_false, Bool.or_self, Bool.or_false, Bool.false_or, beq_self_eq_true, Bool.and_self, Bool.and_true, Bool.true_and, Bool.and_false, Bool.false_and, Int.reduceBEq, Int.reduceBNe, Bool.or_true, Bool.true_or, Int.toNat_zero, ↓R1, R2, R3, R4, R5, Nat.reduceEqDiff, Nat.reduceAdd, Nat.reduceMul, Nat.reduceSub, Nat.reduceLeDiff, Nat.reduceLT, reduceIte, reduceCtorEq, Int.reduceBNe, Int.reduceBEq]
        (refine endP_pu (by simp) (by first | (simp [rvsS, rvS]; done) | (simp only [rvsS, rvS, ↓R1, R2, R3, R4, R5, Nat.reduceEqDiff, Nat.reduceAdd, Nat.reduceMul, Nat.reduceSub, Nat.reduceLeDiff, Nat.reduceLT, reduceIte, reduceCtorEq, Int.reduceBNe, Int.reduceBEq]; try simp)) (wk_of_eq ?_) (by (repeat (first | exact St.le_refl _ | (refine St.le_new ?_ (by assumption)) | (refine St.le_newT ?_ (by assumption))))))
        (simp only [resAV, rvV, List.map_cons, List.map_nil, ↓R1, R2, R3, R4, R5, Nat.reduceEqDiff, Nat.reduceAdd, Nat.reduceMul, Nat.reduceSub, Nat.reduceLeDiff, Nat.reduceLT, reduceIte, reduceCtorEq, Int.reduceBNe, Int.reduceBEq])
        exact intL_bad (by simp only [badI, ht, hg, hm, h48]; rfl)
      | false =>
        have hb : badI s = false := by simp only [badI, ht, hg, hm, h48]; rfl
        generalize hV : val 0 t = V at *
        simp only [digL, hg, h48, hV, bne_self_eq_false, Bool.or_self, Bool.or_false, Bool.false_or, beq_self_eq_true, Bool.and_self, Bool.and_true, Bool.true_and, Bool.and_false, Bool.false_and, Int.reduceBEq, Int.reduceBNe, Bool.or_true, Bool.true_or, Int.toNat_zero, ↓R1, R2, R3, R4, R5, Nat.reduceEqDiff, Nat.reduceAdd, Nat.reduceMul, Nat.reduceSub, Nat.reduceLeDiff, Nat.reduceLT, reduceIte, reduceCtorEq, Int.reduceBNe, Int.reduceBEq]
        repeat' (first | (with_reducible rw [allocV_eq]) | (refine gdV_split (fun hc => ?_) (fun hc => ?_) <;> (try simp only [hc, ↓R1, R2, R3, R4, R5, Nat.reduceEqDiff, Nat.reduceAdd, Nat.reduceMul, Nat.reduceSub, Nat.reduceLeDiff, Nat.reduceLT, reduceIte, reduceCtorEq, Int.reduceBNe, Int.reduceBEq])) | ((first | refine condV_split (fun hc => ?_) (fun hc => ?_) | (with_reducible intro β hβ; (try simp only [St.box_noneA, St.tip_noneA, St.tip_set, St.box_tip, St.box_lp, St.tip_lp] at hβ); (repeat (obtain ⟨⟨_, _⟩, hβ⟩ := hβ)); (try (have hbis := apart_is (by assumption) hβ; obtain ⟨_, _⟩ := hbis))) | ((first | (refine appD_tslK (.inr rfl) rfl ?_ ?_ ?_ ?_ ?_ ?_; (first | rfl | exact St.tip_same _ _ _ | (simp only [↓R1, R2, R3, R4, R5, Nat.reduceEqDiff, Nat.reduceAdd, Nat.reduceMul, Nat.reduceSub, Nat.reduceLeDiff, Nat.reduceLT, reduceIte, reduceCtorEq, Int.reduceBNe, Int.reduceBEq])); (first | omega | (simp only [List.length_append, List.length_cons, List.length_nil, List.length_nil, List.length_cons]; omega) | (simp only [List.length_append, List.length_cons, List.length_nil, List.length_nil, List.length_cons])); (first | rfl | first | omega | (simp only [List.length_append, List.length_cons, List.length_nil, List.length_nil, List.length_cons]; omega) | (simp only [List.length_append, List.length_cons, List.length_nil, List.length_nil, List.length_cons]))) | (refine appV_tslK rfl ?_ ?_ ?_ ?_ ?_ ?_; (first | rfl | exact St.tip_same _ _ _ | (simp only [↓R1, R2, R3, R4, R5, Nat.reduceEqDiff, Nat.reduceAdd, Nat.reduceMul, Nat.reduceSub, Nat.reduceLeDiff, Nat.reduceLT, reduceIte, reduceCtorEq, Int.reduceBNe, Int.reduceBEq])); (first | omega | (simp only [List.length_append, List.length_cons, List.length_nil, List.length_nil, List.length_cons]; omega) | (simp only [List.length_append, List.length_cons, List.length_nil, List.length_nil, List.length_cons])); (first | rfl | first | omega | (simp only [List.length_append, List.length_cons, List.length_nil, List.length_nil, List.length_cons]; omega) | (simp only [List.length_append, List.length_cons, List.length_nil, List.length_nil, List.length_cons]))) | (refine appV_own ?_ ?_ ?_ ?_; exact flat_len (by intro _; rfl) _) | (refine appD_own ?_ ?_ ?_ ?_ ?_; omega; exact flat_len (by intro _; rfl) _) | (refine appV_fresh rfl trivial rfl ?_ ?_ ?_ ?_ ?_; (first | rfl | first | omega | (simp only [List.length_append, List.length_cons, List.length_nil, List.length_nil, List.length_cons]; omega) | (simp only [List.length_append, List.length_cons, List.length_nil, List.length_nil, List.length_cons])); (first | rfl | first | omega | (simp only [List.length_append, List.length_cons, List.length_nil, List.length_nil, List.length_cons]; omega) | (simp only [List.length_append, List.length_cons, List.length_nil, List.length_nil, List.length_cons]))) | (refine appD_fresh rfl trivial rfl ?_ ?_ ?_ ?_ ?_ ?_; omega; (first | rfl | first | omega | (simp only [List.length_append, List.length_cons, List.length_nil, List.length_nil, List.length_cons]; omega) | (simp only [List.length_append, List.length_cons, List.length_nil, List.length_nil, List.length_cons])); (first | rfl | first | omega | (simp only [List.length_append, List.length_cons, List.length_nil, List.length_nil, List.length_cons]; omega) | (simp only [List.length_append, List.length_cons, List.length_nil, List.length_nil, List.length_cons])))); (unfold maxLen; omega); omega)) <;> (try simp only [↓R1, R2, R3, R4, R5, Nat.reduceEqDiff, Nat.reduceAdd, Nat.reduceMul, Nat.reduceSub, Nat.reduceLeDiff, Nat.reduceLT, reduceIte, reduceCtorEq, Int.reduceBNe, Int.reduceBEq])) | (with_reducible refine And.intro ?_ ?_; (focus (first | omega | (intros; (repeat' (with_reducible apply And.intro)) <;> first | omega | (simp only [List.length_append, List.length_cons, List.length_nil]; omega))))) | (with_reducible apply And.intro))
        all_goals (try simp only [Bool.or_eq_true, Bool.or_eq_false_iff, decide_eq_true_eq, decide_eq_false_iff_not, beq_iff_eq, beq_eq_false_iff_ne] at hc)
        · rw [β, hβ]; rfl
        · (refine endP_pu (by simp) (by first | (simp [rvsS, rvS]; done) | (simp only [rvsS, rvS, ↓R1, R2, R3, R4, R5, Nat.reduceEqDiff, Nat.reduceAdd, Nat.reduceMul, Nat.reduceSub, Nat.reduceLeDiff, Nat.reduceLT, reduceIte, reduceCtorEq, Int.reduceBNe, Int.reduceBEq]; try simp)) (wk_of_eq ?_) (by (repeat (first | exact St.le_refl _ | (refine St.le_new ?_ (by assumption)) | (refine St.le_newT ?_ (by assumption))))))
          (simp only [resAV, rvV, List.map_cons, List.map_nil, ↓R1, R2, R3, R4, R5, Nat.reduceEqDiff, Nat.reduceAdd, Nat.reduceMul, Nat.reduceSub, Nat.reduceLeDiff, Nat.reduceLT, reduceIte, reduceCtorEq, Int.reduceBNe, Int.reduceBEq])
          exact intL_no hb (by rw [hv]; omega)
        · have e : V % 18446744073709551616 = V := Nat.mod_eq_of_lt (by omega)
          rw [e] at hc ⊢
          (refine endP_pu (by simp) (by first | (simp [rvsS, rvS]; done) | (simp only [rvsS, rvS, ↓R1, R2, R3, R4, R5, Nat.reduceEqDiff, Nat.reduceAdd, Nat.reduceMul, Nat.reduceSub, Nat.reduceLeDiff, Nat.reduceLT, reduceIte, reduceCtorEq, Int.reduceBNe, Int.reduceBEq]; try simp)) (wk_of_eq ?_) (by (repeat (first | exact St.le_refl _ | (refine St.le_new ?_ (by assumption)) | (refine St.le_newT ?_ (by assumption))))))
          (simp only [resAV, rvV, List.map_cons, List.map_nil, ↓R1, R2, R3, R4, R5, Nat.reduceEqDiff, Nat.reduceAdd, Nat.reduceMul, Nat.reduceSub, Nat.reduceLeDiff, Nat.reduceLT, reduceIte, reduceCtorEq, Int.reduceBNe, Int.reduceBEq])
          refine intL_yes hb (by rw [hv]; omega) (by rw [hv]; omega) ?_
          rw [hv, u_neg V (by omega)]
end Go.Proofs.YtnmlhilckjmhnaaDoor
namespace Go.Proofs.YtnmlhilckjmhnaaDoor
open Go.Abs Go.Lib
set_option linter.all false
set_option maxRecDepth 100000
theorem some_text : evText 257#64 2 (-2) = [67, 32, 123, 48, 44, 56, 125, 32, 45, 50] := by
  have h1 : textL 257#64 = [123, 48, 44, 56, 125] := by decide
  have h2 : itoa (-2) = [45, 50] := by
    unfold itoa
    rw [if_pos (by decide)]
    show 45 :: decDigits 2 = _
    rw [decDigits, dif_pos (by decide)]
    rfl
  have h3 : letterL 2 = [67] := by decide
  have h4 : (checkE 2 == 0) = true := by decide
  simp [evText, h1, h2, h3, h4]
theorem awake_pu : PuG Tryd.prog gl3 11 [] (.bool true) := by
  have h1 := p13 257#64 2 (-2)
  have h2 := p14 257#64 2 (-2) (by unfold I64; omega)
  rw [some_bytes.1, some_bytes.2] at h1
  rw [some_text, some_bytes.2] at h2
  have e : ((257#64 : BitVec 64).toNat : Int) = 257 := rfl
  rw [e] at h1 h2
  simp only [someB] at h1
  (refine PuG_intro c11 b11 (Nat.le_of_ble_eq_true rfl) fun σ hσ => ?_; simp only [c11, ↓R1, R2, R3, R4, R5, Nat.reduceEqDiff, Nat.reduceAdd, Nat.reduceMul, Nat.reduceSub, Nat.reduceLeDiff, Nat.reduceLT, reduceIte, reduceCtorEq, Int.reduceBNe, Int.reduceBEq])
  repeat' (first | (with_reducible rw [allocV_eq]) | (refine gdV_split (fun hc => ?_) (fun hc => ?_) <;> (try simp only [hc, ↓R1, R2, R3, R4, R5, Nat.reduceEqDiff, Nat.reduceAdd, Nat.reduceMul, Nat.reduceSub, Nat.reduceLeDiff, Nat.reduceLT, reduceIte, reduceCtorEq, Int.reduceBNe, Int.reduceBEq])) | ((first | refine condV_split (fun hc => ?_) (fun hc => ?_) | (with_reducible intro β hβ; (try simp only [St.box_noneA, St.tip_noneA, St.tip_set, St.box_tip, St.box_lp, St.tip_lp] at hβ); (repeat (obtain ⟨⟨_, _⟩, hβ⟩ := hβ)); (try (have hbis := apart_is (by assumption) hβ; obtain ⟨_, _⟩ := hbis))) | ((first | (refine appD_tslK (.inr rfl) rfl ?_ ?_ ?_ ?_ ?_ ?_; (first | rfl | exact St.tip_same _ _ _ | (simp only [↓R1, R2, R3, R4, R5, Nat.reduceEqDiff, Nat.reduceAdd, Nat.reduceMul, Nat.reduceSub, Nat.reduceLeDiff, Nat.reduceLT, reduceIte, reduceCtorEq, Int.reduceBNe, Int.reduceBEq])); (first | omega | (simp only [List.length_append, List.length_cons, List.length_nil, List.length_nil, List.length_cons]; omega) | (simp only [List.length_append, List.length_cons, List.length_nil, List.length_nil, List.length_cons])); (first | rfl | first | omega | (simp only [List.length_append, List.length_cons, List.length_nil, List.length_nil, List.length_cons]; omega) | (simp only [List.length_append, List.length_cons, List.length_nil, List.length_nil, List.length_cons]))) | (refine appV_tslK rfl ?_ ?_ ?_ ?_ ?_ ?_; (first | rfl | exact St.tip_same _ _ _ | (simp only [↓R1, R2, R3, R4, R5, Nat.reduceEqDiff, Nat.reduceAdd, Nat.reduceMul, Nat.reduceSub, Nat.reduceLeDiff, Nat.reduceLT, reduceIte, reduceCtorEq, Int.reduceBNe, Int.reduceBEq])); (first | omega | (simp only [List.length_append, List.length_cons, List.length_nil, List.length_nil, List.length_cons]; omega) | (simp only [List.length_append, List.length_cons, List.length_nil, List.length_nil, List.length_cons])); (first | rfl | first | omega | (simp only [List.length_append, List.length_cons, List.length_nil, List.length_nil, List.length_cons]; omega) | (simp only [List.length_append, List.length_cons, List.length_nil, List.length_nil, List.length_cons]))) | (refine appV_own ?_ ?_ ?_ ?_; exact flat_len (by intro _; rfl) _) | (refine appD_own ?_ ?_ ?_ ?_ ?_; omega; exact flat_len (by intro _; rfl) _) | (refine appV_fresh rfl trivial rfl ?_ ?_ ?_ ?_ ?_; (first | rfl | first | omega | (simp only [List.length_append, List.length_cons, List.length_nil, List.length_nil, List.length_cons]; omega) | (simp only [List.length_append, List.length_cons, List.length_nil, List.length_nil, List.length_cons])); (first | rfl | first | omega | (simp only [List.length_append, List.length_cons, List.length_nil, List.length_nil, List.length_cons]; omega) | (simp only [List.length_append, List.length_cons, List.length_nil, List.length_nil, List.length_cons]))) | (refine appD_fresh rfl trivial rfl ?_ ?_ ?_ ?_ ?_ ?_; omega; (first | rfl | first | omega | (simp only [List.length_append, List.length_cons, List.length_nil, List.length_nil, List.length_cons]; omega) | (simp only [List.length_append, List.length_cons, List.length_nil, List.length_nil, List.length_cons])); (first | rfl | first | omega | (simp only [List.length_append, List.length_cons, List.length_nil, List.length_nil, List.length_cons]; omega) | (simp only [List.length_append, List.length_cons, List.length_nil, List.length_nil, List.length_cons])))); (unfold maxLen; omega); omega)) <;> (try simp only [↓R1, R2, R3, R4, R5, Nat.reduceEqDiff, Nat.reduceAdd, Nat.reduceMul, Nat.reduceSub, Nat.reduceLeDiff, Nat.reduceLT, reduceIte, reduceCtorEq, Int.reduceBNe, Int.reduceBEq])) | (with_reducible refine And.intro ?_ ?_; (focus (first | omega | (intros; (repeat' (with_reducible apply And.intro)) <;> first | omega | (simp only [List.length_append, List.length_cons, List.length_nil]; omega))))) | (with_reducible apply And.intro) | ((first | refine Pu.to (p40) (wkL_refl _) ?_ | refine callDV_pu (p40) (wkL_refl _) ?_ | refine Pu.to (h1) (wkL_refl _) ?_ | refine callDV_pu (h1) (wkL_refl _) ?_ | refine PuG.to (h2) hσ (wkL_refl _) ?_); (try simp only [↓R1, R2, R3, R4, R5, Nat.reduceEqDiff, Nat.reduceAdd, Nat.reduceMul, Nat.reduceSub, Nat.reduceLeDiff, Nat.reduceLT, reduceIte, reduceCtorEq, Int.reduceBNe, Int.reduceBEq])))
  (refine endP_pu (by simp) (by first | (simp [rvsS, rvS]; done) | (simp only [rvsS, rvS, ↓R1, R2, R3, R4, R5, Nat.reduceEqDiff, Nat.reduceAdd, Nat.reduceMul, Nat.reduceSub, Nat.reduceLeDiff, Nat.reduceLT, reduceIte, reduceCtorEq, Int.reduceBNe, Int.reduceBEq]; try simp)) (wk_of_eq ?_) (by (repeat (first | exact St.le_refl _ | (refine St.le_new ?_ (by assumption)) | (refine St.le_newT ?_ (by assumption))))))
  (simp only [resAV, rvV, List.map_cons, List.map_nil, ↓R1, R2, R3, R4, R5, Nat.reduceEqDiff, Nat.reduceAdd, Nat.reduceMul, Nat.reduceSub, Nat.reduceLeDiff, Nat.reduceLT, reduceIte, reduceCtorEq, Int.reduceBNe, Int.reduceBEq])
end Go.Proofs.YtnmlhilckjmhnaaDoor
namespace Go.Proofs.YtnmlhilckjmhnaaDoor
open Go.Abs Go.Lib
set_option linter.all false
set_option maxRecDepth 100000
/-- A reader: what it reads, where it stands, the fault and where that is. -/
structure Rd where
  s : List UInt8
  at_ : Nat
  e : Int
  fa : Nat
def cRd (r : Rd) : List AV := [.str r.s, .int .i64 r.at_, .int .i64 r.e, .int .i64 r.fa]
structure Rd.Ok (r : Rd) : Prop where
  len : r.s.length ≤ 1000000
  at_ : r.at_ ≤ r.s.length
  e : 0 ≤ r.e ∧ r.e ≤ 23
  fa : r.fa ≤ r.s.length
  no : r.e = 0 → r.fa = 0
theorem St.le_under {σ : St} {β γ : Nat} {c d : List AV} (h : Apart β γ) (hn : σ.box γ = none) : St.le (σ.setBox β c) ((σ.setBox γ d).setBox β c) := by
  rw [St.set_comm σ (Ne.symm h.ne)]
  exact St.le_setBox (St.le_refl _) (St.box_none.2 ⟨(Ne.symm h.ne), hn⟩)
theorem endP_bx {res : List RV} {e1 : Exit} {fr : Fr} {σ0 σ : St} {cs : List AV} (β : Nat) (hβ : σ0.box β = none) (he : e1 = .ret ∨ e1 = .normal) (hs : rvsS σ fr res) (hw : resAV (res.map (rvV σ fr)) = .ptr β 0) (hl : St.le (σ0.setBox β cs) σ) :
    endP res (fun r s => ∃ β, σ0.box β = none ∧ r = .ptr β 0 ∧ s = σ0.setBox β cs) e1 fr σ := endP_intro he hs (wk_of_eq hw) hl ⟨β, hβ, rfl, rfl⟩
theorem p47 (s : List UInt8) : Pu Tryd.prog 47 [.str s] (.agg (cRd ⟨s, 0, 0, 0⟩)) := by
  (refine Pu_intro c47 b47 (Nat.le_of_ble_eq_true rfl) fun σ => ?_; simp only [c47, ↓R1, R2, R3, R4, R5, Nat.reduceEqDiff, Nat.reduceAdd, Nat.reduceMul, Nat.reduceSub, Nat.reduceLeDiff, Nat.reduceLT, reduceIte, reduceCtorEq, Int.reduceBNe, Int.reduceBEq])
  repeat' (first | (with_reducible rw [allocV_eq]) | (refine gdV_split (fun hc => ?_) (fun hc => ?_) <;> (try simp only [hc, ↓R1, R2, R3, R4, R5, Nat.reduceEqDiff, Nat.reduceAdd, Nat.reduceMul, Nat.reduceSub, Nat.reduceLeDiff, Nat.reduceLT, reduceIte, reduceCtorEq, Int.reduceBNe, Int.reduceBEq])) | ((first | refine condV_split (fun hc => ?_) (fun hc => ?_) | (with_reducible intro β hβ; (try simp only [St.box_noneA, St.tip_noneA, St.tip_set, St.box_tip, St.box_lp, St.tip_lp] at hβ); (repeat (obtain ⟨⟨_, _⟩, hβ⟩ := hβ)); (try (have hbis := apart_is (by assumption) hβ; obtain ⟨_, _⟩ := hbis)))) <;> (try simp only [↓R1, R2, R3, R4, R5, Nat.reduceEqDiff, Nat.reduceAdd, Nat.reduceMul, Nat.reduceSub, Nat.reduceLeDiff, Nat.reduceLT, reduceIte, reduceCtorEq, Int.reduceBNe, Int.reduceBEq])) | (with_reducible refine And.intro ?_ ?_; (focus (first | omega | (intros; (repeat' (with_reducible apply And.intro)) <;> first | omega | (simp only [List.length_append, List.length_cons, List.length_nil]; omega))))) | (with_reducible apply And.intro))
  (refine endP_pu (by simp) (by first | (simp [rvsS, rvS]; done) | (simp only [rvsS, rvS, ↓R1, R2, R3, R4, R5, Nat.reduceEqDiff, Nat.reduceAdd, Nat.reduceMul, Nat.reduceSub, Nat.reduceLeDiff, Nat.reduceLT, reduceIte, reduceCtorEq, Int.reduceBNe, Int.reduceBEq]; try simp)) (wk_of_eq ?_) (by (repeat (first | exact St.le_refl _ | (refine St.le_new ?_ (by assumption)) | (refine St.le_newT ?_ (by assumption))))))
  (simp only [resAV, rvV, List.map_cons, List.map_nil, ↓R1, R2, R3, R4, R5, Nat.reduceEqDiff, Nat.reduceAdd, Nat.reduceMul, Nat.reduceSub, Nat.reduceLeDiff, Nat.reduceLT, reduceIte, reduceCtorEq, Int.reduceBNe, Int.reduceBEq])
  rfl
theorem p68 (r : Rd) (h : r.Ok) : Bx Tryd.prog 68 [.agg (cRd r)] (cRd r) := by
  obtain ⟨s, a, e, f⟩ := r
  obtain ⟨h1, h2, h3, h4, h5⟩ := h
  simp only [cRd] at *
  intro σ
  (refine AC_intro c68 b68 (Nat.le_of_ble_eq_true rfl) ?_; simp only [c68, ↓R1, R2, R3, R4, R5, Nat.reduceEqDiff, Nat.reduceAdd, Nat.reduceMul, Nat.reduceSub, Nat.reduceLeDiff, Nat.reduceLT, reduceIte, reduceCtorEq, Int.reduceBNe, Int.reduceBEq])
  repeat' (first | (with_reducible rw [allocV_eq]) | (refine gdV_split (fun hc => ?_) (fun hc => ?_) <;> (try simp only [hc, ↓R1, R2, R3, R4, R5, Nat.reduceEqDiff, Nat.reduceAdd, Nat.reduceMul, Nat.reduceSub, Nat.reduceLeDiff, Nat.reduceLT, reduceIte, reduceCtorEq, Int.reduceBNe, Int.reduceBEq])) | ((first | refine condV_split (fun hc => ?_) (fun hc => ?_) | (with_reducible intro β hβ; (try simp only [St.box_noneA, St.tip_noneA, St.tip_set, St.box_tip, St.box_lp, St.tip_lp] at hβ); (repeat (obtain ⟨⟨_, _⟩, hβ⟩ := hβ)); (try (have hbis := apart_is (by assumption) hβ; obtain ⟨_, _⟩ := hbis)))) <;> (try simp only [↓R1, R2, R3, R4, R5, Nat.reduceEqDiff, Nat.reduceAdd, Nat.reduceMul, Nat.reduceSub, Nat.reduceLeDiff, Nat.reduceLT, reduceIte, reduceCtorEq, Int.reduceBNe, Int.reduceBEq])) | (with_reducible refine And.intro ?_ ?_; (focus (first | omega | (intros; (repeat' (with_reducible apply And.intro)) <;> first | omega | (simp only [List.length_append, List.length_cons, List.length_nil]; omega))))) | (with_reducible apply And.intro))
  all_goals first | (exfalso; simp at hc hc_1; omega) | skip
  all_goals first | (exfalso; simp at *; omega) | skip
  all_goals (refine endP_bx _ hβ (by simp) (by first | (simp [rvsS, rvS]; done) | (simp only [rvsS, rvS, ↓R1, R2, R3, R4, R5, Nat.reduceEqDiff, Nat.reduceAdd, Nat.reduceMul, Nat.reduceSub, Nat.reduceLeDiff, Nat.reduceLT, reduceIte, reduceCtorEq, Int.reduceBNe, Int.reduceBEq]; try simp)) (by (simp only [resAV, rvV, List.map_cons, List.map_nil, ↓R1, R2, R3, R4, R5, Nat.reduceEqDiff, Nat.reduceAdd, Nat.reduceMul, Nat.reduceSub, Nat.reduceLeDiff, Nat.reduceLT, reduceIte, reduceCtorEq, Int.reduceBNe, Int.reduceBEq])) (St.le_under (by assumption) (by assumption)))
theorem p84 (n : Int) : Pu Tryd.prog 84 [.int .i64 n] (.bool ((n == 1 || n == 2) || n == 4 || n == 8)) := by
  (refine Pu_intro c84 b84 (Nat.le_of_ble_eq_true rfl) fun σ => ?_; simp only [c84, ↓R1, R2, R3, R4, R5, Nat.reduceEqDiff, Nat.reduceAdd, Nat.reduceMul, Nat.reduceSub, Nat.reduceLeDiff, Nat.reduceLT, reduceIte, reduceCtorEq, Int.reduceBNe, Int.reduceBEq])
  repeat' (first | (with_reducible rw [allocV_eq]) | (refine gdV_split (fun hc => ?_) (fun hc => ?_) <;> (try simp only [hc, ↓R1, R2, R3, R4, R5, Nat.reduceEqDiff, Nat.reduceAdd, Nat.reduceMul, Nat.reduceSub, Nat.reduceLeDiff, Nat.reduceLT, reduceIte, reduceCtorEq, Int.reduceBNe, Int.reduceBEq])) | ((first | refine condV_split (fun hc => ?_) (fun hc => ?_) | (with_reducible intro β hβ; (try simp only [St.box_noneA, St.tip_noneA, St.tip_set, St.box_tip, St.box_lp, St.tip_lp] at hβ); (repeat (obtain ⟨⟨_, _⟩, hβ⟩ := hβ)); (try (have hbis := apart_is (by assumption) hβ; obtain ⟨_, _⟩ := hbis)))) <;> (try simp only [↓R1, R2, R3, R4, R5, Nat.reduceEqDiff, Nat.reduceAdd, Nat.reduceMul, Nat.reduceSub, Nat.reduceLeDiff, Nat.reduceLT, reduceIte, reduceCtorEq, Int.reduceBNe, Int.reduceBEq])) | (with_reducible refine And.intro ?_ ?_; (focus (first | omega | (intros; (repeat' (with_reducible apply And.intro)) <;> first | omega | (simp only [List.length_append, List.length_cons, List.length_nil]; omega))))) | (with_reducible apply And.intro))
  all_goals first | (exfalso; simp_all; done) | ((refine endP_pu (by simp) (by first | (simp [rvsS, rvS]; done) | (simp only [rvsS, rvS, ↓R1, R2, R3, R4, R5, Nat.reduceEqDiff, Nat.reduceAdd, Nat.reduceMul, Nat.reduceSub, Nat.reduceLeDiff, Nat.reduceLT, reduceIte, reduceCtorEq, Int.reduceBNe, Int.reduceBEq]; try simp)) (wk_of_eq ?_) (by (repeat (first | exact St.le_refl _ | (refine St.le_new ?_ (by assumption)) | (refine St.le_newT ?_ (by assumption)))))); (simp only [resAV, rvV, List.map_cons, List.map_nil, ↓R1, R2, R3, R4, R5, Nat.reduceEqDiff, Nat.reduceAdd, Nat.reduceMul, Nat.reduceSub, Nat.reduceLeDiff, Nat.reduceLT, reduceIte, reduceCtorEq, Int.reduceBNe, Int.reduceBEq]); done)
theorem St.set_self {σ : St} {β : Nat} {c : List AV} (h : σ.box β = some c) : σ.setBox β c = σ := by
  obtain ⟨b, t, g, l⟩ := σ
  simp only [St.setBox, St.mk.injEq, and_true]
  funext j
  simp only [upd]
  split
  · rename_i e; subst e; exact h.symm
  · rfl
theorem p85 (σ : St) (β : Nat) (r : Rd) (h : σ.box β = some (cRd r)) : AC Tryd.prog 85 [.ptr β 0] σ (fun x s => x = .bool (r.e == 0) ∧ s = σ) := by
  simp only [cRd] at h
  (refine AC_intro c85 b85 (Nat.le_of_ble_eq_true rfl) ?_; simp only [c85, ↓R1, R2, R3, R4, R5, Nat.reduceEqDiff, Nat.reduceAdd, Nat.reduceMul, Nat.reduceSub, Nat.reduceLeDiff, Nat.reduceLT, reduceIte, reduceCtorEq, Int.reduceBNe, Int.reduceBEq, h])
  repeat' (first | (with_reducible rw [allocV_eq]) | (refine gdV_split (fun hc => ?_) (fun hc => ?_) <;> (try simp only [hc, ↓R1, R2, R3, R4, R5, Nat.reduceEqDiff, Nat.reduceAdd, Nat.reduceMul, Nat.reduceSub, Nat.reduceLeDiff, Nat.reduceLT, reduceIte, reduceCtorEq, Int.reduceBNe, Int.reduceBEq, h])) | ((first | refine condV_split (fun hc => ?_) (fun hc => ?_) | (with_reducible intro β hβ; (try simp only [St.box_noneA, St.tip_noneA, St.tip_set, St.box_tip, St.box_lp, St.tip_lp] at hβ); (repeat (obtain ⟨⟨_, _⟩, hβ⟩ := hβ)); (try (have hbis := apart_is (by assumption) hβ; obtain ⟨_, _⟩ := hbis)))) <;> (try simp only [↓R1, R2, R3, R4, R5, Nat.reduceEqDiff, Nat.reduceAdd, Nat.reduceMul, Nat.reduceSub, Nat.reduceLeDiff, Nat.reduceLT, reduceIte, reduceCtorEq, Int.reduceBNe, Int.reduceBEq, h])) | (with_reducible refine And.intro ?_ ?_; (focus (first | omega | (intros; (repeat' (with_reducible apply And.intro)) <;> first | omega | (simp only [List.length_append, List.length_cons, List.length_nil]; omega))))) | (with_reducible apply And.intro))
  (refine endP_pu (by simp) (by first | (simp [rvsS, rvS]; done) | (simp only [rvsS, rvS, ↓R1, R2, R3, R4, R5, Nat.reduceEqDiff, Nat.reduceAdd, Nat.reduceMul, Nat.reduceSub, Nat.reduceLeDiff, Nat.reduceLT, reduceIte, reduceCtorEq, Int.reduceBNe, Int.reduceBEq, h]; try simp)) (wk_of_eq ?_) (by (repeat (first | exact St.le_refl _ | (refine St.le_new ?_ (by assumption)) | (refine St.le_newT ?_ (by assumption))))))
  (simp only [resAV, rvV, List.map_cons, List.map_nil, ↓R1, R2, R3, R4, R5, Nat.reduceEqDiff, Nat.reduceAdd, Nat.reduceMul, Nat.reduceSub, Nat.reduceLeDiff, Nat.reduceLT, reduceIte, reduceCtorEq, Int.reduceBNe, Int.reduceBEq, h])
def failR (r : Rd) (e : Int) (a : Nat) : Rd := bif r.e == 0 then { r with e := e, fa := a } else r
theorem p69 (σ : St) (β : Nat) (r : Rd) (e : Int) (a : Nat) (h : σ.box β = some (cRd r)) : AC Tryd.prog 69 [.ptr β 0, .int .i64 e, .int .i64 a] σ (fun x s => s = σ.setBox β (cRd (failR r e a))) := by
  have hf := p85 σ β r h
  have hs := St.set_self h
  simp only [cRd] at h
  (refine AC_intro c69 b69 (Nat.le_of_ble_eq_true rfl) ?_; simp only [c69, ↓R1, R2, R3, R4, R5, Nat.reduceEqDiff, Nat.reduceAdd, Nat.reduceMul, Nat.reduceSub, Nat.reduceLeDiff, Nat.reduceLT, reduceIte, reduceCtorEq, Int.reduceBNe, Int.reduceBEq, h])
  refine AC.mono hf ?_
  rintro _ _ ⟨rfl, rfl⟩
  simp only [↓R1, R2, R3, R4, R5, Nat.reduceEqDiff, Nat.reduceAdd, Nat.reduceMul, Nat.reduceSub, Nat.reduceLeDiff, Nat.reduceLT, reduceIte, reduceCtorEq, Int.reduceBNe, Int.reduceBEq, h]
  refine condV_split (fun hc => ?_) (fun hc => ?_)
  · simp only [↓R1, R2, R3, R4, R5, Nat.reduceEqDiff, Nat.reduceAdd, Nat.reduceMul, Nat.reduceSub, Nat.reduceLeDiff, Nat.reduceLT, reduceIte, reduceCtorEq, Int.reduceBNe, Int.reduceBEq, h]
    repeat' (first | (with_reducible rw [allocV_eq]) | (refine gdV_split (fun hc => ?_) (fun hc => ?_) <;> (try simp only [hc, ↓R1, R2, R3, R4, R5, Nat.reduceEqDiff, Nat.reduceAdd, Nat.reduceMul, Nat.reduceSub, Nat.reduceLeDiff, Nat.reduceLT, reduceIte, reduceCtorEq, Int.reduceBNe, Int.reduceBEq, h])) | ((first | refine condV_split (fun hc => ?_) (fun hc => ?_) | (with_reducible intro β hβ; (try simp only [St.box_noneA, St.tip_noneA, St.tip_set, St.box_tip, St.box_lp, St.tip_lp] at hβ); (repeat (obtain ⟨⟨_, _⟩, hβ⟩ := hβ)); (try (have hbis := apart_is (by assumption) hβ; obtain ⟨_, _⟩ := hbis)))) <;> (try simp only [↓R1, R2, R3, R4, R5, Nat.reduceEqDiff, Nat.reduceAdd, Nat.reduceMul, Nat.reduceSub, Nat.reduceLeDiff, Nat.reduceLT, reduceIte, reduceCtorEq, Int.reduceBNe, Int.reduceBEq, h])) | (with_reducible refine And.intro ?_ ?_; (focus (first | omega | (intros; (repeat' (with_reducible apply And.intro)) <;> first | omega | (simp only [List.length_append, List.length_cons, List.length_nil]; omega))))) | (with_reducible apply And.intro))
    refine endP_intro (by simp) (by first | (simp [rvsS, rvS]; done) | (simp only [rvsS, rvS, ↓R1, R2, R3, R4, R5, Nat.reduceEqDiff, Nat.reduceAdd, Nat.reduceMul, Nat.reduceSub, Nat.reduceLeDiff, Nat.reduceLT, reduceIte, reduceCtorEq, Int.reduceBNe, Int.reduceBEq, h]; try simp)) (wk_refl _) (St.le_refl _) ?_
    simp only [failR, hc, cond_true, cRd]
  · simp only [↓R1, R2, R3, R4, R5, Nat.reduceEqDiff, Nat.reduceAdd, Nat.reduceMul, Nat.reduceSub, Nat.reduceLeDiff, Nat.reduceLT, reduceIte, reduceCtorEq, Int.reduceBNe, Int.reduceBEq, h]
    refine endP_intro (by simp) (by first | (simp [rvsS, rvS]; done) | (simp only [rvsS, rvS, ↓R1, R2, R3, R4, R5, Nat.reduceEqDiff, Nat.reduceAdd, Nat.reduceMul, Nat.reduceSub, Nat.reduceLeDiff, Nat.reduceLT, reduceIte, reduceCtorEq, Int.reduceBNe, Int.reduceBEq, h]; try simp)) (wk_refl _) (St.le_refl _) ?_
    simp only [failR, hc, cond_false]
    exact hs.symm
theorem p87 (s : List UInt8) (hs : s.length ≤ maxLen) : Pu Tryd.prog 87 [.str s] (.int .u64 (s.foldl stepB 0#64).toNat) := by
  have hm := maxLen_lt
  have hbs : ∀ k, k < s.length → List.take 1 (List.drop (k * 1) (s.map fun b => AV.int .u8 b.toNat)) = [.int .u8 (s[k]?.getD 0).toNat] := fun k hk => by
    rw [get1 (fun b : UInt8 => AV.int .u8 b.toNat) s k hk]
    simp [hk]
  (refine Pu_intro c87 b87 (Nat.le_of_ble_eq_true rfl) fun σ => ?_; simp only [c87, ↓R1, R2, R3, R4, R5, Nat.reduceEqDiff, Nat.reduceAdd, Nat.reduceMul, Nat.reduceSub, Nat.reduceLeDiff, Nat.reduceLT, reduceIte, reduceCtorEq, Int.reduceBNe, Int.reduceBEq])
  refine loopV_for s.length (fun k => [(3, .int .u64 ((s.take k).foldl stepB 0#64).toNat), (7, .sl false s.length (s.map fun b => AV.int .u8 b.toNat)), (8, .int .i64 s.length), (9, .int .i64 k)]) (fun _ => σ) (fun _ => True) (by simp [subF, slot, wk_refl]) (St.le_refl _) trivial (fun k hk _ => ?_)
  simp only [lt_len, ↓R1, R2, R3, R4, R5, Nat.reduceEqDiff, Nat.reduceAdd, Nat.reduceMul, Nat.reduceSub, Nat.reduceLeDiff, Nat.reduceLT, reduceIte, reduceCtorEq, Int.reduceBNe, Int.reduceBEq]
  refine condV_split (fun hc => ?_) (fun hc => ?_)
  · have hlt : k < s.length := by simpa using hc
    have hfo := foldl_take stepB 0#64 s k hlt
    have hak := at_k (s := s) (k := k) hlt
    have hgt := hbs k hlt
    simp only [hgt, ↓R1, R2, R3, R4, R5, Nat.reduceEqDiff, Nat.reduceAdd, Nat.reduceMul, Nat.reduceSub, Nat.reduceLeDiff, Nat.reduceLT, reduceIte, reduceCtorEq, Int.reduceBNe, Int.reduceBEq]
    repeat' (first | (with_reducible rw [allocV_eq]) | (refine gdV_split (fun hc => ?_) (fun hc => ?_) <;> (try simp only [hc, ↓R1, R2, R3, R4, R5, Nat.reduceEqDiff, Nat.reduceAdd, Nat.reduceMul, Nat.reduceSub, Nat.reduceLeDiff, Nat.reduceLT, reduceIte, reduceCtorEq, Int.reduceBNe, Int.reduceBEq])) | ((first | refine condV_split (fun hc => ?_) (fun hc => ?_) | (with_reducible intro β hβ; (try simp only [St.box_noneA, St.tip_noneA, St.tip_set, St.box_tip, St.box_lp, St.tip_lp] at hβ); (repeat (obtain ⟨⟨_, _⟩, hβ⟩ := hβ)); (try (have hbis := apart_is (by assumption) hβ; obtain ⟨_, _⟩ := hbis)))) <;> (try simp only [↓R1, R2, R3, R4, R5, Nat.reduceEqDiff, Nat.reduceAdd, Nat.reduceMul, Nat.reduceSub, Nat.reduceLeDiff, Nat.reduceLT, reduceIte, reduceCtorEq, Int.reduceBNe, Int.reduceBEq])) | (with_reducible refine And.intro ?_ ?_; (focus (first | omega | (intros; (repeat' (with_reducible apply And.intro)) <;> first | omega | (simp only [List.length_append, List.length_cons, List.length_nil]; omega))))) | (with_reducible apply And.intro))
    all_goals (try simp only [hgt, ↓R1, R2, R3, R4, R5, Nat.reduceEqDiff, Nat.reduceAdd, Nat.reduceMul, Nat.reduceSub, Nat.reduceLeDiff, Nat.reduceLT, reduceIte, reduceCtorEq, Int.reduceBNe, Int.reduceBEq])
    · simp; omega
    · simp only [subF, slot, wk_refl, hak, step8, hfo, ↓R1, R2, R3, R4, R5, Nat.reduceEqDiff, Nat.reduceAdd, Nat.reduceMul, Nat.reduceSub, Nat.reduceLeDiff, Nat.reduceLT, reduceIte, reduceCtorEq, Int.reduceBNe, Int.reduceBEq]; exact wk_k (by omega)
    · exact St.le_refl _
  · have : k = s.length := by simp at hc; omega
    subst this
    simp only [List.take_length, ↓R1, R2, R3, R4, R5, Nat.reduceEqDiff, Nat.reduceAdd, Nat.reduceMul, Nat.reduceSub, Nat.reduceLeDiff, Nat.reduceLT, reduceIte, reduceCtorEq, Int.reduceBNe, Int.reduceBEq]
    (refine endP_pu (by simp) (by first | (simp [rvsS, rvS]; done) | (simp only [rvsS, rvS, ↓R1, R2, R3, R4, R5, Nat.reduceEqDiff, Nat.reduceAdd, Nat.reduceMul, Nat.reduceSub, Nat.reduceLeDiff, Nat.reduceLT, reduceIte, reduceCtorEq, Int.reduceBNe, Int.reduceBEq]; try simp)) (wk_of_eq ?_) (by (repeat (first | exact St.le_refl _ | (refine St.le_new ?_ (by assumption)) | (refine St.le_newT ?_ (by assumption))))))
    (simp only [resAV, rvV, List.map_cons, List.map_nil, ↓R1, R2, R3, R4, R5, Nat.reduceEqDiff, Nat.reduceAdd, Nat.reduceMul, Nat.reduceSub, Nat.reduceLeDiff, Nat.reduceLT, reduceIte, reduceCtorEq, Int.reduceBNe, Int.reduceBEq])
/-- What is taken. -/
def takeR (r : Rd) (n : Nat) : Rd := bif r.e == 0 then (bif decide (r.s.length < r.at_ + n) then { r with e := 5, fa := r.at_ } else { r with at_ := r.at_ + n }) else r
def takeS (r : Rd) (n : Nat) : List UInt8 := bif r.e == 0 then (bif decide (r.s.length < r.at_ + n) then [] else (r.s.drop r.at_).take n) else []
theorem p86 (σ : St) (β : Nat) (r : Rd) (n : Nat) (hn : n ≤ 8) (ho : r.Ok) (h : σ.box β = some (cRd r)) : AC Tryd.prog 86 [.ptr β 0, .int .i64 (n : Nat)] σ (fun x s => x = .str (takeS r n) ∧ s = σ.setBox β (cRd (takeR r n))) := by
  have h0 := h
  have hsf := St.set_self h
  have hl := ho.len
  have ha := ho.at_
  have hn0 : decide ((n : Int) < 0) = false := by simp
  have hgt : decide (IntKind.i64.wrap ((r.s.length : Int) - r.at_) < (n : Int)) = decide (r.s.length < r.at_ + n) := by
    rw [wrap64 (by omega) (by omega), Bool.eq_iff_iff]; simp; omega
  simp only [cRd] at h
  (refine AC_intro c86 b86 (Nat.le_of_ble_eq_true rfl) ?_; simp only [c86, ↓R1, R2, R3, R4, R5, Nat.reduceEqDiff, Nat.reduceAdd, Nat.reduceMul, Nat.reduceSub, Nat.reduceLeDiff, Nat.reduceLT, reduceIte, reduceCtorEq, Int.reduceBNe, Int.reduceBEq, h, hn0, hgt])
  refine condV_split (fun hc => ?_) (fun hc => ?_)
  · simp only [↓R1, R2, R3, R4, R5, Nat.reduceEqDiff, Nat.reduceAdd, Nat.reduceMul, Nat.reduceSub, Nat.reduceLeDiff, Nat.reduceLT, reduceIte, reduceCtorEq, Int.reduceBNe, Int.reduceBEq, h, hn0, hgt]
    refine AC.mono (p69 σ β r 5 r.at_ h0) ?_
    rintro _ _ rfl
    simp only [↓R1, R2, R3, R4, R5, Nat.reduceEqDiff, Nat.reduceAdd, Nat.reduceMul, Nat.reduceSub, Nat.reduceLeDiff, Nat.reduceLT, reduceIte, reduceCtorEq, Int.reduceBNe, Int.reduceBEq, h, hn0, hgt]
    refine AC.mono (p85 _ β (failR r 5 r.at_) (St.box_same _ _ _)) ?_
    rintro _ _ ⟨rfl, rfl⟩
    have hf : ((failR r 5 r.at_).e == 0) = false := by unfold failR; cases he : r.e == 0 <;> simp [he]
    have ht : takeR r n = failR r 5 r.at_ := by simp only [takeR, failR, hc, cond_true]
    have hs : takeS r n = [] := by simp only [takeS, hc, cond_true]; cases r.e == 0 <;> rfl
    simp only [hf, ↓R1, R2, R3, R4, R5, Nat.reduceEqDiff, Nat.reduceAdd, Nat.reduceMul, Nat.reduceSub, Nat.reduceLeDiff, Nat.reduceLT, reduceIte, reduceCtorEq, Int.reduceBNe, Int.reduceBEq, h, hn0, hgt]
    rw [ht, hs]
    refine endP_intro (by simp) (by first | (simp [rvsS, rvS]; done) | (simp only [rvsS, rvS, ↓R1, R2, R3, R4, R5, Nat.reduceEqDiff, Nat.reduceAdd, Nat.reduceMul, Nat.reduceSub, Nat.reduceLeDiff, Nat.reduceLT, reduceIte, reduceCtorEq, Int.reduceBNe, Int.reduceBEq, h, hn0, hgt]; try simp)) (wk_refl _) (St.le_refl _) ⟨?_, rfl⟩
    (simp only [resAV, rvV, List.map_cons, List.map_nil, ↓R1, R2, R3, R4, R5, Nat.reduceEqDiff, Nat.reduceAdd, Nat.reduceMul, Nat.reduceSub, Nat.reduceLeDiff, Nat.reduceLT, reduceIte, reduceCtorEq, Int.reduceBNe, Int.reduceBEq, h, hn0, hgt])
  · simp only [↓R1, R2, R3, R4, R5, Nat.reduceEqDiff, Nat.reduceAdd, Nat.reduceMul, Nat.reduceSub, Nat.reduceLeDiff, Nat.reduceLT, reduceIte, reduceCtorEq, Int.reduceBNe, Int.reduceBEq, h, hn0, hgt]
    refine AC.mono (p85 _ β r h0) ?_
    rintro _ _ ⟨rfl, rfl⟩
    simp only [↓R1, R2, R3, R4, R5, Nat.reduceEqDiff, Nat.reduceAdd, Nat.reduceMul, Nat.reduceSub, Nat.reduceLeDiff, Nat.reduceLT, reduceIte, reduceCtorEq, Int.reduceBNe, Int.reduceBEq, h, hn0, hgt]
    refine condV_split (fun hc2 => ?_) (fun hc2 => ?_)
    · have he : (r.e == 0) = false := by simpa using hc2
      have ht : takeR r n = r := by simp only [takeR, he, cond_false]
      have hs : takeS r n = [] := by simp only [takeS, he, cond_false]
      simp only [↓R1, R2, R3, R4, R5, Nat.reduceEqDiff, Nat.reduceAdd, Nat.reduceMul, Nat.reduceSub, Nat.reduceLeDiff, Nat.reduceLT, reduceIte, reduceCtorEq, Int.reduceBNe, Int.reduceBEq, h, hn0, hgt]
      rw [ht, hs, hsf]
      refine endP_intro (by simp) (by first | (simp [rvsS, rvS]; done) | (simp only [rvsS, rvS, ↓R1, R2, R3, R4, R5, Nat.reduceEqDiff, Nat.reduceAdd, Nat.reduceMul, Nat.reduceSub, Nat.reduceLeDiff, Nat.reduceLT, reduceIte, reduceCtorEq, Int.reduceBNe, Int.reduceBEq, h, hn0, hgt]; try simp)) (wk_refl _) (St.le_refl _) ⟨?_, rfl⟩
      (simp only [resAV, rvV, List.map_cons, List.map_nil, ↓R1, R2, R3, R4, R5, Nat.reduceEqDiff, Nat.reduceAdd, Nat.reduceMul, Nat.reduceSub, Nat.reduceLeDiff, Nat.reduceLT, reduceIte, reduceCtorEq, Int.reduceBNe, Int.reduceBEq, h, hn0, hgt])
    · have he : (r.e == 0) = true := by simpa using hc2
      have ht : takeR r n = { r with at_ := r.at_ + n } := by simp only [takeR, he, hc, cond_true, cond_false]
      have hs : takeS r n = (r.s.drop r.at_).take n := by simp only [takeS, he, hc, cond_true, cond_false]
      have hlt : r.at_ + n ≤ r.s.length := by simpa using hc
      have hw : IntKind.i64.wrap ((r.at_ : Int) + n) = ((r.at_ + n : Nat) : Int) := by rw [wrap64 (by omega) (by omega)]; omega
      have hw2 : IntKind.i64.wrap (((r.at_ + n : Nat) : Int) - n) = (r.at_ : Int) := by rw [wrap64 (by omega) (by omega)]; omega
      simp only [hw, hw2, ↓R1, R2, R3, R4, R5, Nat.reduceEqDiff, Nat.reduceAdd, Nat.reduceMul, Nat.reduceSub, Nat.reduceLeDiff, Nat.reduceLT, reduceIte, reduceCtorEq, Int.reduceBNe, Int.reduceBEq, h, hn0, hgt]
      repeat' (first | (with_reducible rw [allocV_eq]) | (refine gdV_split (fun hc => ?_) (fun hc => ?_) <;> (try simp only [hc, ↓R1, R2, R3, R4, R5, Nat.reduceEqDiff, Nat.reduceAdd, Nat.reduceMul, Nat.reduceSub, Nat.reduceLeDiff, Nat.reduceLT, reduceIte, reduceCtorEq, Int.reduceBNe, Int.reduceBEq, h, hn0, hgt])) | ((first | refine condV_split (fun hc => ?_) (fun hc => ?_) | (with_reducible intro β hβ; (try simp only [St.box_noneA, St.tip_noneA, St.tip_set, St.box_tip, St.box_lp, St.tip_lp] at hβ); (repeat (obtain ⟨⟨_, _⟩, hβ⟩ := hβ)); (try (have hbis := apart_is (by assumption) hβ; obtain ⟨_, _⟩ := hbis)))) <;> (try simp only [↓R1, R2, R3, R4, R5, Nat.reduceEqDiff, Nat.reduceAdd, Nat.reduceMul, Nat.reduceSub, Nat.reduceLeDiff, Nat.reduceLT, reduceIte, reduceCtorEq, Int.reduceBNe, Int.reduceBEq, h, hn0, hgt])) | (with_reducible refine And.intro ?_ ?_; (focus (first | omega | (intros; (repeat' (with_reducible apply And.intro)) <;> first | omega | (simp only [List.length_append, List.length_cons, List.length_nil]; omega))))) | (with_reducible apply And.intro))
      rw [ht, hs, Nat.add_sub_cancel_left]
      refine endP_intro (by simp) (by first | (simp [rvsS, rvS]; done) | (simp only [rvsS, rvS, ↓R1, R2, R3, R4, R5, Nat.reduceEqDiff, Nat.reduceAdd, Nat.reduceMul, Nat.reduceSub, Nat.reduceLeDiff, Nat.reduceLT, reduceIte, reduceCtorEq, Int.reduceBNe, Int.reduceBEq, h, hn0, hgt]; try simp)) (wk_refl _) (St.le_refl _) ⟨?_, rfl⟩
      (simp only [resAV, rvV, List.map_cons, List.map_nil, ↓R1, R2, R3, R4, R5, Nat.reduceEqDiff, Nat.reduceAdd, Nat.reduceMul, Nat.reduceSub, Nat.reduceLeDiff, Nat.reduceLT, reduceIte, reduceCtorEq, Int.reduceBNe, Int.reduceBEq, h, hn0, hgt])
end Go.Proofs.YtnmlhilckjmhnaaDoor
namespace Go.Proofs.YtnmlhilckjmhnaaDoor
open Go.Abs Go.Lib
set_option linter.all false
set_option maxRecDepth 100000
theorem takeR_ok {r : Rd} (h : r.Ok) (n : Nat) : (takeR r n).Ok := by
  obtain ⟨h1, h2, h3, h4, h5⟩ := h
  unfold takeR
  cases he : (r.e == 0) with
  | false => exact ⟨h1, h2, h3, h4, h5⟩
  | true =>
    cases hc : decide (r.s.length < r.at_ + n) with
    | true => exact ⟨h1, h2, ⟨by simp, by simp⟩, h2, fun h => by simp at h⟩
    | false => exact ⟨h1, by simpa using hc, h3, h4, h5⟩
theorem failR_ok {r : Rd} (h : r.Ok) (e : Int) (a : Nat) (he : 1 ≤ e ∧ e ≤ 23) (ha : a ≤ r.s.length) : (failR r e a).Ok := by
  obtain ⟨h1, h2, h3, h4, h5⟩ := h
  unfold failR
  cases (r.e == 0) with
  | false => exact ⟨h1, h2, h3, h4, h5⟩
  | true => exact ⟨h1, h2, ⟨by simp; omega, by simp; omega⟩, ha, fun h => by simp at h; omega⟩
theorem takeS_len (r : Rd) (n : Nat) : (takeS r n).length ≤ n := by
  unfold takeS
  cases (r.e == 0) <;> cases decide (r.s.length < r.at_ + n) <;> simp <;> omega
theorem takeR_s (r : Rd) (n : Nat) : (takeR r n).s = r.s := by
  unfold takeR
  cases (r.e == 0) <;> cases decide (r.s.length < r.at_ + n) <;> rfl
def numV (s : List UInt8) : BitVec 64 := s.foldl stepB 0#64
theorem p67 (r : Rd) (n : Nat) (ho : r.Ok) (hn : n = 1 ∨ n = 8) : Pu Tryd.prog 67 [.agg (cRd r), .int .i64 (n : Nat)] (.tup [.agg (cRd (takeR r n)), .int .u64 (numV (takeS r n)).toNat]) := by
  have hu := p68 r ho
  have hz := p84 (n : Int)
  have hz1 : (((n : Int) == 1 || (n : Int) == 2) || (n : Int) == 4 || (n : Int) == 8) = true := by rcases hn with rfl | rfl <;> rfl
  rw [hz1] at hz
  have hnum := p87 (takeS r n) (by have := takeS_len r n; unfold maxLen; omega)
  simp only [cRd] at hu
  (refine Pu_intro c67 b67 (Nat.le_of_ble_eq_true rfl) fun σ => ?_; simp only [c67, ↓R1, R2, R3, R4, R5, Nat.reduceEqDiff, Nat.reduceAdd, Nat.reduceMul, Nat.reduceSub, Nat.reduceLeDiff, Nat.reduceLT, reduceIte, reduceCtorEq, Int.reduceBNe, Int.reduceBEq])
  simp only [cRd, ↓R1, R2, R3, R4, R5, Nat.reduceEqDiff, Nat.reduceAdd, Nat.reduceMul, Nat.reduceSub, Nat.reduceLeDiff, Nat.reduceLT, reduceIte, reduceCtorEq, Int.reduceBNe, Int.reduceBEq]
  repeat' (first | (with_reducible rw [allocV_eq]) | (refine gdV_split (fun hc => ?_) (fun hc => ?_) <;> (try simp only [hc, ↓R1, R2, R3, R4, R5, Nat.reduceEqDiff, Nat.reduceAdd, Nat.reduceMul, Nat.reduceSub, Nat.reduceLeDiff, Nat.reduceLT, reduceIte, reduceCtorEq, Int.reduceBNe, Int.reduceBEq])) | ((first | refine condV_split (fun hc => ?_) (fun hc => ?_) | (with_reducible intro β hβ; (try simp only [St.box_noneA, St.tip_noneA, St.tip_set, St.box_tip, St.box_lp, St.tip_lp] at hβ); (repeat (obtain ⟨⟨_, _⟩, hβ⟩ := hβ)); (try (have hbis := apart_is (by assumption) hβ; obtain ⟨_, _⟩ := hbis)))) <;> (try simp only [↓R1, R2, R3, R4, R5, Nat.reduceEqDiff, Nat.reduceAdd, Nat.reduceMul, Nat.reduceSub, Nat.reduceLeDiff, Nat.reduceLT, reduceIte, reduceCtorEq, Int.reduceBNe, Int.reduceBEq])) | (with_reducible refine And.intro ?_ ?_; (focus (first | omega | (intros; (repeat' (with_reducible apply And.intro)) <;> first | omega | (simp only [List.length_append, List.length_cons, List.length_nil]; omega))))) | (with_reducible apply And.intro) | ((first | refine Pu.to (hz) (wkL_refl _) ?_ | refine callDV_pu (hz) (wkL_refl _) ?_); (try simp only [↓R1, R2, R3, R4, R5, Nat.reduceEqDiff, Nat.reduceAdd, Nat.reduceMul, Nat.reduceSub, Nat.reduceLeDiff, Nat.reduceLT, reduceIte, reduceCtorEq, Int.reduceBNe, Int.reduceBEq])) | (refine Bx.to (hu) (wkL_refl _) ?_; intro β hβ; (try simp only [St.box_noneA, St.tip_noneA, St.tip_set, St.box_tip, St.box_lp, St.tip_lp] at hβ); (repeat (obtain ⟨⟨_, _⟩, hβ⟩ := hβ)); (try (have hbis := apart_is (by assumption) hβ; obtain ⟨_, _⟩ := hbis)); (try simp only [↓R1, R2, R3, R4, R5, Nat.reduceEqDiff, Nat.reduceAdd, Nat.reduceMul, Nat.reduceSub, Nat.reduceLeDiff, Nat.reduceLT, reduceIte, reduceCtorEq, Int.reduceBNe, Int.reduceBEq])))
  refine AC.mono (p85 _ β r (St.box_same _ _ _)) ?_
  rintro _ _ ⟨rfl, rfl⟩
  simp only [↓R1, R2, R3, R4, R5, Nat.reduceEqDiff, Nat.reduceAdd, Nat.reduceMul, Nat.reduceSub, Nat.reduceLeDiff, Nat.reduceLT, reduceIte, reduceCtorEq, Int.reduceBNe, Int.reduceBEq]
  refine condV_split (fun hc => ?_) (fun hc => ?_)
  · have he : (r.e == 0) = false := by simpa using hc
    have ht : takeR r n = r := by simp only [takeR, he, cond_false]
    have hs : takeS r n = [] := by simp only [takeS, he, cond_false]
    rw [ht, hs]
    simp only [↓R1, R2, R3, R4, R5, Nat.reduceEqDiff, Nat.reduceAdd, Nat.reduceMul, Nat.reduceSub, Nat.reduceLeDiff, Nat.reduceLT, reduceIte, reduceCtorEq, Int.reduceBNe, Int.reduceBEq]
    repeat' (first | (with_reducible rw [allocV_eq]) | (refine gdV_split (fun hc => ?_) (fun hc => ?_) <;> (try simp only [hc, ↓R1, R2, R3, R4, R5, Nat.reduceEqDiff, Nat.reduceAdd, Nat.reduceMul, Nat.reduceSub, Nat.reduceLeDiff, Nat.reduceLT, reduceIte, reduceCtorEq, Int.reduceBNe, Int.reduceBEq])) | ((first | refine condV_split (fun hc => ?_) (fun hc => ?_) | (with_reducible intro β hβ; (try simp only [St.box_noneA, St.tip_noneA, St.tip_set, St.box_tip, St.box_lp, St.tip_lp] at hβ); (repeat (obtain ⟨⟨_, _⟩, hβ⟩ := hβ)); (try (have hbis := apart_is (by assumption) hβ; obtain ⟨_, _⟩ := hbis)))) <;> (try simp only [↓R1, R2, R3, R4, R5, Nat.reduceEqDiff, Nat.reduceAdd, Nat.reduceMul, Nat.reduceSub, Nat.reduceLeDiff, Nat.reduceLT, reduceIte, reduceCtorEq, Int.reduceBNe, Int.reduceBEq])) | (with_reducible refine And.intro ?_ ?_; (focus (first | omega | (intros; (repeat' (with_reducible apply And.intro)) <;> first | omega | (simp only [List.length_append, List.length_cons, List.length_nil]; omega))))) | (with_reducible apply And.intro))
    (refine endP_pu (by simp) (by first | (simp [rvsS, rvS]; done) | (simp only [rvsS, rvS, ↓R1, R2, R3, R4, R5, Nat.reduceEqDiff, Nat.reduceAdd, Nat.reduceMul, Nat.reduceSub, Nat.reduceLeDiff, Nat.reduceLT, reduceIte, reduceCtorEq, Int.reduceBNe, Int.reduceBEq]; try simp)) (wk_of_eq ?_) (by (repeat (first | exact St.le_refl _ | (refine St.le_new ?_ (by assumption)) | (refine St.le_newT ?_ (by assumption))))))
    (simp only [resAV, rvV, List.map_cons, List.map_nil, ↓R1, R2, R3, R4, R5, Nat.reduceEqDiff, Nat.reduceAdd, Nat.reduceMul, Nat.reduceSub, Nat.reduceLeDiff, Nat.reduceLT, reduceIte, reduceCtorEq, Int.reduceBNe, Int.reduceBEq])
    rfl
  · simp only [↓R1, R2, R3, R4, R5, Nat.reduceEqDiff, Nat.reduceAdd, Nat.reduceMul, Nat.reduceSub, Nat.reduceLeDiff, Nat.reduceLT, reduceIte, reduceCtorEq, Int.reduceBNe, Int.reduceBEq]
    refine AC.mono (p86 _ β r n (by omega) ho (St.box_same _ _ _)) ?_
    rintro _ _ ⟨rfl, rfl⟩
    simp only [cRd, ↓R1, R2, R3, R4, R5, Nat.reduceEqDiff, Nat.reduceAdd, Nat.reduceMul, Nat.reduceSub, Nat.reduceLeDiff, Nat.reduceLT, reduceIte, reduceCtorEq, Int.reduceBNe, Int.reduceBEq]
    repeat' (first | (with_reducible rw [allocV_eq]) | (refine gdV_split (fun hc => ?_) (fun hc => ?_) <;> (try simp only [hc, ↓R1, R2, R3, R4, R5, Nat.reduceEqDiff, Nat.reduceAdd, Nat.reduceMul, Nat.reduceSub, Nat.reduceLeDiff, Nat.reduceLT, reduceIte, reduceCtorEq, Int.reduceBNe, Int.reduceBEq])) | ((first | refine condV_split (fun hc => ?_) (fun hc => ?_) | (with_reducible intro β hβ; (try simp only [St.box_noneA, St.tip_noneA, St.tip_set, St.box_tip, St.box_lp, St.tip_lp] at hβ); (repeat (obtain ⟨⟨_, _⟩, hβ⟩ := hβ)); (try (have hbis := apart_is (by assumption) hβ; obtain ⟨_, _⟩ := hbis)))) <;> (try simp only [↓R1, R2, R3, R4, R5, Nat.reduceEqDiff, Nat.reduceAdd, Nat.reduceMul, Nat.reduceSub, Nat.reduceLeDiff, Nat.reduceLT, reduceIte, reduceCtorEq, Int.reduceBNe, Int.reduceBEq])) | (with_reducible refine And.intro ?_ ?_; (focus (first | omega | (intros; (repeat' (with_reducible apply And.intro)) <;> first | omega | (simp only [List.length_append, List.length_cons, List.length_nil]; omega))))) | (with_reducible apply And.intro) | ((first | refine Pu.to (hnum) (wkL_refl _) ?_ | refine callDV_pu (hnum) (wkL_refl _) ?_); (try simp only [↓R1, R2, R3, R4, R5, Nat.reduceEqDiff, Nat.reduceAdd, Nat.reduceMul, Nat.reduceSub, Nat.reduceLeDiff, Nat.reduceLT, reduceIte, reduceCtorEq, Int.reduceBNe, Int.reduceBEq])))
    (refine endP_pu (by simp) (by first | (simp [rvsS, rvS]; done) | (simp only [rvsS, rvS, ↓R1, R2, R3, R4, R5, Nat.reduceEqDiff, Nat.reduceAdd, Nat.reduceMul, Nat.reduceSub, Nat.reduceLeDiff, Nat.reduceLT, reduceIte, reduceCtorEq, Int.reduceBNe, Int.reduceBEq]; try simp)) (wk_of_eq ?_) (by (repeat (first | exact St.le_refl _ | (refine St.le_new ?_ (by assumption)) | (refine St.le_newT ?_ (by assumption))))))
    (simp only [resAV, rvV, List.map_cons, List.map_nil, ↓R1, R2, R3, R4, R5, Nat.reduceEqDiff, Nat.reduceAdd, Nat.reduceMul, Nat.reduceSub, Nat.reduceLeDiff, Nat.reduceLT, reduceIte, reduceCtorEq, Int.reduceBNe, Int.reduceBEq])
    rfl
theorem p49 (r : Rd) (ho : r.Ok) : Pu Tryd.prog 49 [.agg (cRd r), .int .i64 11, .int .i64 8] (.agg (cRd (failR r 11 (min 8 r.s.length)))) := by
  have hu := p68 r ho
  have hm : (if (r.s.length : Int) < (if (0 : Int) > 8 then (0 : Int) else 8) then (r.s.length : Int) else (if (0 : Int) > 8 then (0 : Int) else 8)) = ((min 8 r.s.length : Nat) : Int) := by
    rw [if_neg (by decide : ¬ (0 : Int) > 8)]; split <;> omega
  simp only [cRd] at hu
  (refine Pu_intro c49 b49 (Nat.le_of_ble_eq_true rfl) fun σ => ?_; simp only [c49, ↓R1, R2, R3, R4, R5, Nat.reduceEqDiff, Nat.reduceAdd, Nat.reduceMul, Nat.reduceSub, Nat.reduceLeDiff, Nat.reduceLT, reduceIte, reduceCtorEq, Int.reduceBNe, Int.reduceBEq])
  simp only [cRd, ↓R1, R2, R3, R4, R5, Nat.reduceEqDiff, Nat.reduceAdd, Nat.reduceMul, Nat.reduceSub, Nat.reduceLeDiff, Nat.reduceLT, reduceIte, reduceCtorEq, Int.reduceBNe, Int.reduceBEq]
  repeat' (first | (with_reducible rw [allocV_eq]) | (refine gdV_split (fun hc => ?_) (fun hc => ?_) <;> (try simp only [hc, ↓R1, R2, R3, R4, R5, Nat.reduceEqDiff, Nat.reduceAdd, Nat.reduceMul, Nat.reduceSub, Nat.reduceLeDiff, Nat.reduceLT, reduceIte, reduceCtorEq, Int.reduceBNe, Int.reduceBEq])) | ((first | refine condV_split (fun hc => ?_) (fun hc => ?_) | (with_reducible intro β hβ; (try simp only [St.box_noneA, St.tip_noneA, St.tip_set, St.box_tip, St.box_lp, St.tip_lp] at hβ); (repeat (obtain ⟨⟨_, _⟩, hβ⟩ := hβ)); (try (have hbis := apart_is (by assumption) hβ; obtain ⟨_, _⟩ := hbis)))) <;> (try simp only [↓R1, R2, R3, R4, R5, Nat.reduceEqDiff, Nat.reduceAdd, Nat.reduceMul, Nat.reduceSub, Nat.reduceLeDiff, Nat.reduceLT, reduceIte, reduceCtorEq, Int.reduceBNe, Int.reduceBEq])) | (with_reducible refine And.intro ?_ ?_; (focus (first | omega | (intros; (repeat' (with_reducible apply And.intro)) <;> first | omega | (simp only [List.length_append, List.length_cons, List.length_nil]; omega))))) | (with_reducible apply And.intro) | (refine Bx.to (hu) (wkL_refl _) ?_; intro β hβ; (try simp only [St.box_noneA, St.tip_noneA, St.tip_set, St.box_tip, St.box_lp, St.tip_lp] at hβ); (repeat (obtain ⟨⟨_, _⟩, hβ⟩ := hβ)); (try (have hbis := apart_is (by assumption) hβ; obtain ⟨_, _⟩ := hbis)); (try simp only [↓R1, R2, R3, R4, R5, Nat.reduceEqDiff, Nat.reduceAdd, Nat.reduceMul, Nat.reduceSub, Nat.reduceLeDiff, Nat.reduceLT, reduceIte, reduceCtorEq, Int.reduceBNe, Int.reduceBEq])))
  · exfalso; revert hc; decide
  rw [hm]
  refine AC.mono (p69 _ β r 11 (min 8 r.s.length) (St.box_same _ _ _)) ?_
  rintro _ _ rfl
  simp only [cRd, ↓R1, R2, R3, R4, R5, Nat.reduceEqDiff, Nat.reduceAdd, Nat.reduceMul, Nat.reduceSub, Nat.reduceLeDiff, Nat.reduceLT, reduceIte, reduceCtorEq, Int.reduceBNe, Int.reduceBEq]
  (refine endP_pu (by simp) (by first | (simp [rvsS, rvS]; done) | (simp only [rvsS, rvS, ↓R1, R2, R3, R4, R5, Nat.reduceEqDiff, Nat.reduceAdd, Nat.reduceMul, Nat.reduceSub, Nat.reduceLeDiff, Nat.reduceLT, reduceIte, reduceCtorEq, Int.reduceBNe, Int.reduceBEq]; try simp)) (wk_of_eq ?_) (by (repeat (first | exact St.le_refl _ | (refine St.le_new ?_ (by assumption)) | (refine St.le_newT ?_ (by assumption))))))
  (simp only [resAV, rvV, List.map_cons, List.map_nil, ↓R1, R2, R3, R4, R5, Nat.reduceEqDiff, Nat.reduceAdd, Nat.reduceMul, Nat.reduceSub, Nat.reduceLeDiff, Nat.reduceLT, reduceIte, reduceCtorEq, Int.reduceBNe, Int.reduceBEq])
def endR (r : Rd) : Rd := bif decide (r.at_ < r.s.length) then failR r 4 r.at_ else r
theorem p50 (r : Rd) (ho : r.Ok) : Pu Tryd.prog 50 [.agg (cRd r)] (.agg [.int .i64 (endR r).e, .int .i64 (endR r).fa]) := by
  have hu := p68 r ho
  have hlt : decide ((r.at_ : Int) < (r.s.length : Int)) = decide (r.at_ < r.s.length) := by simp
  simp only [cRd] at hu
  (refine Pu_intro c50 b50 (Nat.le_of_ble_eq_true rfl) fun σ => ?_; simp only [c50, ↓R1, R2, R3, R4, R5, Nat.reduceEqDiff, Nat.reduceAdd, Nat.reduceMul, Nat.reduceSub, Nat.reduceLeDiff, Nat.reduceLT, reduceIte, reduceCtorEq, Int.reduceBNe, Int.reduceBEq])
  simp only [cRd, ↓R1, R2, R3, R4, R5, Nat.reduceEqDiff, Nat.reduceAdd, Nat.reduceMul, Nat.reduceSub, Nat.reduceLeDiff, Nat.reduceLT, reduceIte, reduceCtorEq, Int.reduceBNe, Int.reduceBEq]
  repeat' (first | (with_reducible rw [allocV_eq]) | (refine gdV_split (fun hc => ?_) (fun hc => ?_) <;> (try simp only [hc, ↓R1, R2, R3, R4, R5, Nat.reduceEqDiff, Nat.reduceAdd, Nat.reduceMul, Nat.reduceSub, Nat.reduceLeDiff, Nat.reduceLT, reduceIte, reduceCtorEq, Int.reduceBNe, Int.reduceBEq])) | ((first | refine condV_split (fun hc => ?_) (fun hc => ?_) | (with_reducible intro β hβ; (try simp only [St.box_noneA, St.tip_noneA, St.tip_set, St.box_tip, St.box_lp, St.tip_lp] at hβ); (repeat (obtain ⟨⟨_, _⟩, hβ⟩ := hβ)); (try (have hbis := apart_is (by assumption) hβ; obtain ⟨_, _⟩ := hbis)))) <;> (try simp only [↓R1, R2, R3, R4, R5, Nat.reduceEqDiff, Nat.reduceAdd, Nat.reduceMul, Nat.reduceSub, Nat.reduceLeDiff, Nat.reduceLT, reduceIte, reduceCtorEq, Int.reduceBNe, Int.reduceBEq])) | (with_reducible refine And.intro ?_ ?_; (focus (first | omega | (intros; (repeat' (with_reducible apply And.intro)) <;> first | omega | (simp only [List.length_append, List.length_cons, List.length_nil]; omega))))) | (with_reducible apply And.intro) | (refine Bx.to (hu) (wkL_refl _) ?_; intro β hβ; (try simp only [St.box_noneA, St.tip_noneA, St.tip_set, St.box_tip, St.box_lp, St.tip_lp] at hβ); (repeat (obtain ⟨⟨_, _⟩, hβ⟩ := hβ)); (try (have hbis := apart_is (by assumption) hβ; obtain ⟨_, _⟩ := hbis)); (try simp only [↓R1, R2, R3, R4, R5, Nat.reduceEqDiff, Nat.reduceAdd, Nat.reduceMul, Nat.reduceSub, Nat.reduceLeDiff, Nat.reduceLT, reduceIte, reduceCtorEq, Int.reduceBNe, Int.reduceBEq])))
  · have he : endR r = failR r 4 r.at_ := by rw [hlt] at hc; simp only [endR, hc, cond_true]
    refine AC.mono (p69 _ β r 4 r.at_ (St.box_same _ _ _)) ?_
    rintro _ _ rfl
    rw [he]
    simp only [cRd, ↓R1, R2, R3, R4, R5, Nat.reduceEqDiff, Nat.reduceAdd, Nat.reduceMul, Nat.reduceSub, Nat.reduceLeDiff, Nat.reduceLT, reduceIte, reduceCtorEq, Int.reduceBNe, Int.reduceBEq]
    (refine endP_pu (by simp) (by first | (simp [rvsS, rvS]; done) | (simp only [rvsS, rvS, ↓R1, R2, R3, R4, R5, Nat.reduceEqDiff, Nat.reduceAdd, Nat.reduceMul, Nat.reduceSub, Nat.reduceLeDiff, Nat.reduceLT, reduceIte, reduceCtorEq, Int.reduceBNe, Int.reduceBEq]; try simp)) (wk_of_eq ?_) (by (repeat (first | exact St.le_refl _ | (refine St.le_new ?_ (by assumption)) | (refine St.le_newT ?_ (by assumption))))))
    (simp only [resAV, rvV, List.map_cons, List.map_nil, ↓R1, R2, R3, R4, R5, Nat.reduceEqDiff, Nat.reduceAdd, Nat.reduceMul, Nat.reduceSub, Nat.reduceLeDiff, Nat.reduceLT, reduceIte, reduceCtorEq, Int.reduceBNe, Int.reduceBEq])
  · have he : endR r = r := by rw [hlt] at hc; simp only [endR, hc, cond_false]
    rw [he]
    (refine endP_pu (by simp) (by first | (simp [rvsS, rvS]; done) | (simp only [rvsS, rvS, ↓R1, R2, R3, R4, R5, Nat.reduceEqDiff, Nat.reduceAdd, Nat.reduceMul, Nat.reduceSub, Nat.reduceLeDiff, Nat.reduceLT, reduceIte, reduceCtorEq, Int.reduceBNe, Int.reduceBEq]; try simp)) (wk_of_eq ?_) (by (repeat (first | exact St.le_refl _ | (refine St.le_new ?_ (by assumption)) | (refine St.le_newT ?_ (by assumption))))))
    (simp only [resAV, rvV, List.map_cons, List.map_nil, ↓R1, R2, R3, R4, R5, Nat.reduceEqDiff, Nat.reduceAdd, Nat.reduceMul, Nat.reduceSub, Nat.reduceLeDiff, Nat.reduceLT, reduceIte, reduceCtorEq, Int.reduceBNe, Int.reduceBEq])
theorem p48 (σ : St) (β : Nat) (r : Rd) (n : Nat) (l k v : Int) (ho : r.Ok) (hn : n = 1 ∨ n = 8) (h : σ.box β = some [.str r.s, .int .i64 r.at_, .int .i64 r.e, .int .i64 r.fa, .int .u64 l, .int .i64 k, .int .i64 v]) :
    AC Tryd.prog 48 [.ptr β 0, .int .i64 (n : Nat)] σ (fun x s => x = .int .u64 (numV (takeS r n)).toNat ∧ s = σ.setBox β [.str (takeR r n).s, .int .i64 (takeR r n).at_, .int .i64 (takeR r n).e, .int .i64 (takeR r n).fa, .int .u64 l, .int .i64 k, .int .i64 v]) := by
  have hu := p67 r n ho hn
  have hbi : BoxIs σ β _ := ⟨h⟩
  simp only [cRd] at hu
  (refine AC_intro c48 b48 (Nat.le_of_ble_eq_true rfl) ?_; simp only [c48, ↓R1, R2, R3, R4, R5, Nat.reduceEqDiff, Nat.reduceAdd, Nat.reduceMul, Nat.reduceSub, Nat.reduceLeDiff, Nat.reduceLT, reduceIte, reduceCtorEq, Int.reduceBNe, Int.reduceBEq])
  repeat' (first | (with_reducible rw [allocV_eq]) | (refine gdV_split (fun hc => ?_) (fun hc => ?_) <;> (try simp only [hc, ↓R1, R2, R3, R4, R5, Nat.reduceEqDiff, Nat.reduceAdd, Nat.reduceMul, Nat.reduceSub, Nat.reduceLeDiff, Nat.reduceLT, reduceIte, reduceCtorEq, Int.reduceBNe, Int.reduceBEq])) | ((first | refine condV_split (fun hc => ?_) (fun hc => ?_) | (with_reducible intro β hβ; (try simp only [St.box_noneA, St.tip_noneA, St.tip_set, St.box_tip, St.box_lp, St.tip_lp] at hβ); (repeat (obtain ⟨⟨_, _⟩, hβ⟩ := hβ)); (try (have hbis := apart_is (by assumption) hβ; obtain ⟨_, _⟩ := hbis)))) <;> (try simp only [↓R1, R2, R3, R4, R5, Nat.reduceEqDiff, Nat.reduceAdd, Nat.reduceMul, Nat.reduceSub, Nat.reduceLeDiff, Nat.reduceLT, reduceIte, reduceCtorEq, Int.reduceBNe, Int.reduceBEq])) | (with_reducible refine And.intro ?_ ?_; (focus (first | omega | (intros; (repeat' (with_reducible apply And.intro)) <;> first | omega | (simp only [List.length_append, List.length_cons, List.length_nil]; omega))))) | (with_reducible apply And.intro) | ((first | refine Pu.to (hu) (wkL_refl _) ?_ | refine callDV_pu (hu) (wkL_refl _) ?_); (try simp only [↓R1, R2, R3, R4, R5, Nat.reduceEqDiff, Nat.reduceAdd, Nat.reduceMul, Nat.reduceSub, Nat.reduceLeDiff, Nat.reduceLT, reduceIte, reduceCtorEq, Int.reduceBNe, Int.reduceBEq])))
  refine endP_intro (by simp) (by first | (simp [rvsS, rvS]; done) | (simp only [rvsS, rvS, ↓R1, R2, R3, R4, R5, Nat.reduceEqDiff, Nat.reduceAdd, Nat.reduceMul, Nat.reduceSub, Nat.reduceLeDiff, Nat.reduceLT, reduceIte, reduceCtorEq, Int.reduceBNe, Int.reduceBEq]; try simp)) (wk_refl _) (St.le_under (by assumption) hβ) ⟨?_, rfl⟩
  (simp only [resAV, rvV, List.map_cons, List.map_nil, ↓R1, R2, R3, R4, R5, Nat.reduceEqDiff, Nat.reduceAdd, Nat.reduceMul, Nat.reduceSub, Nat.reduceLeDiff, Nat.reduceLT, reduceIte, reduceCtorEq, Int.reduceBNe, Int.reduceBEq])
end Go.Proofs.YtnmlhilckjmhnaaDoor
namespace Go.Proofs.YtnmlhilckjmhnaaDoor
open Go.Abs Go.Lib
set_option linter.all false
set_option maxRecDepth 100000
def rd0 (s : List UInt8) : Rd := ⟨s, 0, 0, 0⟩
def rd1 (s : List UInt8) : Rd := takeR (rd0 s) 8
def rd2 (s : List UInt8) : Rd := takeR (rd1 s) 1
def kindB (s : List UInt8) : Int := IntKind.i64.wrap ((numV (takeS (rd1 s) 1)).toNat : Int)
def rd3 (s : List UInt8) : Rd := bif checkE (kindB s) == 0 then rd2 s else failR (rd2 s) 11 (min 8 s.length)
def rd4 (s : List UInt8) : Rd := takeR (rd3 s) 8
def parE (s : List UInt8) : List AV := bif (endR (rd4 s)).e == 0 then [.int .u64 (numV (takeS (rd0 s) 8)).toNat, .int .i64 (kindB s), .int .i64 (IntKind.i64.wrap ((numV (takeS (rd3 s) 8)).toNat : Int))] else [.int .u64 0, .int .i64 0, .int .i64 0]
def parF (s : List UInt8) : List AV := bif (endR (rd4 s)).e == 0 then [.int .i64 0, .int .i64 0] else [.int .i64 (endR (rd4 s)).e, .int .i64 (endR (rd4 s)).fa]
set_option maxHeartbeats 4000000 in
theorem p23 (s : List UInt8) (hs : s.length ≤ 1000) : Pu Tryd.prog 23 [.str s] (.tup [.agg (parE s), .agg (parF s)]) := by
  have o0 : (rd0 s).Ok := ⟨by simp only [rd0]; omega, by simp [rd0], by simp [rd0], by simp [rd0], fun _ => rfl⟩
  have o1 : (rd1 s).Ok := takeR_ok o0 8
  have o2 : (rd2 s).Ok := takeR_ok o1 1
  have o3 : (rd3 s).Ok := by
    unfold rd3
    cases (checkE (kindB s) == 0)
    · exact failR_ok o2 11 _ (by omega) (by simp only [rd2, rd1, takeR_s, rd0]; omega)
    · exact o2
  have o4 : (rd4 s).Ok := takeR_ok o3 8
  have hr := p47 s
  have hE := p50 (rd4 s) o4
  have hF := p49 (rd2 s) o2
  have hC := p25 (numV (takeS (rd0 s) 8)).toNat (kindB s) 0
  have hs2 : (rd2 s).s = s := by simp only [rd2, rd1, takeR_s]; rfl
  rw [hs2] at hF
  have hb : (rd3 s = failR (rd2 s) 11 (min 8 s.length) ∧ checkE (kindB s) ≠ 0) ∨ (rd3 s = rd2 s ∧ checkE (kindB s) = 0) := by
    unfold rd3
    by_cases h : checkE (kindB s) = 0
    · right; simp [h]
    · left
      have : (checkE (kindB s) == 0) = false := by simpa using h
      simp [this, h]
  simp only [cRd] at hr hE hF
  (refine Pu_intro c23 b23 (Nat.le_of_ble_eq_true rfl) fun σ => ?_; simp only [c23, ↓R1, R2, R3, R4, R5, Nat.reduceEqDiff, Nat.reduceAdd, Nat.reduceMul, Nat.reduceSub, Nat.reduceLeDiff, Nat.reduceLT, reduceIte, reduceCtorEq, Int.reduceBNe, Int.reduceBEq])
  repeat' (first | (with_reducible rw [allocV_eq]) | (refine gdV_split (fun hc => ?_) (fun hc => ?_) <;> (try simp only [hc, ↓R1, R2, R3, R4, R5, Nat.reduceEqDiff, Nat.reduceAdd, Nat.reduceMul, Nat.reduceSub, Nat.reduceLeDiff, Nat.reduceLT, reduceIte, reduceCtorEq, Int.reduceBNe, Int.reduceBEq])) | ((first | refine condV_split (fun hc => ?_) (fun hc => ?_) | (with_reducible intro β hβ; (try simp only [St.box_noneA, St.tip_noneA, St.tip_set, St.box_tip, St.box_lp, St.tip_lp] at hβ); (repeat (obtain ⟨⟨_, _⟩, hβ⟩ := hβ)); (try (have hbis := apart_is (by assumption) hβ; obtain ⟨_, _⟩ := hbis)))) <;> (try simp only [↓R1, R2, R3, R4, R5, Nat.reduceEqDiff, Nat.reduceAdd, Nat.reduceMul, Nat.reduceSub, Nat.reduceLeDiff, Nat.reduceLT, reduceIte, reduceCtorEq, Int.reduceBNe, Int.reduceBEq])) | (with_reducible refine And.intro ?_ ?_; (focus (first | omega | (intros; (repeat' (with_reducible apply And.intro)) <;> first | omega | (simp only [List.length_append, List.length_cons, List.length_nil]; omega))))) | (with_reducible apply And.intro) | ((first | refine Pu.to (hr) (wkL_refl _) ?_ | refine callDV_pu (hr) (wkL_refl _) ?_); (try simp only [↓R1, R2, R3, R4, R5, Nat.reduceEqDiff, Nat.reduceAdd, Nat.reduceMul, Nat.reduceSub, Nat.reduceLeDiff, Nat.reduceLT, reduceIte, reduceCtorEq, Int.reduceBNe, Int.reduceBEq])))
  refine AC.mono (p48 _ β (rd0 s) 8 0 0 0 o0 (.inr rfl) (St.box_same _ _ _)) ?_
  rintro _ _ ⟨rfl, rfl⟩
  simp only [↓R1, R2, R3, R4, R5, Nat.reduceEqDiff, Nat.reduceAdd, Nat.reduceMul, Nat.reduceSub, Nat.reduceLeDiff, Nat.reduceLT, reduceIte, reduceCtorEq, Int.reduceBNe, Int.reduceBEq]
  rw [show takeR (rd0 s) 8 = rd1 s from rfl]
  refine AC.mono (p48 _ β (rd1 s) 1 _ 0 0 o1 (.inl rfl) (St.box_same _ _ _)) ?_
  rintro _ _ ⟨rfl, rfl⟩
  rw [show takeR (rd1 s) 1 = rd2 s from rfl]
  simp only [↓R1, R2, R3, R4, R5, Nat.reduceEqDiff, Nat.reduceAdd, Nat.reduceMul, Nat.reduceSub, Nat.reduceLeDiff, Nat.reduceLT, reduceIte, reduceCtorEq, Int.reduceBNe, Int.reduceBEq]
  rw [show IntKind.i64.wrap ((numV (takeS (rd1 s) 1)).toNat : Int) = kindB s from rfl]
  repeat' (first | (with_reducible rw [allocV_eq]) | (refine gdV_split (fun hc => ?_) (fun hc => ?_) <;> (try simp only [hc, ↓R1, R2, R3, R4, R5, Nat.reduceEqDiff, Nat.reduceAdd, Nat.reduceMul, Nat.reduceSub, Nat.reduceLeDiff, Nat.reduceLT, reduceIte, reduceCtorEq, Int.reduceBNe, Int.reduceBEq])) | ((first | refine condV_split (fun hc => ?_) (fun hc => ?_) | (with_reducible intro β hβ; (try simp only [St.box_noneA, St.tip_noneA, St.tip_set, St.box_tip, St.box_lp, St.tip_lp] at hβ); (repeat (obtain ⟨⟨_, _⟩, hβ⟩ := hβ)); (try (have hbis := apart_is (by assumption) hβ; obtain ⟨_, _⟩ := hbis)))) <;> (try simp only [↓R1, R2, R3, R4, R5, Nat.reduceEqDiff, Nat.reduceAdd, Nat.reduceMul, Nat.reduceSub, Nat.reduceLeDiff, Nat.reduceLT, reduceIte, reduceCtorEq, Int.reduceBNe, Int.reduceBEq])) | (with_reducible refine And.intro ?_ ?_; (focus (first | omega | (intros; (repeat' (with_reducible apply And.intro)) <;> first | omega | (simp only [List.length_append, List.length_cons, List.length_nil]; omega))))) | (with_reducible apply And.intro) | ((first | refine Pu.to (hC) (wkL_refl _) ?_ | refine callDV_pu (hC) (wkL_refl _) ?_); (try simp only [↓R1, R2, R3, R4, R5, Nat.reduceEqDiff, Nat.reduceAdd, Nat.reduceMul, Nat.reduceSub, Nat.reduceLeDiff, Nat.reduceLT, reduceIte, reduceCtorEq, Int.reduceBNe, Int.reduceBEq])))
  · obtain ⟨h3, _⟩ : rd3 s = failR (rd2 s) 11 (min 8 s.length) ∧ checkE (kindB s) ≠ 0 := by
      rcases hb with h | h
      · exact h
      · rw [h.2] at hc; simp at hc
    rw [← h3] at hF
    repeat' (first | (with_reducible rw [allocV_eq]) | (refine gdV_split (fun hc => ?_) (fun hc => ?_) <;> (try simp only [hc, ↓R1, R2, R3, R4, R5, Nat.reduceEqDiff, Nat.reduceAdd, Nat.reduceMul, Nat.reduceSub, Nat.reduceLeDiff, Nat.reduceLT, reduceIte, reduceCtorEq, Int.reduceBNe, Int.reduceBEq])) | ((first | refine condV_split (fun hc => ?_) (fun hc => ?_) | (with_reducible intro β hβ; (try simp only [St.box_noneA, St.tip_noneA, St.tip_set, St.box_tip, St.box_lp, St.tip_lp] at hβ); (repeat (obtain ⟨⟨_, _⟩, hβ⟩ := hβ)); (try (have hbis := apart_is (by assumption) hβ; obtain ⟨_, _⟩ := hbis)))) <;> (try simp only [↓R1, R2, R3, R4, R5, Nat.reduceEqDiff, Nat.reduceAdd, Nat.reduceMul, Nat.reduceSub, Nat.reduceLeDiff, Nat.reduceLT, reduceIte, reduceCtorEq, Int.reduceBNe, Int.reduceBEq])) | (with_reducible refine And.intro ?_ ?_; (focus (first | omega | (intros; (repeat' (with_reducible apply And.intro)) <;> first | omega | (simp only [List.length_append, List.length_cons, List.length_nil]; omega))))) | (with_reducible apply And.intro) | ((first | refine Pu.to (hF) (wkL_refl _) ?_ | refine callDV_pu (hF) (wkL_refl _) ?_); (try simp only [↓R1, R2, R3, R4, R5, Nat.reduceEqDiff, Nat.reduceAdd, Nat.reduceMul, Nat.reduceSub, Nat.reduceLeDiff, Nat.reduceLT, reduceIte, reduceCtorEq, Int.reduceBNe, Int.reduceBEq])))
    refine AC.mono (p48 _ β (rd3 s) 8 _ _ _ o3 (.inr rfl) (St.box_same _ _ _)) ?_
    rintro _ _ ⟨rfl, rfl⟩
    rw [show takeR (rd3 s) 8 = rd4 s from rfl]
    simp only [↓R1, R2, R3, R4, R5, Nat.reduceEqDiff, Nat.reduceAdd, Nat.reduceMul, Nat.reduceSub, Nat.reduceLeDiff, Nat.reduceLT, reduceIte, reduceCtorEq, Int.reduceBNe, Int.reduceBEq]
    repeat' (first | (with_reducible rw [allocV_eq]) | (refine gdV_split (fun hc => ?_) (fun hc => ?_) <;> (try simp only [hc, ↓R1, R2, R3, R4, R5, Nat.reduceEqDiff, Nat.reduceAdd, Nat.reduceMul, Nat.reduceSub, Nat.reduceLeDiff, Nat.reduceLT, reduceIte, reduceCtorEq, Int.reduceBNe, Int.reduceBEq])) | ((first | refine condV_split (fun hc => ?_) (fun hc => ?_) | (with_reducible intro β hβ; (try simp only [St.box_noneA, St.tip_noneA, St.tip_set, St.box_tip, St.box_lp, St.tip_lp] at hβ); (repeat (obtain ⟨⟨_, _⟩, hβ⟩ := hβ)); (try (have hbis := apart_is (by assumption) hβ; obtain ⟨_, _⟩ := hbis)))) <;> (try simp only [↓R1, R2, R3, R4, R5, Nat.reduceEqDiff, Nat.reduceAdd, Nat.reduceMul, Nat.reduceSub, Nat.reduceLeDiff, Nat.reduceLT, reduceIte, reduceCtorEq, Int.reduceBNe, Int.reduceBEq])) | (with_reducible refine And.intro ?_ ?_; (focus (first | omega | (intros; (repeat' (with_reducible apply And.intro)) <;> first | omega | (simp only [List.length_append, List.length_cons, List.length_nil]; omega))))) | (with_reducible apply And.intro) | ((first | refine Pu.to (hE) (wkL_refl _) ?_ | refine callDV_pu (hE) (wkL_refl _) ?_); (try simp only [↓R1, R2, R3, R4, R5, Nat.reduceEqDiff, Nat.reduceAdd, Nat.reduceMul, Nat.reduceSub, Nat.reduceLeDiff, Nat.reduceLT, reduceIte, reduceCtorEq, Int.reduceBNe, Int.reduceBEq])))
    all_goals (first
      | (have hz : ((endR (rd4 s)).e == 0) = false := by simpa [bne] using hc
         simp only [parE, parF, hz, cond_false])
      | (have hz : ((endR (rd4 s)).e == 0) = true := by simpa [bne] using hc
         simp only [parE, parF, hz, cond_true]))
    all_goals (refine endP_pu (by simp) (by first | (simp [rvsS, rvS]; done) | (simp only [rvsS, rvS, ↓R1, R2, R3, R4, R5, Nat.reduceEqDiff, Nat.reduceAdd, Nat.reduceMul, Nat.reduceSub, Nat.reduceLeDiff, Nat.reduceLT, reduceIte, reduceCtorEq, Int.reduceBNe, Int.reduceBEq]; try simp)) (wk_of_eq ?_) (by (repeat (first | exact St.le_refl _ | (refine St.le_new ?_ (by assumption)) | (refine St.le_newT ?_ (by assumption))))))
    all_goals (simp only [resAV, rvV, List.map_cons, List.map_nil, ↓R1, R2, R3, R4, R5, Nat.reduceEqDiff, Nat.reduceAdd, Nat.reduceMul, Nat.reduceSub, Nat.reduceLeDiff, Nat.reduceLT, reduceIte, reduceCtorEq, Int.reduceBNe, Int.reduceBEq])
  · obtain ⟨h3, _⟩ : rd3 s = rd2 s ∧ checkE (kindB s) = 0 := by
      rcases hb with h | h
      · exact (h.2 (by simpa using hc)).elim
      · exact h
    rw [← h3]
    refine AC.mono (p48 _ β (rd3 s) 8 _ _ _ o3 (.inr rfl) (St.box_same _ _ _)) ?_
    rintro _ _ ⟨rfl, rfl⟩
    rw [show takeR (rd3 s) 8 = rd4 s from rfl]
    simp only [↓R1, R2, R3, R4, R5, Nat.reduceEqDiff, Nat.reduceAdd, Nat.reduceMul, Nat.reduceSub, Nat.reduceLeDiff, Nat.reduceLT, reduceIte, reduceCtorEq, Int.reduceBNe, Int.reduceBEq]
    repeat' (first | (with_reducible rw [allocV_eq]) | (refine gdV_split (fun hc => ?_) (fun hc => ?_) <;> (try simp only [hc, ↓R1, R2, R3, R4, R5, Nat.reduceEqDiff, Nat.reduceAdd, Nat.reduceMul, Nat.reduceSub, Nat.reduceLeDiff, Nat.reduceLT, reduceIte, reduceCtorEq, Int.reduceBNe, Int.reduceBEq])) | ((first | refine condV_split (fun hc => ?_) (fun hc => ?_) | (with_reducible intro β hβ; (try simp only [St.box_noneA, St.tip_noneA, St.tip_set, St.box_tip, St.box_lp, St.tip_lp] at hβ); (repeat (obtain ⟨⟨_, _⟩, hβ⟩ := hβ)); (try (have hbis := apart_is (by assumption) hβ; obtain ⟨_, _⟩ := hbis)))) <;> (try simp only [↓R1, R2, R3, R4, R5, Nat.reduceEqDiff, Nat.reduceAdd, Nat.reduceMul, Nat.reduceSub, Nat.reduceLeDiff, Nat.reduceLT, reduceIte, reduceCtorEq, Int.reduceBNe, Int.reduceBEq])) | (with_reducible refine And.intro ?_ ?_; (focus (first | omega | (intros; (repeat' (with_reducible apply And.intro)) <;> first | omega | (simp only [List.length_append, List.length_cons, List.length_nil]; omega))))) | (with_reducible apply And.intro) | ((first | refine Pu.to (hE) (wkL_refl _) ?_ | refine callDV_pu (hE) (wkL_refl _) ?_); (try simp only [↓R1, R2, R3, R4, R5, Nat.reduceEqDiff, Nat.reduceAdd, Nat.reduceMul, Nat.reduceSub, Nat.reduceLeDiff, Nat.reduceLT, reduceIte, reduceCtorEq, Int.reduceBNe, Int.reduceBEq])))
    all_goals (first
      | (have hz : ((endR (rd4 s)).e == 0) = false := by simpa [bne] using hc
         simp only [parE, parF, hz, cond_false])
      | (have hz : ((endR (rd4 s)).e == 0) = true := by simpa [bne] using hc
         simp only [parE, parF, hz, cond_true]))
    all_goals (refine endP_pu (by simp) (by first | (simp [rvsS, rvS]; done) | (simp only [rvsS, rvS, ↓R1, R2, R3, R4, R5, Nat.reduceEqDiff, Nat.reduceAdd, Nat.reduceMul, Nat.reduceSub, Nat.reduceLeDiff, Nat.reduceLT, reduceIte, reduceCtorEq, Int.reduceBNe, Int.reduceBEq]; try simp)) (wk_of_eq ?_) (by (repeat (first | exact St.le_refl _ | (refine St.le_new ?_ (by assumption)) | (refine St.le_newT ?_ (by assumption))))))
    all_goals (simp only [resAV, rvV, List.map_cons, List.map_nil, ↓R1, R2, R3, R4, R5, Nat.reduceEqDiff, Nat.reduceAdd, Nat.reduceMul, Nat.reduceSub, Nat.reduceLeDiff, Nat.reduceLT, reduceIte, reduceCtorEq, Int.reduceBNe, Int.reduceBEq])
end Go.Proofs.YtnmlhilckjmhnaaDoor
namespace Go.Proofs.YtnmlhilckjmhnaaDoor
open Go.Abs Go.Lib
set_option linter.all false
set_option maxRecDepth 100000
theorem wrap_byte (b : UInt8) : IntKind.i64.wrap (b.toNat : Int) = (b.toNat : Int) := by
  have := b.toNat_lt; rw [wrap64 (by omega) (by omega)]
def parE' (s : List UInt8) : List AV := bif s.length == 17 && decide ((s[8]?.getD 0).toNat < 26) then [.int .u64 (numV (s.take 8)).toNat, .int .i64 (s[8]?.getD 0).toNat, .int .i64 (IntKind.i64.wrap ((numV (s.drop 9)).toNat : Int))] else [.int .u64 0, .int .i64 0, .int .i64 0]
def parF' (s : List UInt8) : List AV :=
  bif decide (s.length < 8) then [.int .i64 5, .int .i64 0] else bif decide (s.length < 9) then [.int .i64 5, .int .i64 8] else bif decide (26 ≤ (s[8]?.getD 0).toNat) then [.int .i64 11, .int .i64 8] else
  bif decide (s.length < 17) then [.int .i64 5, .int .i64 9] else bif decide (17 < s.length) then [.int .i64 4, .int .i64 17] else [.int .i64 0, .int .i64 0]
end Go.Proofs.YtnmlhilckjmhnaaDoor
