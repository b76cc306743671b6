/- Part 20 of the proof of MatchSorts: an abstract semantics that is proved sound for the model, contracts of functions in it, and plain facts (Sh17 LW3 EV2 SM1 SM2 SM3 M11 M12 M13 M14 M15 M16). No condition. -/
import Derived.Test.YtncadbcjikekhaaGreatDoorKMatchSorts19
import Derived.Shelf.Strings.Builder1
import Derived.Shelf.Strings.Builder2
import Derived.Shelf.Strings.OnBuilder
import Derived.Shelf.Small.Wraps
import Derived.Shelf.Strings.BuilderF
import Derived.Shelf.Strings.BuilderK
import Derived.Shelf.Utf8.RuneCount
import Derived.Shelf.Strings.Builder2Cap
import Derived.Shelf.Strconv.Itoa0
import Derived.Shelf.Strconv.Itoa1
import Derived.Shelf.LaysM
import Derived.Shelf.Strconv.Itoa2
import Derived.Shelf.Strconv.Itoa3
import Derived.Shelf.Strconv.Itoa4
import Derived.Shelf.Strings.Search1
import Derived.Shelf.Strings.Search2
import Derived.Shelf.Strings.Search3
import Derived.Shelf.Strings.Cut
import Derived.Shelf.Strings.Count
import Derived.Shelf.Strings.Shaped
import Derived.Shelf.Strings.LastIndex
import Derived.Shelf.Strings.Split
import Derived.Shelf.Strings.SplitShaped
import Derived.Shelf.Unicode.Decode
import Derived.Shelf.Strings.RuneCount
import Derived.Shelf.Strings.Explode
import Derived.Shelf.Bits.Mul64
import Derived.Shelf.Unicode.DecodeSlow
import Derived.Shelf.Unicode.DecodeAny
import Derived.Shelf.Strings.BuilderCap
import Derived.Ground.Names2Prog
import Derived.Shelf.Slices.SearchI
import Derived.Ground.SlgnProg
import Derived.Shelf.SlicesG.Clone
import Derived.Shelf.SlicesE.Clone
import Derived.Ground.PaProg
import Derived.Shelf.Path.Small
import Derived.Test.YtncadbcjikekhaaGreatDoorProg
set_option linter.all false
namespace Go.Proofs
open Go.Shelf
def Tryz.lays156_ren : Go.Shelf.Ren := ⟨fun | 156 => 66 | 165 => 101 | 166 => 102 | 169 => 103 | 240 => 118 | 241 => 119 | 276 => 130 | 277 => 131 | n => n, fun | 31 => 89 | 9 => 9 | 3 => 3 | 4 => 4 | 0 => 0 | 20 => 20 | 72 => 133 | 76 => 135 | 70 => 130 | 37 => 131 | 75 => 119 | 127 => 148 | 164 => 162 | 5 => 5 | 80 => 79 | n => n, fun | n => n⟩
theorem Tryz.lays156 : Go.Proofs.Lays.n156 Tryz.prog Tryz.lays156_ren := {
  mixed := by kernel_rfl
  f156 := Tryz.func66.trans (congrArg some (by kernel_rfl))
  f165 := Tryz.func101.trans (congrArg some (by kernel_rfl))
  f166 := Tryz.func102.trans (congrArg some (by kernel_rfl))
  f169 := Tryz.func103.trans (congrArg some (by kernel_rfl))
  f240 := Tryz.func118.trans (congrArg some (by kernel_rfl))
  f241 := Tryz.func119.trans (congrArg some (by kernel_rfl))
  f276 := Tryz.func130.trans (congrArg some (by kernel_rfl))
  f277 := Tryz.func131.trans (congrArg some (by kernel_rfl))
  t0 := Tryz.underlying0
  a0 := Tryz.isAgg0
  z0 := Tryz.sizeOf0
  v0 := Tryz.zeroValue0
  t3 := Tryz.underlying3
  a3 := Tryz.isAgg3
  z3 := Tryz.sizeOf3
  v3 := Tryz.zeroValue3
  t4 := Tryz.underlying4
  a4 := Tryz.isAgg4
  z4 := Tryz.sizeOf4
  v4 := Tryz.zeroValue4
  t9 := Tryz.underlying9
  a9 := Tryz.isAgg9
  z9 := Tryz.sizeOf9
  v9 := Tryz.zeroValue9
  t20 := Tryz.underlying20
  a20 := Tryz.isAgg20
  z20 := Tryz.sizeOf20
  v20 := Tryz.zeroValue20
  t31 := Tryz.underlying89
  a31 := Tryz.isAgg89
  z31 := Tryz.sizeOf89
  v31 := Tryz.zeroValue89
  t37 := Tryz.underlying131
  a37 := Tryz.isAgg131
  z37 := Tryz.sizeOf131
  v37 := Tryz.zeroValue131
  t70 := Tryz.underlying130
  a70 := Tryz.isAgg130
  z70 := Tryz.sizeOf130
  v70 := Tryz.zeroValue130
  t72 := Tryz.underlying133
  a72 := Tryz.isAgg133
  z72 := Tryz.sizeOf133
  v72 := Tryz.zeroValue133
  t75 := Tryz.underlying119
  a75 := Tryz.isAgg119
  z75 := Tryz.sizeOf119
  v75 := Tryz.zeroValue119
  t76 := Tryz.underlying135
  a76 := Tryz.isAgg135
  z76 := Tryz.sizeOf135
  v76 := Tryz.zeroValue135
  t127 := Tryz.underlying148
  a127 := Tryz.isAgg148
  z127 := Tryz.sizeOf148
  v127 := Tryz.zeroValue148
  t164 := Tryz.underlying162
  a164 := Tryz.isAgg162
  z164 := Tryz.sizeOf162
  v164 := Tryz.zeroValue162 }
theorem Tryz.Builder_Extra_156 : Builder.Extra Tryz.prog Tryz.lays156_ren := {
  sizeBuilder := by kernel_rfl
  liesBuilder := by kernel_rfl
  t5 := Tryz.underlying5
  a5 := Tryz.isAgg5
  z5 := Tryz.sizeOf5
  v5 := Tryz.zeroValue5
  infoByte := by kernel_rfl
  cellsByte := by kernel_rfl
  sizeByte := by kernel_rfl
  neB5 := by decide }
open Go.RowKit in
theorem Tryz.strings_Join_none (a : Option Addr) (c : Nat) (sep : ByteArray) (w : World) :
    Calls Tryz.prog 66 #[.slice a 0 c, .string sep] w fun e w' => e = .returned (.string ⟨#[]⟩) ∧ w' = w := Any.strings_Join_none Tryz.lays156 Tryz.Builder_Extra_156 a c sep w
open Go.RowKit in
theorem Tryz.strings_Join (bk o c : Nat) (xs : List ByteArray) (sep : ByteArray) (w : World) (hcells : ∀ (j : Nat) x, xs[j]? = some x → w.cell? ⟨bk, o + j, none⟩ = some (.string x)) (hbk : bk < w.heap.size) (hN : xs.length ≤ 140737488355328) (hcap : xs.length ≤ c) (hlen : (Lib.join (xs.map (·.data.toList)) sep.data.toList).length ≤ 140737488355328) :
    Calls Tryz.prog 66 #[.slice (some ⟨bk, o, none⟩) xs.length c, .string sep] w fun e w' => e = .returned (.string ⟨(Lib.join (xs.map (·.data.toList)) sep.data.toList).toArray⟩) ∧ Below w.heap.size w w' := Any.strings_Join Tryz.lays156 Tryz.Builder_Extra_156 bk o c xs sep w hcells hbk hN hcap hlen
def Tryz.lays171_ren : Go.Shelf.Ren := ⟨fun | 171 => 86 | 243 => 113 | 246 => 128 | 283 => 141 | 284 => 142 | 285 => 143 | 286 => 144 | 129 => 152 | 317 => 151 | 318 => 153 | 319 => 154 | 320 => 155 | 337 => 156 | 338 => 112 | n => n, fun | 3 => 3 | 9 => 9 | 2 => 2 | 4 => 4 | 171 => 174 | 0 => 0 | 53 => 60 | 37 => 131 | 5 => 5 | 173 => 176 | 212 => 184 | 51 => 178 | 20 => 20 | 213 => 185 | 46 => 161 | 232 => 192 | 233 => 160 | n => n, fun | 17 => 2 | 18 => 5 | 19 => 0 | n => n⟩
theorem Tryz.lays171 : Go.Proofs.Lays.n171 Tryz.prog Tryz.lays171_ren := {
  mixed := by kernel_rfl
  f129 := Tryz.func152.trans (congrArg some (by kernel_rfl))
  f171 := Tryz.func86.trans (congrArg some (by kernel_rfl))
  f243 := Tryz.func113.trans (congrArg some (by kernel_rfl))
  f246 := Tryz.func128.trans (congrArg some (by kernel_rfl))
  f283 := Tryz.func141.trans (congrArg some (by kernel_rfl))
  f284 := Tryz.func142.trans (congrArg some (by kernel_rfl))
  f285 := Tryz.func143.trans (congrArg some (by kernel_rfl))
  f286 := Tryz.func144.trans (congrArg some (by kernel_rfl))
  f317 := Tryz.func151.trans (congrArg some (by kernel_rfl))
  f318 := Tryz.func153.trans (congrArg some (by kernel_rfl))
  f319 := Tryz.func154.trans (congrArg some (by kernel_rfl))
  f320 := Tryz.func155.trans (congrArg some (by kernel_rfl))
  f337 := Tryz.func156.trans (congrArg some (by kernel_rfl))
  f338 := Tryz.func112.trans (congrArg some (by kernel_rfl))
  t0 := Tryz.underlying0
  a0 := Tryz.isAgg0
  z0 := Tryz.sizeOf0
  v0 := Tryz.zeroValue0
  t2 := Tryz.underlying2
  a2 := Tryz.isAgg2
  z2 := Tryz.sizeOf2
  v2 := Tryz.zeroValue2
  t3 := Tryz.underlying3
  a3 := Tryz.isAgg3
  z3 := Tryz.sizeOf3
  v3 := Tryz.zeroValue3
  t4 := Tryz.underlying4
  a4 := Tryz.isAgg4
  z4 := Tryz.sizeOf4
  v4 := Tryz.zeroValue4
  t5 := Tryz.underlying5
  a5 := Tryz.isAgg5
  z5 := Tryz.sizeOf5
  v5 := Tryz.zeroValue5
  t9 := Tryz.underlying9
  a9 := Tryz.isAgg9
  z9 := Tryz.sizeOf9
  v9 := Tryz.zeroValue9
  t20 := Tryz.underlying20
  a20 := Tryz.isAgg20
  z20 := Tryz.sizeOf20
  v20 := Tryz.zeroValue20
  t37 := Tryz.underlying131
  a37 := Tryz.isAgg131
  z37 := Tryz.sizeOf131
  v37 := Tryz.zeroValue131
  t46 := Tryz.underlying161
  a46 := Tryz.isAgg161
  z46 := Tryz.sizeOf161
  v46 := Tryz.zeroValue161
  t51 := Tryz.underlying178
  a51 := Tryz.isAgg178
  z51 := Tryz.sizeOf178
  v51 := Tryz.zeroValue178
  t53 := Tryz.underlying60
  a53 := Tryz.isAgg60
  z53 := Tryz.sizeOf60
  v53 := Tryz.zeroValue60
  t171 := Tryz.underlying174
  a171 := Tryz.isAgg174
  z171 := Tryz.sizeOf174
  v171 := Tryz.zeroValue174
  t173 := Tryz.underlying176
  a173 := Tryz.isAgg176
  z173 := Tryz.sizeOf176
  v173 := Tryz.zeroValue176
  t212 := Tryz.underlying184
  a212 := Tryz.isAgg184
  z212 := Tryz.sizeOf184
  v212 := Tryz.zeroValue184
  t213 := Tryz.underlying185
  a213 := Tryz.isAgg185
  z213 := Tryz.sizeOf185
  t232 := Tryz.underlying192
  a232 := Tryz.isAgg192
  z232 := Tryz.sizeOf192
  v232 := Tryz.zeroValue192
  t233 := Tryz.underlying160
  a233 := Tryz.isAgg160
  z233 := Tryz.sizeOf160
  v233 := Tryz.zeroValue160
  g17 := by kernel_rfl
  g18 := by kernel_rfl
  g19 := by kernel_rfl }
open Go.RowKit Go.Sort Go.Lib in
theorem Tryz.strconv_Itoa_small (i : Nat) (hi : i < 100) (w : World) :
    Calls Tryz.prog 86 #[.int .i64 i] w fun e w' => e = .returned (.string ⟨(Lib.decDigits i).toArray⟩) ∧ w' = w := Any.strconv_Itoa_small Tryz.lays171 i hi w
def Tryz.laysM173_ren : Go.Shelf.Ren := ⟨fun | 173 => 110 | 246 => 128 | 283 => 141 | 284 => 142 | 285 => 143 | 286 => 144 | 129 => 152 | 317 => 151 | 318 => 153 | 319 => 154 | 320 => 155 | 337 => 156 | 338 => 112 | n => n, fun | 2 => 2 | 3 => 3 | 9 => 9 | 4 => 4 | 171 => 174 | 0 => 0 | 53 => 60 | 37 => 131 | 5 => 5 | 173 => 176 | 212 => 184 | 51 => 178 | 20 => 20 | 213 => 185 | 46 => 161 | 232 => 192 | 233 => 160 | n => n, fun | 17 => 2 | 18 => 5 | 19 => 0 | n => n⟩
theorem Tryz.laysM173 : Go.Proofs.LaysM.n173 Tryz.prog Tryz.laysM173_ren := {
  mixed := by kernel_rfl
  f129 := Tryz.func152.trans (congrArg some (by kernel_rfl))
  f173 := Tryz.func110.trans (congrArg some (by kernel_rfl))
  f246 := Tryz.func128.trans (congrArg some (by kernel_rfl))
  f283 := Tryz.func141.trans (congrArg some (by kernel_rfl))
  f284 := Tryz.func142.trans (congrArg some (by kernel_rfl))
  f285 := Tryz.func143.trans (congrArg some (by kernel_rfl))
  f286 := Tryz.func144.trans (congrArg some (by kernel_rfl))
  f317 := Tryz.func151.trans (congrArg some (by kernel_rfl))
  f318 := Tryz.func153.trans (congrArg some (by kernel_rfl))
  f319 := Tryz.func154.trans (congrArg some (by kernel_rfl))
  f320 := Tryz.func155.trans (congrArg some (by kernel_rfl))
  f337 := Tryz.func156.trans (congrArg some (by kernel_rfl))
  f338 := Tryz.func112.trans (congrArg some (by kernel_rfl))
  t0 := Tryz.underlying0
  a0 := Tryz.isAgg0
  z0 := Tryz.sizeOf0
  v0 := Tryz.zeroValue0
  t2 := Tryz.underlying2
  a2 := Tryz.isAgg2
  z2 := Tryz.sizeOf2
  v2 := Tryz.zeroValue2
  t3 := Tryz.underlying3
  a3 := Tryz.isAgg3
  z3 := Tryz.sizeOf3
  v3 := Tryz.zeroValue3
  t4 := Tryz.underlying4
  a4 := Tryz.isAgg4
  z4 := Tryz.sizeOf4
  v4 := Tryz.zeroValue4
  t5 := Tryz.underlying5
  a5 := Tryz.isAgg5
  z5 := Tryz.sizeOf5
  v5 := Tryz.zeroValue5
  t9 := Tryz.underlying9
  a9 := Tryz.isAgg9
  z9 := Tryz.sizeOf9
  v9 := Tryz.zeroValue9
  t20 := Tryz.underlying20
  a20 := Tryz.isAgg20
  z20 := Tryz.sizeOf20
  v20 := Tryz.zeroValue20
  t37 := Tryz.underlying131
  a37 := Tryz.isAgg131
  z37 := Tryz.sizeOf131
  v37 := Tryz.zeroValue131
  t46 := Tryz.underlying161
  a46 := Tryz.isAgg161
  z46 := Tryz.sizeOf161
  v46 := Tryz.zeroValue161
  t51 := Tryz.underlying178
  a51 := Tryz.isAgg178
  z51 := Tryz.sizeOf178
  v51 := Tryz.zeroValue178
  t53 := Tryz.underlying60
  a53 := Tryz.isAgg60
  z53 := Tryz.sizeOf60
  v53 := Tryz.zeroValue60
  t171 := Tryz.underlying174
  a171 := Tryz.isAgg174
  z171 := Tryz.sizeOf174
  v171 := Tryz.zeroValue174
  t173 := Tryz.underlying176
  a173 := Tryz.isAgg176
  z173 := Tryz.sizeOf176
  v173 := Tryz.zeroValue176
  t212 := Tryz.underlying184
  a212 := Tryz.isAgg184
  z212 := Tryz.sizeOf184
  v212 := Tryz.zeroValue184
  t213 := Tryz.underlying185
  a213 := Tryz.isAgg185
  z213 := Tryz.sizeOf185
  t232 := Tryz.underlying192
  a232 := Tryz.isAgg192
  z232 := Tryz.sizeOf192
  v232 := Tryz.zeroValue192
  t233 := Tryz.underlying160
  a233 := Tryz.isAgg160
  z233 := Tryz.sizeOf160
  v233 := Tryz.zeroValue160
  g17 := by kernel_rfl
  g18 := by kernel_rfl
  g19 := by kernel_rfl
  i0 := by kernel_rfl
  i2 := by kernel_rfl
  i3 := by kernel_rfl
  i4 := by kernel_rfl
  i5 := by kernel_rfl
  i9 := by kernel_rfl
  i20 := by kernel_rfl
  i37 := by kernel_rfl
  i46 := by kernel_rfl
  i51 := by kernel_rfl
  i53 := by kernel_rfl
  i171 := by kernel_rfl
  i173 := by kernel_rfl
  i212 := by kernel_rfl
  i232 := by kernel_rfl
  i233 := by kernel_rfl
  m17 := by kernel_rfl
  m18 := by kernel_rfl
  m19 := by kernel_rfl }
open Go.RowKit Go.Sort Go.Lib in
theorem Tryz.strconv_FormatInt_10 (n : Int) (h0 : -9223372036854775808 ≤ n) (h1 : n ≤ 9223372036854775807) (w : World) (htab : Lib.TabIs Tryz.prog w "internal/strconv.uint64pow10" .u64 Lib.pow10Tab) :
    Calls Tryz.prog 110 #[.int .i64 n, .int .i64 10] w fun e w' => e = .returned (.string ⟨(Lib.itoa n).toArray⟩) ∧ ∃ k os, w' = grow (w.drewN k) os := Any.strconv_FormatInt_10 Tryz.laysM173 n h0 h1 w htab
def Tryz.lays219_ren : Go.Shelf.Ren := ⟨fun | 219 => 123 | 217 => 135 | 225 => 136 | 224 => 137 | 267 => 138 | 266 => 147 | 314 => 148 | n => n, fun | 9 => 9 | 3 => 3 | 4 => 4 | 5 => 5 | 46 => 161 | 146 => 179 | 51 => 178 | n => n, fun | 1 => 1 | n => n⟩
theorem Tryz.lays219 : Go.Proofs.Lays.n219 Tryz.prog Tryz.lays219_ren := {
  mixed := by kernel_rfl
  f217 := Tryz.func135.trans (congrArg some (by kernel_rfl))
  f219 := Tryz.func123.trans (congrArg some (by kernel_rfl))
  f224 := Tryz.func137.trans (congrArg some (by kernel_rfl))
  f225 := Tryz.func136.trans (congrArg some (by kernel_rfl))
  f266 := Tryz.func147.trans (congrArg some (by kernel_rfl))
  f267 := Tryz.func138.trans (congrArg some (by kernel_rfl))
  f314 := Tryz.func148.trans (congrArg some (by kernel_rfl))
  t3 := Tryz.underlying3
  a3 := Tryz.isAgg3
  z3 := Tryz.sizeOf3
  v3 := Tryz.zeroValue3
  t4 := Tryz.underlying4
  a4 := Tryz.isAgg4
  z4 := Tryz.sizeOf4
  v4 := Tryz.zeroValue4
  t5 := Tryz.underlying5
  a5 := Tryz.isAgg5
  z5 := Tryz.sizeOf5
  v5 := Tryz.zeroValue5
  t9 := Tryz.underlying9
  a9 := Tryz.isAgg9
  z9 := Tryz.sizeOf9
  v9 := Tryz.zeroValue9
  t46 := Tryz.underlying161
  a46 := Tryz.isAgg161
  z46 := Tryz.sizeOf161
  v46 := Tryz.zeroValue161
  t51 := Tryz.underlying178
  a51 := Tryz.isAgg178
  z51 := Tryz.sizeOf178
  v51 := Tryz.zeroValue178
  t146 := Tryz.underlying179
  a146 := Tryz.isAgg179
  z146 := Tryz.sizeOf179
  v146 := Tryz.zeroValue179
  g1 := by kernel_rfl }
open Go.RowKit Go.Lib in
theorem Tryz.stringslite_Index_one (s : ByteArray) (c : UInt8) (w : World) :
    Calls Tryz.prog 123 #[.string s, .string ⟨#[c]⟩] w fun e w' => e = .returned (.int .i64 (Lib.indexByte s.data.toList c)) ∧ w' = w := Any.stringslite_Index_one Tryz.lays219 s c w
def Tryz.lays143_ren : Go.Shelf.Ren := ⟨fun | 143 => 122 | 219 => 123 | 217 => 135 | 225 => 136 | 224 => 137 | 267 => 138 | 266 => 147 | 314 => 148 | n => n, fun | 9 => 9 | 3 => 3 | 4 => 4 | 5 => 5 | 46 => 161 | 146 => 179 | 51 => 178 | n => n, fun | 1 => 1 | n => n⟩
theorem Tryz.lays143 : Go.Proofs.Lays.n143 Tryz.prog Tryz.lays143_ren := {
  mixed := by kernel_rfl
  f143 := Tryz.func122.trans (congrArg some (by kernel_rfl))
  f217 := Tryz.func135.trans (congrArg some (by kernel_rfl))
  f219 := Tryz.func123.trans (congrArg some (by kernel_rfl))
  f224 := Tryz.func137.trans (congrArg some (by kernel_rfl))
  f225 := Tryz.func136.trans (congrArg some (by kernel_rfl))
  f266 := Tryz.func147.trans (congrArg some (by kernel_rfl))
  f267 := Tryz.func138.trans (congrArg some (by kernel_rfl))
  f314 := Tryz.func148.trans (congrArg some (by kernel_rfl))
  t3 := Tryz.underlying3
  a3 := Tryz.isAgg3
  z3 := Tryz.sizeOf3
  v3 := Tryz.zeroValue3
  t4 := Tryz.underlying4
  a4 := Tryz.isAgg4
  z4 := Tryz.sizeOf4
  v4 := Tryz.zeroValue4
  t5 := Tryz.underlying5
  a5 := Tryz.isAgg5
  z5 := Tryz.sizeOf5
  v5 := Tryz.zeroValue5
  t9 := Tryz.underlying9
  a9 := Tryz.isAgg9
  z9 := Tryz.sizeOf9
  v9 := Tryz.zeroValue9
  t46 := Tryz.underlying161
  a46 := Tryz.isAgg161
  z46 := Tryz.sizeOf161
  v46 := Tryz.zeroValue161
  t51 := Tryz.underlying178
  a51 := Tryz.isAgg178
  z51 := Tryz.sizeOf178
  v51 := Tryz.zeroValue178
  t146 := Tryz.underlying179
  a146 := Tryz.isAgg179
  z146 := Tryz.sizeOf179
  v146 := Tryz.zeroValue179
  g1 := by kernel_rfl }
open Go.RowKit Go.Lib in
theorem Tryz.strings_Index_one (s : ByteArray) (c : UInt8) (w : World) :
    Calls Tryz.prog 122 #[.string s, .string ⟨#[c]⟩] w fun e w' => e = .returned (.int .i64 (Lib.indexByte s.data.toList c)) ∧ w' = w := Any.strings_Index_one Tryz.lays143 s c w
def Tryz.lays138_ren : Go.Shelf.Ren := ⟨fun | 138 => 121 | 195 => 132 | 218 => 134 | 143 => 122 | 219 => 123 | 217 => 135 | 225 => 136 | 224 => 137 | 267 => 138 | 266 => 147 | 314 => 148 | n => n, fun | 9 => 9 | 3 => 3 | 4 => 4 | 5 => 5 | 0 => 0 | 46 => 161 | 146 => 179 | 51 => 178 | n => n, fun | 1 => 1 | n => n⟩
theorem Tryz.lays138 : Go.Proofs.Lays.n138 Tryz.prog Tryz.lays138_ren := {
  mixed := by kernel_rfl
  f138 := Tryz.func121.trans (congrArg some (by kernel_rfl))
  f143 := Tryz.func122.trans (congrArg some (by kernel_rfl))
  f195 := Tryz.func132.trans (congrArg some (by kernel_rfl))
  f217 := Tryz.func135.trans (congrArg some (by kernel_rfl))
  f218 := Tryz.func134.trans (congrArg some (by kernel_rfl))
  f219 := Tryz.func123.trans (congrArg some (by kernel_rfl))
  f224 := Tryz.func137.trans (congrArg some (by kernel_rfl))
  f225 := Tryz.func136.trans (congrArg some (by kernel_rfl))
  f266 := Tryz.func147.trans (congrArg some (by kernel_rfl))
  f267 := Tryz.func138.trans (congrArg some (by kernel_rfl))
  f314 := Tryz.func148.trans (congrArg some (by kernel_rfl))
  t0 := Tryz.underlying0
  a0 := Tryz.isAgg0
  z0 := Tryz.sizeOf0
  v0 := Tryz.zeroValue0
  t3 := Tryz.underlying3
  a3 := Tryz.isAgg3
  z3 := Tryz.sizeOf3
  v3 := Tryz.zeroValue3
  t4 := Tryz.underlying4
  a4 := Tryz.isAgg4
  z4 := Tryz.sizeOf4
  v4 := Tryz.zeroValue4
  t5 := Tryz.underlying5
  a5 := Tryz.isAgg5
  z5 := Tryz.sizeOf5
  v5 := Tryz.zeroValue5
  t9 := Tryz.underlying9
  a9 := Tryz.isAgg9
  z9 := Tryz.sizeOf9
  v9 := Tryz.zeroValue9
  t46 := Tryz.underlying161
  a46 := Tryz.isAgg161
  z46 := Tryz.sizeOf161
  v46 := Tryz.zeroValue161
  t51 := Tryz.underlying178
  a51 := Tryz.isAgg178
  z51 := Tryz.sizeOf178
  v51 := Tryz.zeroValue178
  t146 := Tryz.underlying179
  a146 := Tryz.isAgg179
  z146 := Tryz.sizeOf179
  v146 := Tryz.zeroValue179
  g1 := by kernel_rfl }
open Go.RowKit Go.Lib in
theorem Tryz.strings_Count_one (s : ByteArray) (c : UInt8) (w : World) :
    Calls Tryz.prog 121 #[.string s, .string ⟨#[c]⟩] w fun e w' => e = .returned (.int .i64 (Lib.countByte s.data.toList c)) ∧ w' = w := Any.strings_Count_one Tryz.lays138 s c w
def Tryz.lays221_ren : Go.Shelf.Ren := ⟨fun | 221 => 104 | 268 => 120 | 138 => 121 | 143 => 122 | 195 => 132 | 197 => 133 | 218 => 134 | 219 => 123 | 260 => 146 | 217 => 135 | 225 => 136 | 224 => 137 | 267 => 138 | 266 => 147 | 314 => 148 | n => n, fun | 9 => 9 | 3 => 3 | 31 => 89 | 4 => 4 | 0 => 0 | 105 => 165 | 21 => 21 | 5 => 5 | 46 => 161 | 119 => 187 | 139 => 190 | 138 => 189 | 146 => 179 | 51 => 178 | n => n, fun | 1 => 1 | 3 => 3 | 4 => 4 | n => n⟩
theorem Tryz.lays221 : Go.Proofs.Lays.n221 Tryz.prog Tryz.lays221_ren := {
  mixed := by kernel_rfl
  f138 := Tryz.func121.trans (congrArg some (by kernel_rfl))
  f143 := Tryz.func122.trans (congrArg some (by kernel_rfl))
  f195 := Tryz.func132.trans (congrArg some (by kernel_rfl))
  f197 := Tryz.func133.trans (congrArg some (by kernel_rfl))
  f217 := Tryz.func135.trans (congrArg some (by kernel_rfl))
  f218 := Tryz.func134.trans (congrArg some (by kernel_rfl))
  f219 := Tryz.func123.trans (congrArg some (by kernel_rfl))
  f221 := Tryz.func104.trans (congrArg some (by kernel_rfl))
  f224 := Tryz.func137.trans (congrArg some (by kernel_rfl))
  f225 := Tryz.func136.trans (congrArg some (by kernel_rfl))
  f260 := Tryz.func146.trans (congrArg some (by kernel_rfl))
  f266 := Tryz.func147.trans (congrArg some (by kernel_rfl))
  f267 := Tryz.func138.trans (congrArg some (by kernel_rfl))
  f268 := Tryz.func120.trans (congrArg some (by kernel_rfl))
  f314 := Tryz.func148.trans (congrArg some (by kernel_rfl))
  t0 := Tryz.underlying0
  a0 := Tryz.isAgg0
  z0 := Tryz.sizeOf0
  v0 := Tryz.zeroValue0
  t3 := Tryz.underlying3
  a3 := Tryz.isAgg3
  z3 := Tryz.sizeOf3
  v3 := Tryz.zeroValue3
  t4 := Tryz.underlying4
  a4 := Tryz.isAgg4
  z4 := Tryz.sizeOf4
  v4 := Tryz.zeroValue4
  t5 := Tryz.underlying5
  a5 := Tryz.isAgg5
  z5 := Tryz.sizeOf5
  v5 := Tryz.zeroValue5
  t9 := Tryz.underlying9
  a9 := Tryz.isAgg9
  z9 := Tryz.sizeOf9
  v9 := Tryz.zeroValue9
  t21 := Tryz.underlying21
  a21 := Tryz.isAgg21
  z21 := Tryz.sizeOf21
  v21 := Tryz.zeroValue21
  t31 := Tryz.underlying89
  a31 := Tryz.isAgg89
  z31 := Tryz.sizeOf89
  v31 := Tryz.zeroValue89
  t46 := Tryz.underlying161
  a46 := Tryz.isAgg161
  z46 := Tryz.sizeOf161
  v46 := Tryz.zeroValue161
  t51 := Tryz.underlying178
  a51 := Tryz.isAgg178
  z51 := Tryz.sizeOf178
  v51 := Tryz.zeroValue178
  t105 := Tryz.underlying165
  a105 := Tryz.isAgg165
  z105 := Tryz.sizeOf165
  v105 := Tryz.zeroValue165
  t119 := Tryz.underlying187
  a119 := Tryz.isAgg187
  z119 := Tryz.sizeOf187
  t138 := Tryz.underlying189
  a138 := Tryz.isAgg189
  z138 := Tryz.sizeOf189
  v138 := Tryz.zeroValue189
  t139 := Tryz.underlying190
  a139 := Tryz.isAgg190
  z139 := Tryz.sizeOf190
  v139 := Tryz.zeroValue190
  t146 := Tryz.underlying179
  a146 := Tryz.isAgg179
  z146 := Tryz.sizeOf179
  v146 := Tryz.zeroValue179
  g1 := by kernel_rfl
  g3 := by kernel_rfl
  g4 := by kernel_rfl }
def Tryz.lays264_ren : Go.Shelf.Ren := ⟨fun | 264 => 124 | n => n, fun | 53 => 60 | 46 => 161 | n => n, fun | n => n⟩
theorem Tryz.lays264 : Go.Proofs.Lays.n264 Tryz.prog Tryz.lays264_ren := {
  mixed := by kernel_rfl
  f264 := Tryz.func124.trans (congrArg some (by kernel_rfl))
  t46 := Tryz.underlying161
  a46 := Tryz.isAgg161
  z46 := Tryz.sizeOf161
  v46 := Tryz.zeroValue161
  t53 := Tryz.underlying60
  a53 := Tryz.isAgg60
  z53 := Tryz.sizeOf60
  v53 := Tryz.zeroValue60 }
open Go.RowKit Go.Lib in
theorem Tryz.bits_Mul64 (x y : Nat) (hx : x < 18446744073709551616) (hy : y < 18446744073709551616) (w : World) :
    Calls Tryz.prog 124 #[.int .u64 x, .int .u64 y] w fun e w' => e = .returned (.tuple #[.int .u64 ((x * y / 18446744073709551616 : Nat) : Int), .int .u64 ((x * y % 18446744073709551616 : Nat) : Int)]) ∧ w' = w := Any.bits_Mul64 Tryz.lays264 x y hx hy w
end Go.Proofs
namespace Go.Proofs.YtncadbcjikekhaaGreatDoor
open Go.Abs
set_option linter.all false
set_option maxRecDepth 100000
theorem joins : Joins Tryz.prog 66 :=
  joins_of (Go.Proofs.enters_of Tryz.func66 (by kernel_rfl) rfl) (fun x sep w => Tryz.strings_Join_none x 0 sep w) (fun bk o c xs sep w h1 h2 h3 h4 h5 => Tryz.strings_Join bk o c xs sep w h1 h2 h3 h4 h5)
theorem itoas : Itoas Tryz.prog 86 :=
  itoas_of (Go.Proofs.enters_of Tryz.func86 (by kernel_rfl) rfl) (fun i hi w => Tryz.strconv_Itoa_small i hi w)
theorem dec_small {k : Nat} (h : k < 100) : Lib.decDigits k = dec2 k := by
  rw [Lib.decDigits]
  unfold dec2
  split
  · rfl
  · rw [Lib.decDigits, dif_pos (by omega)]; rfl
theorem joinTail_commas : ∀ (l : List Nat), (∀ x ∈ l, x < 64) → Lib.joinTail [44] (l.map Lib.decDigits) = commas l
  | [], _ => rfl
  | k :: l, h => by
    have := joinTail_commas l (fun x hx => h x (by simp [hx]))
    simp only [Lib.joinTail, List.map_cons, List.flatten_cons, commas] at this ⊢
    rw [this, dec_small (by have := h k (by simp); omega)]
    simp
theorem join_bodyT (l : List Nat) (h : ∀ x ∈ l, x < 64) : Lib.join (l.map Lib.decDigits) [44] = bodyT l := by
  cases l with
  | nil => rfl
  | cons k l =>
    rw [List.map_cons, Lib.join_cons, joinTail_commas l (fun x hx => h x (by simp [hx])), dec_small (by have := h k (by simp); omega)]
    rfl
def strs (l : List Nat) : List AV := l.map fun n => AV.str (Lib.decDigits n)
theorem strs_len (l : List Nat) : (strs l).length = l.length := by simp [strs]
theorem strs_snoc (l : List Nat) (k : Nat) : strs l ++ [.str (Lib.decDigits k)] = strs (l ++ [k]) := by simp [strs]
theorem slv_strs (τ : Nat) (l : List Nat) : slv (.tsl τ l.length (strs l)) = some ((l.map Lib.decDigits).length, (l.map Lib.decDigits).map AV.str) := by simp [slv, strs]
theorem join_cats (a : BitVec 64) : Lib.join ((cats a).map Lib.decDigits) [44] = bodyT (cats a) := join_bodyT _ fun _ hx => cats_lt hx
theorem p46 (a : BitVec 64) : PuG Tryz.prog gls 46 [.int .u64 a.toNat] (.str (textL a)) := by
  intro σ hσ
  refine AC_intro c46 b46 (Nat.le_of_ble_eq_true rfl) ?_
  simp only [c46, ↓R1, RR, seval]
  repeat' (first | (with_reducible rw [allocV_eq]) | (with_reducible refine And.intro ?_ ?_; focus (intros; (repeat' (with_reducible apply And.intro)) <;> first | omega | (simp only [RZ, strs_len]; omega))) | (with_reducible apply And.intro) | ((first | (refine gdV_split (fun hc => ?_) (fun hc => ?_) <;> (try simp only [hc, ↓R1, RR, seval])) | refine condV_split (fun hc => ?_) (fun hc => ?_) | (with_reducible intro β hβ; (try simp only [RB] at hβ); (repeat (obtain ⟨⟨_, _⟩, hβ⟩ := hβ)); (try (have hbis := apart_is (by assumption) hβ; obtain ⟨_, _⟩ := hbis))) | ((first | (refine appD_tslK (.inr rfl) rfl ?_ ?_ ?_ ?_ ?_ ?_; (first | rfl | exact St.tip_same _ _ _ | (simp only [↓R1, RR, seval])); (first | omega | (simp only [RZ, strs_len, List.length_nil, List.length_cons]; omega) | (simp only [RZ, strs_len, List.length_nil, List.length_cons])); (first | rfl | first | omega | (simp only [RZ, strs_len, List.length_nil, List.length_cons]; omega) | (simp only [RZ, strs_len, List.length_nil, List.length_cons]))) | (refine appV_tslK rfl ?_ ?_ ?_ ?_ ?_ ?_; (first | rfl | exact St.tip_same _ _ _ | (simp only [↓R1, RR, seval])); (first | omega | (simp only [RZ, strs_len, List.length_nil, List.length_cons]; omega) | (simp only [RZ, strs_len, List.length_nil, List.length_cons])); (first | rfl | first | omega | (simp only [RZ, strs_len, List.length_nil, List.length_cons]; omega) | (simp only [RZ, strs_len, List.length_nil, List.length_cons]))) | (refine appV_own ?_ ?_ ?_ ?_; exact flat_len (by intro _; rfl) _) | (refine appD_own ?_ ?_ ?_ ?_ ?_; omega; exact flat_len (by intro _; rfl) _) | (refine appV_fresh rfl trivial rfl ?_ ?_ ?_ ?_ ?_; (first | rfl | first | omega | (simp only [RZ, strs_len, List.length_nil, List.length_cons]; omega) | (simp only [RZ, strs_len, List.length_nil, List.length_cons])); (first | rfl | first | omega | (simp only [RZ, strs_len, List.length_nil, List.length_cons]; omega) | (simp only [RZ, strs_len, List.length_nil, List.length_cons]))) | (refine appD_fresh rfl trivial rfl ?_ ?_ ?_ ?_ ?_ ?_; omega; (first | rfl | first | omega | (simp only [RZ, strs_len, List.length_nil, List.length_cons]; omega) | (simp only [RZ, strs_len, List.length_nil, List.length_cons])); (first | rfl | first | omega | (simp only [RZ, strs_len, List.length_nil, List.length_cons]; omega) | (simp only [RZ, strs_len, List.length_nil, List.length_cons])))); (unfold maxLen; omega); omega)) <;> (try simp only [↓R1, RR, seval])))
  refine (p85 a _).mono ?_
  rintro _ _ ⟨γ, hγ, rfl, rfl⟩
  rw [St.box_noneA] at hγ
  obtain ⟨⟨_, _⟩, hγ⟩ := hγ
  simp only [↓R1, RR, seval]
  refine rfunV_start [(true, 3, 0, 9, 1)] ?_
  simp only [startP, List.set_cons_zero, ↓R1, RR, seval]
  refine fun τ hτ => ⟨_, _, rfl, ?_⟩
  refine RF_each a (fun pre c => ((σ.setBox β [.tsl τ pre.length (strs pre)]).setBox γ [.int .u64 c.toNat]).setTip τ (9, 1, pre.length)) (fun _ => True) rfl trivial ?_ ?_ ?_ ?_ ?_ ?_
  · intro pre b; simp only [↓R1, RR, seval]
  · intro pre b b'; simp only [↓R1, RR, seval]
  · intro pre b; exact hσ
  · intro pre b L; simp only [↓R1, RR, seval]
  · intro L r pre k b hL _ hk
    obtain ⟨rest, hr⟩ := hk
    have hlen : pre.length < 64 := by
      have := cats_len a
      rw [hr] at this
      simp at this
      omega
    have hk64 : k < 64 := cats_lt (a := a) (by rw [hr]; simp)
    simp only [↓R1, RR, seval]
    have hm : pre.length + 1 ≤ maxLen := by unfold maxLen; omega
    repeat' (first | (with_reducible rw [allocV_eq]) | (with_reducible refine And.intro ?_ ?_; focus (intros; (repeat' (with_reducible apply And.intro)) <;> first | omega | (simp only [RZ, strs_len]; omega))) | (with_reducible apply And.intro) | ((first | (refine gdV_split (fun hc => ?_) (fun hc => ?_) <;> (try simp only [hc, ↓R1, RR, seval])) | refine condV_split (fun hc => ?_) (fun hc => ?_) | (with_reducible intro β hβ; (try simp only [RB] at hβ); (repeat (obtain ⟨⟨_, _⟩, hβ⟩ := hβ)); (try (have hbis := apart_is (by assumption) hβ; obtain ⟨_, _⟩ := hbis))) | ((first | (refine appD_tslK (.inr rfl) rfl ?_ ?_ ?_ ?_ ?_ ?_; (first | rfl | exact St.tip_same _ _ _ | (simp only [↓R1, RR, seval])); (first | omega | (simp only [RZ, strs_len, List.length_nil, List.length_cons]; omega) | (simp only [RZ, strs_len, List.length_nil, List.length_cons])); (first | rfl | first | omega | (simp only [RZ, strs_len, List.length_nil, List.length_cons]; omega) | (simp only [RZ, strs_len, List.length_nil, List.length_cons]))) | (refine appV_tslK rfl ?_ ?_ ?_ ?_ ?_ ?_; (first | rfl | exact St.tip_same _ _ _ | (simp only [↓R1, RR, seval])); (first | omega | (simp only [RZ, strs_len, List.length_nil, List.length_cons]; omega) | (simp only [RZ, strs_len, List.length_nil, List.length_cons])); (first | rfl | first | omega | (simp only [RZ, strs_len, List.length_nil, List.length_cons]; omega) | (simp only [RZ, strs_len, List.length_nil, List.length_cons]))) | (refine appV_own ?_ ?_ ?_ ?_; exact flat_len (by intro _; rfl) _) | (refine appD_own ?_ ?_ ?_ ?_ ?_; omega; exact flat_len (by intro _; rfl) _) | (refine appV_fresh rfl trivial rfl ?_ ?_ ?_ ?_ ?_; (first | rfl | first | omega | (simp only [RZ, strs_len, List.length_nil, List.length_cons]; omega) | (simp only [RZ, strs_len, List.length_nil, List.length_cons])); (first | rfl | first | omega | (simp only [RZ, strs_len, List.length_nil, List.length_cons]; omega) | (simp only [RZ, strs_len, List.length_nil, List.length_cons]))) | (refine appD_fresh rfl trivial rfl ?_ ?_ ?_ ?_ ?_ ?_; omega; (first | rfl | first | omega | (simp only [RZ, strs_len, List.length_nil, List.length_cons]; omega) | (simp only [RZ, strs_len, List.length_nil, List.length_cons])); (first | rfl | first | omega | (simp only [RZ, strs_len, List.length_nil, List.length_cons]; omega) | (simp only [RZ, strs_len, List.length_nil, List.length_cons])))); (unfold maxLen; omega); omega) | refine Pt (itoas k (by omega)) ?_ | refine Ct (itoas k (by omega)) ?_) <;> (try simp only [↓R1, RR, seval])))
    all_goals first | omega | exact Nat.le_refl _ | assumption | exact St.le_refl _ | (intros; (repeat' (with_reducible apply And.intro)) <;> first | omega | (simp only [RZ, strs_len]; omega)) | (simp only [subF, slot, wk_refl, ↓R1, RR, seval]; (repeat' (with_reducible apply And.intro)) <;> first | exact wk_k (by have := maxLen_lt; omega) | exact wk_tsl _ _ _ | exact wk_full _ _ | exact wk_of_eq (congrArg (AV.tsl _ _) (flat_step (by assumption)))) | ((repeat (first | exact St.le_refl _ | (refine St.le_new ?_ (by assumption)) | (refine St.le_newT ?_ (by assumption)))); done) | (simp_all; done) | skip
    all_goals (try simp only [↓R1, RR, seval])
    refine ⟨_, ?_, ?_, rfl⟩
    rotate_left
    · exact hL
    simp only [strs_snoc, List.length_append, ↓R1, RR, seval]
  · intro _
    simp only [↓R1, RR, seval]
    have hbl := bodyT_len a
    refine ((joins _ _ [44] _ (slv_strs τ (cats a)) (by have := cats_len a; simp; omega) (by rw [join_cats]; omega)).mono ?_)
    rintro _ _ ⟨rfl, rfl⟩
    rw [join_cats]
    simp only [↓R1, RR, seval]
    refine ⟨by omega, ?_, ?_⟩
    · omega
    (refine endP_pu (by simp) (by first | (simp [rvsS, rvS]; done) | (simp only [rvsS, rvS, ↓R1, RR, seval]; try simp)) (wk_of_eq ?_) (by (repeat (first | exact St.le_refl _ | (refine St.le_new ?_ (by assumption)) | (refine St.le_newT ?_ (by assumption))))))
    (simp only [resAV, rvV, List.map_cons, List.map_nil, ↓R1, RR, seval])
    simp [textL]
end Go.Proofs.YtncadbcjikekhaaGreatDoor
namespace Go.Proofs.YtncadbcjikekhaaGreatDoor
open Go.Abs Go.Lib
set_option linter.all false
set_option maxRecDepth 100000
def I64 (n : Int) : Prop := -9223372036854775808 ≤ n ∧ n ≤ 9223372036854775807
def gl3 : List (Nat × List AV) := [(0, gTab), (2, tabAV)]
theorem gls_sub {σ : St} (h : GlobsOk gl3 σ) : GlobsOk gls σ := fun k cs hk => by
  simp only [gls, Go.Abs.look] at hk
  cases hb : Nat.beq k 0 with
  | false => rw [hb] at hk; cases hk
  | true => rw [hb] at hk; exact h k cs (by simp only [gl3, Go.Abs.look, hb]; exact hk)
theorem PuG.up3 {f : Nat} {xs : List AV} {v : AV} (h : PuG Tryz.prog gls f xs v) : PuG Tryz.prog gl3 f xs v := fun σ hσ => h σ (gls_sub hσ)
theorem gPow : Tryz.prog.globalNamed "internal/strconv.uint64pow10" = some 2 := by kernel_rfl
theorem fmts : Fmts Tryz.prog 110 2 :=
  fmts_of (Go.Proofs.enters_of Tryz.func110 (by kernel_rfl) rfl) gPow (fun n h0 h1 w ht => Tryz.strconv_FormatInt_10 n h0 h1 w ht)
theorem p84 (n : Int) (hn : I64 n) : PuG Tryz.prog gl3 84 [.int .i64 n] (.str (itoa n)) := by
  intro σ hσ
  refine AC_intro c84 b84 (Nat.le_of_ble_eq_true rfl) ?_
  simp only [c84, ↓R1, RR, seval]
  refine AC.mono (fmts n σ hn.1 hn.2 (hσ _ _ rfl)) ?_
  rintro r s ⟨rfl, rfl⟩
  simp only [↓R1, RR, seval]
  (refine endP_pu (by simp) (by first | (simp [rvsS, rvS]; done) | (simp only [rvsS, rvS, ↓R1, RR, seval]; try simp)) (wk_of_eq ?_) (by (repeat (first | exact St.le_refl _ | (refine St.le_new ?_ (by assumption)) | (refine St.le_newT ?_ (by assumption))))))
  (simp only [resAV, rvV, List.map_cons, List.map_nil, ↓R1, RR, seval])
end Go.Proofs.YtncadbcjikekhaaGreatDoor
namespace Go.Proofs.YtncadbcjikekhaaGreatDoor
open Go.Abs Go.Lib
set_option linter.all false
set_option maxRecDepth 100000
theorem wI (n : Int) : IntKind.i64.wrap n = if 9223372036854775808 ≤ n % 18446744073709551616 then n % 18446744073709551616 - 18446744073709551616 else n % 18446744073709551616 := by
  simp [IntKind.wrap, IntKind.bits, IntKind.signed]
theorem wU (n : Int) : IntKind.u64.wrap n = n % 18446744073709551616 := by
  simp [IntKind.wrap, IntKind.bits, IntKind.signed]
theorem wU8 (n : Int) : IntKind.u8.wrap n = n % 256 := by
  simp [IntKind.wrap, IntKind.bits, IntKind.signed]
def dg (c : UInt8) : Bool := decide (48 ≤ c.toNat) && decide (c.toNat ≤ 57)
def vstep (a : Nat) (c : UInt8) : Nat := a * 10 + (c.toNat - 48)
def val (a : Nat) (l : List UInt8) : Nat := l.foldl vstep a
theorem val_snoc (l : List UInt8) (a : Nat) (c : UInt8) : val a (l ++ [c]) = val a l * 10 + (c.toNat - 48) := by
  unfold val
  rw [List.foldl_append]
  rfl
def firstB (s : List UInt8) : Bool := s == [] || (decide ((1 : Int) < s.length) && ((((s[0]?).getD 0).toNat : Nat) : Int) == 48)
def goodS (s : List UInt8) : Bool := !firstB s && s.all dg
theorem take_succ_val (s : List UInt8) (k : Nat) (h : k < s.length) : val 0 (s.take (k + 1)) = val 0 (s.take k) * 10 + (s[k].toNat - 48) := by
  rw [← List.take_append_getElem h, val_snoc]
theorem dg_no {s : List UInt8} (k : Nat) (h : k < s.length) (hc : dg s[k] = false) : s.all dg = false := by
  cases h2 : s.all dg with
  | false => rfl
  | true => rw [List.all_eq_true] at h2; rw [h2 _ (List.getElem_mem h)] at hc; cases hc
def digL (s : List UInt8) : List AV := [.int .u64 (bif goodS s then ((val 0 s % 18446744073709551616 : Nat) : Int) else 0), .bool (goodS s && decide (18446744073709551616 ≤ val 0 s)), .bool (goodS s)]
theorem sm_a1 (V d : Nat) (hd : d ≤ 9) : (18446744073709551616 ≤ V ∨ (V % 18446744073709551616 * 10) / 18446744073709551616 ≠ 0 ∨ ((V % 18446744073709551616 * 10) % 18446744073709551616 + d) / 18446744073709551616 ≠ 0) ↔ 18446744073709551616 ≤ V * 10 + d := by omega
theorem sm_a2 (V d : Nat) : ((V % 18446744073709551616 * 10) % 18446744073709551616 + d) % 18446744073709551616 = (V * 10 + d) % 18446744073709551616 := by omega
theorem step1 (V d : Nat) (hd : d ≤ 9) : (decide (18446744073709551616 ≤ V) || (((V % 18446744073709551616 * 10 / 18446744073709551616 : Nat) : Int) != 0) || ((((V % 18446744073709551616 * 10 % 18446744073709551616 + d) / 18446744073709551616 : Nat) : Int) != 0)) = decide (18446744073709551616 ≤ V * 10 + d) := by
  have h := sm_a1 V d hd
  rw [Bool.eq_iff_iff]
  simp only [Bool.or_eq_true, decide_eq_true_eq, bne_iff_ne, ne_eq, Int.natCast_eq_zero]
  rw [or_assoc]
  exact h
def natN (s : List UInt8) (m : Int) : List AV := bif goodS s then (bif decide (18446744073709551616 ≤ val 0 s) || decide (m < ((val 0 s % 18446744073709551616 : Nat) : Int)) then [.int .u64 0, .int .i64 2] else [.int .u64 ((val 0 s % 18446744073709551616 : Nat) : Int), .int .i64 0]) else [.int .u64 0, .int .i64 3]
def natB (s : List UInt8) (m : Int) : Bool := decide (18446744073709551616 ≤ val 0 s) || decide (m < ((val 0 s % 18446744073709551616 : Nat) : Int))
def natX (s : List UInt8) (m : Int) : Int := bif goodS s then (bif natB s m then 0 else ((val 0 s % 18446744073709551616 : Nat) : Int)) else 0
def natE (s : List UInt8) (m : Int) : Int := bif goodS s then (bif natB s m then 2 else 0) else 3
theorem natN_eq (s : List UInt8) (m : Int) : natN s m = [.int .u64 (natX s m), .int .i64 (natE s m)] := by
  have e : natN s m = bif goodS s then (bif natB s m then [.int .u64 0, .int .i64 2] else [.int .u64 ((val 0 s % 18446744073709551616 : Nat) : Int), .int .i64 0]) else [.int .u64 0, .int .i64 3] := rfl
  rw [e]
  unfold natX natE
  cases goodS s <;> cases natB s m <;> rfl
end Go.Proofs.YtncadbcjikekhaaGreatDoor
namespace Go.Proofs.YtncadbcjikekhaaGreatDoor
open Go.Abs Go.Lib
set_option linter.all false
set_option maxRecDepth 100000
theorem add64_any (x y c : Int) (hc : c.toNat ≤ 1) : Pu Tryz.prog 125 [.int .u64 x, .int .u64 y, .int .u64 c] (add64V x y c) :=
  add64_pu Tryz.func125 (by kernel_rfl) rfl (by kernel_rfl) (by kernel_rfl) x y c hc
theorem mul64N (x y : Nat) (hx : x < 18446744073709551616) (hy : y < 18446744073709551616) : Pu Tryz.prog 124 [.int .u64 x, .int .u64 y] (.tup [.int .u64 ((x * y / 18446744073709551616 : Nat) : Int), .int .u64 ((x * y % 18446744073709551616 : Nat) : Int)]) := by
  intro σ
  refine AC.of_calls (Go.Proofs.enters_of Tryz.func124 (by kernel_rfl) rfl) ?_
  intro g w vs hI hv
  obtain ⟨v1, vs, rfl, r1, hv⟩ := hv.cons_inv
  obtain ⟨v2, vs, rfl, r2, hv⟩ := hv.cons_inv
  rw [hv.nil_inv, r1.int_inv, r2.int_inv]
  refine (Tryz.bits_Mul64 x y hx hy w).mono ?_
  rintro e w' ⟨rfl, rfl⟩
  exact ⟨_, rfl, Go.RowKit.Below.refl _ _, fun g' _ => Rel.tup_mk (.cons (.int _ _) (.cons (.int _ _) .nil))⟩
theorem add64N (x y : Nat) : Pu Tryz.prog 125 [.int .u64 x, .int .u64 y, .int .u64 0] (.tup [.int .u64 (((x + y) % 18446744073709551616 : Nat) : Int), .int .u64 (((x + y) / 18446744073709551616 : Nat) : Int)]) := by
  have h := add64_any x y 0 (by decide)
  unfold add64V at h
  simp only [Int.toNat_natCast, Int.toNat_zero, Nat.add_zero] at h
  exact h
theorem p106 (s : List UInt8) (hs : s.length ≤ maxLen) : Pu Tryz.prog 106 [.str s] (.tup (digL s)) := by
  refine Pu_intro c106 b106 (Nat.le_of_ble_eq_true rfl) fun σ => ?_
  simp only [c106, ↓R1, RR, Nat.reduceEqDiff, Nat.reduceAdd, Nat.reduceMul, Nat.reduceSub, Nat.reduceLeDiff, Nat.reduceLT, reduceIte, reduceCtorEq, Int.reduceBNe, Int.reduceBEq]
  (repeat' (with_reducible apply And.intro))
  · intro h; simp at h; omega
  · intro h1 h2; simp [h1, h2]
  · refine condV_split (fun h5 => ?_) (fun h5 => ?_) <;> simp only [↓R1, RR, Nat.reduceEqDiff, Nat.reduceAdd, Nat.reduceMul, Nat.reduceSub, Nat.reduceLeDiff, Nat.reduceLT, reduceIte, reduceCtorEq, Int.reduceBNe, Int.reduceBEq]
    · (refine endP_pu (by simp) (by first | (simp [rvsS, rvS]; done) | (simp only [rvsS, rvS, ↓R1, RR, Nat.reduceEqDiff, Nat.reduceAdd, Nat.reduceMul, Nat.reduceSub, Nat.reduceLeDiff, Nat.reduceLT, reduceIte, reduceCtorEq, Int.reduceBNe, Int.reduceBEq]; try simp)) (wk_of_eq ?_) (by (repeat (first | exact St.le_refl _ | (refine St.le_new ?_ (by assumption)) | (refine St.le_newT ?_ (by assumption))))))
      (simp only [resAV, rvV, List.map_cons, List.map_nil, ↓R1, RR, Nat.reduceEqDiff, Nat.reduceAdd, Nat.reduceMul, Nat.reduceSub, Nat.reduceLeDiff, Nat.reduceLT, reduceIte, reduceCtorEq, Int.reduceBNe, Int.reduceBEq])
      have hf : firstB s = true := h5
      simp only [digL, goodS, hf, Bool.not_true, Bool.false_and, cond_false]
    · have hf : firstB s = false := h5
      clear h5
      refine loopV_for s.length (fun k => [(24, .int .i64 k), (23, .int .i64 s.length), (0, .str s), (2, .int .u64 ((val 0 (s.take k) % 18446744073709551616 : Nat) : Int)), (3, .bool (decide (18446744073709551616 ≤ val 0 (s.take k))))]) (fun _ => σ) (fun k => (s.take k).all dg = true) (by refine ⟨wk_refl _, wk_refl _, wk_refl _, wk_of_eq rfl, wk_of_eq rfl, trivial⟩) (St.le_refl _) (by simp) (fun k hk hI => ?_)
      simp only [↓R1, RR, Nat.reduceEqDiff, Nat.reduceAdd, Nat.reduceMul, Nat.reduceSub, Nat.reduceLeDiff, Nat.reduceLT, reduceIte, reduceCtorEq, Int.reduceBNe, Int.reduceBEq]
      refine condV_split (fun h6 => ?_) (fun h6 => ?_) <;> simp at h6
      · have ht : (s.take (k + 1)).all dg = dg s[k] := by
          rw [← List.take_append_getElem h6, List.all_append, hI]; simp
        have hV := take_succ_val s k h6
        generalize val 0 (s.take k) = V at *
        simp only [List.getElem?_eq_getElem h6, ↓R1, RR, Nat.reduceEqDiff, Nat.reduceAdd, Nat.reduceMul, Nat.reduceSub, Nat.reduceLeDiff, Nat.reduceLT, reduceIte, reduceCtorEq, Int.reduceBNe, Int.reduceBEq]
        refine ⟨⟨by omega, by omega⟩, fun _ => ⟨by omega, by omega⟩, ?_⟩
        refine condV_split (fun h7 => ?_) (fun h7 => ?_)
        · simp only [↓R1, RR, Nat.reduceEqDiff, Nat.reduceAdd, Nat.reduceMul, Nat.reduceSub, Nat.reduceLeDiff, Nat.reduceLT, reduceIte, reduceCtorEq, Int.reduceBNe, Int.reduceBEq]
          (refine endP_pu (by simp) (by first | (simp [rvsS, rvS]; done) | (simp only [rvsS, rvS, ↓R1, RR, Nat.reduceEqDiff, Nat.reduceAdd, Nat.reduceMul, Nat.reduceSub, Nat.reduceLeDiff, Nat.reduceLT, reduceIte, reduceCtorEq, Int.reduceBNe, Int.reduceBEq]; try simp)) (wk_of_eq ?_) (by (repeat (first | exact St.le_refl _ | (refine St.le_new ?_ (by assumption)) | (refine St.le_newT ?_ (by assumption))))))
          (simp only [resAV, rvV, List.map_cons, List.map_nil, ↓R1, RR, Nat.reduceEqDiff, Nat.reduceAdd, Nat.reduceMul, Nat.reduceSub, Nat.reduceLeDiff, Nat.reduceLT, reduceIte, reduceCtorEq, Int.reduceBNe, Int.reduceBEq])
          have hd0 : dg s[k] = false := by
            simp only [Bool.or_eq_true, decide_eq_true_eq] at h7
            simp only [dg, Bool.and_eq_false_iff, decide_eq_false_iff_not]
            omega
          have hg : goodS s = false := by simp only [goodS, dg_no k h6 hd0, Bool.and_false]
          simp only [digL, hg, Bool.false_and, cond_false]
        · simp only [Bool.or_eq_false_iff, decide_eq_false_iff_not] at h7
          have hd1 : dg s[k] = true := by
            simp only [dg, Bool.and_eq_true, decide_eq_true_eq]
            omega
          have hw : IntKind.u64.wrap (IntKind.u8.wrap ((s[k].toNat : Int) - 48)) = ((s[k].toNat - 48 : Nat) : Int) := by rw [wU, wU8]; omega
          have hd9 : s[k].toNat - 48 ≤ 9 := by omega
          generalize s[k].toNat - 48 = d at *
          simp only [↓R1, RR, Nat.reduceEqDiff, Nat.reduceAdd, Nat.reduceMul, Nat.reduceSub, Nat.reduceLeDiff, Nat.reduceLT, reduceIte, reduceCtorEq, Int.reduceBNe, Int.reduceBEq]
          refine (mul64N (V % 18446744073709551616) 10 (Nat.mod_lt _ (by decide)) (by decide)).to (wkL_refl _) ?_
          simp only [List.getElem?_eq_getElem h6, hw, ↓R1, RR, Nat.reduceEqDiff, Nat.reduceAdd, Nat.reduceMul, Nat.reduceSub, Nat.reduceLeDiff, Nat.reduceLT, reduceIte, reduceCtorEq, Int.reduceBNe, Int.reduceBEq]
          refine ⟨⟨by omega, by omega⟩, ?_⟩
          refine (add64N _ d).to (wkL_refl _) ?_
          simp only [sm_a2, step1 V d hd9, ↓R1, RR, Nat.reduceEqDiff, Nat.reduceAdd, Nat.reduceMul, Nat.reduceSub, Nat.reduceLeDiff, Nat.reduceLT, reduceIte, reduceCtorEq, Int.reduceBNe, Int.reduceBEq]
          refine ⟨h6, by rw [ht]; exact hd1, ?_, St.le_refl _⟩
          rw [hV]
          refine ⟨wk_of_eq ?_, wk_refl _, wk_refl _, wk_refl _, wk_refl _, trivial⟩
          simp only [slot, ↓R1, RR, Nat.reduceEqDiff, Nat.reduceAdd, Nat.reduceMul, Nat.reduceSub, Nat.reduceLeDiff, Nat.reduceLT, reduceIte, reduceCtorEq, Int.reduceBNe, Int.reduceBEq]
          rw [wrap_succ h6 hs]
      · rw [List.take_of_length_le h6] at hI
        simp only [List.take_of_length_le h6, ↓R1, RR, Nat.reduceEqDiff, Nat.reduceAdd, Nat.reduceMul, Nat.reduceSub, Nat.reduceLeDiff, Nat.reduceLT, reduceIte, reduceCtorEq, Int.reduceBNe, Int.reduceBEq]
        (refine endP_pu (by simp) (by first | (simp [rvsS, rvS]; done) | (simp only [rvsS, rvS, ↓R1, RR, Nat.reduceEqDiff, Nat.reduceAdd, Nat.reduceMul, Nat.reduceSub, Nat.reduceLeDiff, Nat.reduceLT, reduceIte, reduceCtorEq, Int.reduceBNe, Int.reduceBEq]; try simp)) (wk_of_eq ?_) (by (repeat (first | exact St.le_refl _ | (refine St.le_new ?_ (by assumption)) | (refine St.le_newT ?_ (by assumption))))))
        (simp only [resAV, rvV, List.map_cons, List.map_nil, ↓R1, RR, Nat.reduceEqDiff, Nat.reduceAdd, Nat.reduceMul, Nat.reduceSub, Nat.reduceLeDiff, Nat.reduceLT, reduceIte, reduceCtorEq, Int.reduceBNe, Int.reduceBEq])
        have hg : goodS s = true := by simp only [goodS, hf, hI]; rfl
        simp only [digL, hg, Bool.true_and, cond_true]
theorem p71 (s : List UInt8) (m : Int) (hs : s.length ≤ maxLen) : Pu Tryz.prog 71 [.str s, .int .u64 m] (.tup (natN s m)) := by
  refine Pu_intro c71 b71 (Nat.le_of_ble_eq_true rfl) fun σ => ?_
  simp only [c71, ↓R1, RR, Nat.reduceEqDiff, Nat.reduceAdd, Nat.reduceMul, Nat.reduceSub, Nat.reduceLeDiff, Nat.reduceLT, reduceIte, reduceCtorEq, Int.reduceBNe, Int.reduceBEq]
  refine (p106 s hs).to (wkL_refl _) ?_
  cases hg : goodS s with
  | false =>
    simp only [digL, hg, bne_self_eq_false, Bool.or_self, Bool.or_false, Bool.false_or, beq_self_eq_true, Bool.and_self, Bool.and_true, Bool.true_and, Bool.and_false, Bool.false_and, Int.reduceBEq, Int.reduceBNe, Bool.or_true, Bool.true_or, Int.toNat_zero, ↓R1, RR, Nat.reduceEqDiff, Nat.reduceAdd, Nat.reduceMul, Nat.reduceSub, Nat.reduceLeDiff, Nat.reduceLT, reduceIte, reduceCtorEq, Int.reduceBNe, Int.reduceBEq]
    (refine endP_pu (by simp) (by first | (simp [rvsS, rvS]; done) | (simp only [rvsS, rvS, ↓R1, RR, Nat.reduceEqDiff, Nat.reduceAdd, Nat.reduceMul, Nat.reduceSub, Nat.reduceLeDiff, Nat.reduceLT, reduceIte, reduceCtorEq, Int.reduceBNe, Int.reduceBEq]; try simp)) (wk_of_eq ?_) (by (repeat (first | exact St.le_refl _ | (refine St.le_new ?_ (by assumption)) | (refine St.le_newT ?_ (by assumption))))))
    (simp only [resAV, rvV, List.map_cons, List.map_nil, ↓R1, RR, Nat.reduceEqDiff, Nat.reduceAdd, Nat.reduceMul, Nat.reduceSub, Nat.reduceLeDiff, Nat.reduceLT, reduceIte, reduceCtorEq, Int.reduceBNe, Int.reduceBEq])
    simp only [natN, hg, cond_false]
  | true =>
    simp only [digL, hg, bne_self_eq_false, Bool.or_self, Bool.or_false, Bool.false_or, beq_self_eq_true, Bool.and_self, Bool.and_true, Bool.true_and, Bool.and_false, Bool.false_and, Int.reduceBEq, Int.reduceBNe, Bool.or_true, Bool.true_or, Int.toNat_zero, ↓R1, RR, Nat.reduceEqDiff, Nat.reduceAdd, Nat.reduceMul, Nat.reduceSub, Nat.reduceLeDiff, Nat.reduceLT, reduceIte, reduceCtorEq, Int.reduceBNe, Int.reduceBEq]
    repeat' (first | (with_reducible rw [allocV_eq]) | (refine gdV_split (fun hc => ?_) (fun hc => ?_) <;> (try simp only [hc, ↓R1, RR, Nat.reduceEqDiff, Nat.reduceAdd, Nat.reduceMul, Nat.reduceSub, Nat.reduceLeDiff, Nat.reduceLT, reduceIte, reduceCtorEq, Int.reduceBNe, Int.reduceBEq])) | ((first | refine condV_split (fun hc => ?_) (fun hc => ?_) | (with_reducible intro β hβ; (try simp only [RB] at hβ); (repeat (obtain ⟨⟨_, _⟩, hβ⟩ := hβ)); (try (have hbis := apart_is (by assumption) hβ; obtain ⟨_, _⟩ := hbis))) | ((first | (refine appD_tslK (.inr rfl) rfl ?_ ?_ ?_ ?_ ?_ ?_; (first | rfl | exact St.tip_same _ _ _ | (simp only [↓R1, RR, Nat.reduceEqDiff, Nat.reduceAdd, Nat.reduceMul, Nat.reduceSub, Nat.reduceLeDiff, Nat.reduceLT, reduceIte, reduceCtorEq, Int.reduceBNe, Int.reduceBEq])); (first | omega | (simp only [RZ, List.length_nil, List.length_cons]; omega) | (simp only [RZ, List.length_nil, List.length_cons])); (first | rfl | first | omega | (simp only [RZ, List.length_nil, List.length_cons]; omega) | (simp only [RZ, List.length_nil, List.length_cons]))) | (refine appV_tslK rfl ?_ ?_ ?_ ?_ ?_ ?_; (first | rfl | exact St.tip_same _ _ _ | (simp only [↓R1, RR, Nat.reduceEqDiff, Nat.reduceAdd, Nat.reduceMul, Nat.reduceSub, Nat.reduceLeDiff, Nat.reduceLT, reduceIte, reduceCtorEq, Int.reduceBNe, Int.reduceBEq])); (first | omega | (simp only [RZ, List.length_nil, List.length_cons]; omega) | (simp only [RZ, List.length_nil, List.length_cons])); (first | rfl | first | omega | (simp only [RZ, List.length_nil, List.length_cons]; omega) | (simp only [RZ, List.length_nil, List.length_cons]))) | (refine appV_own ?_ ?_ ?_ ?_; exact flat_len (by intro _; rfl) _) | (refine appD_own ?_ ?_ ?_ ?_ ?_; omega; exact flat_len (by intro _; rfl) _) | (refine appV_fresh rfl trivial rfl ?_ ?_ ?_ ?_ ?_; (first | rfl | first | omega | (simp only [RZ, List.length_nil, List.length_cons]; omega) | (simp only [RZ, List.length_nil, List.length_cons])); (first | rfl | first | omega | (simp only [RZ, List.length_nil, List.length_cons]; omega) | (simp only [RZ, List.length_nil, List.length_cons]))) | (refine appD_fresh rfl trivial rfl ?_ ?_ ?_ ?_ ?_ ?_; omega; (first | rfl | first | omega | (simp only [RZ, List.length_nil, List.length_cons]; omega) | (simp only [RZ, List.length_nil, List.length_cons])); (first | rfl | first | omega | (simp only [RZ, List.length_nil, List.length_cons]; omega) | (simp only [RZ, List.length_nil, List.length_cons])))); (unfold maxLen; omega); omega)) <;> (try simp only [↓R1, RR, Nat.reduceEqDiff, Nat.reduceAdd, Nat.reduceMul, Nat.reduceSub, Nat.reduceLeDiff, Nat.reduceLT, reduceIte, reduceCtorEq, Int.reduceBNe, Int.reduceBEq])) | (with_reducible refine And.intro ?_ ?_; (focus (first | omega | (intros; (repeat' (with_reducible apply And.intro)) <;> first | omega | (simp only [RZ]; omega))))) | (with_reducible apply And.intro))
    all_goals ((refine endP_pu (by simp) (by first | (simp [rvsS, rvS]; done) | (simp only [rvsS, rvS, ↓R1, RR, Nat.reduceEqDiff, Nat.reduceAdd, Nat.reduceMul, Nat.reduceSub, Nat.reduceLeDiff, Nat.reduceLT, reduceIte, reduceCtorEq, Int.reduceBNe, Int.reduceBEq]; try simp)) (wk_of_eq ?_) (by (repeat (first | exact St.le_refl _ | (refine St.le_new ?_ (by assumption)) | (refine St.le_newT ?_ (by assumption)))))); (simp only [resAV, rvV, List.map_cons, List.map_nil, ↓R1, RR, Nat.reduceEqDiff, Nat.reduceAdd, Nat.reduceMul, Nat.reduceSub, Nat.reduceLeDiff, Nat.reduceLT, reduceIte, reduceCtorEq, Int.reduceBNe, Int.reduceBEq]); simp only [natN, hg, hc, cond_true, cond_false])
end Go.Proofs.YtncadbcjikekhaaGreatDoor
namespace Go.Proofs.YtncadbcjikekhaaGreatDoor
open Go.Abs Go.Lib
set_option linter.all false
set_option maxRecDepth 100000
def sizeI (a : Int) : Int := if a < 0 then -a else a
theorem p90 (a : Int) (ha : I64 a) : Pu Tryz.prog 90 [.int .i64 a] (.int .u64 (sizeI a)) := by
  unfold I64 at ha
  refine Pu_intro c90 b90 (by simp [c90]) fun σ => ?_
  simp only [c90, ↓R1, RR, Nat.reduceEqDiff, Nat.reduceAdd, Nat.reduceMul, Nat.reduceSub, Nat.reduceLeDiff, Nat.reduceLT, reduceIte, reduceCtorEq, Int.reduceBNe, Int.reduceBEq]
  repeat' (first | (with_reducible rw [allocV_eq]) | (refine gdV_split (fun hc => ?_) (fun hc => ?_) <;> (try simp only [hc, ↓R1, RR, Nat.reduceEqDiff, Nat.reduceAdd, Nat.reduceMul, Nat.reduceSub, Nat.reduceLeDiff, Nat.reduceLT, reduceIte, reduceCtorEq, Int.reduceBNe, Int.reduceBEq])) | ((first | refine condV_split (fun hc => ?_) (fun hc => ?_) | (with_reducible intro β hβ; (try simp only [RB] at hβ); (repeat (obtain ⟨⟨_, _⟩, hβ⟩ := hβ)); (try (have hbis := apart_is (by assumption) hβ; obtain ⟨_, _⟩ := hbis))) | ((first | (refine appD_tslK (.inr rfl) rfl ?_ ?_ ?_ ?_ ?_ ?_; (first | rfl | exact St.tip_same _ _ _ | (simp only [↓R1, RR, Nat.reduceEqDiff, Nat.reduceAdd, Nat.reduceMul, Nat.reduceSub, Nat.reduceLeDiff, Nat.reduceLT, reduceIte, reduceCtorEq, Int.reduceBNe, Int.reduceBEq])); (first | omega | (simp only [RZ, List.length_nil, List.length_cons]; omega) | (simp only [RZ, List.length_nil, List.length_cons])); (first | rfl | first | omega | (simp only [RZ, List.length_nil, List.length_cons]; omega) | (simp only [RZ, List.length_nil, List.length_cons]))) | (refine appV_tslK rfl ?_ ?_ ?_ ?_ ?_ ?_; (first | rfl | exact St.tip_same _ _ _ | (simp only [↓R1, RR, Nat.reduceEqDiff, Nat.reduceAdd, Nat.reduceMul, Nat.reduceSub, Nat.reduceLeDiff, Nat.reduceLT, reduceIte, reduceCtorEq, Int.reduceBNe, Int.reduceBEq])); (first | omega | (simp only [RZ, List.length_nil, List.length_cons]; omega) | (simp only [RZ, List.length_nil, List.length_cons])); (first | rfl | first | omega | (simp only [RZ, List.length_nil, List.length_cons]; omega) | (simp only [RZ, List.length_nil, List.length_cons]))) | (refine appV_own ?_ ?_ ?_ ?_; exact flat_len (by intro _; rfl) _) | (refine appD_own ?_ ?_ ?_ ?_ ?_; omega; exact flat_len (by intro _; rfl) _) | (refine appV_fresh rfl trivial rfl ?_ ?_ ?_ ?_ ?_; (first | rfl | first | omega | (simp only [RZ, List.length_nil, List.length_cons]; omega) | (simp only [RZ, List.length_nil, List.length_cons])); (first | rfl | first | omega | (simp only [RZ, List.length_nil, List.length_cons]; omega) | (simp only [RZ, List.length_nil, List.length_cons]))) | (refine appD_fresh rfl trivial rfl ?_ ?_ ?_ ?_ ?_ ?_; omega; (first | rfl | first | omega | (simp only [RZ, List.length_nil, List.length_cons]; omega) | (simp only [RZ, List.length_nil, List.length_cons])); (first | rfl | first | omega | (simp only [RZ, List.length_nil, List.length_cons]; omega) | (simp only [RZ, List.length_nil, List.length_cons])))); (unfold maxLen; omega); omega)) <;> (try simp only [↓R1, RR, Nat.reduceEqDiff, Nat.reduceAdd, Nat.reduceMul, Nat.reduceSub, Nat.reduceLeDiff, Nat.reduceLT, reduceIte, reduceCtorEq, Int.reduceBNe, Int.reduceBEq])) | (with_reducible refine And.intro ?_ ?_; (focus (first | omega | (intros; (repeat' (with_reducible apply And.intro)) <;> first | omega | (simp only [RZ]; omega))))) | (with_reducible apply And.intro))
  all_goals ((refine endP_pu (by simp) (by first | (simp [rvsS, rvS]; done) | (simp only [rvsS, rvS, ↓R1, RR, Nat.reduceEqDiff, Nat.reduceAdd, Nat.reduceMul, Nat.reduceSub, Nat.reduceLeDiff, Nat.reduceLT, reduceIte, reduceCtorEq, Int.reduceBNe, Int.reduceBEq]; try simp)) (wk_of_eq ?_) (by (repeat (first | exact St.le_refl _ | (refine St.le_new ?_ (by assumption)) | (refine St.le_newT ?_ (by assumption)))))); (simp only [resAV, rvV, List.map_cons, List.map_nil, ↓R1, RR, Nat.reduceEqDiff, Nat.reduceAdd, Nat.reduceMul, Nat.reduceSub, Nat.reduceLeDiff, Nat.reduceLT, reduceIte, reduceCtorEq, Int.reduceBNe, Int.reduceBEq]); simp at hc; simp only [sizeI, wU, wI, AV.int.injEq, true_and]; split <;> (try split) <;> (try split) <;> omega)
theorem sizeI_nn (a : Int) (ha : I64 a) : 0 ≤ sizeI a ∧ sizeI a ≤ 9223372036854775808 := by
  unfold sizeI I64 at *; split <;> omega
theorem dec_byte (n : Nat) : UInt8.ofNat (IntKind.u8.wrap (IntKind.u64.wrap (48 + Int.tmod (n : Int) 10))).toNat = UInt8.ofNat (48 + n % 10) := by
  have h : Int.tmod (n : Int) 10 = ((n % 10 : Nat) : Int) := rfl
  rw [h, wU, wU8]
  have h2 : n % 10 < 10 := Nat.mod_lt _ (by decide)
  congr 1
  omega
def decI (N n : Nat) (out : List UInt8) : Prop := (decDigits N = if n = 0 ∧ out ≠ [] then out else decDigits n ++ out) ∧ n * 2 ^ out.length ≤ N
theorem dec_step {N n : Nat} {out : List UInt8} (h : decI N n out) (hc : 0 < n ∨ out = []) : decI N (n / 10) (UInt8.ofNat (48 + n % 10) :: out) := by
  obtain ⟨h1, h2⟩ := h
  have h3 : ¬ (n = 0 ∧ out ≠ []) := by
    rintro ⟨a, b⟩; rcases hc with c | c
    · omega
    · exact b c
  rw [if_neg h3] at h1
  unfold decI
  generalize decDigits N = D at h1 ⊢
  rw [decDigits] at h1
  refine ⟨?_, ?_⟩
  · by_cases h4 : n < 10
    · rw [dif_pos h4] at h1
      have h5 : n / 10 = 0 := by omega
      rw [if_pos ⟨h5, by simp⟩, h1, Nat.mod_eq_of_lt h4]; rfl
    · rw [dif_neg h4] at h1
      have h5 : n / 10 ≠ 0 := by omega
      rw [if_neg (by omega), h1]; simp
  · simp only [List.length_cons]
    have h6 : n / 10 * 2 ≤ n := by omega
    calc n / 10 * 2 ^ (out.length + 1) = (n / 10 * 2) * 2 ^ out.length := by rw [Nat.pow_succ]; ac_rfl
      _ ≤ n * 2 ^ out.length := Nat.mul_le_mul_right _ h6
      _ ≤ N := h2
theorem dec_len {N n : Nat} {out : List UInt8} (h : decI N n out) (hc : 0 < n ∨ out = []) (hN : N < 18446744073709551616) : out.length < 64 := by
  rcases hc with c | c
  · have h1 : 2 ^ out.length ≤ N := Nat.le_trans (Nat.le_mul_of_pos_left _ c) h.2
    have h2 : 2 ^ out.length < 2 ^ 64 := Nat.lt_of_le_of_lt h1 hN
    exact (Nat.pow_lt_pow_iff_right (by decide)).1 h2
  · subst c; decide
theorem p89 (N : Nat) (hN : N < 18446744073709551616) : Pu Tryz.prog 89 [.int .u64 N] (.str (decDigits N)) := by
  refine Pu_intro c89 b89 (Nat.le_of_ble_eq_true rfl) fun σ => ?_
  simp only [c89, ↓R1, RR, Nat.reduceEqDiff, Nat.reduceAdd, Nat.reduceMul, Nat.reduceSub, Nat.reduceLeDiff, Nat.reduceLT, reduceIte, reduceCtorEq, Int.reduceBNe, Int.reduceBEq]
  refine loopV_st (α := Nat × List UInt8) (fun a => [(0, .int .u64 a.1), (3, .str a.2)]) (fun _ => σ) (fun a => decI N a.1 a.2) (fun a => 2 * a.1 + (if a.2 = [] then 1 else 0)) (N, []) ⟨wk_refl _, wk_refl _, trivial⟩ (St.le_refl _) ⟨by simp, by simp⟩ (fun a ha => ?_)
  obtain ⟨n, out⟩ := a
  simp only at ha ⊢
  simp only [↓R1, RR, Nat.reduceEqDiff, Nat.reduceAdd, Nat.reduceMul, Nat.reduceSub, Nat.reduceLeDiff, Nat.reduceLT, reduceIte, reduceCtorEq, Int.reduceBNe, Int.reduceBEq]
  refine condV_split (fun h5 => ?_) (fun h5 => ?_)
  · have hc : 0 < n ∨ out = [] := by simpa using h5
    have hl := dec_len ha hc hN
    simp only [byteOf, isByte, List.all_cons, List.all_nil, dec_byte, Bool.and_true, ↓R1, RR, Nat.reduceEqDiff, Nat.reduceAdd, Nat.reduceMul, Nat.reduceSub, Nat.reduceLeDiff, Nat.reduceLT, reduceIte, reduceCtorEq, Int.reduceBNe, Int.reduceBEq]
    have hnN : n ≤ N := Nat.le_trans (Nat.le_mul_of_pos_right _ (Nat.pow_pos (by decide))) ha.2
    have hq : IntKind.u64.wrap ((n : Int).tdiv 10) = ((n / 10 : Nat) : Int) := by
      have h : Int.tdiv (n : Int) 10 = ((n / 10 : Nat) : Int) := rfl
      rw [h, wU]; omega
    refine ⟨by decide, by omega, by decide, (n / 10, UInt8.ofNat (48 + n % 10) :: out), dec_step ha hc, ?_, St.le_refl _, ?_⟩
    · refine ⟨wk_of_eq ?_, wk_of_eq ?_, trivial⟩
      · simp only [slot, ↓R1, RR, Nat.reduceEqDiff, Nat.reduceAdd, Nat.reduceMul, Nat.reduceSub, Nat.reduceLeDiff, Nat.reduceLT, reduceIte, reduceCtorEq, Int.reduceBNe, Int.reduceBEq]; rw [hq]
      · simp only [slot, ↓R1, RR, Nat.reduceEqDiff, Nat.reduceAdd, Nat.reduceMul, Nat.reduceSub, Nat.reduceLeDiff, Nat.reduceLT, reduceIte, reduceCtorEq, Int.reduceBNe, Int.reduceBEq]
        rw [show Go.Abs.byteOf (AV.int IntKind.u8 (IntKind.u8.wrap (IntKind.u64.wrap (48 + (n : Int).tmod 10)))) = UInt8.ofNat (48 + n % 10) from dec_byte n]
    · simp only [reduceCtorEq, if_false]
      rcases hc with c | c
      · omega
      · rw [if_pos c]; omega
  · have hc : n = 0 ∧ out ≠ [] := by simp at h5; exact ⟨by omega, h5.2⟩
    simp only [↓R1, RR, Nat.reduceEqDiff, Nat.reduceAdd, Nat.reduceMul, Nat.reduceSub, Nat.reduceLeDiff, Nat.reduceLT, reduceIte, reduceCtorEq, Int.reduceBNe, Int.reduceBEq]
    (refine endP_pu (by simp) (by first | (simp [rvsS, rvS]; done) | (simp only [rvsS, rvS, ↓R1, RR, Nat.reduceEqDiff, Nat.reduceAdd, Nat.reduceMul, Nat.reduceSub, Nat.reduceLeDiff, Nat.reduceLT, reduceIte, reduceCtorEq, Int.reduceBNe, Int.reduceBEq]; try simp)) (wk_of_eq ?_) (by (repeat (first | exact St.le_refl _ | (refine St.le_new ?_ (by assumption)) | (refine St.le_newT ?_ (by assumption))))))
    (simp only [resAV, rvV, List.map_cons, List.map_nil, ↓R1, RR, Nat.reduceEqDiff, Nat.reduceAdd, Nat.reduceMul, Nat.reduceSub, Nat.reduceLeDiff, Nat.reduceLT, reduceIte, reduceCtorEq, Int.reduceBNe, Int.reduceBEq])
    rw [ha.1, if_pos hc]
theorem itoa_neg {n : Int} (h : n < 0) : itoa n = 45 :: decDigits (sizeI n).toNat := by
  unfold itoa sizeI
  rw [if_pos h, if_pos h]
  congr 2
  omega
theorem itoa_pos {n : Int} (h : ¬ n < 0) : itoa n = decDigits (sizeI n).toNat := by
  unfold itoa sizeI
  rw [if_neg h, if_neg h]
theorem dec_small5 (N : Nat) (hN : N < 18446744073709551616) : (decDigits N).length < 100 := by
  have key : ∀ (k N : Nat), N < 10 ^ (k + 1) → (decDigits N).length ≤ k + 1 := by
    intro k
    induction k with
    | zero => intro N h; rw [decDigits, dif_pos (by simpa using h)]; simp
    | succ k ih =>
      intro N h
      rw [decDigits]
      split
      · simp
      · have := ih (N / 10) (by rw [Nat.pow_succ] at h; omega)
        simp; omega
  have := key 19 N (by omega)
  omega
theorem p51 (n : Int) (hn : I64 n) : Pu Tryz.prog 51 [.int .i64 n] (.str (itoa n)) := by
  have sn := sizeI_nn n hn
  have hc : ((sizeI n).toNat : Int) = sizeI n := Int.toNat_of_nonneg sn.1
  have hd := p89 (sizeI n).toNat (by omega)
  rw [hc] at hd
  have hl := dec_small5 (sizeI n).toNat (by omega)
  refine Pu_intro c51 b51 (Nat.le_of_ble_eq_true rfl) fun σ => ?_
  simp only [c51, ↓R1, RR, Nat.reduceEqDiff, Nat.reduceAdd, Nat.reduceMul, Nat.reduceSub, Nat.reduceLeDiff, Nat.reduceLT, reduceIte, reduceCtorEq, Int.reduceBNe, Int.reduceBEq]
  refine condV_split (fun h5 => ?_) (fun h5 => ?_) <;> simp at h5 <;> simp only [↓R1, RR, Nat.reduceEqDiff, Nat.reduceAdd, Nat.reduceMul, Nat.reduceSub, Nat.reduceLeDiff, Nat.reduceLT, reduceIte, reduceCtorEq, Int.reduceBNe, Int.reduceBEq]
  · refine (p90 n hn).to (wkL_refl _) ?_
    simp only [↓R1, RR, Nat.reduceEqDiff, Nat.reduceAdd, Nat.reduceMul, Nat.reduceSub, Nat.reduceLeDiff, Nat.reduceLT, reduceIte, reduceCtorEq, Int.reduceBNe, Int.reduceBEq]
    refine hd.to (wkL_refl _) ?_
    simp only [↓R1, RR, Nat.reduceEqDiff, Nat.reduceAdd, Nat.reduceMul, Nat.reduceSub, Nat.reduceLeDiff, Nat.reduceLT, reduceIte, reduceCtorEq, Int.reduceBNe, Int.reduceBEq]
    refine ⟨by omega, ?_⟩
    (refine endP_pu (by simp) (by first | (simp [rvsS, rvS]; done) | (simp only [rvsS, rvS, ↓R1, RR, Nat.reduceEqDiff, Nat.reduceAdd, Nat.reduceMul, Nat.reduceSub, Nat.reduceLeDiff, Nat.reduceLT, reduceIte, reduceCtorEq, Int.reduceBNe, Int.reduceBEq]; try simp)) (wk_of_eq ?_) (by (repeat (first | exact St.le_refl _ | (refine St.le_new ?_ (by assumption)) | (refine St.le_newT ?_ (by assumption))))))
    (simp only [resAV, rvV, List.map_cons, List.map_nil, ↓R1, RR, Nat.reduceEqDiff, Nat.reduceAdd, Nat.reduceMul, Nat.reduceSub, Nat.reduceLeDiff, Nat.reduceLT, reduceIte, reduceCtorEq, Int.reduceBNe, Int.reduceBEq])
    rw [itoa_neg h5]
  · refine (p90 n hn).to (wkL_refl _) ?_
    simp only [↓R1, RR, Nat.reduceEqDiff, Nat.reduceAdd, Nat.reduceMul, Nat.reduceSub, Nat.reduceLeDiff, Nat.reduceLT, reduceIte, reduceCtorEq, Int.reduceBNe, Int.reduceBEq]
    refine hd.to (wkL_refl _) ?_
    simp only [↓R1, RR, Nat.reduceEqDiff, Nat.reduceAdd, Nat.reduceMul, Nat.reduceSub, Nat.reduceLeDiff, Nat.reduceLT, reduceIte, reduceCtorEq, Int.reduceBNe, Int.reduceBEq]
    (refine endP_pu (by simp) (by first | (simp [rvsS, rvS]; done) | (simp only [rvsS, rvS, ↓R1, RR, Nat.reduceEqDiff, Nat.reduceAdd, Nat.reduceMul, Nat.reduceSub, Nat.reduceLeDiff, Nat.reduceLT, reduceIte, reduceCtorEq, Int.reduceBNe, Int.reduceBEq]; try simp)) (wk_of_eq ?_) (by (repeat (first | exact St.le_refl _ | (refine St.le_new ?_ (by assumption)) | (refine St.le_newT ?_ (by assumption))))))
    (simp only [resAV, rvV, List.map_cons, List.map_nil, ↓R1, RR, Nat.reduceEqDiff, Nat.reduceAdd, Nat.reduceMul, Nat.reduceSub, Nat.reduceLeDiff, Nat.reduceLT, reduceIte, reduceCtorEq, Int.reduceBNe, Int.reduceBEq])
    rw [itoa_pos (by omega)]
end Go.Proofs.YtncadbcjikekhaaGreatDoor
namespace Go.Proofs.YtncadbcjikekhaaGreatDoor
open Go.Abs Go.Lib
set_option linter.all false
set_option maxRecDepth 100000
def namesB : List UInt8 := [111, 107, 32, 32, 32, 32, 32, 32, 32, 32, 110, 105, 108, 32, 32, 32, 32, 32, 32, 32, 114, 97, 110, 103, 101, 32, 32, 32, 32, 32, 102, 111, 114, 109, 32, 32, 32, 32, 32, 32, 108, 111, 110, 103, 32, 32, 32, 32, 32, 32, 115, 104, 111, 114, 116, 32, 32, 32, 32, 32, 102, 117, 108, 108, 32, 32, 32, 32, 32, 32, 109, 105, 115, 115, 105, 110, 103, 32, 32, 32, 101, 120, 105, 115, 116, 115, 32, 32, 32, 32, 111, 114, 100, 101, 114, 32, 32, 32, 32, 32, 115, 116, 97, 116, 101, 32, 32, 32, 32, 32, 107, 105, 110, 100, 32, 32, 32, 32, 32, 32, 110, 97, 109, 101, 32, 32, 32, 32, 32, 32, 108, 97, 98, 101, 108, 32, 32, 32, 32, 32, 99, 108, 97, 115, 115, 32, 32, 32, 32, 32, 113, 117, 111, 116, 97, 32, 32, 32, 32, 32, 115, 117, 109, 32, 32, 32, 32, 32, 32, 32, 99, 97, 112, 32, 32, 32, 32, 32, 32, 32, 108, 111, 115, 116, 32, 32, 32, 32, 32, 32, 111, 117, 116, 32, 32, 32, 32, 32, 32, 32, 114, 117, 108, 101, 32, 32, 32, 32, 32, 32, 97, 117, 100, 105, 116, 32, 32, 32, 32, 32, 100, 101, 112, 116, 104, 32, 32, 32, 32, 32, 108, 105, 110, 101, 115, 32, 32, 32, 32, 32]
def rtrim (l : List UInt8) : List UInt8 := (l.reverse.dropWhile (· == 32)).reverse
def nameB (n : Int) : List UInt8 := (namesB.drop (10 * n).toNat).take 10
def errS (n : Int) : List UInt8 := bif decide (n < 0) || decide (24 ≤ n) then [117, 110, 107, 110, 111, 119, 110] else rtrim (nameB n)
theorem rtrim_snoc (l : List UInt8) : rtrim (l ++ [32]) = rtrim l := by simp [rtrim]
theorem rtrim_end (l : List UInt8) {c : UInt8} (h : c ≠ 32) : rtrim (l ++ [c]) = l ++ [c] := by
  have : (c == 32) = false := by simpa using h
  simp [rtrim, List.dropWhile_cons, this]
theorem name_facts : ∀ k : Fin 24, (nameB (k.1 : Int)).length = 10 ∧ (nameB (k.1 : Int)).head? ≠ some 32 ∧ (rtrim (nameB (k.1 : Int))).length ≤ 10 := by decide +kernel
theorem snoc_of {l : List UInt8} (h : l ≠ []) : ∃ r c, l = r ++ [c] ∧ l[l.length - 1]? = some c ∧ l.take (l.length - 1) = r := by
  refine ⟨l.dropLast, l.getLast h, (List.dropLast_concat_getLast h).symm, ?_, ?_⟩
  · rw [List.getLast_eq_getElem, List.getElem?_eq_getElem]
  · rw [List.dropLast_eq_take]
theorem p49 (n : Int) (hn : I64 n) : Pu Tryz.prog 49 [.int .i64 n] (.str (errS n)) := by
  have q1 : True := trivial
  have q2 : True := trivial
  have hw1 : True := trivial
  have hw2 : True := trivial
  have hw3 : True := trivial
  have hd : True := trivial
  cases h0 : (decide (n < 0) || decide (24 ≤ n)) with
  | true =>
    have q1 := h0
    have hs : errS n = [117, 110, 107, 110, 111, 119, 110] := by unfold errS; rw [h0]; rfl
    rw [hs]
    (refine Pu_intro c49 b49 (Nat.le_of_ble_eq_true rfl) fun σ => ?_; simp only [c49, ↓R1, RR, seval, q1, q2, hw1, hw2, hw3, hd])
    repeat' (first | (with_reducible rw [allocV_eq]) | (with_reducible refine And.intro ?_ ?_; focus (intros; (repeat' (with_reducible apply And.intro)) <;> first | omega | (simp only [RZ]; omega))) | (with_reducible apply And.intro) | ((first | (refine gdV_split (fun hc => ?_) (fun hc => ?_) <;> (try simp only [hc, ↓R1, RR, seval, q1, q2, hw1, hw2, hw3, hd])) | refine condV_split (fun hc => ?_) (fun hc => ?_) | (with_reducible intro β hβ; (try simp only [RB] at hβ); (repeat (obtain ⟨⟨_, _⟩, hβ⟩ := hβ)); (try (have hbis := apart_is (by assumption) hβ; obtain ⟨_, _⟩ := hbis)))) <;> (try simp only [↓R1, RR, seval, q1, q2, hw1, hw2, hw3, hd])))
    (refine endP_pu (by simp) (by first | (simp [rvsS, rvS]; done) | (simp only [rvsS, rvS, ↓R1, RR, seval, q1, q2, hw1, hw2, hw3, hd]; try simp)) (wk_of_eq ?_) (by (repeat (first | exact St.le_refl _ | (refine St.le_new ?_ (by assumption)) | (refine St.le_newT ?_ (by assumption))))))
    (simp only [resAV, rvV, List.map_cons, List.map_nil, ↓R1, RR, seval, q1, q2, hw1, hw2, hw3, hd])
  | false =>
    have q1 := h0
    simp only [Bool.or_eq_false_iff, decide_eq_false_iff_not] at h0
    have hs : errS n = rtrim (nameB n) := by unfold errS; rw [q1]; rfl
    have hw1 : IntKind.i64.wrap (10 * n) = 10 * n := wrap64 (by omega) (by omega)
    have hw2 : IntKind.i64.wrap (10 * n + 10) = 10 * n + 10 := wrap64 (by omega) (by omega)
    obtain ⟨hf1, hf2, hf3⟩ := name_facts ⟨n.toNat, by omega⟩
    rw [show ((n.toNat : Nat) : Int) = n by omega] at hf1 hf2 hf3
    rw [hs]
    (refine Pu_intro c49 b49 (Nat.le_of_ble_eq_true rfl) fun σ => ?_; simp only [c49, ↓R1, RR, seval, q1, q2, hw1, hw2, hw3, hd])
    repeat' (first | (with_reducible rw [allocV_eq]) | (with_reducible refine And.intro ?_ ?_; focus (intros; (repeat' (with_reducible apply And.intro)) <;> first | omega | (simp only [RZ]; omega))) | (with_reducible apply And.intro) | ((first | (refine gdV_split (fun hc => ?_) (fun hc => ?_) <;> (try simp only [hc, ↓R1, RR, seval, q1, q2, hw1, hw2, hw3, hd])) | refine condV_split (fun hc => ?_) (fun hc => ?_) | (with_reducible intro β hβ; (try simp only [RB] at hβ); (repeat (obtain ⟨⟨_, _⟩, hβ⟩ := hβ)); (try (have hbis := apart_is (by assumption) hβ; obtain ⟨_, _⟩ := hbis)))) <;> (try simp only [↓R1, RR, seval, q1, q2, hw1, hw2, hw3, hd])))
    refine loopV_st (α := List UInt8) (fun s => [(3, .str s)]) (fun _ => σ) (fun s => rtrim s = rtrim (nameB n) ∧ s.head? ≠ some 32 ∧ s.length ≤ 10 ∧ s ≠ []) (fun s => s.length) (nameB n) ?_ (St.le_refl _) ⟨rfl, hf2, by omega, by intro e; rw [e] at hf1; cases hf1⟩ ?_
    · have e10 : (10 * n + 10).toNat - (10 * n).toNat = 10 := by omega
      simp only [subF, slot, e10, ↓R1, RR, seval, q1, q2, hw1, hw2, hw3, hd]
      exact wk_of_eq rfl
    · rintro s ⟨hI1, hI2, hI3, hI4⟩
      obtain ⟨r, c, hs2, hlast, htake⟩ := snoc_of hI4
      have hd := hlast
      have hpos : 0 < s.length := List.length_pos_iff.2 hI4
      have hw3 : IntKind.i64.wrap ((s.length : Int) - 1) = ((s.length - 1 : Nat) : Int) := by rw [wrap64 (by omega) (by omega)]; omega
      by_cases hc32 : c = 32
      · have q2 : (((c.toNat : Nat) : Int) == 32) = true := by rw [hc32]; rfl
        have hr : r ≠ [] := by rintro rfl; subst hc32; exact hI2 (by rw [hs2]; rfl)
        have hrl : r.length = s.length - 1 := by rw [← htake]; simp
        simp only [↓R1, RR, seval, q1, q2, hw1, hw2, hw3, hd]
        repeat' (first | (with_reducible rw [allocV_eq]) | (with_reducible refine And.intro ?_ ?_; focus (intros; (repeat' (with_reducible apply And.intro)) <;> first | omega | (simp only [RZ]; omega))) | (with_reducible apply And.intro) | ((first | (refine gdV_split (fun hc => ?_) (fun hc => ?_) <;> (try simp only [hc, ↓R1, RR, seval, q1, q2, hw1, hw2, hw3, hd])) | refine condV_split (fun hc => ?_) (fun hc => ?_) | (with_reducible intro β hβ; (try simp only [RB] at hβ); (repeat (obtain ⟨⟨_, _⟩, hβ⟩ := hβ)); (try (have hbis := apart_is (by assumption) hβ; obtain ⟨_, _⟩ := hbis)))) <;> (try simp only [↓R1, RR, seval, q1, q2, hw1, hw2, hw3, hd])))
        refine ⟨r, ⟨?_, ?_, by omega, hr⟩, by simp [subF, slot, htake, wk_refl], St.le_refl _, by omega⟩
        · rw [← hI1, hs2, hc32, rtrim_snoc]
        · rw [hs2] at hI2
          cases r with
          | nil => exact absurd rfl hr
          | cons a r => simpa using hI2
      · have q2 : (((c.toNat : Nat) : Int) == 32) = false := by
          rw [beq_eq_false_iff_ne]
          intro e
          have e2 : c.toNat = 32 := by omega
          exact hc32 (UInt8.toNat_inj.1 (by rw [e2]; rfl))
        have hend : rtrim (nameB n) = s := by rw [← hI1, hs2]; exact rtrim_end r hc32
        rw [hend]
        simp only [↓R1, RR, seval, q1, q2, hw1, hw2, hw3, hd]
        repeat' (first | (with_reducible rw [allocV_eq]) | (with_reducible refine And.intro ?_ ?_; focus (intros; (repeat' (with_reducible apply And.intro)) <;> first | omega | (simp only [RZ]; omega))) | (with_reducible apply And.intro) | ((first | (refine gdV_split (fun hc => ?_) (fun hc => ?_) <;> (try simp only [hc, ↓R1, RR, seval, q1, q2, hw1, hw2, hw3, hd])) | refine condV_split (fun hc => ?_) (fun hc => ?_) | (with_reducible intro β hβ; (try simp only [RB] at hβ); (repeat (obtain ⟨⟨_, _⟩, hβ⟩ := hβ)); (try (have hbis := apart_is (by assumption) hβ; obtain ⟨_, _⟩ := hbis)))) <;> (try simp only [↓R1, RR, seval, q1, q2, hw1, hw2, hw3, hd])))
        (refine endP_pu (by simp) (by first | (simp [rvsS, rvS]; done) | (simp only [rvsS, rvS, ↓R1, RR, seval, q1, q2, hw1, hw2, hw3, hd]; try simp)) (wk_of_eq ?_) (by (repeat (first | exact St.le_refl _ | (refine St.le_new ?_ (by assumption)) | (refine St.le_newT ?_ (by assumption))))))
        (simp only [resAV, rvV, List.map_cons, List.map_nil, ↓R1, RR, seval, q1, q2, hw1, hw2, hw3, hd])
theorem errS_len (n : Int) : (errS n).length ≤ 10 := by
  unfold errS
  cases h0 : (decide (n < 0) || decide (24 ≤ n)) with
  | true => simp only [cond_true]; decide
  | false =>
    simp only [Bool.or_eq_false_iff, decide_eq_false_iff_not] at h0
    have h := name_facts ⟨n.toNat, by omega⟩
    rw [show ((n.toNat : Nat) : Int) = n by omega] at h
    exact h.2.2
theorem p47 (n : Int) (hn : I64 n) : PuG Tryz.prog gl3 47 [.int .i64 n] (.str (itoa n)) := by
  (refine PuG_intro c47 b47 (Nat.le_of_ble_eq_true rfl) fun σ hσ => ?_; simp only [c47, ↓R1, RR, seval])
  repeat' (first | (with_reducible rw [allocV_eq]) | (with_reducible refine And.intro ?_ ?_; focus (intros; (repeat' (with_reducible apply And.intro)) <;> first | omega | (simp only [RZ]; omega))) | (with_reducible apply And.intro) | ((first | (refine gdV_split (fun hc => ?_) (fun hc => ?_) <;> (try simp only [hc, ↓R1, RR, seval])) | refine condV_split (fun hc => ?_) (fun hc => ?_) | (with_reducible intro β hβ; (try simp only [RB] at hβ); (repeat (obtain ⟨⟨_, _⟩, hβ⟩ := hβ)); (try (have hbis := apart_is (by assumption) hβ; obtain ⟨_, _⟩ := hbis))) | refine PuG.to (p84 n hn) hσ (wkL_refl _) ?_) <;> (try simp only [↓R1, RR, seval])))
  (refine endP_pu (by simp) (by first | (simp [rvsS, rvS]; done) | (simp only [rvsS, rvS, ↓R1, RR, seval]; try simp)) (wk_of_eq ?_) (by (repeat (first | exact St.le_refl _ | (refine St.le_new ?_ (by assumption)) | (refine St.le_newT ?_ (by assumption))))))
  (simp only [resAV, rvV, List.map_cons, List.map_nil, ↓R1, RR, seval])
theorem p48 (n : Int) (hn : I64 n) : Pu Tryz.prog 48 [.int .i64 n] (.str (itoa n)) := by
  (refine Pu_intro c48 b48 (Nat.le_of_ble_eq_true rfl) fun σ => ?_; simp only [c48, ↓R1, RR, seval])
  repeat' (first | (with_reducible rw [allocV_eq]) | (with_reducible refine And.intro ?_ ?_; focus (intros; (repeat' (with_reducible apply And.intro)) <;> first | omega | (simp only [RZ]; omega))) | (with_reducible apply And.intro) | ((first | (refine gdV_split (fun hc => ?_) (fun hc => ?_) <;> (try simp only [hc, ↓R1, RR, seval])) | refine condV_split (fun hc => ?_) (fun hc => ?_) | (with_reducible intro β hβ; (try simp only [RB] at hβ); (repeat (obtain ⟨⟨_, _⟩, hβ⟩ := hβ)); (try (have hbis := apart_is (by assumption) hβ; obtain ⟨_, _⟩ := hbis))) | refine Pt (p51 n hn) ?_ | refine Ct (p51 n hn) ?_) <;> (try simp only [↓R1, RR, seval])))
  (refine endP_pu (by simp) (by first | (simp [rvsS, rvS]; done) | (simp only [rvsS, rvS, ↓R1, RR, seval]; try simp)) (wk_of_eq ?_) (by (repeat (first | exact St.le_refl _ | (refine St.le_new ?_ (by assumption)) | (refine St.le_newT ?_ (by assumption))))))
  (simp only [resAV, rvV, List.map_cons, List.map_nil, ↓R1, RR, seval])
inductive Wd where
  | s (t : List UInt8)
  | i (n : Int)
  | v (n : Int)
  | e (n : Int)
def cW : Wd → List AV
  | .s t => [.ifc 9 (.str t)]
  | .i n => [.ifc 3 (.int .i64 n)]
  | .v n => [.ifc 2 (.int .i64 n)]
  | .e n => [.ifc 25 (.int .i64 n)]
def wdT : Wd → List UInt8
  | .s t => t
  | .i n => itoa n
  | .v n => itoa n
  | .e n => errS n
def okW : Wd → Prop
  | .s t => t.length ≤ 100000
  | .i n => I64 n
  | .v n => I64 n
  | .e n => I64 n
theorem cW_len (l : List Wd) : (l.flatMap cW).length = l.length * 1 := flat_len (f := cW) (fun x => by cases x <;> rfl) l
theorem cW_get (l : List Wd) {k : Nat} (h : k < l.length) : ((l.flatMap cW).drop (k * 1)).take 1 = cW l[k] := flat_get (f := cW) (s := 1) (fun x => by cases x <;> rfl) l k h
theorem wd_step (l : List Wd) {k : Nat} (h : k < l.length) : (l.take k).map (fun x => AV.str (wdT x)) ++ [.str (wdT l[k])] = (l.take (k + 1)).map (fun x => AV.str (wdT x)) := by
  rw [← List.take_append_getElem h, List.map_append]; rfl
theorem itoa_len (n : Int) (hn : I64 n) : (itoa n).length ≤ 101 := by
  have sn := sizeI_nn n hn
  have hl := dec_small5 (sizeI n).toNat (by omega)
  by_cases h : n < 0
  · rw [itoa_neg h]; simp; omega
  · rw [itoa_pos h]; omega
theorem wdT_len {x : Wd} (h : okW x) : (wdT x).length ≤ 100000 := by
  cases x with
  | s t => exact h
  | i n => have := itoa_len n h; simp only [wdT]; omega
  | v n => have := itoa_len n h; simp only [wdT]; omega
  | e n => have := errS_len n; simp only [wdT]; omega
theorem join_len (l : List (List UInt8)) (sep : List UInt8) (m : Nat) (h : ∀ t ∈ l, t.length ≤ m) : (Lib.join l sep).length ≤ l.length * (m + sep.length) := by
  have lens_le : ∀ l : List (List UInt8), (∀ t ∈ l, t.length ≤ m) → Lib.lens l ≤ l.length * m := by
    intro l
    induction l with
    | nil => intro _; simp [Lib.lens]
    | cons x r ih =>
      intro h
      have h1 := h x List.mem_cons_self
      have h2 := ih (fun t ht => h t (List.mem_cons_of_mem _ ht))
      simp only [Lib.lens, List.map_cons, List.sum_cons, List.length_cons, Nat.add_mul, Nat.one_mul] at h2 ⊢
      omega
  cases l with
  | nil => simp [Lib.join_nil]
  | cons x r =>
    rw [Lib.join_length]
    have h1 := lens_le _ h
    have h2 : sep.length * r.length ≤ (r.length + 1) * sep.length := by rw [Nat.mul_comm]; exact Nat.mul_le_mul_right _ (by omega)
    simp only [List.length_cons] at h1 ⊢
    rw [Nat.mul_add]
    omega
set_option maxHeartbeats 2000000 in
theorem p45 (l : List Wd) (hl : l.length ≤ 1000) (hok : ∀ x ∈ l, okW x) : PuG Tryz.prog gl3 45 [.sl false l.length (l.flatMap cW)] (.str (Lib.join (l.map wdT) [32])) := by
  have q1 : True := trivial
  have hw : True := trivial
  have hd : True := trivial
  (refine PuG_intro c45 b45 (Nat.le_of_ble_eq_true rfl) fun σ hσ => ?_; simp only [c45, ↓R1, RR, seval, q1, hw, hd, cW])
  refine loopV_forT l.length 3 9 1 0 [] (fun τ k => [(3, .tsl τ k ((l.take k).map (fun x => AV.str (wdT x)))), (10, .sl false l.length (l.flatMap cW)), (11, .int .i64 (l.length : Nat)), (12, .int .i64 (k : Nat))]) (fun τ k => σ.setTip τ (9, 1, k)) (fun _ => True) trivial rfl trivial (fun τ => by simp [subF, slot, wk_refl]) (fun τ _ => St.le_refl _) (fun τ hτ k hk _ => ?_)
  by_cases hlt : k < l.length
  · have q1 : decide ((k : Int) < (l.length : Int)) = true := by rw [decide_eq_true_eq]; omega
    have hd := cW_get l hlt
    have hd2 := cW_len l
    have hw : IntKind.i64.wrap ((k : Int) + 1) = ((k + 1 : Nat) : Int) := by rw [wrap64 (by omega) (by omega)]; omega
    have hs := wd_step l hlt
    have hcl : ((l.take k).map (fun x => AV.str (wdT x))).length = k * 1 := by simp; omega
    have hx := hok _ (List.getElem_mem hlt)
    cases hlk : l[k] with
    | s t =>
      rw [hlk] at hd hs hx
      have hs : (l.take k).map (fun x => AV.str (wdT x)) ++ [.str (t)] = (l.take (k + 1)).map (fun x => AV.str (wdT x)) := hs
      simp only [q1, ↓R1, RR, seval, q1, hw, hd, cW]
      repeat' (first | (with_reducible rw [allocV_eq]) | (with_reducible refine And.intro ?_ ?_; focus (intros; (repeat' (with_reducible apply And.intro)) <;> first | omega | (simp only [RZ]; omega))) | (with_reducible apply And.intro) | ((first | (refine gdV_split (fun hc => ?_) (fun hc => ?_) <;> (try simp only [hc, ↓R1, RR, seval, q1, hw, hd, cW])) | refine condV_split (fun hc => ?_) (fun hc => ?_) | (with_reducible intro β hβ; (try simp only [RB] at hβ); (repeat (obtain ⟨⟨_, _⟩, hβ⟩ := hβ)); (try (have hbis := apart_is (by assumption) hβ; obtain ⟨_, _⟩ := hbis))) | ((first | refine appD_tslK (.inr rfl) rfl ?_ ?_ ?_ ?_ ?_ ?_ | refine appV_tslK rfl ?_ ?_ ?_ ?_ ?_ ?_); (first | rfl | exact St.tip_same _ _ _ | simp only [↓R1, RR, seval, q1, hw, hd, cW]); (iterate 2 (first | omega | (simp only [RZ]; first | done | omega) | rfl)); (unfold maxLen; omega); omega)) <;> (try simp only [↓R1, RR, seval, q1, hw, hd, cW])))
      · rw [hs]; simp [subF, slot, wk_refl]
      · exact St.le_refl _
    | i n =>
      rw [hlk] at hd hs hx
      have hs : (l.take k).map (fun x => AV.str (wdT x)) ++ [.str (itoa n)] = (l.take (k + 1)).map (fun x => AV.str (wdT x)) := hs
      simp only [q1, ↓R1, RR, seval, q1, hw, hd, cW]
      repeat' (first | (with_reducible rw [allocV_eq]) | (with_reducible refine And.intro ?_ ?_; focus (intros; (repeat' (with_reducible apply And.intro)) <;> first | omega | (simp only [RZ]; omega))) | (with_reducible apply And.intro) | ((first | (refine gdV_split (fun hc => ?_) (fun hc => ?_) <;> (try simp only [hc, ↓R1, RR, seval, q1, hw, hd, cW])) | refine condV_split (fun hc => ?_) (fun hc => ?_) | (with_reducible intro β hβ; (try simp only [RB] at hβ); (repeat (obtain ⟨⟨_, _⟩, hβ⟩ := hβ)); (try (have hbis := apart_is (by assumption) hβ; obtain ⟨_, _⟩ := hbis))) | ((first | refine appD_tslK (.inr rfl) rfl ?_ ?_ ?_ ?_ ?_ ?_ | refine appV_tslK rfl ?_ ?_ ?_ ?_ ?_ ?_); (first | rfl | exact St.tip_same _ _ _ | simp only [↓R1, RR, seval, q1, hw, hd, cW]); (iterate 2 (first | omega | (simp only [RZ]; first | done | omega) | rfl)); (unfold maxLen; omega); omega) | refine PuG.to (p47 n hx) hσ (wkL_refl _) ?_) <;> (try simp only [↓R1, RR, seval, q1, hw, hd, cW])))
      · rw [hs]; simp [subF, slot, wk_refl]
      · exact St.le_refl _
    | v n =>
      rw [hlk] at hd hs hx
      have hs : (l.take k).map (fun x => AV.str (wdT x)) ++ [.str (itoa n)] = (l.take (k + 1)).map (fun x => AV.str (wdT x)) := hs
      simp only [q1, ↓R1, RR, seval, q1, hw, hd, cW]
      repeat' (first | (with_reducible rw [allocV_eq]) | (with_reducible refine And.intro ?_ ?_; focus (intros; (repeat' (with_reducible apply And.intro)) <;> first | omega | (simp only [RZ]; omega))) | (with_reducible apply And.intro) | ((first | (refine gdV_split (fun hc => ?_) (fun hc => ?_) <;> (try simp only [hc, ↓R1, RR, seval, q1, hw, hd, cW])) | refine condV_split (fun hc => ?_) (fun hc => ?_) | (with_reducible intro β hβ; (try simp only [RB] at hβ); (repeat (obtain ⟨⟨_, _⟩, hβ⟩ := hβ)); (try (have hbis := apart_is (by assumption) hβ; obtain ⟨_, _⟩ := hbis))) | ((first | refine appD_tslK (.inr rfl) rfl ?_ ?_ ?_ ?_ ?_ ?_ | refine appV_tslK rfl ?_ ?_ ?_ ?_ ?_ ?_); (first | rfl | exact St.tip_same _ _ _ | simp only [↓R1, RR, seval, q1, hw, hd, cW]); (iterate 2 (first | omega | (simp only [RZ]; first | done | omega) | rfl)); (unfold maxLen; omega); omega) | refine PuG.to (p84 n hx) hσ (wkL_refl _) ?_) <;> (try simp only [↓R1, RR, seval, q1, hw, hd, cW])))
      · rw [hs]; simp [subF, slot, wk_refl]
      · exact St.le_refl _
    | e n =>
      rw [hlk] at hd hs hx
      have hs : (l.take k).map (fun x => AV.str (wdT x)) ++ [.str (errS n)] = (l.take (k + 1)).map (fun x => AV.str (wdT x)) := hs
      simp only [q1, ↓R1, RR, seval, q1, hw, hd, cW]
      repeat' (first | (with_reducible rw [allocV_eq]) | (with_reducible refine And.intro ?_ ?_; focus (intros; (repeat' (with_reducible apply And.intro)) <;> first | omega | (simp only [RZ]; omega))) | (with_reducible apply And.intro) | ((first | (refine gdV_split (fun hc => ?_) (fun hc => ?_) <;> (try simp only [hc, ↓R1, RR, seval, q1, hw, hd, cW])) | refine condV_split (fun hc => ?_) (fun hc => ?_) | (with_reducible intro β hβ; (try simp only [RB] at hβ); (repeat (obtain ⟨⟨_, _⟩, hβ⟩ := hβ)); (try (have hbis := apart_is (by assumption) hβ; obtain ⟨_, _⟩ := hbis))) | ((first | refine appD_tslK (.inr rfl) rfl ?_ ?_ ?_ ?_ ?_ ?_ | refine appV_tslK rfl ?_ ?_ ?_ ?_ ?_ ?_); (first | rfl | exact St.tip_same _ _ _ | simp only [↓R1, RR, seval, q1, hw, hd, cW]); (iterate 2 (first | omega | (simp only [RZ]; first | done | omega) | rfl)); (unfold maxLen; omega); omega) | refine Pt (p49 n hx) ?_ | refine Ct (p49 n hx) ?_) <;> (try simp only [↓R1, RR, seval, q1, hw, hd, cW])))
      · rw [hs]; simp [subF, slot, wk_refl]
      · exact St.le_refl _
  · have hke : k = l.length := by omega
    subst hke
    have q1 : decide ((l.length : Int) < (l.length : Int)) = false := by simp
    rw [List.take_length]
    simp only [q1, ↓R1, RR, seval, q1, hw, hd, cW]
    repeat' (first | (with_reducible rw [allocV_eq]) | (with_reducible refine And.intro ?_ ?_; focus (intros; (repeat' (with_reducible apply And.intro)) <;> first | omega | (simp only [RZ]; omega))) | (with_reducible apply And.intro) | ((first | (refine gdV_split (fun hc => ?_) (fun hc => ?_) <;> (try simp only [hc, ↓R1, RR, seval, q1, hw, hd, cW])) | refine condV_split (fun hc => ?_) (fun hc => ?_) | (with_reducible intro β hβ; (try simp only [RB] at hβ); (repeat (obtain ⟨⟨_, _⟩, hβ⟩ := hβ)); (try (have hbis := apart_is (by assumption) hβ; obtain ⟨_, _⟩ := hbis))) | ((first | refine appD_tslK (.inr rfl) rfl ?_ ?_ ?_ ?_ ?_ ?_ | refine appV_tslK rfl ?_ ?_ ?_ ?_ ?_ ?_); (first | rfl | exact St.tip_same _ _ _ | simp only [↓R1, RR, seval, q1, hw, hd, cW]); (iterate 2 (first | omega | (simp only [RZ]; first | done | omega) | rfl)); (unfold maxLen; omega); omega)) <;> (try simp only [↓R1, RR, seval, q1, hw, hd, cW])))
    have hjl := join_len (l.map wdT) [32] 100000 (fun t ht => by obtain ⟨x, hx, rfl⟩ := List.mem_map.1 ht; exact wdT_len (hok x hx))
    refine AC.mono (joins _ (l.map wdT) [32] _ (by simp [slv, Function.comp_def]) (by simp; omega) (by simp at hjl ⊢; omega)) ?_
    rintro _ _ ⟨rfl, rfl⟩
    simp only [↓R1, RR, seval, q1, hw, hd, cW]
    (refine endP_pu (by simp) (by first | (simp [rvsS, rvS]; done) | (simp only [rvsS, rvS, ↓R1, RR, seval, q1, hw, hd, cW]; try simp)) (wk_of_eq ?_) (by (repeat (first | exact St.le_refl _ | (refine St.le_new ?_ (by assumption)) | (refine St.le_newT ?_ (by assumption))))))
    (simp only [resAV, rvV, List.map_cons, List.map_nil, ↓R1, RR, seval, q1, hw, hd, cW])
end Go.Proofs.YtncadbcjikekhaaGreatDoor
namespace Go.Proofs.YtncadbcjikekhaaGreatDoor
open Go.Abs Go.Lib
set_option linter.all false
set_option maxRecDepth 100000
def U64 (n : Int) : Prop := 0 ≤ n ∧ n ≤ 18446744073709551615
structure OkIt (x : It) : Prop where
  ids : ∀ d ∈ x.ids, U64 d.l ∧ U64 d.n
  at' : ∀ a ∈ x.at', I64 a
  va : ∀ v ∈ x.va, I64 v
  q : I64 x.q
  e : I64 x.e
  c : I64 x.c
  li : x.ids.length ≤ 1000
  la : x.at'.length ≤ 1000
  lv : x.va.length ≤ 1000
def lblB (l : Int) : BitVec 64 := BitVec.ofInt 64 l
theorem lblB_nat {l : Int} (h : U64 l) : ((lblB l).toNat : Int) = l := by
  have h2 : ((2 ^ 64 : Nat) : Int) = 18446744073709551616 := by decide
  unfold lblB U64 at *
  rw [BitVec.toNat_ofInt, h2]
  omega
theorem textL_len (a : BitVec 64) : (textL a).length ≤ 194 := by
  have := bodyT_len a
  simp only [textL, List.length_cons, List.length_append, List.length_nil]; omega
def evT (d : Idd) (a : Int) : List UInt8 := textL (lblB d.l) ++ [35] ++ itoa d.n ++ [58] ++ itoa a
def evsT (x : It) : List (List UInt8) := (x.ids.zip x.at').map fun q => evT q.1 q.2
def sFound : List UInt8 := [102, 111, 117, 110, 100]
def sNotice : List UInt8 := [110, 111, 116, 105, 99, 101]
def tailW (x : It) : List (List UInt8) := bif x.e != 0 then [[33], errS x.e] else bif decide (0 < x.va.length) then [61] :: x.va.map itoa else []
def itemL (x : It) : List (List UInt8) := bif x.k == 2 then [itoa x.q, errS x.e, itoa x.c] else itoa x.q :: (evsT x ++ tailW x)
def itemH (x : It) : List UInt8 := bif x.k == 2 then sNotice else sFound
def itemS (x : It) : List UInt8 := Lib.join (itemH x :: itemL x) [32]
def itemV (x : It) : List AV := [.str (bif rightS x == 0 then itemS x else []), .int .i64 (rightS x)]
theorem found_ok {x : It} (h : foundS x = 0) : countB x.q = true ∧ x.ids.length ≠ 0 ∧ x.ids.length ≤ 12 ∧ x.at'.length = x.ids.length ∧ (∀ q ∈ x.ids.zip x.at', idBad q = false) ∧ (x.e = 0 ∨ x.e = 7 ∨ x.e = 16) ∧ (x.e ≠ 0 → x.va = []) ∧ x.va.length ≤ 4 ∧ x.c = 0 := by
  unfold foundS at h
  cases h1 : countB x.q with
  | false => rw [h1] at h; cases h
  | true =>
    rw [h1] at h
    simp only [Bool.not_true, cond_false] at h
    cases h2 : decide (x.ids.length = 0) with
    | true => rw [h2] at h; cases h
    | false =>
      rw [h2] at h
      simp only [cond_false] at h
      cases h3 : decide (12 < x.ids.length) with
      | true => rw [h3] at h; cases h
      | false =>
        rw [h3] at h
        simp only [cond_false] at h
        cases h4 : decide (x.at'.length = x.ids.length) with
        | false => rw [h4] at h; cases h
        | true =>
          rw [h4] at h
          simp only [Bool.not_true, cond_false] at h
          cases h5 : (x.ids.zip x.at').any idBad with
          | true => rw [h5] at h; cases h
          | false =>
            rw [h5] at h
            simp only [cond_false] at h
            rw [decide_eq_false_iff_not] at h2 h3
            rw [decide_eq_true_eq] at h4
            refine ⟨rfl, h2, by omega, h4, fun q hq => by simpa using List.any_eq_false.1 h5 q hq, ?_⟩
            unfold restS at h
            simp only [Bool.cond_eq_ite] at h
            have hv : x.va.length = 0 → x.va = [] := List.eq_nil_of_length_eq_zero
            grind
theorem notice_ok {x : It} (h : noticeS x = 0) : (x.e = 17 ∨ x.e = 18 ∨ x.e = 19) ∧ (x.q = 0 ∨ countB x.q = true) ∧ (x.c = 0 ∨ countB x.c = true) ∧ x.ids = [] ∧ x.at' = [] ∧ x.va = [] := by
  unfold noticeS at h
  simp only [Bool.cond_eq_ite] at h
  have h1 : x.ids.length = 0 → x.ids = [] := List.eq_nil_of_length_eq_zero
  have h2 : x.at'.length = 0 → x.at' = [] := List.eq_nil_of_length_eq_zero
  have h3 : x.va.length = 0 → x.va = [] := List.eq_nil_of_length_eq_zero
  by_cases hz : 0 < x.ids.length + x.at'.length + x.va.length
  · exfalso
    simp only [hz, decide_true, if_true] at h
    grind
  · have e1 := h1 (by omega)
    have e2 := h2 (by omega)
    have e3 := h3 (by omega)
    clear h1 h2 h3
    simp only [hz, decide_false] at h
    refine ⟨?_, ?_, ?_, e1, e2, e3⟩ <;> grind
theorem right_k {x : It} (h : rightS x = 0) : (x.k = 1 ∧ foundS x = 0) ∨ (x.k = 2 ∧ noticeS x = 0) := by
  unfold rightS at h
  simp only [Bool.cond_eq_ite] at h
  grind
def evW (d : Idd) (a : Int) : Wd := .s (evT d a)
theorem evT_len {d : Idd} {a : Int} (h : I64 d.n) (ha : I64 a) : (evT d a).length ≤ 500 := by
  have h1 := textL_len (lblB d.l)
  have h2 := itoa_len d.n h
  have h3 := itoa_len a ha
  simp only [evT, List.length_append, List.length_cons, List.length_nil]; omega
theorem zip_step (x : It) {k : Nat} (h : k < x.ids.length) (h2 : k < x.at'.length) : ((x.ids.zip x.at').take (k + 1)) = (x.ids.zip x.at').take k ++ [(x.ids[k], x.at'[k])] := by
  have hz : k < (x.ids.zip x.at').length := by rw [List.length_zip]; omega
  rw [← List.take_append_getElem hz, List.getElem_zip]
set_option maxHeartbeats 2000000 in
theorem notice_m (x : It) (ox : OkIt x) (hk : x.k = 2) (hr : noticeS x = 0) : PuG Tryz.prog gl3 11 [.agg (itL x)] (.tup [.str (itemS x), .int .i64 0]) := by
  have q0 : True := trivial
  have q1 : True := trivial
  have q2 : True := trivial
  have q3 : True := trivial
  have hd : True := trivial
  obtain ⟨he, hq, hc, hi, ha, hv⟩ := notice_ok hr
  have hR : rightS x = 0 := by unfold rightS; rw [hk, hr]; rfl
  have h1 := p13 x (by rw [hi]; simp) (by rw [ha]; simp) (by rw [hv]; simp)
  rw [hR] at h1
  simp only [itL] at h1
  have hS : itemS x = Lib.join [sNotice, itoa x.q, errS x.e, itoa x.c] [32] := by unfold itemS itemH itemL; rw [hk]; rfl
  have q1 : (x.k == 2) = true := by rw [hk]; rfl
  have hl1 := itoa_len x.q ox.q
  have hl2 := errS_len x.e
  have hl3 := itoa_len x.c ox.c
  rw [hS]
  (refine PuG_intro c11 b11 (Nat.le_of_ble_eq_true rfl) fun σ hσ => ?_; simp only [c11, ↓R1, RR, seval, q0, q1, q2, q3, hd])
  simp only [itL, ↓R1, RR, seval, q0, q1, q2, q3, hd]
  have hj := p45 [.s sNotice, .i x.q, .e x.e, .i x.c] (by simp) (by intro w hw; simp at hw; rcases hw with rfl | rfl | rfl | rfl; exact (by decide : sNotice.length ≤ 100000); exact ox.q; exact ox.e; exact ox.c)
  simp only [List.flatMap_cons, List.flatMap_nil, cW, sNotice, List.map_cons, List.map_nil, wdT, List.length_cons, List.length_nil, List.cons_append, List.nil_append] at hj
  repeat' (first | (with_reducible rw [allocV_eq]) | (with_reducible refine And.intro ?_ ?_; focus (intros; (repeat' (with_reducible apply And.intro)) <;> first | omega | (simp only [RZ, cP_len, cId_len, cI_len, cW_len]; omega))) | (with_reducible apply And.intro) | ((first | (refine gdV_split (fun hc => ?_) (fun hc => ?_) <;> (try simp only [hc, ↓R1, RR, seval, q0, q1, q2, q3, hd])) | refine condV_split (fun hc => ?_) (fun hc => ?_) | (with_reducible intro β hβ; (try simp only [RB] at hβ); (repeat (obtain ⟨⟨_, _⟩, hβ⟩ := hβ)); (try (have hbis := apart_is (by assumption) hβ; obtain ⟨_, _⟩ := hbis))) | refine Pt (h1) ?_ | refine Ct (h1) ?_ | (refine PuG.to hj hσ ?_ ?_; (focus ((repeat' (first | exact wk_refl _ | exact wk_nils | exact wk_tsl _ _ _ | exact wk_full _ _ | exact wkL.nil | exact wkL_refl _ | refine wk_tup ?_ | refine wk_agg ?_ | refine wkL.cons ?_ ?_)); done)))) <;> (try simp only [↓R1, RR, seval, q0, q1, q2, q3, hd])))
  (refine endP_pu (by simp) (by first | (simp [rvsS, rvS]; done) | (simp only [rvsS, rvS, ↓R1, RR, seval, q0, q1, q2, q3, hd]; try simp)) (wk_of_eq ?_) (by (repeat (first | exact St.le_refl _ | (refine St.le_new ?_ (by assumption)) | (refine St.le_newT ?_ (by assumption))))))
  (simp only [resAV, rvV, List.map_cons, List.map_nil, ↓R1, RR, seval, q0, q1, q2, q3, hd])
  all_goals rfl
end Go.Proofs.YtncadbcjikekhaaGreatDoor
namespace Go.Proofs.YtncadbcjikekhaaGreatDoor
open Go.Abs Go.Lib
set_option linter.all false
set_option maxRecDepth 100000
def preW (x : It) (k : Nat) : List Wd := .s sFound :: .i x.q :: (((x.ids.zip x.at').take k).map fun q => evW q.1 q.2)
theorem preW_step (x : It) {k : Nat} (h : k < x.ids.length) (h2 : k < x.at'.length) : (preW x k).flatMap cW ++ [.ifc 9 (.str (evT x.ids[k] x.at'[k]))] = (preW x (k + 1)).flatMap cW := by
  unfold preW
  rw [zip_step x h h2, List.map_append]
  simp [List.flatMap_cons, List.flatMap_append, cW, evW]
theorem preW_len (x : It) {k : Nat} (h : k ≤ x.ids.length) (h2 : k ≤ x.at'.length) : (preW x k).length = 2 + k := by
  simp [preW]; omega
theorem preW_wdT (x : It) {n : Nat} (hn : x.ids.length ≤ n) : (preW x n).map wdT = sFound :: itoa x.q :: evsT x := by
  unfold preW evsT
  rw [List.take_of_length_le (by simp; omega)]
  simp [evW, wdT, Function.comp_def]
theorem preW_ok (x : It) (ox : OkIt x) (hbad : ∀ q ∈ x.ids.zip x.at', idBad q = false) (k : Nat) : ∀ w ∈ preW x k, okW w := by
  intro w hw
  simp only [preW, List.mem_cons, List.mem_map] at hw
  rcases hw with rfl | rfl | ⟨q, hq, rfl⟩
  · exact (by decide : sFound.length ≤ 100000)
  · exact ox.q
  · have hm := List.mem_of_mem_take hq
    have hb := hbad _ hm
    simp only [idBad, Bool.or_eq_false_iff, decide_eq_false_iff_not] at hb
    have := evT_len (d := q.1) (a := q.2) ⟨by omega, by omega⟩ ⟨by omega, by omega⟩
    show (evT q.1 q.2).length ≤ 100000
    omega
def valW (x : It) (k : Nat) : List Wd := preW x x.ids.length ++ (.s [61] :: (x.va.take k).map Wd.v)
theorem valW_step (x : It) {k : Nat} (h : k < x.va.length) : (valW x k).flatMap cW ++ [.ifc 2 (.int .i64 x.va[k])] = (valW x (k + 1)).flatMap cW := by
  unfold valW
  rw [← List.take_append_getElem h, List.map_append]
  simp [List.flatMap_append, cW]
theorem valW_len (x : It) (hat : x.at'.length = x.ids.length) {k : Nat} (h : k ≤ x.va.length) : (valW x k).length = 2 + x.ids.length + 1 + k := by
  simp only [valW, List.length_append, preW_len x (Nat.le_refl _) (show x.ids.length ≤ x.at'.length by omega), List.length_cons, List.length_map, List.length_take]; omega
set_option maxHeartbeats 4000000 in
theorem found_m (x : It) (ox : OkIt x) (hk : x.k = 1) (hr : foundS x = 0) : PuG Tryz.prog gl3 11 [.agg (itL x)] (.tup [.str (itemS x), .int .i64 0]) := by
  have q0 : True := trivial
  have q1 : True := trivial
  have q2 : True := trivial
  have q3 : True := trivial
  have q4 : True := trivial
  have q5 : True := trivial
  have hw : True := trivial
  have hwn : True := trivial
  have hd : True := trivial
  have hd2 : True := trivial
  obtain ⟨hq, hn0, hn12, hat, hbad, he, hev, hv4, hc⟩ := found_ok hr
  have hR : rightS x = 0 := by unfold rightS; rw [hk, hr]; rfl
  have h1 := p13 x (by omega) (by omega) (by omega)
  rw [hR] at h1
  simp only [itL] at h1
  have q1 : (x.k == 2) = false := by rw [hk]; rfl
  have hS : itemS x = Lib.join (sFound :: itoa x.q :: (evsT x ++ tailW x)) [32] := by unfold itemS itemH itemL; rw [hk]; rfl
  have hidl := cId_len x.ids
  have hatl := cI_len x.at'
  have hval := cI_len x.va
  rw [hS]
  (refine PuG_intro c11 b11 (Nat.le_of_ble_eq_true rfl) fun σ hσ => ?_; simp only [c11, ↓R1, RR, seval, q0, q1, q2, q3, q4, q5, hw, hwn, hd, hd2])
  simp only [itL, ↓R1, RR, seval, q0, q1, q2, q3, q4, q5, hw, hwn, hd, hd2]
  repeat' (first | (with_reducible rw [allocV_eq]) | (with_reducible refine And.intro ?_ ?_; focus (intros; (repeat' (with_reducible apply And.intro)) <;> first | omega | (simp only [RZ, cP_len, cId_len, cI_len, cW_len, List.length_zip]; omega))) | (with_reducible apply And.intro) | ((first | (refine gdV_split (fun hc => ?_) (fun hc => ?_) <;> (try simp only [hc, ↓R1, RR, seval, q0, q1, q2, q3, q4, q5, hw, hwn, hd, hd2])) | refine condV_split (fun hc => ?_) (fun hc => ?_) | (with_reducible intro β hβ; (try simp only [RB] at hβ); (repeat (obtain ⟨⟨_, _⟩, hβ⟩ := hβ)); (try (have hbis := apart_is (by assumption) hβ; obtain ⟨_, _⟩ := hbis))) | ((first | refine appD_tslK (.inr rfl) rfl ?_ ?_ ?_ ?_ ?_ ?_ | refine appV_tslK rfl ?_ ?_ ?_ ?_ ?_ ?_); (first | rfl | exact St.tip_same _ _ _ | simp only [↓R1, RR, seval, q0, q1, q2, q3, q4, q5, hw, hwn, hd, hd2]); (iterate 2 (first | omega | (simp only [RZ, cP_len, cId_len, cI_len, cW_len, List.length_zip]; first | done | omega) | rfl)); (unfold maxLen; omega); omega) | refine Pt (h1) ?_ | refine Ct (h1) ?_) <;> (try simp only [↓R1, RR, seval, q0, q1, q2, q3, q4, q5, hw, hwn, hd, hd2])))
  rename_i b1 hb1
  have hpl := preW_len x (k := x.ids.length) (Nat.le_refl _) (by omega)
  have hpt := preW_wdT x (n := x.ids.length) (Nat.le_refl _)
  have hpo := preW_ok x ox hbad x.ids.length
  refine loopV_for x.ids.length (fun k => [(1, .ptr b1 0), (5, .tsl β (2 + k) ((preW x k).flatMap cW)), (36, .sl false x.ids.length (x.ids.flatMap cId)), (37, .int .i64 (x.ids.length : Nat)), (38, .int .i64 (k : Nat))])
    (fun k => (σ.setBox b1 [.int .i64 x.k, .int .i64 x.q, .sl false x.ids.length (x.ids.flatMap cId), .sl false x.at'.length (x.at'.flatMap cI), .sl false x.va.length (x.va.flatMap cI), .int .i64 x.e, .int .i64 x.c]).setTip β (20, 1, 2 + k)) (fun _ => True) (by simp [subF, slot, wk_refl, preW, cW, sFound]) (St.le_refl _) trivial (fun k hk _ => ?_)
  by_cases hlt : k < x.ids.length
  · have q2 : decide ((k : Int) < (x.ids.length : Int)) = true := by rw [decide_eq_true_eq]; omega
    have hla : k < x.at'.length := by omega
    have hd := cId_get x.ids hlt
    have hd2 := cI_get x.at' hla
    have hw : IntKind.i64.wrap ((k : Int) + 1) = ((k + 1 : Nat) : Int) := by rw [wrap64 (by omega) (by omega)]; omega
    have hz : (x.ids[k], x.at'[k]) ∈ x.ids.zip x.at' := by
      have hzl : k < (x.ids.zip x.at').length := by rw [List.length_zip]; omega
      have := List.getElem_mem hzl
      rwa [List.getElem_zip] at this
    have hb := hbad _ hz
    simp only [idBad, Bool.or_eq_false_iff, decide_eq_false_iff_not] at hb
    have hwn : IntKind.i64.wrap (x.ids[k]).n = (x.ids[k]).n := wrap64 (by omega) (by omega)
    have hlb : PuG Tryz.prog gl3 46 [.int .u64 (x.ids[k]).l] (.str (textL (lblB (x.ids[k]).l))) := by
      have h := PuG.up3 (p46 (lblB (x.ids[k]).l))
      rwa [lblB_nat (ox.ids _ (List.getElem_mem hlt)).1] at h
    have i1 : I64 (x.ids[k]).n := ⟨by omega, by omega⟩
    have i2 : I64 x.at'[k] := ⟨by omega, by omega⟩
    have l1 := textL_len (lblB (x.ids[k]).l)
    have l2 := itoa_len _ i1
    have l3 := itoa_len _ i2
    have hs : (preW x k).flatMap cW ++ [.ifc 9 (.str (textL (lblB (x.ids[k]).l) ++ [35] ++ itoa (x.ids[k]).n ++ [58] ++ itoa x.at'[k]))] = (preW x (k + 1)).flatMap cW := preW_step x hlt hla
    have hcl : ((preW x k).flatMap cW).length = (2 + k) * 1 := by rw [cW_len, preW_len x (by omega) (by omega)]
    simp only [cId] at hd
    simp only [cI] at hd2
    simp only [q2, ↓R1, RR, seval, q0, q1, q2, q3, q4, q5, hw, hwn, hd, hd2]
    repeat' (first | (with_reducible rw [allocV_eq]) | (with_reducible refine And.intro ?_ ?_; focus (intros; (repeat' (with_reducible apply And.intro)) <;> first | omega | (simp only [RZ, cP_len, cId_len, cI_len, cW_len, List.length_zip]; omega))) | (with_reducible apply And.intro) | ((first | (refine gdV_split (fun hc => ?_) (fun hc => ?_) <;> (try simp only [hc, ↓R1, RR, seval, q0, q1, q2, q3, q4, q5, hw, hwn, hd, hd2])) | refine condV_split (fun hc => ?_) (fun hc => ?_) | (with_reducible intro β hβ; (try simp only [RB] at hβ); (repeat (obtain ⟨⟨_, _⟩, hβ⟩ := hβ)); (try (have hbis := apart_is (by assumption) hβ; obtain ⟨_, _⟩ := hbis))) | ((first | refine appD_tslK (.inr rfl) rfl ?_ ?_ ?_ ?_ ?_ ?_ | refine appV_tslK rfl ?_ ?_ ?_ ?_ ?_ ?_); (first | rfl | exact St.tip_same _ _ _ | simp only [↓R1, RR, seval, q0, q1, q2, q3, q4, q5, hw, hwn, hd, hd2]); (iterate 2 (first | omega | (simp only [RZ, cP_len, cId_len, cI_len, cW_len, List.length_zip]; first | done | omega) | rfl)); (unfold maxLen; omega); omega) | refine callDV_puG (hlb) hσ (wkL_refl _) ?_ | refine callDV_puG (p47 _ i1) hσ (wkL_refl _) ?_ | refine callDV_puG (p47 _ i2) hσ (wkL_refl _) ?_) <;> (try simp only [↓R1, RR, seval, q0, q1, q2, q3, q4, q5, hw, hwn, hd, hd2])))
    · rw [hs]; simp [subF, slot, wk_refl, Nat.add_assoc]
    · rw [← Nat.add_assoc]; exact St.le_setTc (St.le_setBox (St.le_refl _) (by simp only [↓R1, RR, seval, q0, q1, q2, q3, q4, q5, hw, hwn, hd, hd2]; assumption))
  · have hke : k = x.ids.length := by omega
    subst hke
    have q2 : decide ((x.ids.length : Int) < (x.ids.length : Int)) = false := by simp
    have hcl : ((preW x x.ids.length).flatMap cW).length = (2 + x.ids.length) * 1 := by rw [cW_len, hpl]
    by_cases hez : x.e = 0
    · have q3 : (x.e != 0) = false := by rw [hez]; rfl
      by_cases hvz : x.va.length = 0
      · have q4 : decide ((0 : Int) < (x.va.length : Int)) = false := by rw [decide_eq_false_iff_not]; omega
        have ht : tailW x = [] := by unfold tailW; rw [q3, show decide (0 < x.va.length) = false by rw [decide_eq_false_iff_not]; omega]; rfl
        have hj := p45 (preW x x.ids.length) (by omega) hpo
        rw [hpl, hpt] at hj
        rw [ht, List.append_nil]
        simp only [q2, ↓R1, RR, seval, q0, q1, q2, q3, q4, q5, hw, hwn, hd, hd2]
        repeat' (first | (with_reducible rw [allocV_eq]) | (with_reducible refine And.intro ?_ ?_; focus (intros; (repeat' (with_reducible apply And.intro)) <;> first | omega | (simp only [RZ, cP_len, cId_len, cI_len, cW_len, List.length_zip]; omega))) | (with_reducible apply And.intro) | ((first | (refine gdV_split (fun hc => ?_) (fun hc => ?_) <;> (try simp only [hc, ↓R1, RR, seval, q0, q1, q2, q3, q4, q5, hw, hwn, hd, hd2])) | refine condV_split (fun hc => ?_) (fun hc => ?_) | (with_reducible intro β hβ; (try simp only [RB] at hβ); (repeat (obtain ⟨⟨_, _⟩, hβ⟩ := hβ)); (try (have hbis := apart_is (by assumption) hβ; obtain ⟨_, _⟩ := hbis))) | ((first | refine appD_tslK (.inr rfl) rfl ?_ ?_ ?_ ?_ ?_ ?_ | refine appV_tslK rfl ?_ ?_ ?_ ?_ ?_ ?_); (first | rfl | exact St.tip_same _ _ _ | simp only [↓R1, RR, seval, q0, q1, q2, q3, q4, q5, hw, hwn, hd, hd2]); (iterate 2 (first | omega | (simp only [RZ, cP_len, cId_len, cI_len, cW_len, List.length_zip]; first | done | omega) | rfl)); (unfold maxLen; omega); omega) | (refine PuG.to hj hσ ?_ ?_; (focus ((repeat' (first | exact wk_refl _ | exact wk_nils | exact wk_tsl _ _ _ | exact wk_full _ _ | exact wkL.nil | exact wkL_refl _ | refine wk_tup ?_ | refine wk_agg ?_ | refine wkL.cons ?_ ?_)); done)))) <;> (try simp only [↓R1, RR, seval, q0, q1, q2, q3, q4, q5, hw, hwn, hd, hd2])))
        (refine endP_pu (by simp) (by first | (simp [rvsS, rvS]; done) | (simp only [rvsS, rvS, ↓R1, RR, seval, q0, q1, q2, q3, q4, q5, hw, hwn, hd, hd2]; try simp)) (wk_of_eq ?_) (by (repeat (first | exact St.le_refl _ | (refine St.le_new ?_ (by assumption)) | (refine St.le_newT ?_ (by assumption))))))
        (simp only [resAV, rvV, List.map_cons, List.map_nil, ↓R1, RR, seval, q0, q1, q2, q3, q4, q5, hw, hwn, hd, hd2])
      · have q4 : decide ((0 : Int) < (x.va.length : Int)) = true := by rw [decide_eq_true_eq]; omega
        have ht : tailW x = [61] :: x.va.map itoa := by unfold tailW; rw [q3, show decide (0 < x.va.length) = true by rw [decide_eq_true_eq]; omega]; rfl
        rw [ht]
        simp only [q2, ↓R1, RR, seval, q0, q1, q2, q3, q4, q5, hw, hwn, hd, hd2]
        repeat' (first | (with_reducible rw [allocV_eq]) | (with_reducible refine And.intro ?_ ?_; focus (intros; (repeat' (with_reducible apply And.intro)) <;> first | omega | (simp only [RZ, cP_len, cId_len, cI_len, cW_len, List.length_zip]; omega))) | (with_reducible apply And.intro) | ((first | (refine gdV_split (fun hc => ?_) (fun hc => ?_) <;> (try simp only [hc, ↓R1, RR, seval, q0, q1, q2, q3, q4, q5, hw, hwn, hd, hd2])) | refine condV_split (fun hc => ?_) (fun hc => ?_) | (with_reducible intro β hβ; (try simp only [RB] at hβ); (repeat (obtain ⟨⟨_, _⟩, hβ⟩ := hβ)); (try (have hbis := apart_is (by assumption) hβ; obtain ⟨_, _⟩ := hbis))) | ((first | refine appD_tslK (.inr rfl) rfl ?_ ?_ ?_ ?_ ?_ ?_ | refine appV_tslK rfl ?_ ?_ ?_ ?_ ?_ ?_); (first | rfl | exact St.tip_same _ _ _ | simp only [↓R1, RR, seval, q0, q1, q2, q3, q4, q5, hw, hwn, hd, hd2]); (iterate 2 (first | omega | (simp only [RZ, cP_len, cId_len, cI_len, cW_len, List.length_zip]; first | done | omega) | rfl)); (unfold maxLen; omega); omega)) <;> (try simp only [↓R1, RR, seval, q0, q1, q2, q3, q4, q5, hw, hwn, hd, hd2])))
        refine loopV_for x.va.length (fun k => [(5, .tsl β (2 + x.ids.length + 1 + k) ((valW x k).flatMap cW)), (84, .sl false x.va.length (x.va.flatMap cI)), (85, .int .i64 (x.va.length : Nat)), (86, .int .i64 (k : Nat))])
          (fun k => (σ.setBox b1 [.int .i64 x.k, .int .i64 x.q, .sl false x.ids.length (x.ids.flatMap cId), .sl false x.at'.length (x.at'.flatMap cI), .sl false x.va.length (x.va.flatMap cI), .int .i64 x.e, .int .i64 x.c]).setTip β (20, 1, 2 + x.ids.length + 1 + k)) (fun _ => True) (by simp [subF, slot, wk_refl, valW, cW]) (by simp only [Nat.add_zero, ↓R1, RR, seval, q0, q1, q2, q3, q4, q5, hw, hwn, hd, hd2]; exact St.le_refl _) trivial (fun k hk _ => ?_)
        by_cases hlt : k < x.va.length
        · have q5 : decide ((k : Int) < (x.va.length : Int)) = true := by rw [decide_eq_true_eq]; omega
          have hd := cI_get x.va hlt
          have hw : IntKind.i64.wrap ((k : Int) + 1) = ((k + 1 : Nat) : Int) := by rw [wrap64 (by omega) (by omega)]; omega
          have hs := valW_step x hlt
          have hcl2 : ((valW x k).flatMap cW).length = (2 + x.ids.length + 1 + k) * 1 := by rw [cW_len, valW_len x hat (by omega)]
          simp only [cI] at hd
          simp only [q5, ↓R1, RR, seval, q0, q1, q2, q3, q4, q5, hw, hwn, hd, hd2]
          repeat' (first | (with_reducible rw [allocV_eq]) | (with_reducible refine And.intro ?_ ?_; focus (intros; (repeat' (with_reducible apply And.intro)) <;> first | omega | (simp only [RZ, cP_len, cId_len, cI_len, cW_len, List.length_zip]; omega))) | (with_reducible apply And.intro) | ((first | (refine gdV_split (fun hc => ?_) (fun hc => ?_) <;> (try simp only [hc, ↓R1, RR, seval, q0, q1, q2, q3, q4, q5, hw, hwn, hd, hd2])) | refine condV_split (fun hc => ?_) (fun hc => ?_) | (with_reducible intro β hβ; (try simp only [RB] at hβ); (repeat (obtain ⟨⟨_, _⟩, hβ⟩ := hβ)); (try (have hbis := apart_is (by assumption) hβ; obtain ⟨_, _⟩ := hbis))) | ((first | refine appD_tslK (.inr rfl) rfl ?_ ?_ ?_ ?_ ?_ ?_ | refine appV_tslK rfl ?_ ?_ ?_ ?_ ?_ ?_); (first | rfl | exact St.tip_same _ _ _ | simp only [↓R1, RR, seval, q0, q1, q2, q3, q4, q5, hw, hwn, hd, hd2]); (iterate 2 (first | omega | (simp only [RZ, cP_len, cId_len, cI_len, cW_len, List.length_zip]; first | done | omega) | rfl)); (unfold maxLen; omega); omega)) <;> (try simp only [↓R1, RR, seval, q0, q1, q2, q3, q4, q5, hw, hwn, hd, hd2])))
          · rw [hs]; simp [subF, slot, wk_refl, Nat.add_assoc]
          · rw [← Nat.add_assoc]; exact St.le_refl _
        · have hke : k = x.va.length := by omega
          subst hke
          have q5 : decide ((x.va.length : Int) < (x.va.length : Int)) = false := by simp
          have hj := p45 (valW x x.va.length) (by rw [valW_len x hat (Nat.le_refl _)]; omega) (by
            intro w hw
            rcases List.mem_append.1 hw with h | h
            · exact hpo w h
            · rcases List.mem_cons.1 h with rfl | h
              · exact (by decide : [(61 : UInt8)].length ≤ 100000)
              · obtain ⟨v, hv, rfl⟩ := List.mem_map.1 h
                exact ox.va v (List.mem_of_mem_take hv))
          rw [valW_len x hat (Nat.le_refl _)] at hj
          have hmt : (valW x x.va.length).map wdT = sFound :: itoa x.q :: (evsT x ++ [61] :: x.va.map itoa) := by
            unfold valW
            rw [List.map_append, hpt, List.take_length, List.map_cons, List.map_map]
            rfl
          rw [hmt] at hj
          simp only [q5, ↓R1, RR, seval, q0, q1, q2, q3, q4, q5, hw, hwn, hd, hd2]
          repeat' (first | (with_reducible rw [allocV_eq]) | (with_reducible refine And.intro ?_ ?_; focus (intros; (repeat' (with_reducible apply And.intro)) <;> first | omega | (simp only [RZ, cP_len, cId_len, cI_len, cW_len, List.length_zip]; omega))) | (with_reducible apply And.intro) | ((first | (refine gdV_split (fun hc => ?_) (fun hc => ?_) <;> (try simp only [hc, ↓R1, RR, seval, q0, q1, q2, q3, q4, q5, hw, hwn, hd, hd2])) | refine condV_split (fun hc => ?_) (fun hc => ?_) | (with_reducible intro β hβ; (try simp only [RB] at hβ); (repeat (obtain ⟨⟨_, _⟩, hβ⟩ := hβ)); (try (have hbis := apart_is (by assumption) hβ; obtain ⟨_, _⟩ := hbis))) | ((first | refine appD_tslK (.inr rfl) rfl ?_ ?_ ?_ ?_ ?_ ?_ | refine appV_tslK rfl ?_ ?_ ?_ ?_ ?_ ?_); (first | rfl | exact St.tip_same _ _ _ | simp only [↓R1, RR, seval, q0, q1, q2, q3, q4, q5, hw, hwn, hd, hd2]); (iterate 2 (first | omega | (simp only [RZ, cP_len, cId_len, cI_len, cW_len, List.length_zip]; first | done | omega) | rfl)); (unfold maxLen; omega); omega) | (refine PuG.to hj hσ ?_ ?_; (focus ((repeat' (first | exact wk_refl _ | exact wk_nils | exact wk_tsl _ _ _ | exact wk_full _ _ | exact wkL.nil | exact wkL_refl _ | refine wk_tup ?_ | refine wk_agg ?_ | refine wkL.cons ?_ ?_)); done)))) <;> (try simp only [↓R1, RR, seval, q0, q1, q2, q3, q4, q5, hw, hwn, hd, hd2])))
          (refine endP_pu (by simp) (by first | (simp [rvsS, rvS]; done) | (simp only [rvsS, rvS, ↓R1, RR, seval, q0, q1, q2, q3, q4, q5, hw, hwn, hd, hd2]; try simp)) (wk_of_eq ?_) (by (repeat (first | exact St.le_refl _ | (refine St.le_new ?_ (by assumption)) | (refine St.le_newT ?_ (by assumption))))))
          (simp only [resAV, rvV, List.map_cons, List.map_nil, ↓R1, RR, seval, q0, q1, q2, q3, q4, q5, hw, hwn, hd, hd2])
    · have q3 : (x.e != 0) = true := by rw [bne_iff_ne]; exact hez
      have ht : tailW x = [[33], errS x.e] := by unfold tailW; rw [q3]; rfl
      have hj := p45 (preW x x.ids.length ++ [.s [33], .e x.e]) (by simp; omega) (by
        intro w hw
        rcases List.mem_append.1 hw with h | h
        · exact hpo w h
        · simp at h; rcases h with rfl | rfl
          · exact (by decide : [(33 : UInt8)].length ≤ 100000)
          · exact ox.e)
      rw [List.length_append, hpl, List.map_append, hpt, List.flatMap_append] at hj
      have e2 : ([.s [33], .e x.e] : List Wd).flatMap cW = [.ifc 9 (.str [33]), .ifc 25 (.int .i64 x.e)] := rfl
      rw [e2] at hj
      rw [ht]
      simp only [q2, ↓R1, RR, seval, q0, q1, q2, q3, q4, q5, hw, hwn, hd, hd2]
      repeat' (first | (with_reducible rw [allocV_eq]) | (with_reducible refine And.intro ?_ ?_; focus (intros; (repeat' (with_reducible apply And.intro)) <;> first | omega | (simp only [RZ, cP_len, cId_len, cI_len, cW_len, List.length_zip]; omega))) | (with_reducible apply And.intro) | ((first | (refine gdV_split (fun hc => ?_) (fun hc => ?_) <;> (try simp only [hc, ↓R1, RR, seval, q0, q1, q2, q3, q4, q5, hw, hwn, hd, hd2])) | refine condV_split (fun hc => ?_) (fun hc => ?_) | (with_reducible intro β hβ; (try simp only [RB] at hβ); (repeat (obtain ⟨⟨_, _⟩, hβ⟩ := hβ)); (try (have hbis := apart_is (by assumption) hβ; obtain ⟨_, _⟩ := hbis))) | ((first | refine appD_tslK (.inr rfl) rfl ?_ ?_ ?_ ?_ ?_ ?_ | refine appV_tslK rfl ?_ ?_ ?_ ?_ ?_ ?_); (first | rfl | exact St.tip_same _ _ _ | simp only [↓R1, RR, seval, q0, q1, q2, q3, q4, q5, hw, hwn, hd, hd2]); (iterate 2 (first | omega | (simp only [RZ, cP_len, cId_len, cI_len, cW_len, List.length_zip]; first | done | omega) | rfl)); (unfold maxLen; omega); omega) | (refine PuG.to hj hσ ?_ ?_; (focus ((repeat' (first | exact wk_refl _ | exact wk_nils | exact wk_tsl _ _ _ | exact wk_full _ _ | exact wkL.nil | exact wkL_refl _ | refine wk_tup ?_ | refine wk_agg ?_ | refine wkL.cons ?_ ?_)); done)))) <;> (try simp only [↓R1, RR, seval, q0, q1, q2, q3, q4, q5, hw, hwn, hd, hd2])))
      (refine endP_pu (by simp) (by first | (simp [rvsS, rvS]; done) | (simp only [rvsS, rvS, ↓R1, RR, seval, q0, q1, q2, q3, q4, q5, hw, hwn, hd, hd2]; try simp)) (wk_of_eq ?_) (by (repeat (first | exact St.le_refl _ | (refine St.le_new ?_ (by assumption)) | (refine St.le_newT ?_ (by assumption))))))
      (simp only [resAV, rvV, List.map_cons, List.map_nil, ↓R1, RR, seval, q0, q1, q2, q3, q4, q5, hw, hwn, hd, hd2])
      all_goals rfl
end Go.Proofs.YtncadbcjikekhaaGreatDoor
namespace Go.Proofs.YtncadbcjikekhaaGreatDoor
open Go.Abs Go.Lib
set_option linter.all false
set_option maxRecDepth 100000
theorem p11 (x : It) (ox : OkIt x) : PuG Tryz.prog gl3 11 [.agg (itL x)] (.tup (itemV x)) := by
  have q0 : True := trivial
  have q1 : True := trivial
  have q2 : True := trivial
  have q3 : True := trivial
  have q4 : True := trivial
  have q5 : True := trivial
  have hw : True := trivial
  have hwn : True := trivial
  have hd : True := trivial
  have hd2 : True := trivial
  unfold itemV
  by_cases hr : rightS x = 0
  · rw [hr]
    rcases right_k hr with ⟨h1, h2⟩ | ⟨h1, h2⟩
    · exact found_m x ox h1 h2
    · exact notice_m x ox h1 h2
  · have q0 : (rightS x != 0) = true := by rw [bne_iff_ne]; exact hr
    have hb : (rightS x == 0) = false := by rw [beq_eq_false_iff_ne]; exact hr
    have h1 := p13 x (by have := ox.li; omega) (by have := ox.la; omega) (by have := ox.lv; omega)
    simp only [itL] at h1
    rw [hb]
    (refine PuG_intro c11 b11 (Nat.le_of_ble_eq_true rfl) fun σ hσ => ?_; simp only [c11, ↓R1, RR, seval, q0, q1, q2, q3, q4, q5, hw, hwn, hd, hd2])
    simp only [itL, ↓R1, RR, seval, q0, q1, q2, q3, q4, q5, hw, hwn, hd, hd2]
    repeat' (first | (with_reducible rw [allocV_eq]) | (with_reducible refine And.intro ?_ ?_; focus (intros; (repeat' (with_reducible apply And.intro)) <;> first | omega | (simp only [RZ, cP_len, cId_len, cI_len, cW_len, List.length_zip]; omega))) | (with_reducible apply And.intro) | ((first | (refine gdV_split (fun hc => ?_) (fun hc => ?_) <;> (try simp only [hc, ↓R1, RR, seval, q0, q1, q2, q3, q4, q5, hw, hwn, hd, hd2])) | refine condV_split (fun hc => ?_) (fun hc => ?_) | (with_reducible intro β hβ; (try simp only [RB] at hβ); (repeat (obtain ⟨⟨_, _⟩, hβ⟩ := hβ)); (try (have hbis := apart_is (by assumption) hβ; obtain ⟨_, _⟩ := hbis))) | refine Pt (h1) ?_ | refine Ct (h1) ?_) <;> (try simp only [↓R1, RR, seval, q0, q1, q2, q3, q4, q5, hw, hwn, hd, hd2])))
    (refine endP_pu (by simp) (by first | (simp [rvsS, rvS]; done) | (simp only [rvsS, rvS, ↓R1, RR, seval, q0, q1, q2, q3, q4, q5, hw, hwn, hd, hd2]; try simp)) (wk_of_eq ?_) (by (repeat (first | exact St.le_refl _ | (refine St.le_new ?_ (by assumption)) | (refine St.le_newT ?_ (by assumption))))))
    (simp only [resAV, rvV, List.map_cons, List.map_nil, ↓R1, RR, seval, q0, q1, q2, q3, q4, q5, hw, hwn, hd, hd2])
end Go.Proofs.YtncadbcjikekhaaGreatDoor
namespace Go.Proofs.YtncadbcjikekhaaGreatDoor
open Go.Abs Go.Lib
set_option linter.all false
set_option maxRecDepth 100000
def cmpN (a b : Int) : Int := bif decide (a < b) then -1 else bif decide (b < a) then 1 else 0
def cmpL : List Int → List Int → Int
  | [], [] => 0
  | [], _ :: _ => -1
  | _ :: _, [] => 1
  | a :: l, b :: m => bif cmpN a b != 0 then cmpN a b else cmpL l m
def orS (l : List Int) : Int := (l.find? (· != 0)).getD 0
def lastP (l : List Pl) : Int := match l.getLast? with
  | some x => x.p
  | none => 0
def cmpM (a b : List Pl) : Int := orS [cmpN (lastP a) (lastP b), cmpL (posL a) (posL b), cmpL (atomL a) (atomL b)]
theorem cmpN_self (a : Int) : cmpN a a = 0 := by simp [cmpN]
theorem p117 (n : Int) : Pu Tryz.prog 117 [.int .i64 n] (.bool false) := by
  (refine Pu_intro c117 b117 (Nat.le_of_ble_eq_true rfl) fun σ => ?_; simp only [c117, ↓R1, RR, seval])
  repeat' (first | (with_reducible rw [allocV_eq]) | (with_reducible refine And.intro ?_ ?_; focus (intros; (repeat' (with_reducible apply And.intro)) <;> first | omega | (simp only [RZ, cP_len, cI_len]; omega))) | (with_reducible apply And.intro) | ((first | (refine gdV_split (fun hc => ?_) (fun hc => ?_) <;> (try simp only [hc, ↓R1, RR, seval])) | refine condV_split (fun hc => ?_) (fun hc => ?_) | (with_reducible intro β hβ; (try simp only [RB] at hβ); (repeat (obtain ⟨⟨_, _⟩, hβ⟩ := hβ)); (try (have hbis := apart_is (by assumption) hβ; obtain ⟨_, _⟩ := hbis)))) <;> (try simp only [↓R1, RR, seval])))
  (refine endP_pu (by simp) (by first | (simp [rvsS, rvS]; done) | (simp only [rvsS, rvS, ↓R1, RR, seval]; try simp)) (wk_of_eq ?_) (by (repeat (first | exact St.le_refl _ | (refine St.le_new ?_ (by assumption)) | (refine St.le_newT ?_ (by assumption))))))
  (simp only [resAV, rvV, List.map_cons, List.map_nil, ↓R1, RR, seval])
theorem p96 (a b : Int) : Pu Tryz.prog 96 [.int .i64 a, .int .i64 b] (.int .i64 (cmpN a b)) := by
  (refine Pu_intro c96 b96 (Nat.le_of_ble_eq_true rfl) fun σ => ?_; simp only [c96, ↓R1, RR, seval])
  repeat' (first | (with_reducible rw [allocV_eq]) | (with_reducible refine And.intro ?_ ?_; focus (intros; (repeat' (with_reducible apply And.intro)) <;> first | omega | (simp only [RZ, cP_len, cI_len]; omega))) | (with_reducible apply And.intro) | ((first | (refine gdV_split (fun hc => ?_) (fun hc => ?_) <;> (try simp only [hc, ↓R1, RR, seval])) | refine condV_split (fun hc => ?_) (fun hc => ?_) | (with_reducible intro β hβ; (try simp only [RB] at hβ); (repeat (obtain ⟨⟨_, _⟩, hβ⟩ := hβ)); (try (have hbis := apart_is (by assumption) hβ; obtain ⟨_, _⟩ := hbis))) | refine Pt (p117 a) ?_ | refine Ct (p117 a) ?_ | refine Pt (p117 b) ?_ | refine Ct (p117 b) ?_) <;> (try simp only [↓R1, RR, seval])))
  all_goals (refine endP_pu (by simp) (by first | (simp [rvsS, rvS]; done) | (simp only [rvsS, rvS, ↓R1, RR, seval]; try simp)) (wk_of_eq ?_) (by (repeat (first | exact St.le_refl _ | (refine St.le_new ?_ (by assumption)) | (refine St.le_newT ?_ (by assumption))))))
  all_goals (simp only [resAV, rvV, List.map_cons, List.map_nil, ↓R1, RR, seval])
  all_goals (refine congrArg (AV.int .i64) ?_; simp only [cmpN, Bool.cond_eq_ite]; grind)
theorem p98 (a b : Int) : Pu Tryz.prog 98 [.int .i64 a, .int .i64 b] (.int .i64 (cmpN a b)) := by
  (refine Pu_intro c98 b98 (Nat.le_of_ble_eq_true rfl) fun σ => ?_; simp only [c98, ↓R1, RR, seval])
  repeat' (first | (with_reducible rw [allocV_eq]) | (with_reducible refine And.intro ?_ ?_; focus (intros; (repeat' (with_reducible apply And.intro)) <;> first | omega | (simp only [RZ, cP_len, cI_len]; omega))) | (with_reducible apply And.intro) | ((first | (refine gdV_split (fun hc => ?_) (fun hc => ?_) <;> (try simp only [hc, ↓R1, RR, seval])) | refine condV_split (fun hc => ?_) (fun hc => ?_) | (with_reducible intro β hβ; (try simp only [RB] at hβ); (repeat (obtain ⟨⟨_, _⟩, hβ⟩ := hβ)); (try (have hbis := apart_is (by assumption) hβ; obtain ⟨_, _⟩ := hbis)))) <;> (try simp only [↓R1, RR, seval])))
  all_goals (refine endP_pu (by simp) (by first | (simp [rvsS, rvS]; done) | (simp only [rvsS, rvS, ↓R1, RR, seval]; try simp)) (wk_of_eq ?_) (by (repeat (first | exact St.le_refl _ | (refine St.le_new ?_ (by assumption)) | (refine St.le_newT ?_ (by assumption))))))
  all_goals (simp only [resAV, rvV, List.map_cons, List.map_nil, ↓R1, RR, seval])
  all_goals (refine congrArg (AV.int .i64) ?_; simp only [cmpN, Bool.cond_eq_ite]; grind)
theorem p95 (l : List Int) (hl : l.length ≤ 1000000) : Pu Tryz.prog 95 [.sl false l.length (l.flatMap cI)] (.int .i64 (orS l)) := by
  have q1 : True := trivial
  have q2 : True := trivial
  have q3 : True := trivial
  have hw : True := trivial
  have hd : True := trivial
  have hd2 : True := trivial
  (refine Pu_intro c95 b95 (Nat.le_of_ble_eq_true rfl) fun σ => ?_; simp only [c95, ↓R1, RR, seval, q1, q2, q3, hw, hd, hd2])
  refine loopV_for l.length (fun k => [(3, .int .i64 0), (6, .sl false l.length (l.flatMap cI)), (7, .int .i64 (l.length : Nat)), (8, .int .i64 (k : Nat))]) (fun _ => σ) (fun k => orS l = orS (l.drop k)) (by simp [subF, slot, wk_refl]) (St.le_refl _) rfl (fun k hk hI => ?_)
  by_cases hlt : k < l.length
  · have q1 : decide ((k : Int) < (l.length : Int)) = true := by rw [decide_eq_true_eq]; omega
    have hd := cI_get l hlt
    have hcl := cI_len l
    have hw : IntKind.i64.wrap ((k : Int) + 1) = ((k + 1 : Nat) : Int) := by rw [wrap64 (by omega) (by omega)]; omega
    simp only [cI] at hd
    rw [List.drop_eq_getElem_cons hlt] at hI
    cases q2 : (l[k] != 0) with
    | true =>
      have : orS l = l[k] := by rw [hI, orS, List.find?_cons, q2]; rfl
      rw [this]
      simp only [q1, ↓R1, RR, seval, q1, q2, q3, hw, hd, hd2]
      repeat' (first | (with_reducible rw [allocV_eq]) | (with_reducible refine And.intro ?_ ?_; focus (intros; (repeat' (with_reducible apply And.intro)) <;> first | omega | (simp only [RZ, cP_len, cI_len]; omega))) | (with_reducible apply And.intro) | ((first | (refine gdV_split (fun hc => ?_) (fun hc => ?_) <;> (try simp only [hc, ↓R1, RR, seval, q1, q2, q3, hw, hd, hd2])) | refine condV_split (fun hc => ?_) (fun hc => ?_) | (with_reducible intro β hβ; (try simp only [RB] at hβ); (repeat (obtain ⟨⟨_, _⟩, hβ⟩ := hβ)); (try (have hbis := apart_is (by assumption) hβ; obtain ⟨_, _⟩ := hbis)))) <;> (try simp only [↓R1, RR, seval, q1, q2, q3, hw, hd, hd2])))
      (refine endP_pu (by simp) (by first | (simp [rvsS, rvS]; done) | (simp only [rvsS, rvS, ↓R1, RR, seval, q1, q2, q3, hw, hd, hd2]; try simp)) (wk_of_eq ?_) (by (repeat (first | exact St.le_refl _ | (refine St.le_new ?_ (by assumption)) | (refine St.le_newT ?_ (by assumption))))))
      (simp only [resAV, rvV, List.map_cons, List.map_nil, ↓R1, RR, seval, q1, q2, q3, hw, hd, hd2])
    | false =>
      simp only [q1, ↓R1, RR, seval, q1, q2, q3, hw, hd, hd2]
      repeat' (first | (with_reducible rw [allocV_eq]) | (with_reducible refine And.intro ?_ ?_; focus (intros; (repeat' (with_reducible apply And.intro)) <;> first | omega | (simp only [RZ, cP_len, cI_len]; omega))) | (with_reducible apply And.intro) | ((first | (refine gdV_split (fun hc => ?_) (fun hc => ?_) <;> (try simp only [hc, ↓R1, RR, seval, q1, q2, q3, hw, hd, hd2])) | refine condV_split (fun hc => ?_) (fun hc => ?_) | (with_reducible intro β hβ; (try simp only [RB] at hβ); (repeat (obtain ⟨⟨_, _⟩, hβ⟩ := hβ)); (try (have hbis := apart_is (by assumption) hβ; obtain ⟨_, _⟩ := hbis)))) <;> (try simp only [↓R1, RR, seval, q1, q2, q3, hw, hd, hd2])))
      · rw [hI, orS, List.find?_cons, q2]; rfl
      · simp [subF, slot, wk_refl]
      · exact St.le_refl _
  · have hke : k = l.length := by omega
    subst hke
    have q1 : decide ((l.length : Int) < (l.length : Int)) = false := by simp
    have : orS l = 0 := by rw [hI, List.drop_length]; rfl
    rw [this]
    simp only [q1, ↓R1, RR, seval, q1, q2, q3, hw, hd, hd2]
    repeat' (first | (with_reducible rw [allocV_eq]) | (with_reducible refine And.intro ?_ ?_; focus (intros; (repeat' (with_reducible apply And.intro)) <;> first | omega | (simp only [RZ, cP_len, cI_len]; omega))) | (with_reducible apply And.intro) | ((first | (refine gdV_split (fun hc => ?_) (fun hc => ?_) <;> (try simp only [hc, ↓R1, RR, seval, q1, q2, q3, hw, hd, hd2])) | refine condV_split (fun hc => ?_) (fun hc => ?_) | (with_reducible intro β hβ; (try simp only [RB] at hβ); (repeat (obtain ⟨⟨_, _⟩, hβ⟩ := hβ)); (try (have hbis := apart_is (by assumption) hβ; obtain ⟨_, _⟩ := hbis)))) <;> (try simp only [↓R1, RR, seval, q1, q2, q3, hw, hd, hd2])))
    (refine endP_pu (by simp) (by first | (simp [rvsS, rvS]; done) | (simp only [rvsS, rvS, ↓R1, RR, seval, q1, q2, q3, hw, hd, hd2]; try simp)) (wk_of_eq ?_) (by (repeat (first | exact St.le_refl _ | (refine St.le_new ?_ (by assumption)) | (refine St.le_newT ?_ (by assumption))))))
    (simp only [resAV, rvV, List.map_cons, List.map_nil, ↓R1, RR, seval, q1, q2, q3, hw, hd, hd2])
theorem cmpL_cons {a b : List Int} {k : Nat} (h : k < a.length) (h2 : k < b.length) : cmpL (a.drop k) (b.drop k) = bif cmpN a[k] b[k] != 0 then cmpN a[k] b[k] else cmpL (a.drop (k + 1)) (b.drop (k + 1)) := by
  rw [List.drop_eq_getElem_cons h, List.drop_eq_getElem_cons h2]; rfl
theorem p97 (a b : List Int) (ha : a.length ≤ 1000000) (hb : b.length ≤ 1000000) : Pu Tryz.prog 97 [.sl false a.length (a.flatMap cI), .sl false b.length (b.flatMap cI)] (.int .i64 (cmpL a b)) := by
  have q1 : True := trivial
  have q2 : True := trivial
  have q3 : True := trivial
  have hw : True := trivial
  have hd : True := trivial
  have hd2 : True := trivial
  (refine Pu_intro c97 b97 (Nat.le_of_ble_eq_true rfl) fun σ => ?_; simp only [c97, ↓R1, RR, seval, q1, q2, q3, hw, hd, hd2])
  refine loopV_for a.length (fun k => [(0, .sl false a.length (a.flatMap cI)), (1, .sl false b.length (b.flatMap cI)), (9, .sl false a.length (a.flatMap cI)), (10, .int .i64 (a.length : Nat)), (11, .int .i64 (k : Nat))]) (fun _ => σ) (fun k => k ≤ b.length ∧ cmpL a b = cmpL (a.drop k) (b.drop k)) (by simp [subF, slot, wk_refl]) (St.le_refl _) (by simp) (fun k hk hI => ?_)
  obtain ⟨hkb, hI⟩ := hI
  have hca := cI_len a
  have hcb := cI_len b
  by_cases hlt : k < a.length
  · have q1 : decide ((k : Int) < (a.length : Int)) = true := by rw [decide_eq_true_eq]; omega
    have hd := cI_get a hlt
    have hw : IntKind.i64.wrap ((k : Int) + 1) = ((k + 1 : Nat) : Int) := by rw [wrap64 (by omega) (by omega)]; omega
    simp only [cI] at hd
    by_cases hlb : k < b.length
    · have q2 : decide ((b.length : Int) ≤ (k : Int)) = false := by rw [decide_eq_false_iff_not]; omega
      have hd2 := cI_get b hlb
      simp only [cI] at hd2
      have hcc := cmpL_cons hlt hlb
      cases q3 : (cmpN a[k] b[k] != 0) with
      | true =>
        have : cmpL a b = cmpN a[k] b[k] := by rw [hI, hcc, q3]; rfl
        rw [this]
        simp only [q1, ↓R1, RR, seval, q1, q2, q3, hw, hd, hd2]
        repeat' (first | (with_reducible rw [allocV_eq]) | (with_reducible refine And.intro ?_ ?_; focus (intros; (repeat' (with_reducible apply And.intro)) <;> first | omega | (simp only [RZ, cP_len, cI_len]; omega))) | (with_reducible apply And.intro) | ((first | (refine gdV_split (fun hc => ?_) (fun hc => ?_) <;> (try simp only [hc, ↓R1, RR, seval, q1, q2, q3, hw, hd, hd2])) | refine condV_split (fun hc => ?_) (fun hc => ?_) | (with_reducible intro β hβ; (try simp only [RB] at hβ); (repeat (obtain ⟨⟨_, _⟩, hβ⟩ := hβ)); (try (have hbis := apart_is (by assumption) hβ; obtain ⟨_, _⟩ := hbis))) | refine Pt (p96 a[k] b[k]) ?_ | refine Ct (p96 a[k] b[k]) ?_) <;> (try simp only [↓R1, RR, seval, q1, q2, q3, hw, hd, hd2])))
        (refine endP_pu (by simp) (by first | (simp [rvsS, rvS]; done) | (simp only [rvsS, rvS, ↓R1, RR, seval, q1, q2, q3, hw, hd, hd2]; try simp)) (wk_of_eq ?_) (by (repeat (first | exact St.le_refl _ | (refine St.le_new ?_ (by assumption)) | (refine St.le_newT ?_ (by assumption))))))
        (simp only [resAV, rvV, List.map_cons, List.map_nil, ↓R1, RR, seval, q1, q2, q3, hw, hd, hd2])
      | false =>
        simp only [q1, ↓R1, RR, seval, q1, q2, q3, hw, hd, hd2]
        repeat' (first | (with_reducible rw [allocV_eq]) | (with_reducible refine And.intro ?_ ?_; focus (intros; (repeat' (with_reducible apply And.intro)) <;> first | omega | (simp only [RZ, cP_len, cI_len]; omega))) | (with_reducible apply And.intro) | ((first | (refine gdV_split (fun hc => ?_) (fun hc => ?_) <;> (try simp only [hc, ↓R1, RR, seval, q1, q2, q3, hw, hd, hd2])) | refine condV_split (fun hc => ?_) (fun hc => ?_) | (with_reducible intro β hβ; (try simp only [RB] at hβ); (repeat (obtain ⟨⟨_, _⟩, hβ⟩ := hβ)); (try (have hbis := apart_is (by assumption) hβ; obtain ⟨_, _⟩ := hbis))) | refine Pt (p96 a[k] b[k]) ?_ | refine Ct (p96 a[k] b[k]) ?_) <;> (try simp only [↓R1, RR, seval, q1, q2, q3, hw, hd, hd2])))
        · rw [hI, hcc, q3]; rfl
        · simp [subF, slot, wk_refl]
        · exact St.le_refl _
    · have q2 : decide ((b.length : Int) ≤ (k : Int)) = true := by rw [decide_eq_true_eq]; omega
      have : cmpL a b = 1 := by rw [hI, List.drop_eq_getElem_cons hlt, List.drop_of_length_le (l := b) (by omega)]; rfl
      rw [this]
      simp only [q1, ↓R1, RR, seval, q1, q2, q3, hw, hd, hd2]
      repeat' (first | (with_reducible rw [allocV_eq]) | (with_reducible refine And.intro ?_ ?_; focus (intros; (repeat' (with_reducible apply And.intro)) <;> first | omega | (simp only [RZ, cP_len, cI_len]; omega))) | (with_reducible apply And.intro) | ((first | (refine gdV_split (fun hc => ?_) (fun hc => ?_) <;> (try simp only [hc, ↓R1, RR, seval, q1, q2, q3, hw, hd, hd2])) | refine condV_split (fun hc => ?_) (fun hc => ?_) | (with_reducible intro β hβ; (try simp only [RB] at hβ); (repeat (obtain ⟨⟨_, _⟩, hβ⟩ := hβ)); (try (have hbis := apart_is (by assumption) hβ; obtain ⟨_, _⟩ := hbis)))) <;> (try simp only [↓R1, RR, seval, q1, q2, q3, hw, hd, hd2])))
      (refine endP_pu (by simp) (by first | (simp [rvsS, rvS]; done) | (simp only [rvsS, rvS, ↓R1, RR, seval, q1, q2, q3, hw, hd, hd2]; try simp)) (wk_of_eq ?_) (by (repeat (first | exact St.le_refl _ | (refine St.le_new ?_ (by assumption)) | (refine St.le_newT ?_ (by assumption))))))
      (simp only [resAV, rvV, List.map_cons, List.map_nil, ↓R1, RR, seval, q1, q2, q3, hw, hd, hd2])
  · have hke : k = a.length := by omega
    subst hke
    have q1 : decide ((a.length : Int) < (a.length : Int)) = false := by simp
    rw [List.drop_length] at hI
    by_cases hlb : a.length < b.length
    · have q2 : decide ((a.length : Int) < (b.length : Int)) = true := by rw [decide_eq_true_eq]; omega
      have : cmpL a b = -1 := by rw [hI, List.drop_eq_getElem_cons hlb]; rfl
      rw [this]
      simp only [q1, ↓R1, RR, seval, q1, q2, q3, hw, hd, hd2]
      repeat' (first | (with_reducible rw [allocV_eq]) | (with_reducible refine And.intro ?_ ?_; focus (intros; (repeat' (with_reducible apply And.intro)) <;> first | omega | (simp only [RZ, cP_len, cI_len]; omega))) | (with_reducible apply And.intro) | ((first | (refine gdV_split (fun hc => ?_) (fun hc => ?_) <;> (try simp only [hc, ↓R1, RR, seval, q1, q2, q3, hw, hd, hd2])) | refine condV_split (fun hc => ?_) (fun hc => ?_) | (with_reducible intro β hβ; (try simp only [RB] at hβ); (repeat (obtain ⟨⟨_, _⟩, hβ⟩ := hβ)); (try (have hbis := apart_is (by assumption) hβ; obtain ⟨_, _⟩ := hbis)))) <;> (try simp only [↓R1, RR, seval, q1, q2, q3, hw, hd, hd2])))
      (refine endP_pu (by simp) (by first | (simp [rvsS, rvS]; done) | (simp only [rvsS, rvS, ↓R1, RR, seval, q1, q2, q3, hw, hd, hd2]; try simp)) (wk_of_eq ?_) (by (repeat (first | exact St.le_refl _ | (refine St.le_new ?_ (by assumption)) | (refine St.le_newT ?_ (by assumption))))))
      (simp only [resAV, rvV, List.map_cons, List.map_nil, ↓R1, RR, seval, q1, q2, q3, hw, hd, hd2])
    · have q2 : decide ((a.length : Int) < (b.length : Int)) = false := by rw [decide_eq_false_iff_not]; omega
      have : cmpL a b = 0 := by rw [hI, List.drop_of_length_le (by omega)]; rfl
      rw [this]
      simp only [q1, ↓R1, RR, seval, q1, q2, q3, hw, hd, hd2]
      repeat' (first | (with_reducible rw [allocV_eq]) | (with_reducible refine And.intro ?_ ?_; focus (intros; (repeat' (with_reducible apply And.intro)) <;> first | omega | (simp only [RZ, cP_len, cI_len]; omega))) | (with_reducible apply And.intro) | ((first | (refine gdV_split (fun hc => ?_) (fun hc => ?_) <;> (try simp only [hc, ↓R1, RR, seval, q1, q2, q3, hw, hd, hd2])) | refine condV_split (fun hc => ?_) (fun hc => ?_) | (with_reducible intro β hβ; (try simp only [RB] at hβ); (repeat (obtain ⟨⟨_, _⟩, hβ⟩ := hβ)); (try (have hbis := apart_is (by assumption) hβ; obtain ⟨_, _⟩ := hbis)))) <;> (try simp only [↓R1, RR, seval, q1, q2, q3, hw, hd, hd2])))
      (refine endP_pu (by simp) (by first | (simp [rvsS, rvS]; done) | (simp only [rvsS, rvS, ↓R1, RR, seval, q1, q2, q3, hw, hd, hd2]; try simp)) (wk_of_eq ?_) (by (repeat (first | exact St.le_refl _ | (refine St.le_new ?_ (by assumption)) | (refine St.le_newT ?_ (by assumption))))))
      (simp only [resAV, rvV, List.map_cons, List.map_nil, ↓R1, RR, seval, q1, q2, q3, hw, hd, hd2])
theorem p99 (a b : List Int) (ha : a.length ≤ 1000000) (hb : b.length ≤ 1000000) : Pu Tryz.prog 99 [.sl false a.length (a.flatMap cI), .sl false b.length (b.flatMap cI)] (.int .i64 (cmpL a b)) := by
  have q1 : True := trivial
  have q2 : True := trivial
  have q3 : True := trivial
  have hw : True := trivial
  have hd : True := trivial
  have hd2 : True := trivial
  (refine Pu_intro c99 b99 (Nat.le_of_ble_eq_true rfl) fun σ => ?_; simp only [c99, ↓R1, RR, seval, q1, q2, q3, hw, hd, hd2])
  refine loopV_for (min a.length b.length) (fun k => [(0, .sl false a.length (a.flatMap cI)), (1, .sl false b.length (b.flatMap cI)), (5, .int .i64 (k : Nat))]) (fun _ => σ) (fun k => cmpL a b = cmpL (a.drop k) (b.drop k)) (by simp [subF, slot, wk_refl]) (St.le_refl _) (by simp) (fun k hk hI => ?_)
  have hca := cI_len a
  have hcb := cI_len b
  by_cases hlt : k < min a.length b.length
  · have hla : k < a.length := by omega
    have hlb : k < b.length := by omega
    have q1 : decide ((k : Int) < (a.length : Int)) = true := by rw [decide_eq_true_eq]; omega
    have q2 : decide ((k : Int) < (b.length : Int)) = true := by rw [decide_eq_true_eq]; omega
    have hd := cI_get a hla
    have hd2 := cI_get b hlb
    have hw : IntKind.i64.wrap ((k : Int) + 1) = ((k + 1 : Nat) : Int) := by rw [wrap64 (by omega) (by omega)]; omega
    simp only [cI] at hd hd2
    have hcc := cmpL_cons hla hlb
    cases q3 : (cmpN a[k] b[k] != 0) with
    | true =>
      have : cmpL a b = cmpN a[k] b[k] := by rw [hI, hcc, q3]; rfl
      rw [this]
      simp only [q1, ↓R1, RR, seval, q1, q2, q3, hw, hd, hd2]
      repeat' (first | (with_reducible rw [allocV_eq]) | (with_reducible refine And.intro ?_ ?_; focus (intros; (repeat' (with_reducible apply And.intro)) <;> first | omega | (simp only [RZ, cP_len, cI_len]; omega))) | (with_reducible apply And.intro) | ((first | (refine gdV_split (fun hc => ?_) (fun hc => ?_) <;> (try simp only [hc, ↓R1, RR, seval, q1, q2, q3, hw, hd, hd2])) | refine condV_split (fun hc => ?_) (fun hc => ?_) | (with_reducible intro β hβ; (try simp only [RB] at hβ); (repeat (obtain ⟨⟨_, _⟩, hβ⟩ := hβ)); (try (have hbis := apart_is (by assumption) hβ; obtain ⟨_, _⟩ := hbis))) | refine callDV_pu (p98 a[k] b[k]) (wkL_refl _) ?_) <;> (try simp only [↓R1, RR, seval, q1, q2, q3, hw, hd, hd2])))
      (refine endP_pu (by simp) (by first | (simp [rvsS, rvS]; done) | (simp only [rvsS, rvS, ↓R1, RR, seval, q1, q2, q3, hw, hd, hd2]; try simp)) (wk_of_eq ?_) (by (repeat (first | exact St.le_refl _ | (refine St.le_new ?_ (by assumption)) | (refine St.le_newT ?_ (by assumption))))))
      (simp only [resAV, rvV, List.map_cons, List.map_nil, ↓R1, RR, seval, q1, q2, q3, hw, hd, hd2])
    | false =>
      simp only [q1, ↓R1, RR, seval, q1, q2, q3, hw, hd, hd2]
      repeat' (first | (with_reducible rw [allocV_eq]) | (with_reducible refine And.intro ?_ ?_; focus (intros; (repeat' (with_reducible apply And.intro)) <;> first | omega | (simp only [RZ, cP_len, cI_len]; omega))) | (with_reducible apply And.intro) | ((first | (refine gdV_split (fun hc => ?_) (fun hc => ?_) <;> (try simp only [hc, ↓R1, RR, seval, q1, q2, q3, hw, hd, hd2])) | refine condV_split (fun hc => ?_) (fun hc => ?_) | (with_reducible intro β hβ; (try simp only [RB] at hβ); (repeat (obtain ⟨⟨_, _⟩, hβ⟩ := hβ)); (try (have hbis := apart_is (by assumption) hβ; obtain ⟨_, _⟩ := hbis))) | refine callDV_pu (p98 a[k] b[k]) (wkL_refl _) ?_) <;> (try simp only [↓R1, RR, seval, q1, q2, q3, hw, hd, hd2])))
      · exact (by rw [hI, hcc, q3]; rfl)
      · simp [subF, slot, wk_refl]
      · exact St.le_refl _
  · have hn := p98 (a.length : Nat) (b.length : Nat)
    have : cmpL a b = cmpN (a.length : Nat) (b.length : Nat) := by
      rw [hI]
      by_cases h1 : k < a.length
      · rw [List.drop_eq_getElem_cons h1, List.drop_of_length_le (l := b) (by omega)]
        unfold cmpN
        rw [decide_eq_false (by omega), decide_eq_true (by omega)]; rfl
      · by_cases h2 : k < b.length
        · rw [List.drop_eq_getElem_cons h2, List.drop_of_length_le (l := a) (by omega)]
          unfold cmpN
          rw [decide_eq_true (by omega)]; rfl
        · rw [List.drop_of_length_le (by omega), List.drop_of_length_le (by omega), show a.length = b.length by omega, cmpN_self]; rfl
    rw [this]
    cases q1 : decide ((k : Int) < (a.length : Int)) with
    | true =>
      have q2 : decide ((k : Int) < (b.length : Int)) = false := by rw [decide_eq_false_iff_not]; rw [decide_eq_true_eq] at q1; omega
      simp only [q1, ↓R1, RR, seval, q1, q2, q3, hw, hd, hd2]
      repeat' (first | (with_reducible rw [allocV_eq]) | (with_reducible refine And.intro ?_ ?_; focus (intros; (repeat' (with_reducible apply And.intro)) <;> first | omega | (simp only [RZ, cP_len, cI_len]; omega))) | (with_reducible apply And.intro) | ((first | (refine gdV_split (fun hc => ?_) (fun hc => ?_) <;> (try simp only [hc, ↓R1, RR, seval, q1, q2, q3, hw, hd, hd2])) | refine condV_split (fun hc => ?_) (fun hc => ?_) | (with_reducible intro β hβ; (try simp only [RB] at hβ); (repeat (obtain ⟨⟨_, _⟩, hβ⟩ := hβ)); (try (have hbis := apart_is (by assumption) hβ; obtain ⟨_, _⟩ := hbis))) | refine Pt (hn) ?_ | refine Ct (hn) ?_) <;> (try simp only [↓R1, RR, seval, q1, q2, q3, hw, hd, hd2])))
      (refine endP_pu (by simp) (by first | (simp [rvsS, rvS]; done) | (simp only [rvsS, rvS, ↓R1, RR, seval, q1, q2, q3, hw, hd, hd2]; try simp)) (wk_of_eq ?_) (by (repeat (first | exact St.le_refl _ | (refine St.le_new ?_ (by assumption)) | (refine St.le_newT ?_ (by assumption))))))
      (simp only [resAV, rvV, List.map_cons, List.map_nil, ↓R1, RR, seval, q1, q2, q3, hw, hd, hd2])
    | false =>
      simp only [q1, ↓R1, RR, seval, q1, q2, q3, hw, hd, hd2]
      repeat' (first | (with_reducible rw [allocV_eq]) | (with_reducible refine And.intro ?_ ?_; focus (intros; (repeat' (with_reducible apply And.intro)) <;> first | omega | (simp only [RZ, cP_len, cI_len]; omega))) | (with_reducible apply And.intro) | ((first | (refine gdV_split (fun hc => ?_) (fun hc => ?_) <;> (try simp only [hc, ↓R1, RR, seval, q1, q2, q3, hw, hd, hd2])) | refine condV_split (fun hc => ?_) (fun hc => ?_) | (with_reducible intro β hβ; (try simp only [RB] at hβ); (repeat (obtain ⟨⟨_, _⟩, hβ⟩ := hβ)); (try (have hbis := apart_is (by assumption) hβ; obtain ⟨_, _⟩ := hbis))) | refine Pt (hn) ?_ | refine Ct (hn) ?_) <;> (try simp only [↓R1, RR, seval, q1, q2, q3, hw, hd, hd2])))
      (refine endP_pu (by simp) (by first | (simp [rvsS, rvS]; done) | (simp only [rvsS, rvS, ↓R1, RR, seval, q1, q2, q3, hw, hd, hd2]; try simp)) (wk_of_eq ?_) (by (repeat (first | exact St.le_refl _ | (refine St.le_new ?_ (by assumption)) | (refine St.le_newT ?_ (by assumption))))))
      (simp only [resAV, rvV, List.map_cons, List.map_nil, ↓R1, RR, seval, q1, q2, q3, hw, hd, hd2])
end Go.Proofs.YtncadbcjikekhaaGreatDoor
namespace Go.Proofs.YtncadbcjikekhaaGreatDoor
open Go.Abs Go.Lib
set_option linter.all false
set_option maxRecDepth 100000
theorem lastP_at {l : List Pl} (h : l.length - 1 < l.length) : lastP l = (l[l.length - 1]).p := by
  unfold lastP
  rw [List.getLast?_eq_getElem?, List.getElem?_eq_getElem h]
theorem p94 (l : List Pl) (h0 : l.length ≠ 0) (hl : l.length ≤ 1000000) : Pu Tryz.prog 94 [.agg [.sl false l.length (l.flatMap cP)]] (.int .i64 (lastP l)) := by
  have q1 : True := trivial
  have q2 : True := trivial
  have q3 : True := trivial
  have q4 : True := trivial
  have hd2 : True := trivial
  have hlt : l.length - 1 < l.length := by omega
  have hw : IntKind.i64.wrap ((l.length : Int) - 1) = ((l.length - 1 : Nat) : Int) := by rw [wrap64 (by omega) (by omega)]; omega
  have hd := cP_get l hlt
  have hcl := cP_len l
  simp only [cP] at hd
  rw [lastP_at hlt]
  (refine Pu_intro c94 b94 (Nat.le_of_ble_eq_true rfl) fun σ => ?_; simp only [c94, ↓R1, RR, seval, q1, q2, q3, q4, hw, hd, hd2, aDrw_callv, callvDV_fn])
  repeat' (first | (with_reducible rw [allocV_eq]) | (with_reducible refine And.intro ?_ ?_; focus (intros; (repeat' (with_reducible apply And.intro)) <;> first | omega | (simp only [RZ, cP_len, cI_len]; omega))) | (with_reducible apply And.intro) | ((first | (refine gdV_split (fun hc => ?_) (fun hc => ?_) <;> (try simp only [hc, ↓R1, RR, seval, q1, q2, q3, q4, hw, hd, hd2, aDrw_callv, callvDV_fn])) | refine condV_split (fun hc => ?_) (fun hc => ?_) | (with_reducible intro β hβ; (try simp only [RB] at hβ); (repeat (obtain ⟨⟨_, _⟩, hβ⟩ := hβ)); (try (have hbis := apart_is (by assumption) hβ; obtain ⟨_, _⟩ := hbis)))) <;> (try simp only [↓R1, RR, seval, q1, q2, q3, q4, hw, hd, hd2, aDrw_callv, callvDV_fn])))
  (refine endP_pu (by simp) (by first | (simp [rvsS, rvS]; done) | (simp only [rvsS, rvS, ↓R1, RR, seval, q1, q2, q3, q4, hw, hd, hd2, aDrw_callv, callvDV_fn]; try simp)) (wk_of_eq ?_) (by (repeat (first | exact St.le_refl _ | (refine St.le_new ?_ (by assumption)) | (refine St.le_newT ?_ (by assumption))))))
  (simp only [resAV, rvV, List.map_cons, List.map_nil, ↓R1, RR, seval, q1, q2, q3, q4, hw, hd, hd2, aDrw_callv, callvDV_fn])
theorem p68 (l : List Pl) (hl : l.length ≤ 1000000) : Tp Tryz.prog 68 [.agg [.sl false l.length (l.flatMap cP)]] 3 1 l.length ((posL l).flatMap cI) := by
  intro σ
  have q1 : True := trivial
  have q2 : True := trivial
  have q3 : True := trivial
  have q4 : True := trivial
  have hw : True := trivial
  have hd : True := trivial
  have hd2 : True := trivial
  refine AC_intro c68 b68 (Nat.le_of_ble_eq_true rfl) ?_
  simp only [c68, ↓R1, RR, seval, q1, q2, q3, q4, hw, hd, hd2, aDrw_callv, callvDV_fn]
  repeat' (first | (with_reducible rw [allocV_eq]) | (with_reducible refine And.intro ?_ ?_; focus (intros; (repeat' (with_reducible apply And.intro)) <;> first | omega | (simp only [RZ, cP_len, cI_len]; omega))) | (with_reducible apply And.intro) | ((first | (refine gdV_split (fun hc => ?_) (fun hc => ?_) <;> (try simp only [hc, ↓R1, RR, seval, q1, q2, q3, q4, hw, hd, hd2, aDrw_callv, callvDV_fn])) | refine condV_split (fun hc => ?_) (fun hc => ?_) | (with_reducible intro β hβ; (try simp only [RB] at hβ); (repeat (obtain ⟨⟨_, _⟩, hβ⟩ := hβ)); (try (have hbis := apart_is (by assumption) hβ; obtain ⟨_, _⟩ := hbis))) | ((first | refine appD_tslK (.inr rfl) rfl ?_ ?_ ?_ ?_ ?_ ?_ | refine appV_tslK rfl ?_ ?_ ?_ ?_ ?_ ?_); (first | rfl | exact St.tip_same _ _ _ | simp only [↓R1, RR, seval, q1, q2, q3, q4, hw, hd, hd2, aDrw_callv, callvDV_fn]); (iterate 2 (first | omega | (simp only [RZ, cP_len, cI_len]; first | done | omega) | rfl)); (unfold maxLen; omega); omega)) <;> (try simp only [↓R1, RR, seval, q1, q2, q3, q4, hw, hd, hd2, aDrw_callv, callvDV_fn])))
  refine loopV_forT l.length 3 3 1 0 [] (fun τ k => [(1, .ptr β 0), (4, .int .i64 (k : Nat)), (3, .tsl τ k (((l.take k).map (·.p)).flatMap cI))]) (fun τ k => (σ.setBox β [.sl false l.length (l.flatMap cP)]).setTip τ (3, 1, k)) (fun _ => True) trivial rfl trivial (fun τ => by simp [subF, slot, wk_refl]) (fun τ _ => St.le_refl _) (fun τ hτ k hk _ => ?_)
  have hτ : σ.tip τ = none := hτ
  by_cases hlt : k < l.length
  · have q1 : decide ((k : Int) < (l.length : Int)) = true := by rw [decide_eq_true_eq]; omega
    have hd := cP_get l hlt
    have hd2' := cP_len l
    have hw : IntKind.i64.wrap ((k : Int) + 1) = ((k + 1 : Nat) : Int) := by rw [wrap64 (by omega) (by omega)]; omega
    have hcl : (((l.take k).map (·.p)).flatMap cI).length = k * 1 := by rw [cI_len]; simp; omega
    have hs := mapI_step l (·.p) hlt
    simp only [cP] at hd
    simp only [q1, ↓R1, RR, seval, q1, q2, q3, q4, hw, hd, hd2, aDrw_callv, callvDV_fn]
    repeat' (first | (with_reducible rw [allocV_eq]) | (with_reducible refine And.intro ?_ ?_; focus (intros; (repeat' (with_reducible apply And.intro)) <;> first | omega | (simp only [RZ, cP_len, cI_len]; omega))) | (with_reducible apply And.intro) | ((first | (refine gdV_split (fun hc => ?_) (fun hc => ?_) <;> (try simp only [hc, ↓R1, RR, seval, q1, q2, q3, q4, hw, hd, hd2, aDrw_callv, callvDV_fn])) | refine condV_split (fun hc => ?_) (fun hc => ?_) | (with_reducible intro β hβ; (try simp only [RB] at hβ); (repeat (obtain ⟨⟨_, _⟩, hβ⟩ := hβ)); (try (have hbis := apart_is (by assumption) hβ; obtain ⟨_, _⟩ := hbis))) | ((first | refine appD_tslK (.inr rfl) rfl ?_ ?_ ?_ ?_ ?_ ?_ | refine appV_tslK rfl ?_ ?_ ?_ ?_ ?_ ?_); (first | rfl | exact St.tip_same _ _ _ | simp only [↓R1, RR, seval, q1, q2, q3, q4, hw, hd, hd2, aDrw_callv, callvDV_fn]); (iterate 2 (first | omega | (simp only [RZ, cP_len, cI_len]; first | done | omega) | rfl)); (unfold maxLen; omega); omega)) <;> (try simp only [↓R1, RR, seval, q1, q2, q3, q4, hw, hd, hd2, aDrw_callv, callvDV_fn])))
    · rw [hs]; simp [subF, slot, wk_refl]
    · exact St.le_refl _
  · have hke : k = l.length := by omega
    subst hke
    have q1 : decide ((l.length : Int) < (l.length : Int)) = false := by simp
    rw [List.take_length]
    simp only [q1, ↓R1, RR, seval, q1, q2, q3, q4, hw, hd, hd2, aDrw_callv, callvDV_fn]
    repeat' (first | (with_reducible rw [allocV_eq]) | (with_reducible refine And.intro ?_ ?_; focus (intros; (repeat' (with_reducible apply And.intro)) <;> first | omega | (simp only [RZ, cP_len, cI_len]; omega))) | (with_reducible apply And.intro) | ((first | (refine gdV_split (fun hc => ?_) (fun hc => ?_) <;> (try simp only [hc, ↓R1, RR, seval, q1, q2, q3, q4, hw, hd, hd2, aDrw_callv, callvDV_fn])) | refine condV_split (fun hc => ?_) (fun hc => ?_) | (with_reducible intro β hβ; (try simp only [RB] at hβ); (repeat (obtain ⟨⟨_, _⟩, hβ⟩ := hβ)); (try (have hbis := apart_is (by assumption) hβ; obtain ⟨_, _⟩ := hbis))) | ((first | refine appD_tslK (.inr rfl) rfl ?_ ?_ ?_ ?_ ?_ ?_ | refine appV_tslK rfl ?_ ?_ ?_ ?_ ?_ ?_); (first | rfl | exact St.tip_same _ _ _ | simp only [↓R1, RR, seval, q1, q2, q3, q4, hw, hd, hd2, aDrw_callv, callvDV_fn]); (iterate 2 (first | omega | (simp only [RZ, cP_len, cI_len]; first | done | omega) | rfl)); (unfold maxLen; omega); omega)) <;> (try simp only [↓R1, RR, seval, q1, q2, q3, q4, hw, hd, hd2, aDrw_callv, callvDV_fn])))
    (refine endP_tip _ (by assumption) (by simp) (by first | (simp [rvsS, rvS]; done) | (simp only [rvsS, rvS, ↓R1, RR, seval, q1, q2, q3, q4, hw, hd, hd2, aDrw_callv, callvDV_fn]; try simp)) ?_ ?_)
    · simp only [resAV, rvV, List.map_cons, List.map_nil, ↓R1, RR, seval, q1, q2, q3, q4, hw, hd, hd2, aDrw_callv, callvDV_fn]; exact wk_refl _
    · exact St.le_setTc (St.le_setBox (St.le_refl _) hβ)
theorem p100 (l : List Pl) (hl : l.length ≤ 1000000) : Tp Tryz.prog 100 [.agg [.sl false l.length (l.flatMap cP)]] 3 1 l.length ((atomL l).flatMap cI) := by
  intro σ
  have q1 : True := trivial
  have q2 : True := trivial
  have q3 : True := trivial
  have q4 : True := trivial
  have hw : True := trivial
  have hd : True := trivial
  have hd2 : True := trivial
  refine AC_intro c100 b100 (Nat.le_of_ble_eq_true rfl) ?_
  simp only [c100, ↓R1, RR, seval, q1, q2, q3, q4, hw, hd, hd2, aDrw_callv, callvDV_fn]
  repeat' (first | (with_reducible rw [allocV_eq]) | (with_reducible refine And.intro ?_ ?_; focus (intros; (repeat' (with_reducible apply And.intro)) <;> first | omega | (simp only [RZ, cP_len, cI_len]; omega))) | (with_reducible apply And.intro) | ((first | (refine gdV_split (fun hc => ?_) (fun hc => ?_) <;> (try simp only [hc, ↓R1, RR, seval, q1, q2, q3, q4, hw, hd, hd2, aDrw_callv, callvDV_fn])) | refine condV_split (fun hc => ?_) (fun hc => ?_) | (with_reducible intro β hβ; (try simp only [RB] at hβ); (repeat (obtain ⟨⟨_, _⟩, hβ⟩ := hβ)); (try (have hbis := apart_is (by assumption) hβ; obtain ⟨_, _⟩ := hbis))) | ((first | refine appD_tslK (.inr rfl) rfl ?_ ?_ ?_ ?_ ?_ ?_ | refine appV_tslK rfl ?_ ?_ ?_ ?_ ?_ ?_); (first | rfl | exact St.tip_same _ _ _ | simp only [↓R1, RR, seval, q1, q2, q3, q4, hw, hd, hd2, aDrw_callv, callvDV_fn]); (iterate 2 (first | omega | (simp only [RZ, cP_len, cI_len]; first | done | omega) | rfl)); (unfold maxLen; omega); omega)) <;> (try simp only [↓R1, RR, seval, q1, q2, q3, q4, hw, hd, hd2, aDrw_callv, callvDV_fn])))
  refine loopV_forT l.length 3 3 1 0 [] (fun τ k => [(1, .ptr β 0), (4, .int .i64 (k : Nat)), (3, .tsl τ k (((l.take k).map (·.a)).flatMap cI))]) (fun τ k => (σ.setBox β [.sl false l.length (l.flatMap cP)]).setTip τ (3, 1, k)) (fun _ => True) trivial rfl trivial (fun τ => by simp [subF, slot, wk_refl]) (fun τ _ => St.le_refl _) (fun τ hτ k hk _ => ?_)
  have hτ : σ.tip τ = none := hτ
  by_cases hlt : k < l.length
  · have q1 : decide ((k : Int) < (l.length : Int)) = true := by rw [decide_eq_true_eq]; omega
    have hd := cP_get l hlt
    have hd2' := cP_len l
    have hw : IntKind.i64.wrap ((k : Int) + 1) = ((k + 1 : Nat) : Int) := by rw [wrap64 (by omega) (by omega)]; omega
    have hcl : (((l.take k).map (·.a)).flatMap cI).length = k * 1 := by rw [cI_len]; simp; omega
    have hs := mapI_step l (·.a) hlt
    simp only [cP] at hd
    simp only [q1, ↓R1, RR, seval, q1, q2, q3, q4, hw, hd, hd2, aDrw_callv, callvDV_fn]
    repeat' (first | (with_reducible rw [allocV_eq]) | (with_reducible refine And.intro ?_ ?_; focus (intros; (repeat' (with_reducible apply And.intro)) <;> first | omega | (simp only [RZ, cP_len, cI_len]; omega))) | (with_reducible apply And.intro) | ((first | (refine gdV_split (fun hc => ?_) (fun hc => ?_) <;> (try simp only [hc, ↓R1, RR, seval, q1, q2, q3, q4, hw, hd, hd2, aDrw_callv, callvDV_fn])) | refine condV_split (fun hc => ?_) (fun hc => ?_) | (with_reducible intro β hβ; (try simp only [RB] at hβ); (repeat (obtain ⟨⟨_, _⟩, hβ⟩ := hβ)); (try (have hbis := apart_is (by assumption) hβ; obtain ⟨_, _⟩ := hbis))) | ((first | refine appD_tslK (.inr rfl) rfl ?_ ?_ ?_ ?_ ?_ ?_ | refine appV_tslK rfl ?_ ?_ ?_ ?_ ?_ ?_); (first | rfl | exact St.tip_same _ _ _ | simp only [↓R1, RR, seval, q1, q2, q3, q4, hw, hd, hd2, aDrw_callv, callvDV_fn]); (iterate 2 (first | omega | (simp only [RZ, cP_len, cI_len]; first | done | omega) | rfl)); (unfold maxLen; omega); omega)) <;> (try simp only [↓R1, RR, seval, q1, q2, q3, q4, hw, hd, hd2, aDrw_callv, callvDV_fn])))
    · rw [hs]; simp [subF, slot, wk_refl]
    · exact St.le_refl _
  · have hke : k = l.length := by omega
    subst hke
    have q1 : decide ((l.length : Int) < (l.length : Int)) = false := by simp
    rw [List.take_length]
    simp only [q1, ↓R1, RR, seval, q1, q2, q3, q4, hw, hd, hd2, aDrw_callv, callvDV_fn]
    repeat' (first | (with_reducible rw [allocV_eq]) | (with_reducible refine And.intro ?_ ?_; focus (intros; (repeat' (with_reducible apply And.intro)) <;> first | omega | (simp only [RZ, cP_len, cI_len]; omega))) | (with_reducible apply And.intro) | ((first | (refine gdV_split (fun hc => ?_) (fun hc => ?_) <;> (try simp only [hc, ↓R1, RR, seval, q1, q2, q3, q4, hw, hd, hd2, aDrw_callv, callvDV_fn])) | refine condV_split (fun hc => ?_) (fun hc => ?_) | (with_reducible intro β hβ; (try simp only [RB] at hβ); (repeat (obtain ⟨⟨_, _⟩, hβ⟩ := hβ)); (try (have hbis := apart_is (by assumption) hβ; obtain ⟨_, _⟩ := hbis))) | ((first | refine appD_tslK (.inr rfl) rfl ?_ ?_ ?_ ?_ ?_ ?_ | refine appV_tslK rfl ?_ ?_ ?_ ?_ ?_ ?_); (first | rfl | exact St.tip_same _ _ _ | simp only [↓R1, RR, seval, q1, q2, q3, q4, hw, hd, hd2, aDrw_callv, callvDV_fn]); (iterate 2 (first | omega | (simp only [RZ, cP_len, cI_len]; first | done | omega) | rfl)); (unfold maxLen; omega); omega)) <;> (try simp only [↓R1, RR, seval, q1, q2, q3, q4, hw, hd, hd2, aDrw_callv, callvDV_fn])))
    (refine endP_tip _ (by assumption) (by simp) (by first | (simp [rvsS, rvS]; done) | (simp only [rvsS, rvS, ↓R1, RR, seval, q1, q2, q3, q4, hw, hd, hd2, aDrw_callv, callvDV_fn]; try simp)) ?_ ?_)
    · simp only [resAV, rvV, List.map_cons, List.map_nil, ↓R1, RR, seval, q1, q2, q3, q4, hw, hd, hd2, aDrw_callv, callvDV_fn]; exact wk_refl _
    · exact St.le_setTc (St.le_setBox (St.le_refl _) hβ)
theorem p63 (a b : List Pl) (ha0 : a.length ≠ 0) (hb0 : b.length ≠ 0) (ha : a.length ≤ 1000000) (hb : b.length ≤ 1000000) : Pu Tryz.prog 63 [.agg [.sl false a.length (a.flatMap cP)], .agg [.sl false b.length (b.flatMap cP)]] (.int .i64 (cmpM a b)) := by
  have q1 : True := trivial
  have q2 : True := trivial
  have q3 : True := trivial
  have q4 : True := trivial
  have hw : True := trivial
  have hd : True := trivial
  have hd2 : True := trivial
  have h1 := p94 a ha0 ha
  have h2 := p94 b hb0 hb
  have h3 := p96 (lastP a) (lastP b)
  have h4 := (p56 a ha 67 (·.p) p67).pu
  have h5 := (p56 b hb 67 (·.p) p67).pu
  have h6 := (p56 a ha 57 (·.a) p57).pu
  have h7 := (p56 b hb 57 (·.a) p57).pu
  have h8 := p97 (posL a) (posL b) (by simp [posL]; omega) (by simp [posL]; omega)
  have h9 := p97 (atomL a) (atomL b) (by simp [atomL]; omega) (by simp [atomL]; omega)
  have h10 := p95 [cmpN (lastP a) (lastP b), cmpL (posL a) (posL b), cmpL (atomL a) (atomL b)] (by simp)
  simp only [posL, atomL, List.length_map] at h8 h9
  simp only [posL, atomL, List.flatMap_cons, List.flatMap_nil, cI, List.length_cons, List.length_nil, List.cons_append, List.nil_append] at h10
  (refine Pu_intro c63 b63 (Nat.le_of_ble_eq_true rfl) fun σ => ?_; simp only [c63, ↓R1, RR, seval, q1, q2, q3, q4, hw, hd, hd2, aDrw_callv, callvDV_fn])
  repeat' (first | (with_reducible rw [allocV_eq]) | (with_reducible refine And.intro ?_ ?_; focus (intros; (repeat' (with_reducible apply And.intro)) <;> first | omega | (simp only [RZ, cP_len, cI_len]; omega))) | (with_reducible apply And.intro) | ((first | (refine gdV_split (fun hc => ?_) (fun hc => ?_) <;> (try simp only [hc, ↓R1, RR, seval, q1, q2, q3, q4, hw, hd, hd2, aDrw_callv, callvDV_fn])) | refine condV_split (fun hc => ?_) (fun hc => ?_) | (with_reducible intro β hβ; (try simp only [RB] at hβ); (repeat (obtain ⟨⟨_, _⟩, hβ⟩ := hβ)); (try (have hbis := apart_is (by assumption) hβ; obtain ⟨_, _⟩ := hbis))) | refine callDV_pu (h1) (wkL_refl _) ?_ | refine callDV_pu (h2) (wkL_refl _) ?_ | refine callDV_pu (h3) (wkL_refl _) ?_ | refine callDV_pu (h4) (wkL_refl _) ?_ | refine callDV_pu (h5) (wkL_refl _) ?_ | refine callDV_pu (h6) (wkL_refl _) ?_ | refine callDV_pu (h7) (wkL_refl _) ?_ | refine callDV_pu (h8) (wkL_refl _) ?_ | refine callDV_pu (h9) (wkL_refl _) ?_ | (refine callDV_pu h10 ?_ ?_; (focus ((repeat' (first | exact wk_refl _ | exact wk_nils | exact wk_tsl _ _ _ | exact wk_full _ _ | exact wkL.nil | exact wkL_refl _ | refine wk_tup ?_ | refine wk_agg ?_ | refine wkL.cons ?_ ?_)); done)))) <;> (try simp only [↓R1, RR, seval, q1, q2, q3, q4, hw, hd, hd2, aDrw_callv, callvDV_fn])))
  (refine endP_pu (by simp) (by first | (simp [rvsS, rvS]; done) | (simp only [rvsS, rvS, ↓R1, RR, seval, q1, q2, q3, q4, hw, hd, hd2, aDrw_callv, callvDV_fn]; try simp)) (wk_of_eq ?_) (by (repeat (first | exact St.le_refl _ | (refine St.le_new ?_ (by assumption)) | (refine St.le_newT ?_ (by assumption))))))
  (simp only [resAV, rvV, List.map_cons, List.map_nil, ↓R1, RR, seval, q1, q2, q3, q4, hw, hd, hd2, aDrw_callv, callvDV_fn])
  rfl
theorem orS3 (a b c : Int) : orS [a, b, c] = bif a == 0 then (bif b == 0 then c else b) else a := by
  simp only [orS, List.find?_cons, List.find?_nil]
  simp only [bne, Bool.cond_eq_ite]
  cases h1 : (a == 0) <;> cases h2 : (b == 0) <;> cases h3 : (c == 0) <;> simp_all
theorem p65 (a b : List Pl) (ha0 : a.length ≠ 0) (hb0 : b.length ≠ 0) (ha : a.length ≤ 1000000) (hb : b.length ≤ 1000000) : Pu Tryz.prog 65 [.agg [.sl false a.length (a.flatMap cP)], .agg [.sl false b.length (b.flatMap cP)]] (.int .i64 (cmpM a b)) := by
  have q1 : True := trivial
  have q2 : True := trivial
  have q3 : True := trivial
  have q4 : True := trivial
  have hw : True := trivial
  have hd : True := trivial
  have hd2 : True := trivial
  have hla : a.length - 1 < a.length := by omega
  have hlb : b.length - 1 < b.length := by omega
  have q3 : IntKind.i64.wrap ((a.length : Int) - 1) = ((a.length - 1 : Nat) : Int) := by rw [wrap64 (by omega) (by omega)]; omega
  have hw : IntKind.i64.wrap ((b.length : Int) - 1) = ((b.length - 1 : Nat) : Int) := by rw [wrap64 (by omega) (by omega)]; omega
  have hd := cP_get a hla
  have hd2 := cP_get b hlb
  have hca := cP_len a
  have hcb := cP_len b
  simp only [cP] at hd hd2
  have h3 := p98 (a[a.length - 1]).p (b[b.length - 1]).p
  rw [← lastP_at hla, ← lastP_at hlb] at h3
  have h4 := (p68 a ha).pu
  have h5 := (p68 b hb).pu
  have h6 := (p100 a ha).pu
  have h7 := (p100 b hb).pu
  have h8 := p99 (posL a) (posL b) (by simp [posL]; omega) (by simp [posL]; omega)
  have h9 := p99 (atomL a) (atomL b) (by simp [atomL]; omega) (by simp [atomL]; omega)
  have hpa : (posL a).length = a.length := by simp [posL]
  have hpb : (posL b).length = b.length := by simp [posL]
  have haa : (atomL a).length = a.length := by simp [atomL]
  have hab : (atomL b).length = b.length := by simp [atomL]
  rw [hpa, hpb] at h8
  rw [haa, hab] at h9
  have hM : cmpM a b = _ := orS3 _ _ _
  rw [lastP_at hla, lastP_at hlb] at h3 hM
  cases q1 : (cmpN (a[a.length - 1]).p (b[b.length - 1]).p == 0) with
  | true =>
    rw [q1] at hM
    simp only [cond_true] at hM
    cases q2 : (cmpL (posL a) (posL b) == 0) with
    | true =>
      rw [q2] at hM
      simp only [cond_true] at hM
      rw [hM]
      (refine Pu_intro c65 b65 (Nat.le_of_ble_eq_true rfl) fun σ => ?_; simp only [c65, ↓R1, RR, seval, q1, q2, q3, q4, hw, hd, hd2, aDrw_callv, callvDV_fn])
      repeat' (first | (with_reducible rw [allocV_eq]) | (with_reducible refine And.intro ?_ ?_; focus (intros; (repeat' (with_reducible apply And.intro)) <;> first | omega | (simp only [RZ, cP_len, cI_len]; omega))) | (with_reducible apply And.intro) | ((first | (refine gdV_split (fun hc => ?_) (fun hc => ?_) <;> (try simp only [hc, ↓R1, RR, seval, q1, q2, q3, q4, hw, hd, hd2, aDrw_callv, callvDV_fn])) | refine condV_split (fun hc => ?_) (fun hc => ?_) | (with_reducible intro β hβ; (try simp only [RB] at hβ); (repeat (obtain ⟨⟨_, _⟩, hβ⟩ := hβ)); (try (have hbis := apart_is (by assumption) hβ; obtain ⟨_, _⟩ := hbis))) | refine callDV_pu (h3) (wkL_refl _) ?_ | refine callDV_pu (h4) (wkL_refl _) ?_ | refine callDV_pu (h5) (wkL_refl _) ?_ | refine callDV_pu (h6) (wkL_refl _) ?_ | refine callDV_pu (h7) (wkL_refl _) ?_ | refine callDV_pu (h8) (wkL_refl _) ?_ | refine callDV_pu (h9) (wkL_refl _) ?_) <;> (try simp only [↓R1, RR, seval, q1, q2, q3, q4, hw, hd, hd2, aDrw_callv, callvDV_fn])))
      (refine endP_pu (by simp) (by first | (simp [rvsS, rvS]; done) | (simp only [rvsS, rvS, ↓R1, RR, seval, q1, q2, q3, q4, hw, hd, hd2, aDrw_callv, callvDV_fn]; try simp)) (wk_of_eq ?_) (by (repeat (first | exact St.le_refl _ | (refine St.le_new ?_ (by assumption)) | (refine St.le_newT ?_ (by assumption))))))
      (simp only [resAV, rvV, List.map_cons, List.map_nil, ↓R1, RR, seval, q1, q2, q3, q4, hw, hd, hd2, aDrw_callv, callvDV_fn])
    | false =>
      rw [q2] at hM
      simp only [cond_false] at hM
      rw [hM]
      (refine Pu_intro c65 b65 (Nat.le_of_ble_eq_true rfl) fun σ => ?_; simp only [c65, ↓R1, RR, seval, q1, q2, q3, q4, hw, hd, hd2, aDrw_callv, callvDV_fn])
      repeat' (first | (with_reducible rw [allocV_eq]) | (with_reducible refine And.intro ?_ ?_; focus (intros; (repeat' (with_reducible apply And.intro)) <;> first | omega | (simp only [RZ, cP_len, cI_len]; omega))) | (with_reducible apply And.intro) | ((first | (refine gdV_split (fun hc => ?_) (fun hc => ?_) <;> (try simp only [hc, ↓R1, RR, seval, q1, q2, q3, q4, hw, hd, hd2, aDrw_callv, callvDV_fn])) | refine condV_split (fun hc => ?_) (fun hc => ?_) | (with_reducible intro β hβ; (try simp only [RB] at hβ); (repeat (obtain ⟨⟨_, _⟩, hβ⟩ := hβ)); (try (have hbis := apart_is (by assumption) hβ; obtain ⟨_, _⟩ := hbis))) | refine callDV_pu (h3) (wkL_refl _) ?_ | refine callDV_pu (h4) (wkL_refl _) ?_ | refine callDV_pu (h5) (wkL_refl _) ?_ | refine callDV_pu (h6) (wkL_refl _) ?_ | refine callDV_pu (h7) (wkL_refl _) ?_ | refine callDV_pu (h8) (wkL_refl _) ?_ | refine callDV_pu (h9) (wkL_refl _) ?_) <;> (try simp only [↓R1, RR, seval, q1, q2, q3, q4, hw, hd, hd2, aDrw_callv, callvDV_fn])))
      (refine endP_pu (by simp) (by first | (simp [rvsS, rvS]; done) | (simp only [rvsS, rvS, ↓R1, RR, seval, q1, q2, q3, q4, hw, hd, hd2, aDrw_callv, callvDV_fn]; try simp)) (wk_of_eq ?_) (by (repeat (first | exact St.le_refl _ | (refine St.le_new ?_ (by assumption)) | (refine St.le_newT ?_ (by assumption))))))
      (simp only [resAV, rvV, List.map_cons, List.map_nil, ↓R1, RR, seval, q1, q2, q3, q4, hw, hd, hd2, aDrw_callv, callvDV_fn])
  | false =>
    rw [q1] at hM
    simp only [cond_false] at hM
    rw [hM]
    (refine Pu_intro c65 b65 (Nat.le_of_ble_eq_true rfl) fun σ => ?_; simp only [c65, ↓R1, RR, seval, q1, q2, q3, q4, hw, hd, hd2, aDrw_callv, callvDV_fn])
    repeat' (first | (with_reducible rw [allocV_eq]) | (with_reducible refine And.intro ?_ ?_; focus (intros; (repeat' (with_reducible apply And.intro)) <;> first | omega | (simp only [RZ, cP_len, cI_len]; omega))) | (with_reducible apply And.intro) | ((first | (refine gdV_split (fun hc => ?_) (fun hc => ?_) <;> (try simp only [hc, ↓R1, RR, seval, q1, q2, q3, q4, hw, hd, hd2, aDrw_callv, callvDV_fn])) | refine condV_split (fun hc => ?_) (fun hc => ?_) | (with_reducible intro β hβ; (try simp only [RB] at hβ); (repeat (obtain ⟨⟨_, _⟩, hβ⟩ := hβ)); (try (have hbis := apart_is (by assumption) hβ; obtain ⟨_, _⟩ := hbis))) | refine callDV_pu (h3) (wkL_refl _) ?_ | refine callDV_pu (h4) (wkL_refl _) ?_ | refine callDV_pu (h5) (wkL_refl _) ?_ | refine callDV_pu (h6) (wkL_refl _) ?_ | refine callDV_pu (h7) (wkL_refl _) ?_ | refine callDV_pu (h8) (wkL_refl _) ?_ | refine callDV_pu (h9) (wkL_refl _) ?_) <;> (try simp only [↓R1, RR, seval, q1, q2, q3, q4, hw, hd, hd2, aDrw_callv, callvDV_fn])))
    (refine endP_pu (by simp) (by first | (simp [rvsS, rvS]; done) | (simp only [rvsS, rvS, ↓R1, RR, seval, q1, q2, q3, q4, hw, hd, hd2, aDrw_callv, callvDV_fn]; try simp)) (wk_of_eq ?_) (by (repeat (first | exact St.le_refl _ | (refine St.le_new ?_ (by assumption)) | (refine St.le_newT ?_ (by assumption))))))
    (simp only [resAV, rvV, List.map_cons, List.map_nil, ↓R1, RR, seval, q1, q2, q3, q4, hw, hd, hd2, aDrw_callv, callvDV_fn])
end Go.Proofs.YtncadbcjikekhaaGreatDoor
