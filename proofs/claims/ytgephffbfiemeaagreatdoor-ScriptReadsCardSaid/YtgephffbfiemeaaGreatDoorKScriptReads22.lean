/- Part 22 of the proof of ScriptReads: an abstract semantics that is proved sound for the model, contracts of functions in it, and plain facts (Sh40 LW3 EV2 EV3 SM1 SM2). No condition. -/
import Derived.Test.YtgephffbfiemeaaGreatDoorKScriptReads21
import Derived.Shelf.Strings.Builder1
import Derived.Shelf.Strings.Builder2
import Derived.Shelf.Strings.OnBuilder
import Derived.Shelf.Strconv.Itoa0
import Derived.Shelf.Strconv.Itoa1
import Derived.Shelf.LaysM
import Derived.Shelf.Strconv.Itoa2
import Derived.Shelf.Strconv.Itoa3
import Derived.Shelf.Strconv.Itoa4
import Derived.Shelf.Strings.Search1
import Derived.Shelf.Strings.Search2
import Derived.Shelf.Strings.Search3
import Derived.Shelf.Strings.Cut
import Derived.Shelf.Strings.Shaped
import Derived.Shelf.Unicode.Decode
import Derived.Shelf.Bits.Mul64
import Derived.Shelf.Unicode.DecodeSlow
import Derived.Shelf.Unicode.DecodeAny
import Derived.Test.YtgephffbfiemeaaGreatDoorProg
set_option linter.all false
namespace Go.Proofs
open Go.Shelf
def Tryz.lG:Go.Shelf.Ren:=⟨fun|169=>174|n=>n,fun|70=>220|9=>9|0=>0|72=>222|37=>135|127=>286|3=>3|5=>5|n=>n,fun|n=>n⟩
theorem Tryz.Es:Go.Proofs.Lays.n169 Tryz.prog Tryz.lG:={
 mixed:=by kernel_rfl
 f169:=Tryz.func174.trans (congrArg some (by kernel_rfl))
 t0:=Tryz.underlying0
 a0:=Tryz.isAgg0
 z0:=Tryz.sizeOf0
 v0:=Tryz.zeroValue0
 t3:=Tryz.underlying3
 a3:=Tryz.isAgg3
 z3:=Tryz.sizeOf3
 v3:=Tryz.zeroValue3
 t9:=Tryz.underlying9
 a9:=Tryz.isAgg9
 z9:=Tryz.sizeOf9
 v9:=Tryz.zeroValue9
 t37:=Tryz.underlying135
 a37:=Tryz.isAgg135
 z37:=Tryz.sizeOf135
 v37:=Tryz.zeroValue135
 t70:=Tryz.underlying220
 a70:=Tryz.isAgg220
 z70:=Tryz.sizeOf220
 v70:=Tryz.zeroValue220
 t72:=Tryz.underlying222
 a72:=Tryz.isAgg222
 z72:=Tryz.sizeOf222
 v72:=Tryz.zeroValue222
 t127:=Tryz.underlying286
 a127:=Tryz.isAgg286
 z127:=Tryz.sizeOf286
 v127:=Tryz.zeroValue286 }
theorem Tryz.kj:Builder.Extra Tryz.prog Tryz.lG:={
 sizeBuilder:=by kernel_rfl
 liesBuilder:=by kernel_rfl
 t5:=Tryz.underlying5
 a5:=Tryz.isAgg5
 z5:=Tryz.sizeOf5
 v5:=Tryz.zeroValue5
 infoByte:=by kernel_rfl
 cellsByte:=by kernel_rfl
 sizeByte:=by kernel_rfl
 neB5:=by decide }
def Tryz.lH:Go.Shelf.Ren:=⟨fun|156=>113|165=>172|166=>173|169=>174|240=>222|241=>223|276=>259|277=>260|n=>n,fun|31=>110|9=>9|3=>3|4=>4|0=>0|20=>20|72=>222|76=>226|70=>220|37=>135|75=>225|127=>286|164=>320|5=>5|80=>200|n=>n,fun|n=>n⟩
theorem Tryz.vB:Go.Proofs.Lays.n156 Tryz.prog Tryz.lH:={
 mixed:=by kernel_rfl
 f156:=Tryz.func113.trans (congrArg some (by kernel_rfl))
 f165:=Tryz.func172.trans (congrArg some (by kernel_rfl))
 f166:=Tryz.func173.trans (congrArg some (by kernel_rfl))
 f169:=Tryz.func174.trans (congrArg some (by kernel_rfl))
 f240:=Tryz.func222.trans (congrArg some (by kernel_rfl))
 f241:=Tryz.func223.trans (congrArg some (by kernel_rfl))
 f276:=Tryz.func259.trans (congrArg some (by kernel_rfl))
 f277:=Tryz.func260.trans (congrArg some (by kernel_rfl))
 t0:=Tryz.underlying0
 a0:=Tryz.isAgg0
 z0:=Tryz.sizeOf0
 v0:=Tryz.zeroValue0
 t3:=Tryz.underlying3
 a3:=Tryz.isAgg3
 z3:=Tryz.sizeOf3
 v3:=Tryz.zeroValue3
 t4:=Tryz.underlying4
 a4:=Tryz.isAgg4
 z4:=Tryz.sizeOf4
 v4:=Tryz.zeroValue4
 t9:=Tryz.underlying9
 a9:=Tryz.isAgg9
 z9:=Tryz.sizeOf9
 v9:=Tryz.zeroValue9
 t20:=Tryz.underlying20
 a20:=Tryz.isAgg20
 z20:=Tryz.sizeOf20
 v20:=Tryz.zeroValue20
 t31:=Tryz.underlying110
 a31:=Tryz.isAgg110
 z31:=Tryz.sizeOf110
 v31:=Tryz.zeroValue110
 t37:=Tryz.underlying135
 a37:=Tryz.isAgg135
 z37:=Tryz.sizeOf135
 v37:=Tryz.zeroValue135
 t70:=Tryz.underlying220
 a70:=Tryz.isAgg220
 z70:=Tryz.sizeOf220
 v70:=Tryz.zeroValue220
 t72:=Tryz.underlying222
 a72:=Tryz.isAgg222
 z72:=Tryz.sizeOf222
 v72:=Tryz.zeroValue222
 t75:=Tryz.underlying225
 a75:=Tryz.isAgg225
 z75:=Tryz.sizeOf225
 v75:=Tryz.zeroValue225
 t76:=Tryz.underlying226
 a76:=Tryz.isAgg226
 z76:=Tryz.sizeOf226
 v76:=Tryz.zeroValue226
 t127:=Tryz.underlying286
 a127:=Tryz.isAgg286
 z127:=Tryz.sizeOf286
 v127:=Tryz.zeroValue286
 t164:=Tryz.underlying320
 a164:=Tryz.isAgg320
 z164:=Tryz.sizeOf320
 v164:=Tryz.zeroValue320 }
theorem Tryz.ga:Builder.Extra Tryz.prog Tryz.lH:={
 sizeBuilder:=by kernel_rfl
 liesBuilder:=by kernel_rfl
 t5:=Tryz.underlying5
 a5:=Tryz.isAgg5
 z5:=Tryz.sizeOf5
 v5:=Tryz.zeroValue5
 infoByte:=by kernel_rfl
 cellsByte:=by kernel_rfl
 sizeByte:=by kernel_rfl
 neB5:=by decide }
open Go.RowKit in
theorem Tryz.strings_Join_none (a:Option Addr) (c:Nat) (sep:ByteArray) (w:World) :
  Calls Tryz.prog 113 #[.slice a 0 c, .string sep] w fun e w'=>e= .returned (.string ⟨#[]⟩)∧w'=w:=Any.strings_Join_none Tryz.vB Tryz.ga a c sep w
open Go.RowKit in
theorem Tryz.strings_Join (bk o c:Nat) (xs:List ByteArray) (sep:ByteArray) (w:World) (hcells:∀ (j:Nat) x,xs[j]? =some x→w.cell? ⟨bk,o+j,none⟩=some (.string x)) (hbk:bk<w.heap.size) (hN:xs.length≤140737488355328) (hcap:xs.length≤c) (hlen:(Lib.join (xs.map (·.data.toList)) sep.data.toList).length≤140737488355328) :
  Calls Tryz.prog 113 #[.slice (some ⟨bk,o,none⟩) xs.length c, .string sep] w fun e w'=>e= .returned (.string ⟨(Lib.join (xs.map (·.data.toList)) sep.data.toList).toArray⟩)∧Below w.heap.size w w':=Any.strings_Join Tryz.vB Tryz.ga bk o c xs sep w hcells hbk hN hcap hlen
def Tryz.rU:Go.Shelf.Ren:=⟨fun|283=>218|n=>n,fun|3=>3|9=>9|4=>4|n=>n,fun|n=>n⟩
theorem Tryz.Et:Go.Proofs.Lays.n283 Tryz.prog Tryz.rU:={
 mixed:=by kernel_rfl
 f283:=Tryz.func218.trans (congrArg some (by kernel_rfl))
 t3:=Tryz.underlying3
 a3:=Tryz.isAgg3
 z3:=Tryz.sizeOf3
 v3:=Tryz.zeroValue3
 t4:=Tryz.underlying4
 a4:=Tryz.isAgg4
 z4:=Tryz.sizeOf4
 v4:=Tryz.zeroValue4
 t9:=Tryz.underlying9
 a9:=Tryz.isAgg9
 z9:=Tryz.sizeOf9
 v9:=Tryz.zeroValue9 }
open Go.Lib in
theorem Tryz.internal_strconv_small (i:Nat) (h:i<100) (w:World) :
  Calls Tryz.prog 218 #[.int .i64 i] w fun e w'=>e= .returned (.string ⟨(Lib.decDigits i).toArray⟩)∧w'=w:=Any.internal_strconv_small Tryz.Et i h w
def Tryz.pT:Go.Shelf.Ren:=⟨fun|284=>219|129=>255|317=>254|318=>256|n=>n,fun|53=>29|3=>3|212=>316|0=>0|4=>4|46=>190|5=>5|9=>9|n=>n,fun|17=>2|n=>n⟩
theorem Tryz.BI:Go.Proofs.LaysM.n284 Tryz.prog Tryz.pT:={
 mixed:=by kernel_rfl
 f129:=Tryz.func255.trans (congrArg some (by kernel_rfl))
 f284:=Tryz.func219.trans (congrArg some (by kernel_rfl))
 f317:=Tryz.func254.trans (congrArg some (by kernel_rfl))
 f318:=Tryz.func256.trans (congrArg some (by kernel_rfl))
 t0:=Tryz.underlying0
 a0:=Tryz.isAgg0
 z0:=Tryz.sizeOf0
 v0:=Tryz.zeroValue0
 t3:=Tryz.underlying3
 a3:=Tryz.isAgg3
 z3:=Tryz.sizeOf3
 v3:=Tryz.zeroValue3
 t4:=Tryz.underlying4
 a4:=Tryz.isAgg4
 z4:=Tryz.sizeOf4
 v4:=Tryz.zeroValue4
 t5:=Tryz.underlying5
 a5:=Tryz.isAgg5
 z5:=Tryz.sizeOf5
 v5:=Tryz.zeroValue5
 t9:=Tryz.underlying9
 a9:=Tryz.isAgg9
 z9:=Tryz.sizeOf9
 v9:=Tryz.zeroValue9
 t46:=Tryz.underlying190
 a46:=Tryz.isAgg190
 z46:=Tryz.sizeOf190
 v46:=Tryz.zeroValue190
 t53:=Tryz.underlying29
 a53:=Tryz.isAgg29
 z53:=Tryz.sizeOf29
 v53:=Tryz.zeroValue29
 t212:=Tryz.underlying316
 a212:=Tryz.isAgg316
 z212:=Tryz.sizeOf316
 v212:=Tryz.zeroValue316
 g17:=by kernel_rfl
 i0:=by kernel_rfl
 i3:=by kernel_rfl
 i4:=by kernel_rfl
 i5:=by kernel_rfl
 i9:=by kernel_rfl
 i46:=by kernel_rfl
 i53:=by kernel_rfl
 i212:=by kernel_rfl
 m17:=by kernel_rfl }
open Go.Lib in
theorem Tryz.internal_strconv_numDigits (u:Nat) (h1:1≤u) (h2:u<18446744073709551616) (w:World) (htab:Lib.TabIs Tryz.prog w "internal/strconv.uint64pow10" .u64 Lib.pow10Tab) :
  Calls Tryz.prog 219 #[.int .u64 u] w fun e w'=>e= .returned (.int .i64 (Lib.nDigits u))∧w'=w:=Any.internal_strconv_numDigits Tryz.BI u h1 h2 w htab
def Tryz.rV:Go.Shelf.Ren:=⟨fun|285=>220|n=>n,fun|37=>135|53=>29|3=>3|4=>4|51=>317|9=>9|5=>5|0=>0|n=>n,fun|n=>n⟩
theorem Tryz.Eu:Go.Proofs.Lays.n285 Tryz.prog Tryz.rV:={
 mixed:=by kernel_rfl
 f285:=Tryz.func220.trans (congrArg some (by kernel_rfl))
 t0:=Tryz.underlying0
 a0:=Tryz.isAgg0
 z0:=Tryz.sizeOf0
 v0:=Tryz.zeroValue0
 t3:=Tryz.underlying3
 a3:=Tryz.isAgg3
 z3:=Tryz.sizeOf3
 v3:=Tryz.zeroValue3
 t4:=Tryz.underlying4
 a4:=Tryz.isAgg4
 z4:=Tryz.sizeOf4
 v4:=Tryz.zeroValue4
 t5:=Tryz.underlying5
 a5:=Tryz.isAgg5
 z5:=Tryz.sizeOf5
 v5:=Tryz.zeroValue5
 t9:=Tryz.underlying9
 a9:=Tryz.isAgg9
 z9:=Tryz.sizeOf9
 v9:=Tryz.zeroValue9
 t37:=Tryz.underlying135
 a37:=Tryz.isAgg135
 z37:=Tryz.sizeOf135
 v37:=Tryz.zeroValue135
 t51:=Tryz.underlying317
 a51:=Tryz.isAgg317
 z51:=Tryz.sizeOf317
 v51:=Tryz.zeroValue317
 t53:=Tryz.underlying29
 a53:=Tryz.isAgg29
 z53:=Tryz.sizeOf29
 v53:=Tryz.zeroValue29 }
open Go.RowKit Go.Sort Go.Lib in
theorem Tryz.internal_strconv_formatBase10 (blk off cap:Nat) (u:Nat) (d:Array UInt8) (w:World) (hH:Holds (fun (b:UInt8)=>Value.int .u8 (b.toNat:Int)) w blk off d) (hu:u<10^d.size) (hu64:u<18446744073709551616) (hsz:d.size<4611686018427387904) :
  Calls Tryz.prog 220 #[.slice (some ⟨blk,off,none⟩) d.size cap, .int .u64 u] w fun e w' =>
   e= .returned (.tuple #[])∧∃ (n v':Nat) (dk:Array UInt8),w'=(putRow (fun (b:UInt8)=>Value.int .u8 (b.toNat:Int)) w blk off dk).drewN n∧FmtInv d.size u 0 v' dk:=Any.internal_strconv_formatBase10 Tryz.Eu blk off cap u d w hH hu hu64 hsz
def Tryz.rW:Go.Shelf.Ren:=⟨fun|171=>112|243=>171|246=>167|283=>218|284=>219|285=>220|286=>221|129=>255|317=>254|318=>256|319=>257|320=>258|337=>278|338=>170|n=>n,fun|3=>3|9=>9|2=>2|4=>4|171=>281|0=>0|53=>29|37=>135|5=>5|173=>283|212=>316|51=>317|20=>20|213=>318|46=>190|232=>338|233=>285|n=>n,fun|17=>2|18=>6|19=>1|n=>n⟩
theorem Tryz.Ev:Go.Proofs.Lays.n171 Tryz.prog Tryz.rW:={
 mixed:=by kernel_rfl
 f129:=Tryz.func255.trans (congrArg some (by kernel_rfl))
 f171:=Tryz.func112.trans (congrArg some (by kernel_rfl))
 f243:=Tryz.func171.trans (congrArg some (by kernel_rfl))
 f246:=Tryz.func167.trans (congrArg some (by kernel_rfl))
 f283:=Tryz.func218.trans (congrArg some (by kernel_rfl))
 f284:=Tryz.func219.trans (congrArg some (by kernel_rfl))
 f285:=Tryz.func220.trans (congrArg some (by kernel_rfl))
 f286:=Tryz.func221.trans (congrArg some (by kernel_rfl))
 f317:=Tryz.func254.trans (congrArg some (by kernel_rfl))
 f318:=Tryz.func256.trans (congrArg some (by kernel_rfl))
 f319:=Tryz.func257.trans (congrArg some (by kernel_rfl))
 f320:=Tryz.func258.trans (congrArg some (by kernel_rfl))
 f337:=Tryz.func278.trans (congrArg some (by kernel_rfl))
 f338:=Tryz.func170.trans (congrArg some (by kernel_rfl))
 t0:=Tryz.underlying0
 a0:=Tryz.isAgg0
 z0:=Tryz.sizeOf0
 v0:=Tryz.zeroValue0
 t2:=Tryz.underlying2
 a2:=Tryz.isAgg2
 z2:=Tryz.sizeOf2
 v2:=Tryz.zeroValue2
 t3:=Tryz.underlying3
 a3:=Tryz.isAgg3
 z3:=Tryz.sizeOf3
 v3:=Tryz.zeroValue3
 t4:=Tryz.underlying4
 a4:=Tryz.isAgg4
 z4:=Tryz.sizeOf4
 v4:=Tryz.zeroValue4
 t5:=Tryz.underlying5
 a5:=Tryz.isAgg5
 z5:=Tryz.sizeOf5
 v5:=Tryz.zeroValue5
 t9:=Tryz.underlying9
 a9:=Tryz.isAgg9
 z9:=Tryz.sizeOf9
 v9:=Tryz.zeroValue9
 t20:=Tryz.underlying20
 a20:=Tryz.isAgg20
 z20:=Tryz.sizeOf20
 v20:=Tryz.zeroValue20
 t37:=Tryz.underlying135
 a37:=Tryz.isAgg135
 z37:=Tryz.sizeOf135
 v37:=Tryz.zeroValue135
 t46:=Tryz.underlying190
 a46:=Tryz.isAgg190
 z46:=Tryz.sizeOf190
 v46:=Tryz.zeroValue190
 t51:=Tryz.underlying317
 a51:=Tryz.isAgg317
 z51:=Tryz.sizeOf317
 v51:=Tryz.zeroValue317
 t53:=Tryz.underlying29
 a53:=Tryz.isAgg29
 z53:=Tryz.sizeOf29
 v53:=Tryz.zeroValue29
 t171:=Tryz.underlying281
 a171:=Tryz.isAgg281
 z171:=Tryz.sizeOf281
 v171:=Tryz.zeroValue281
 t173:=Tryz.underlying283
 a173:=Tryz.isAgg283
 z173:=Tryz.sizeOf283
 v173:=Tryz.zeroValue283
 t212:=Tryz.underlying316
 a212:=Tryz.isAgg316
 z212:=Tryz.sizeOf316
 v212:=Tryz.zeroValue316
 t213:=Tryz.underlying318
 a213:=Tryz.isAgg318
 z213:=Tryz.sizeOf318
 t232:=Tryz.underlying338
 a232:=Tryz.isAgg338
 z232:=Tryz.sizeOf338
 v232:=Tryz.zeroValue338
 t233:=Tryz.underlying285
 a233:=Tryz.isAgg285
 z233:=Tryz.sizeOf285
 v233:=Tryz.zeroValue285
 g17:=by kernel_rfl
 g18:=by kernel_rfl
 g19:=by kernel_rfl }
open Go.RowKit Go.Sort Go.Lib in
theorem Tryz.strconv_Itoa_small (i:Nat) (hi:i<100) (w:World) :
  Calls Tryz.prog 112 #[.int .i64 i] w fun e w'=>e= .returned (.string ⟨(Lib.decDigits i).toArray⟩)∧w'=w:=Any.strconv_Itoa_small Tryz.Ev i hi w
def Tryz.pU:Go.Shelf.Ren:=⟨fun|173=>109|246=>167|283=>218|284=>219|285=>220|286=>221|129=>255|317=>254|318=>256|319=>257|320=>258|337=>278|338=>170|n=>n,fun|2=>2|3=>3|9=>9|4=>4|171=>281|0=>0|53=>29|37=>135|5=>5|173=>283|212=>316|51=>317|20=>20|213=>318|46=>190|232=>338|233=>285|n=>n,fun|17=>2|18=>6|19=>1|n=>n⟩
theorem Tryz.BJ:Go.Proofs.LaysM.n173 Tryz.prog Tryz.pU:={
 mixed:=by kernel_rfl
 f129:=Tryz.func255.trans (congrArg some (by kernel_rfl))
 f173:=Tryz.func109.trans (congrArg some (by kernel_rfl))
 f246:=Tryz.func167.trans (congrArg some (by kernel_rfl))
 f283:=Tryz.func218.trans (congrArg some (by kernel_rfl))
 f284:=Tryz.func219.trans (congrArg some (by kernel_rfl))
 f285:=Tryz.func220.trans (congrArg some (by kernel_rfl))
 f286:=Tryz.func221.trans (congrArg some (by kernel_rfl))
 f317:=Tryz.func254.trans (congrArg some (by kernel_rfl))
 f318:=Tryz.func256.trans (congrArg some (by kernel_rfl))
 f319:=Tryz.func257.trans (congrArg some (by kernel_rfl))
 f320:=Tryz.func258.trans (congrArg some (by kernel_rfl))
 f337:=Tryz.func278.trans (congrArg some (by kernel_rfl))
 f338:=Tryz.func170.trans (congrArg some (by kernel_rfl))
 t0:=Tryz.underlying0
 a0:=Tryz.isAgg0
 z0:=Tryz.sizeOf0
 v0:=Tryz.zeroValue0
 t2:=Tryz.underlying2
 a2:=Tryz.isAgg2
 z2:=Tryz.sizeOf2
 v2:=Tryz.zeroValue2
 t3:=Tryz.underlying3
 a3:=Tryz.isAgg3
 z3:=Tryz.sizeOf3
 v3:=Tryz.zeroValue3
 t4:=Tryz.underlying4
 a4:=Tryz.isAgg4
 z4:=Tryz.sizeOf4
 v4:=Tryz.zeroValue4
 t5:=Tryz.underlying5
 a5:=Tryz.isAgg5
 z5:=Tryz.sizeOf5
 v5:=Tryz.zeroValue5
 t9:=Tryz.underlying9
 a9:=Tryz.isAgg9
 z9:=Tryz.sizeOf9
 v9:=Tryz.zeroValue9
 t20:=Tryz.underlying20
 a20:=Tryz.isAgg20
 z20:=Tryz.sizeOf20
 v20:=Tryz.zeroValue20
 t37:=Tryz.underlying135
 a37:=Tryz.isAgg135
 z37:=Tryz.sizeOf135
 v37:=Tryz.zeroValue135
 t46:=Tryz.underlying190
 a46:=Tryz.isAgg190
 z46:=Tryz.sizeOf190
 v46:=Tryz.zeroValue190
 t51:=Tryz.underlying317
 a51:=Tryz.isAgg317
 z51:=Tryz.sizeOf317
 v51:=Tryz.zeroValue317
 t53:=Tryz.underlying29
 a53:=Tryz.isAgg29
 z53:=Tryz.sizeOf29
 v53:=Tryz.zeroValue29
 t171:=Tryz.underlying281
 a171:=Tryz.isAgg281
 z171:=Tryz.sizeOf281
 v171:=Tryz.zeroValue281
 t173:=Tryz.underlying283
 a173:=Tryz.isAgg283
 z173:=Tryz.sizeOf283
 v173:=Tryz.zeroValue283
 t212:=Tryz.underlying316
 a212:=Tryz.isAgg316
 z212:=Tryz.sizeOf316
 v212:=Tryz.zeroValue316
 t213:=Tryz.underlying318
 a213:=Tryz.isAgg318
 z213:=Tryz.sizeOf318
 t232:=Tryz.underlying338
 a232:=Tryz.isAgg338
 z232:=Tryz.sizeOf338
 v232:=Tryz.zeroValue338
 t233:=Tryz.underlying285
 a233:=Tryz.isAgg285
 z233:=Tryz.sizeOf285
 v233:=Tryz.zeroValue285
 g17:=by kernel_rfl
 g18:=by kernel_rfl
 g19:=by kernel_rfl
 i0:=by kernel_rfl
 i2:=by kernel_rfl
 i3:=by kernel_rfl
 i4:=by kernel_rfl
 i5:=by kernel_rfl
 i9:=by kernel_rfl
 i20:=by kernel_rfl
 i37:=by kernel_rfl
 i46:=by kernel_rfl
 i51:=by kernel_rfl
 i53:=by kernel_rfl
 i171:=by kernel_rfl
 i173:=by kernel_rfl
 i212:=by kernel_rfl
 i232:=by kernel_rfl
 i233:=by kernel_rfl
 m17:=by kernel_rfl
 m18:=by kernel_rfl
 m19:=by kernel_rfl }
open Go.RowKit Go.Sort Go.Lib in
theorem Tryz.strconv_FormatInt_10 (n:Int) (h0 : -9223372036854775808≤n) (h1:n≤9223372036854775807) (w:World) (htab:Lib.TabIs Tryz.prog w "internal/strconv.uint64pow10" .u64 Lib.pow10Tab) :
  Calls Tryz.prog 109 #[.int .i64 n, .int .i64 10] w fun e w'=>e= .returned (.string ⟨(Lib.itoa n).toArray⟩)∧∃ k os,w'=grow (w.drewN k) os:=Any.strconv_FormatInt_10 Tryz.BJ n h0 h1 w htab
def Tryz.rX:Go.Shelf.Ren:=⟨fun|219=>269|217=>283|225=>284|224=>285|267=>286|266=>292|314=>293|n=>n,fun|9=>9|3=>3|4=>4|5=>5|46=>190|146=>339|51=>317|n=>n,fun|1=>3|n=>n⟩
theorem Tryz.Ew:Go.Proofs.Lays.n219 Tryz.prog Tryz.rX:={
 mixed:=by kernel_rfl
 f217:=Tryz.func283.trans (congrArg some (by kernel_rfl))
 f219:=Tryz.func269.trans (congrArg some (by kernel_rfl))
 f224:=Tryz.func285.trans (congrArg some (by kernel_rfl))
 f225:=Tryz.func284.trans (congrArg some (by kernel_rfl))
 f266:=Tryz.func292.trans (congrArg some (by kernel_rfl))
 f267:=Tryz.func286.trans (congrArg some (by kernel_rfl))
 f314:=Tryz.func293.trans (congrArg some (by kernel_rfl))
 t3:=Tryz.underlying3
 a3:=Tryz.isAgg3
 z3:=Tryz.sizeOf3
 v3:=Tryz.zeroValue3
 t4:=Tryz.underlying4
 a4:=Tryz.isAgg4
 z4:=Tryz.sizeOf4
 v4:=Tryz.zeroValue4
 t5:=Tryz.underlying5
 a5:=Tryz.isAgg5
 z5:=Tryz.sizeOf5
 v5:=Tryz.zeroValue5
 t9:=Tryz.underlying9
 a9:=Tryz.isAgg9
 z9:=Tryz.sizeOf9
 v9:=Tryz.zeroValue9
 t46:=Tryz.underlying190
 a46:=Tryz.isAgg190
 z46:=Tryz.sizeOf190
 v46:=Tryz.zeroValue190
 t51:=Tryz.underlying317
 a51:=Tryz.isAgg317
 z51:=Tryz.sizeOf317
 v51:=Tryz.zeroValue317
 t146:=Tryz.underlying339
 a146:=Tryz.isAgg339
 z146:=Tryz.sizeOf339
 v146:=Tryz.zeroValue339
 g1:=by kernel_rfl }
open Go.RowKit Go.Lib in
theorem Tryz.stringslite_Index_one (s:ByteArray) (c:UInt8) (w:World) :
  Calls Tryz.prog 269 #[.string s, .string ⟨#[c]⟩] w fun e w'=>e= .returned (.int .i64 (Lib.indexByte s.data.toList c))∧w'=w:=Any.stringslite_Index_one Tryz.Ew s c w
def Tryz.rY:Go.Shelf.Ren:=⟨fun|143=>244|219=>269|217=>283|225=>284|224=>285|267=>286|266=>292|314=>293|n=>n,fun|9=>9|3=>3|4=>4|5=>5|46=>190|146=>339|51=>317|n=>n,fun|1=>3|n=>n⟩
theorem Tryz.Ey:Go.Proofs.Lays.n143 Tryz.prog Tryz.rY:={
 mixed:=by kernel_rfl
 f143:=Tryz.func244.trans (congrArg some (by kernel_rfl))
 f217:=Tryz.func283.trans (congrArg some (by kernel_rfl))
 f219:=Tryz.func269.trans (congrArg some (by kernel_rfl))
 f224:=Tryz.func285.trans (congrArg some (by kernel_rfl))
 f225:=Tryz.func284.trans (congrArg some (by kernel_rfl))
 f266:=Tryz.func292.trans (congrArg some (by kernel_rfl))
 f267:=Tryz.func286.trans (congrArg some (by kernel_rfl))
 f314:=Tryz.func293.trans (congrArg some (by kernel_rfl))
 t3:=Tryz.underlying3
 a3:=Tryz.isAgg3
 z3:=Tryz.sizeOf3
 v3:=Tryz.zeroValue3
 t4:=Tryz.underlying4
 a4:=Tryz.isAgg4
 z4:=Tryz.sizeOf4
 v4:=Tryz.zeroValue4
 t5:=Tryz.underlying5
 a5:=Tryz.isAgg5
 z5:=Tryz.sizeOf5
 v5:=Tryz.zeroValue5
 t9:=Tryz.underlying9
 a9:=Tryz.isAgg9
 z9:=Tryz.sizeOf9
 v9:=Tryz.zeroValue9
 t46:=Tryz.underlying190
 a46:=Tryz.isAgg190
 z46:=Tryz.sizeOf190
 v46:=Tryz.zeroValue190
 t51:=Tryz.underlying317
 a51:=Tryz.isAgg317
 z51:=Tryz.sizeOf317
 v51:=Tryz.zeroValue317
 t146:=Tryz.underlying339
 a146:=Tryz.isAgg339
 z146:=Tryz.sizeOf339
 v146:=Tryz.zeroValue339
 g1:=by kernel_rfl }
open Go.RowKit Go.Lib in
theorem Tryz.strings_Index_one (s:ByteArray) (c:UInt8) (w:World) :
  Calls Tryz.prog 244 #[.string s, .string ⟨#[c]⟩] w fun e w'=>e= .returned (.int .i64 (Lib.indexByte s.data.toList c))∧w'=w:=Any.strings_Index_one Tryz.Ey s c w
def Tryz.rZ:Go.Shelf.Ren:=⟨fun|264=>289|n=>n,fun|53=>29|46=>190|n=>n,fun|n=>n⟩
theorem Tryz.Ez:Go.Proofs.Lays.n264 Tryz.prog Tryz.rZ:={
 mixed:=by kernel_rfl
 f264:=Tryz.func289.trans (congrArg some (by kernel_rfl))
 t46:=Tryz.underlying190
 a46:=Tryz.isAgg190
 z46:=Tryz.sizeOf190
 v46:=Tryz.zeroValue190
 t53:=Tryz.underlying29
 a53:=Tryz.isAgg29
 z53:=Tryz.sizeOf29
 v53:=Tryz.zeroValue29 }
open Go.RowKit Go.Lib in
theorem Tryz.bits_Mul64 (x y:Nat) (hx:x<18446744073709551616) (hy:y<18446744073709551616) (w:World) :
  Calls Tryz.prog 289 #[.int .u64 x, .int .u64 y] w fun e w'=>e= .returned (.tuple #[.int .u64 ((x*y / 18446744073709551616:Nat):Int), .int .u64 ((x*y % 18446744073709551616:Nat):Int)])∧w'=w:=Any.bits_Mul64 Tryz.Ez x y hx hy w
end Go.Proofs
namespace Go.Proofs.YtgephffbfiemeaaGreatDoor
open Go.Abs
set_option linter.all false
set_option maxRecDepth 100000
theorem JP:BF Tryz.prog 113 :=
 rT (Go.Proofs.enters_of Tryz.func113 (by kernel_rfl) rfl) (fun x sep w=>Tryz.strings_Join_none x 0 sep w) (fun bk o c xs sep w h1 h2 h3 h4 h5=>Tryz.strings_Join bk o c xs sep w h1 h2 h3 h4 h5)
theorem JQ:Fs Tryz.prog 112 :=
 BG (Go.Proofs.enters_of Tryz.func112 (by kernel_rfl) rfl) (fun i hi w=>Tryz.strconv_Itoa_small i hi w)
theorem oM {k:Nat} (h:k<100):Lib.decDigits k=jN k:=by
 rw [Lib.decDigits]
 unfold jN
 split
 ·rfl
 ·rw [Lib.decDigits,dif_pos (by omega)];rfl
theorem iD:∀ (l:List Nat),(∀ x∈l,x<64)→Lib.joinTail [44] (l.map Lib.decDigits)=eQ l
  | [],_=>rfl
  | k :: l, h => by
    have:=iD l (fun x hx=>h x (by simp [hx]))
    simp only [Lib.joinTail,List.map_cons,List.flatten_cons,eQ] at this ⊢
    rw [this,oM (by have:=h k (by simp);omega)]
    simp
theorem uC (l:List Nat) (h:∀ x∈l,x<64):Lib.join (l.map Lib.decDigits) [44]=iB l:=by
  cases l with
  | nil=>rfl
  | cons k l =>
    rw [List.map_cons,Lib.join_cons,iD l (fun x hx=>h x (by simp [hx])),oM (by have:=h k (by simp);omega)]
    rfl
def strs (l:List Nat):List AV:=l.map fun n=>AV.str (Lib.decDigits n)
theorem cC (l:List Nat):(strs l).length=l.length:=by simp [strs]
theorem yk (l:List Nat) (k:Nat):strs l++ [.str (Lib.decDigits k)]=strs (l++ [k]):=by simp [strs]
theorem BK (τ:Nat) (l:List Nat):slv (.tsl τ l.length (strs l))=some ((l.map Lib.decDigits).length,(l.map Lib.decDigits).map AV.str):=by simp [slv,strs]
theorem oN (a:BitVec 64):Lib.join ((ff a).map Lib.decDigits) [44]=iB (ff a):=uC _ fun _ hx=>vo hx
theorem p51 (a:BitVec 64):PuG Tryz.prog gls 51 [.int .u64 a.toNat] (.str (fg a)):=by
 intro σ hσ
 refine bw c51 b51 ?_
 simp only [c51,↓R1,RR,seval]
 repeat' (first|(with_reducible rw [ai])|((with_reducible intro β hβ;(try simp only [RB] at hβ);(repeat (obtain ⟨⟨_,_⟩,hβ⟩:=hβ));(try (have hbis:=ah (by assumption) hβ;obtain ⟨_,_⟩:=hbis)))<;>(try simp only [↓R1,RR,seval])))
 refine (LG a _).mono ?_
 rintro _ _ ⟨γ,hγ,rfl,rfl⟩
 rw [St.bf] at hγ
 obtain ⟨⟨_,_⟩,hγ⟩:=hγ
 simp only [↓R1,RR,seval]
 refine fk [(true,3,0,9,1)] ?_
 simp only [cW,List.set_cons_zero,↓R1,RR,seval]
 refine fun τ hτ=>⟨_,_,rfl,?_⟩
 refine Ep a (fun pre c=>((σ.ae β [.tsl τ pre.length (strs pre)]).ae γ [.int .u64 c.toNat]).al τ (9,1,pre.length)) (fun _=>True) rfl trivial ?_ ?_ ?_ ?_ ?_ ?_
 ·intro pre b;simp only [↓R1,RR,seval]
 ·intro pre b b';simp only [↓R1,RR,seval]
 ·intro pre b;exact hσ
 ·intro pre b L;simp only [↓R1,RR,seval]
 ·intro L r pre k b hL _ hk
  obtain ⟨rest,hr⟩:=hk
  have hlen:pre.length<64:=by
   have:=mL a
   rw [hr] at this
   simp at this
   omega
  have hk64:k<64:=vo (a:=a) (by rw [hr];simp)
  simp only [↓R1,RR,seval]
  have hm:pre.length+1≤maxLen:=by unfold maxLen;omega
  repeat' ((first|((first|(refine bQ (.inr rfl) rfl ?_ ?_ ?_ ?_ ?_ ?_;(first|rfl|exact St.bg _ _ _|(simp only [↓R1,RR,seval]));(first|omega|(simp only [RZ,cC,List.length_nil,List.length_cons];omega)|(simp only [RZ,cC,List.length_nil,List.length_cons]));(first|rfl|first|omega|(simp only [RZ,cC,List.length_nil,List.length_cons];omega)|(simp only [RZ,cC,List.length_nil,List.length_cons])))|(refine bD rfl ?_ ?_ ?_ ?_ ?_ ?_;(first|rfl|exact St.bg _ _ _|(simp only [↓R1,RR,seval]));(first|omega|(simp only [RZ,cC,List.length_nil,List.length_cons];omega)|(simp only [RZ,cC,List.length_nil,List.length_cons]));(first|rfl|first|omega|(simp only [RZ,cC,List.length_nil,List.length_cons];omega)|(simp only [RZ,cC,List.length_nil,List.length_cons])))|(refine appV_own ?_ ?_ ?_ ?_;exact aS (by intro _;rfl) _)|(refine appD_own ?_ ?_ ?_ ?_ ?_;omega;exact aS (by intro _;rfl) _)|(refine appV_fresh rfl trivial rfl ?_ ?_ ?_ ?_ ?_;(first|rfl|first|omega|(simp only [RZ,cC,List.length_nil,List.length_cons];omega)|(simp only [RZ,cC,List.length_nil,List.length_cons]));(first|rfl|first|omega|(simp only [RZ,cC,List.length_nil,List.length_cons];omega)|(simp only [RZ,cC,List.length_nil,List.length_cons])))|(refine appD_fresh rfl trivial rfl ?_ ?_ ?_ ?_ ?_ ?_;omega;(first|rfl|first|omega|(simp only [RZ,cC,List.length_nil,List.length_cons];omega)|(simp only [RZ,cC,List.length_nil,List.length_cons]));(first|rfl|first|omega|(simp only [RZ,cC,List.length_nil,List.length_cons];omega)|(simp only [RZ,cC,List.length_nil,List.length_cons]))));(unfold maxLen;omega);omega)|(refine Ct (JQ k (by omega)) ?_))<;>(try simp only [↓R1,RR,seval]))
  all_goals first|omega|exact Nat.le_refl _|assumption|exact St.le_refl _|(intros;(repeat' (with_reducible apply And.intro))<;>first|omega|(simp only [RZ,cC];omega))|(simp only [az,slot,af,↓R1,RR,seval];(repeat' (with_reducible apply And.intro))<;>first|exact bU (by have:=av;omega)|exact ay _ _ _|exact aq _ _|exact ad (congrArg (AV.tsl _ _) (flat_step (by assumption))))|((repeat (first|exact St.le_refl _|(refine St.aw ?_ (by assumption))|(refine St.aG ?_ (by assumption))));done)|(simp_all;done)|skip
  all_goals (try simp only [↓R1,RR,seval])
  refine ⟨_,?_,?_,rfl⟩
  rotate_left
  ·exact hL
  simp only [yk,List.length_append,↓R1,RR,seval]
 ·intro _
  simp only [↓R1,RR,seval]
  have hbl:=oA a
  refine ((JP _ _ [44] _ (BK τ (ff a)) (by have:=mL a;simp;omega) (by rw [oN];omega)).mono ?_)
  rintro _ _ ⟨rfl,rfl⟩
  rw [oN]
  simp only [↓R1,RR,seval]
  refine ⟨by omega,?_,?_⟩
  ·omega
  (refine ak (ad ?_))
  (simp only [ao,↓R1,RR,seval])
  simp [fg]
open Go.Lib
def I64 (n:Int):Prop:= -9223372036854775808≤n∧n≤9223372036854775807
def gl3:List (Nat × List AV):= [(1,um),(2,Fm)]
theorem EA {σ:St} (h:cG gl3 σ):cG gls σ:=fun k cs hk=>by
 simp only [gls,Go.Abs.look] at hk
 cases hb:Nat.beq k 1 with
 | false=>rw [hb] at hk;cases hk
 | true=>rw [hb] at hk;exact h k cs (by simp only [gl3,Go.Abs.look,hb];exact hk)
theorem PuG.up3 {f:Nat} {xs:List AV} {v:AV} (h:PuG Tryz.prog gls f xs v):PuG Tryz.prog gl3 f xs v:=fun σ hσ=>h σ (EA hσ)
theorem EB:Tryz.prog.globalNamed "internal/strconv.uint64pow10" =some 2:=by kernel_rfl
theorem JR:Jw Tryz.prog 109 2 :=
 Ee (Go.Proofs.enters_of Tryz.func109 (by kernel_rfl) rfl) EB (fun n h0 h1 w ht=>Tryz.strconv_FormatInt_10 n h0 h1 w ht)
theorem LQ (n:Int) (hn:I64 n):PuG Tryz.prog gl3 141 [.int .i64 n] (.str (itoa n)):=by
 intro σ hσ
 refine bw GF Ky ?_
 simp only [GF,↓R1,RR,Nat.reduceEqDiff]
 refine AC.mono (JR n σ hn.1 hn.2 (hσ _ _ rfl)) ?_
 rintro r s ⟨rfl,rfl⟩
 simp only [↓R1,RR,Nat.reduceEqDiff]
 (refine ak (ad ?_))
 (simp only [ao,↓R1,RR,Nat.reduceEqDiff])
def EC:List UInt8:= [65,66,67,68,69,70,71,72,73,74,75,76,77,78,79,80,81,82,83,84,85,86,87,88,89,90]
def eZ (k:Int):List UInt8:=bif decide (k<0)||decide (26≤k) then [] else (EC.drop k.toNat).take 1
theorem LR {k:Int} (h:(decide (k<0)||decide (26≤k))=false):(0≤k∧k<26)∧IntKind.i64.wrap (k+1)=k+1∧(k+1).toNat - k.toNat=1:=by
 simp only [Bool.or_eq_false_iff,decide_eq_false_iff_not] at h
 exact ⟨by omega,wrap64 (by omega) (by omega),by omega⟩
theorem p53 (k:Int):Pu Tryz.prog 53 [.int .i64 k] (.tup [.str (eZ k), .int .i64 (eH k)]):=by
 (refine an c53 b53 fun σ=>?_;simp only [c53,↓R1,RR,Nat.reduceEqDiff])
 refine ar (fun hc=>?_) (fun hc=>?_)
 ·simp only [↓R1,RR,Nat.reduceEqDiff]
  (refine ak (ad ?_))
  (simp only [ao,↓R1,RR,Nat.reduceEqDiff])
  simp only [eZ,eH,hc,cond_true]
 ·obtain ⟨h1,h2,h3⟩:=LR hc
  simp only [h2,↓R1,RR,Nat.reduceEqDiff]
  simp only [h3]
  refine ⟨⟨by omega,by omega,by simp;omega⟩,?_⟩
  (refine ak (ad ?_))
  (simp only [ao,↓R1,RR,Nat.reduceEqDiff])
  simp only [eZ,eH,hc,cond_false]
  rfl
theorem Fu (v:Int):IntKind.u64.wrap v=((BitVec.ofInt 64 v).toNat:Int):=by
 rw [IntKind.wrap_u64,BitVec.toNat_ofInt];omega
theorem Fv (a:BitVec 64) {k:Nat} (h:k<8):IntKind.u8.wrap ((a.toNat:Int).fdiv (2^min (56 - 8*(k:Int)).toNat IntKind.u64.bits))=(jA a k:Nat):=by
 have e:(56 - 8*(k:Int)).toNat=56 - 8*k:=by omega
 rw [e,HT]
theorem LS (a:BitVec 64):Tp Tryz.prog 210 [.int .u64 a.toNat] 5 1 8 (gH a 8):=by
 have hby:=True.intro
 have hge:∀ k:Nat,decide ((0:Int)≤56 - 8*(k:Int))=decide (k<8):=fun k=>by rw [Bool.eq_iff_iff];simp;omega
 intro σ
 (refine bw G4 KV ?_;simp only [G4,↓R1,RR,Nat.reduceEqDiff,hby])
 refine mQ 8 4 5 1 0 [] (fun τ k=> [(5, .int .i64 (56 - 8*(k:Int))),(3, .int .u64 a.toNat),(4, .tsl τ k (gH a k))]) (fun τ k=>σ.al τ (5,1,k)) (fun _=>True) trivial rfl trivial (fun τ=>by simp [az,slot,af,gH]) (fun τ _=>St.le_refl _) (fun τ hτ k hk _=>?_)
 simp only [hge,↓R1,RR,Nat.reduceEqDiff,hby]
 refine ar (fun hc=>?_) (fun hc=>?_)
 ·have hlt:k<8:=by simpa using hc
  have hby:=Fv a hlt
  have hl:=aE a k
  have hm:k+1≤maxLen:=by unfold maxLen;omega
  simp only [↓R1,RR,Nat.reduceEqDiff,hby]
  repeat' (first|(with_reducible refine And.intro ?_ ?_;focus (intros;(repeat' (with_reducible apply And.intro))<;>first|omega|(simp only [RZ,aE];omega)))|(with_reducible apply And.intro)|(((first|(refine bQ (.inr rfl) rfl ?_ ?_ ?_ ?_ ?_ ?_;(first|rfl|exact St.bg _ _ _|(simp only [↓R1,RR,Nat.reduceEqDiff,hby]));(first|omega|(simp only [RZ,aE,List.length_nil,List.length_cons];omega)|(simp only [RZ,aE,List.length_nil,List.length_cons]));(first|rfl|first|omega|(simp only [RZ,aE,List.length_nil,List.length_cons];omega)|(simp only [RZ,aE,List.length_nil,List.length_cons])))|(refine bD rfl ?_ ?_ ?_ ?_ ?_ ?_;(first|rfl|exact St.bg _ _ _|(simp only [↓R1,RR,Nat.reduceEqDiff,hby]));(first|omega|(simp only [RZ,aE,List.length_nil,List.length_cons];omega)|(simp only [RZ,aE,List.length_nil,List.length_cons]));(first|rfl|first|omega|(simp only [RZ,aE,List.length_nil,List.length_cons];omega)|(simp only [RZ,aE,List.length_nil,List.length_cons])))|(refine appV_own ?_ ?_ ?_ ?_;exact aS (by intro _;rfl) _)|(refine appD_own ?_ ?_ ?_ ?_ ?_;omega;exact aS (by intro _;rfl) _)|(refine appV_fresh rfl trivial rfl ?_ ?_ ?_ ?_ ?_;(first|rfl|first|omega|(simp only [RZ,aE,List.length_nil,List.length_cons];omega)|(simp only [RZ,aE,List.length_nil,List.length_cons]));(first|rfl|first|omega|(simp only [RZ,aE,List.length_nil,List.length_cons];omega)|(simp only [RZ,aE,List.length_nil,List.length_cons])))|(refine appD_fresh rfl trivial rfl ?_ ?_ ?_ ?_ ?_ ?_;omega;(first|rfl|first|omega|(simp only [RZ,aE,List.length_nil,List.length_cons];omega)|(simp only [RZ,aE,List.length_nil,List.length_cons]));(first|rfl|first|omega|(simp only [RZ,aE,List.length_nil,List.length_cons];omega)|(simp only [RZ,aE,List.length_nil,List.length_cons]))));(unfold maxLen;omega);omega)<;>(try simp only [↓R1,RR,Nat.reduceEqDiff,hby])))
  all_goals first|omega|exact Nat.le_refl _|assumption|exact St.le_refl _|(intros;(repeat' (with_reducible apply And.intro))<;>first|omega|(simp only [RZ,aE];omega))|(simp only [az,slot,af,↓R1,RR,Nat.reduceEqDiff,hby];(repeat' (with_reducible apply And.intro))<;>first|exact bU (by have:=av;omega)|exact ay _ _ _|exact aq _ _|exact ad (congrArg (AV.tsl _ _) (flat_step (by assumption))))|((repeat (first|exact St.le_refl _|(refine St.aw ?_ (by assumption))|(refine St.aG ?_ (by assumption))));done)|(simp_all;done)|skip
  simp only [az,slot,af,oJ,↓R1,RR,Nat.reduceEqDiff,hby]
  exact ad (by rw [wrap64 (by omega) (by omega)];congr 1;omega)
 ·have:k=8:=by simp at hc;omega
  subst this
  simp only [↓R1,RR,Nat.reduceEqDiff,hby]
  refine rh τ hτ (by simp) (by simp [aj,rvS]) (ad (by (simp only [ao,↓R1,RR,Nat.reduceEqDiff,hby]))) (St.le_refl _)
theorem LU (v:Int):Tp Tryz.prog 211 [.int .i64 v] 5 1 8 (gH (BitVec.ofInt 64 v) 8):=by
 have hby:=True.intro
 have hge:∀ k:Nat,decide ((0:Int)≤56 - 8*(k:Int))=decide (k<8):=fun k=>by rw [Bool.eq_iff_iff];simp;omega
 intro σ
 (refine bw G5 KW ?_;simp only [G5,↓R1,RR,Nat.reduceEqDiff,hby])
 simp only [Fu]
 obtain ⟨a,ha⟩:∃ a,BitVec.ofInt 64 v=a:=⟨_,rfl⟩
 rw [ha]
 refine mQ 8 4 5 1 0 [] (fun τ k=> [(5, .int .i64 (56 - 8*(k:Int))),(3, .int .u64 a.toNat),(4, .tsl τ k (gH a k))]) (fun τ k=>σ.al τ (5,1,k)) (fun _=>True) trivial rfl trivial (fun τ=>by simp [az,slot,af,gH]) (fun τ _=>St.le_refl _) (fun τ hτ k hk _=>?_)
 simp only [hge,↓R1,RR,Nat.reduceEqDiff,hby]
 refine ar (fun hc=>?_) (fun hc=>?_)
 ·have hlt:k<8:=by simpa using hc
  have hby:=Fv a hlt
  have hl:=aE a k
  have hm:k+1≤maxLen:=by unfold maxLen;omega
  simp only [↓R1,RR,Nat.reduceEqDiff,hby]
  repeat' (first|(with_reducible refine And.intro ?_ ?_;focus (intros;(repeat' (with_reducible apply And.intro))<;>first|omega|(simp only [RZ,aE];omega)))|(with_reducible apply And.intro)|(((first|(refine bQ (.inr rfl) rfl ?_ ?_ ?_ ?_ ?_ ?_;(first|rfl|exact St.bg _ _ _|(simp only [↓R1,RR,Nat.reduceEqDiff,hby]));(first|omega|(simp only [RZ,aE,List.length_nil,List.length_cons];omega)|(simp only [RZ,aE,List.length_nil,List.length_cons]));(first|rfl|first|omega|(simp only [RZ,aE,List.length_nil,List.length_cons];omega)|(simp only [RZ,aE,List.length_nil,List.length_cons])))|(refine bD rfl ?_ ?_ ?_ ?_ ?_ ?_;(first|rfl|exact St.bg _ _ _|(simp only [↓R1,RR,Nat.reduceEqDiff,hby]));(first|omega|(simp only [RZ,aE,List.length_nil,List.length_cons];omega)|(simp only [RZ,aE,List.length_nil,List.length_cons]));(first|rfl|first|omega|(simp only [RZ,aE,List.length_nil,List.length_cons];omega)|(simp only [RZ,aE,List.length_nil,List.length_cons])))|(refine appV_own ?_ ?_ ?_ ?_;exact aS (by intro _;rfl) _)|(refine appD_own ?_ ?_ ?_ ?_ ?_;omega;exact aS (by intro _;rfl) _)|(refine appV_fresh rfl trivial rfl ?_ ?_ ?_ ?_ ?_;(first|rfl|first|omega|(simp only [RZ,aE,List.length_nil,List.length_cons];omega)|(simp only [RZ,aE,List.length_nil,List.length_cons]));(first|rfl|first|omega|(simp only [RZ,aE,List.length_nil,List.length_cons];omega)|(simp only [RZ,aE,List.length_nil,List.length_cons])))|(refine appD_fresh rfl trivial rfl ?_ ?_ ?_ ?_ ?_ ?_;omega;(first|rfl|first|omega|(simp only [RZ,aE,List.length_nil,List.length_cons];omega)|(simp only [RZ,aE,List.length_nil,List.length_cons]));(first|rfl|first|omega|(simp only [RZ,aE,List.length_nil,List.length_cons];omega)|(simp only [RZ,aE,List.length_nil,List.length_cons]))));(unfold maxLen;omega);omega)<;>(try simp only [↓R1,RR,Nat.reduceEqDiff,hby])))
  all_goals first|omega|exact Nat.le_refl _|assumption|exact St.le_refl _|(intros;(repeat' (with_reducible apply And.intro))<;>first|omega|(simp only [RZ,aE];omega))|(simp only [az,slot,af,↓R1,RR,Nat.reduceEqDiff,hby];(repeat' (with_reducible apply And.intro))<;>first|exact bU (by have:=av;omega)|exact ay _ _ _|exact aq _ _|exact ad (congrArg (AV.tsl _ _) (flat_step (by assumption))))|((repeat (first|exact St.le_refl _|(refine St.aw ?_ (by assumption))|(refine St.aG ?_ (by assumption))));done)|(simp_all;done)|skip
  simp only [az,slot,af,oJ,↓R1,RR,Nat.reduceEqDiff,hby]
  exact ad (by rw [wrap64 (by omega) (by omega)];congr 1;omega)
 ·have:k=8:=by simp at hc;omega
  subst this
  simp only [↓R1,RR,Nat.reduceEqDiff,hby]
  refine rh τ hτ (by simp) (by simp [aj,rvS]) (ad (by (simp only [ao,↓R1,RR,Nat.reduceEqDiff,hby]))) (St.le_refl _)
theorem yl (a:BitVec 64):lX a 0= [.int .u8 0, .int .u8 0, .int .u8 0, .int .u8 0, .int .u8 0, .int .u8 0, .int .u8 0, .int .u8 0]:=rfl
theorem LV:(List.replicate (Int.toNat 8) [AV.int .u8 0]).flatten= [.int .u8 0, .int .u8 0, .int .u8 0, .int .u8 0, .int .u8 0, .int .u8 0, .int .u8 0, .int .u8 0]:=rfl
theorem LW:Int.toNat 8=8:=rfl
theorem p85 (a:BitVec 64):Pu Tryz.prog 85 [.int .u64 a.toNat] (.str (fL a)):=by
 (refine an c85 b85 fun σ=>?_;simp only [c85,↓R1,RR,Nat.reduceEqDiff])
 refine ⟨by decide,fun β hβ=>?_⟩
 simp only [LV,LW,←yl a,↓R1,RR,Nat.reduceEqDiff]
 refine bK 8 (fun k=> [(4, .int .i64 k),(0, .int .u64 a.toNat),(3, .psl β 0 8)]) (fun k=>σ.ae β (lX a k)) (fun _=>True) (by simp [az,slot,af]) (St.le_refl _) trivial (fun k hk _=>?_)
 have hlt8:decide ((k:Int)<8)=decide (k<8):=by rw [Bool.eq_iff_iff];simp;omega
 simp only [hlt8,↓R1,RR,Nat.reduceEqDiff]
 refine ar (fun hc=>?_) (fun hc=>?_)
 ·have hlt:k<8:=by simpa using hc
  simp only [By a hlt,Nat.mul_one,mU,↓R1,RR,Nat.reduceEqDiff]
  refine ⟨?_,⟨by omega,by omega⟩,by omega,hlt,?_,?_⟩
  ·have e1:IntKind.i64.wrap (8*(k:Int))=8*k:=by rw [wrap64 (by omega) (by omega)]
   have e2:IntKind.i64.wrap (56 - 8*(k:Int))=((56 - 8*k:Nat):Int):=by rw [wrap64 (by omega) (by omega)];omega
   rw [e1,e2,IntKind.wrap_u64];omega
  ·simp only [az,slot,af,↓R1,RR,Nat.reduceEqDiff];exact bU (by omega)
  ·rw [yg a hlt];exact St.le_refl _
 ·have:k=8:=by simp at hc;omega
  subst this
  have ht:(lX a 8).take 8=lX a 8:=List.take_of_length_le (by rw [mU];omega)
  simp only [ht,rI,uq,↓R1,RR,Nat.reduceEqDiff]
  refine ⟨by rw [mU];omega,?_⟩
  (refine ak (ad ?_))
  (simp only [ao,↓R1,RR,Nat.reduceEqDiff])
def gf (l:BitVec 64) (k v:Int):List UInt8:=bif eH k == 0 then fL l++UInt8.ofNat (IntKind.u8.wrap k).toNat::fL (BitVec.ofInt 64 v) else []
theorem ym (a b:BitVec 64) (x:Int):((gH a 8++ [AV.int .u8 x])++gH b 8).all isByte=true∧((gH a 8++ [AV.int .u8 x])++gH b 8).map Go.Abs.byteOf=fL a++UInt8.ofNat x.toNat::fL b∧((gH a 8++ [AV.int .u8 x])++gH b 8).length=17:=by
 refine ⟨by simp [List.all_append,rJ,isByte],?_,by simp [aE]⟩
 rw [List.map_append,List.map_append,mV,mV]
 simp [Go.Abs.byteOf]
set_option maxHeartbeats 4000000 in
theorem LX (l:BitVec 64) (k v:Int):Pu Tryz.prog 155 [.agg [.int .u64 l.toNat, .int .i64 k, .int .i64 v]] (.tup [.str (gf l k v), .int .i64 (eH k)]):=by
 obtain ⟨g1,g2,g3⟩:=ym l (BitVec.ofInt 64 v) (IntKind.u8.wrap k)
 (refine an GJ KC fun σ=>?_;simp only [GJ,↓R1,RR,Nat.reduceEqDiff])
 repeat' (first|(with_reducible refine And.intro ?_ ?_;focus (intros;(repeat' (with_reducible apply And.intro))<;>first|omega|(simp only [RZ,aE];omega)))|(with_reducible apply And.intro)|((first|(refine ar (fun hc=>?_) (fun hc=>?_))|(with_reducible intro β hβ;(try simp only [RB] at hβ);(repeat (obtain ⟨⟨_,_⟩,hβ⟩:=hβ));(try (have hbis:=ah (by assumption) hβ;obtain ⟨_,_⟩:=hbis)))|((first|(refine bQ (.inr rfl) rfl ?_ ?_ ?_ ?_ ?_ ?_;(first|rfl|exact St.bg _ _ _|(simp only [↓R1,RR,Nat.reduceEqDiff]));(first|omega|(simp only [RZ,aE,List.length_nil,List.length_cons];omega)|(simp only [RZ,aE,List.length_nil,List.length_cons]));(first|rfl|first|omega|(simp only [RZ,aE,List.length_nil,List.length_cons];omega)|(simp only [RZ,aE,List.length_nil,List.length_cons])))|(refine bD rfl ?_ ?_ ?_ ?_ ?_ ?_;(first|rfl|exact St.bg _ _ _|(simp only [↓R1,RR,Nat.reduceEqDiff]));(first|omega|(simp only [RZ,aE,List.length_nil,List.length_cons];omega)|(simp only [RZ,aE,List.length_nil,List.length_cons]));(first|rfl|first|omega|(simp only [RZ,aE,List.length_nil,List.length_cons];omega)|(simp only [RZ,aE,List.length_nil,List.length_cons])))|(refine appV_own ?_ ?_ ?_ ?_;exact aS (by intro _;rfl) _)|(refine appD_own ?_ ?_ ?_ ?_ ?_;omega;exact aS (by intro _;rfl) _)|(refine appV_fresh rfl trivial rfl ?_ ?_ ?_ ?_ ?_;(first|rfl|first|omega|(simp only [RZ,aE,List.length_nil,List.length_cons];omega)|(simp only [RZ,aE,List.length_nil,List.length_cons]));(first|rfl|first|omega|(simp only [RZ,aE,List.length_nil,List.length_cons];omega)|(simp only [RZ,aE,List.length_nil,List.length_cons])))|(refine appD_fresh rfl trivial rfl ?_ ?_ ?_ ?_ ?_ ?_;omega;(first|rfl|first|omega|(simp only [RZ,aE,List.length_nil,List.length_cons];omega)|(simp only [RZ,aE,List.length_nil,List.length_cons]));(first|rfl|first|omega|(simp only [RZ,aE,List.length_nil,List.length_cons];omega)|(simp only [RZ,aE,List.length_nil,List.length_cons]))));(unfold maxLen;omega);omega)|(refine Pt (LI l.toNat k v) ?_)|((refine Tp.to (LS l) ?_ ?_;(focus ((repeat' (first|exact af _|exact bz|exact ay _ _ _|exact aq _ _|exact wkL.nil|exact aa _|refine c9 ?_|refine cR ?_|refine wkL.cons ?_ ?_));done));intro τ hβ;(try simp only [RB] at hβ);(repeat (obtain ⟨⟨_,_⟩,hβ⟩:=hβ));(try (have hbis:=ah (by assumption) hβ;obtain ⟨_,_⟩:=hbis))))|((refine Tp.to (LU v) ?_ ?_;(focus ((repeat' (first|exact af _|exact bz|exact ay _ _ _|exact aq _ _|exact wkL.nil|exact aa _|refine c9 ?_|refine cR ?_|refine wkL.cons ?_ ?_));done));intro τ hβ;(try simp only [RB] at hβ);(repeat (obtain ⟨⟨_,_⟩,hβ⟩:=hβ));(try (have hbis:=ah (by assumption) hβ;obtain ⟨_,_⟩:=hbis)))))<;>(try simp only [↓R1,RR,Nat.reduceEqDiff])))
 ·(refine ak (ad ?_))
  (simp only [ao,↓R1,RR,Nat.reduceEqDiff])
  have he:(eH k == 0)=false:=by simpa using hc
  simp only [gf,he,cond_false]
 all_goals ((refine ak (ad ?_));(simp only [ao,↓R1,RR,Nat.reduceEqDiff]);rw [g2];have he:eH k=0:=by simpa using hc)
 all_goals simp [gf,he]
theorem ng (a:BitVec 64):(fL a).length=8:=by simp [fL]
theorem p38 (l:BitVec 64) (k v:Int):Pu Tryz.prog 38 [.agg [.int .u64 l.toNat, .int .i64 k, .int .i64 v]] (.tup [.str (gf l k v), .int .i64 (eH k)]):=by
 have hw:=Fu v
 (refine an c38 b38 fun σ=>?_;simp only [c38,↓R1,RR,Nat.reduceEqDiff,Nat.reduceAdd,Nat.reduceLeDiff,Nat.reduceLT,hw])
 repeat' (first|((first|refine ar (fun hc=>?_) (fun hc=>?_)|(with_reducible intro β hβ;(try simp only [St.bf,St.ez,St.bZ,St.b6,St.gx,St.ic] at hβ);(repeat (obtain ⟨⟨_,_⟩,hβ⟩:=hβ));(try (have hbis:=ah (by assumption) hβ;obtain ⟨_,_⟩:=hbis))))<;>(try simp only [↓R1,RR,Nat.reduceEqDiff,Nat.reduceAdd,Nat.reduceLeDiff,Nat.reduceLT,hw]))|(with_reducible apply And.intro)|((first|refine Pu.to (p84 l.toNat k v) (aa _) ?_|refine bO (p84 l.toNat k v) (aa _) ?_|refine Pu.to (p85 l) (aa _) ?_|refine bO (p85 l) (aa _) ?_|refine Pu.to (p85 (BitVec.ofInt 64 v)) (aa _) ?_|refine bO (p85 (BitVec.ofInt 64 v)) (aa _) ?_);(try simp only [↓R1,RR,Nat.reduceEqDiff,Nat.reduceAdd,Nat.reduceLeDiff,Nat.reduceLT,hw])))
 all_goals first|rfl|(simp only [ng];omega)|(simp only [List.length_append,List.length_cons,List.length_nil,ng];omega)|skip
 ·(refine ak (ad ?_))
  (simp only [ao,↓R1,RR,Nat.reduceEqDiff,Nat.reduceAdd,Nat.reduceLeDiff,Nat.reduceLT,hw])
  have he:(eH k == 0)=false:=by simpa using hc
  simp only [gf,he,cond_false]
 have he:eH k=0:=by simpa using hc
 (refine ak (ad ?_))
 (simp only [ao,↓R1,RR,Nat.reduceEqDiff,Nat.reduceAdd,Nat.reduceLeDiff,Nat.reduceLT,hw])
 simp [gf,he,Go.Abs.byteOf]
theorem JS (k:Nat) (h:k<10):List.take 1 (List.drop k ([48,49,50,51,52,53,54,55,56,57]:List UInt8))= [UInt8.ofNat (48+k)]:=by
 rcases (by omega:k=0∨k=1∨k=2∨k=3∨k=4∨k=5∨k=6∨k=7∨k=8∨k=9) with rfl|rfl|rfl|rfl|rfl|rfl|rfl|rfl|rfl|rfl<;>rfl
theorem fE (n:Nat) (h:n<18446744073709551616):(decDigits n).length≤20:=by
  have:∀ (j:Nat) (n:Nat),n<10^(j+1)→(decDigits n).length≤j+1:=by
    intro j
    induction j with
    | zero=>intro n h;rw [decDigits,dif_pos (by omega)];simp
    | succ j ih =>
      intro n h
      rw [decDigits]
      split
      · simp
      · have:=ih (n / 10) (by rw [Nat.pow_succ] at h;omega)
        simp only [List.length_append,List.length_cons,List.length_nil];omega
  exact this 19 n (Nat.lt_trans h (by decide))
theorem LY (n:Nat):n<18446744073709551616→Pu Tryz.prog 193 [.int .u64 n] (.str (decDigits n)):=by
  induction n using Nat.strongRecOn with
  | _ n ih =>
    intro hn
    have hlt:decide ((n:Int)<10)=decide (n<10):=by rw [Bool.eq_iff_iff];simp;omega
    (refine an GX KP fun σ=>?_;simp only [GX,↓R1,RR,Nat.reduceEqDiff,Nat.reduceAdd,Nat.reduceLeDiff,Nat.reduceLT])
    simp only [hlt,↓R1,RR,Nat.reduceEqDiff,Nat.reduceAdd,Nat.reduceLeDiff,Nat.reduceLT]
    refine ar (fun hc=>?_) (fun hc=>?_)
    · have h10:n<10:=by simpa using hc
      have hw:IntKind.u64.wrap ((n:Int)+1)=n+1:=by rw [IntKind.wrap_u64];omega
      have ht:((n:Int)+1).toNat - n=1:=by omega
      simp only [hw,↓R1,RR,Nat.reduceEqDiff,Nat.reduceAdd,Nat.reduceLeDiff,Nat.reduceLT]
      simp only [ht,JS n h10]
      refine ⟨⟨by omega,by omega,by simp;omega⟩,?_⟩
      (refine ak (ad ?_))
      (simp only [ao,↓R1,RR,Nat.reduceEqDiff,Nat.reduceAdd,Nat.reduceLeDiff,Nat.reduceLT])
      rw [decDigits,dif_pos h10]
    · have h10:¬ n<10:=by simpa using hc
      have hi:=ih (n / 10) (by omega) (by omega)
      have h1:Int.tdiv (n:Int) 10=((n / 10:Nat):Int):=rfl
      have h2:Int.tmod (n:Int) 10=((n % 10:Nat):Int):=rfl
      have h3:IntKind.u64.wrap ((n / 10:Nat):Int)=((n / 10:Nat):Int):=by rw [IntKind.wrap_u64];omega
      have h4:IntKind.u64.wrap (((n % 10:Nat):Int)+1)=((n % 10:Nat):Int)+1:=by rw [IntKind.wrap_u64];omega
      have ht:(((n % 10:Nat):Int)+1).toNat - n % 10=1:=by omega
      have hd:=fE (n / 10) (by omega)
      have hm:n % 10<10:=Nat.mod_lt _ (by decide)
      simp only [h1,h2,h3,h4,↓R1,RR,Nat.reduceEqDiff,Nat.reduceAdd,Nat.reduceLeDiff,Nat.reduceLT]
      repeat' (first|(with_reducible refine And.intro ?_ ?_;(focus (first|omega|(intros;(repeat' (with_reducible apply And.intro))<;>first|omega|(simp only [List.length_append,List.length_cons,List.length_nil];omega)))))|(with_reducible apply And.intro)|((first|refine Pu.to (hi) (aa _) ?_|refine bO (hi) (aa _) ?_);(try simp only [↓R1,RR,Nat.reduceEqDiff,Nat.reduceAdd,Nat.reduceLeDiff,Nat.reduceLT])))
      all_goals (try simp only [h2,h4,Int.toNat_natCast,ht,JS _ hm])
      all_goals first|omega|skip
      · simp only [List.length_cons,List.length_nil];omega
      · (refine ak (ad ?_))
        (simp only [ao,↓R1,RR,Nat.reduceEqDiff,Nat.reduceAdd,Nat.reduceLeDiff,Nat.reduceLT])
        rw [decDigits.eq_def n,dif_neg h10]
theorem eg (v:Int) (hv:I64 v):(itoa v).length≤21:=by
 unfold I64 at hv
 unfold itoa
 split
 ·have:=fE v.natAbs (by omega)
  simp only [List.length_cons];omega
 ·have:=fE v.toNat (by omega)
  omega
theorem jl (a:BitVec 64):(fg a).length≤194:=by
 have:=oA a
 simp only [fg,List.length_cons,List.length_append,List.length_nil];omega
theorem r4 (k:Int):(eZ k).length≤1:=by unfold eZ;cases (decide (k<0)||decide (26≤k))<;>simp;omega
theorem wU (n:Int):IntKind.u64.wrap n=n % 18446744073709551616:=by
 simp [IntKind.wrap,IntKind.bits,IntKind.signed]
theorem wU8 (n:Int):IntKind.u8.wrap n=n % 256:=by
 simp [IntKind.wrap,IntKind.bits,IntKind.signed]
def dg (c:UInt8):Bool:=decide (48≤c.toNat)&&decide (c.toNat≤57)
def nh (a:Nat) (c:UInt8):Nat:=a*10+(c.toNat - 48)
def val (a:Nat) (l:List UInt8):Nat:=l.foldl nh a
theorem r5 (l:List UInt8) (a:Nat) (c:UInt8):val a (l++ [c])=val a l*10+(c.toNat - 48):=by
 unfold val
 rw [List.foldl_append]
 rfl
def fM (s:List UInt8):Bool:=s == []||(decide ((1:Int)<s.length)&&((((s[0]?).getD 0).toNat:Nat):Int) == 48)
def du (s:List UInt8):Bool:= !fM s&&s.all dg
theorem jC (s:List UInt8) (k:Nat) (h:k<s.length):val 0 (s.take (k+1))=val 0 (s.take k)*10+(s[k].toNat - 48):=by
 rw [←List.take_append_getElem h,r5]
theorem Fw {s:List UInt8} (k:Nat) (h:k<s.length) (hc:dg s[k]=false):s.all dg=false:=by
 cases h2:s.all dg with
 | false=>rfl
 | true=>rw [List.all_eq_true] at h2;rw [h2 _ (List.getElem_mem h)] at hc;cases hc
def yn (s:List UInt8):List AV:= [.int .u64 (bif du s then ((val 0 s % 18446744073709551616:Nat):Int) else 0), .bool (du s&&decide (18446744073709551616≤val 0 s)), .bool (du s)]
theorem JT (V d:Nat) (hd:d≤9):(18446744073709551616≤V∨(V % 18446744073709551616*10) / 18446744073709551616≠0∨((V % 18446744073709551616*10) % 18446744073709551616+d) / 18446744073709551616≠0)↔18446744073709551616≤V*10+d:=by omega
theorem JU (V d:Nat):((V % 18446744073709551616*10) % 18446744073709551616+d) % 18446744073709551616=(V*10+d) % 18446744073709551616:=by omega
theorem step1 (V d:Nat) (hd:d≤9):(decide (18446744073709551616≤V)||(((V % 18446744073709551616*10 / 18446744073709551616:Nat):Int) != 0)||((((V % 18446744073709551616*10 % 18446744073709551616+d) / 18446744073709551616:Nat):Int) != 0))=decide (18446744073709551616≤V*10+d):=by
 have h:=JT V d hd
 rw [Bool.eq_iff_iff]
 simp only [Bool.or_eq_true,decide_eq_true_eq,bne_iff_ne,ne_eq,Int.natCast_eq_zero]
 rw [or_assoc]
 exact h
theorem uD:∀ (l:List UInt8) (a:Nat),a≤val a l
  | [],a=>Nat.le_refl _
  | c :: l, a => by
    have:=uD l (nh a c)
    have h2:a≤nh a c:=by unfold nh;omega
    exact Nat.le_trans h2 this
theorem val_zero {t:List UInt8} (hg:du t=true):(val 0 t == 0)=(t == [48]):=by
  simp only [du,Bool.and_eq_true,Bool.not_eq_true'] at hg
  obtain ⟨h1,h2⟩:=hg
  cases t with
  | nil=>simp [fM] at h1
  | cons c l =>
    simp only [List.all_cons,Bool.and_eq_true,dg,decide_eq_true_eq] at h2
    have e:val 0 (c::l)=val (c.toNat - 48) l:=by unfold val;simp [nh]
    rw [e]
    cases l with
    | nil =>
      rw [Bool.eq_iff_iff]
      simp only [val,List.foldl_nil,beq_iff_eq,List.cons.injEq,and_true]
      constructor
      · intro h;exact UInt8.toNat_inj.1 (show c.toNat=48 by omega)
      · intro h;subst h;rfl
    | cons d l =>
      have h3:c.toNat≠48:=by
        intro h
        simp [fM,h] at h1
        omega
      have h4:=uD (d::l) (c.toNat - 48)
      rw [Bool.eq_iff_iff]
      simp only [beq_iff_eq,List.cons.injEq]
      constructor
      · intro h;omega
      · intro h;simp at h
def BL (s:List UInt8) (m:Int):List AV:=bif du s then (bif decide (18446744073709551616≤val 0 s)||decide (m<((val 0 s % 18446744073709551616:Nat):Int)) then [.int .u64 0, .int .i64 2] else [.int .u64 ((val 0 s % 18446744073709551616:Nat):Int), .int .i64 0]) else [.int .u64 0, .int .i64 3]
def BM (s:List UInt8) (m:Int):Bool:=decide (18446744073709551616≤val 0 s)||decide (m<((val 0 s % 18446744073709551616:Nat):Int))
def BN (s:List UInt8) (m:Int):Int:=bif du s then (bif BM s m then 0 else ((val 0 s % 18446744073709551616:Nat):Int)) else 0
def uE (s:List UInt8) (m:Int):Int:=bif du s then (bif BM s m then 2 else 0) else 3
theorem ED (s:List UInt8) (m:Int):BL s m= [.int .u64 (BN s m), .int .i64 (uE s m)]:=by
 have e:BL s m=bif du s then (bif BM s m then [.int .u64 0, .int .i64 2] else [.int .u64 ((val 0 s % 18446744073709551616:Nat):Int), .int .i64 0]) else [.int .u64 0, .int .i64 3]:=rfl
 rw [e]
 unfold BN uE
 cases du s<;>cases BM s m<;>rfl
theorem r6 (n:Nat) (h:n<256):(UInt8.ofNat n).toNat=n:=by simp [UInt8.toNat_ofNat'];omega
theorem oO:∀ (N:Nat),val 0 (decDigits N)=N∧(decDigits N).all dg=true∧decDigits N≠ []∧(0<N→((decDigits N)[0]?).getD 0≠48)∧((decDigits N)[0]?).getD 0≠45∧(N=0→decDigits N= [48]):=by
  intro N
  induction N using Nat.strongRecOn with
  | _ N ih =>
    rw [decDigits]
    split
    · rename_i h
      have e:(UInt8.ofNat (48+N)).toNat=48+N:=r6 _ (by omega)
      refine ⟨?_,?_,by simp,fun h0 h1=>?_,fun h1=>?_,fun h0=>by subst h0;rfl⟩
      · simp only [val,List.foldl_cons,List.foldl_nil,nh,e];omega
      · simp only [List.all_cons,List.all_nil,dg,e,Bool.and_true,Bool.and_eq_true,decide_eq_true_eq];omega
      · have:=congrArg UInt8.toNat h1
        simp only [List.getElem?_cons_zero,Option.getD_some,e] at this
        have h48:(48:UInt8).toNat=48:=rfl
        omega
      · have:=congrArg UInt8.toNat h1
        simp only [List.getElem?_cons_zero,Option.getD_some,e] at this
        have h48:(45:UInt8).toNat=45:=rfl
        omega
    · rename_i h
      obtain ⟨i1,i2,i3,i4,i5,i6⟩:=ih (N / 10) (by omega)
      have e:(UInt8.ofNat (48+N % 10)).toNat=48+N % 10:=r6 _ (by omega)
      have hh:((decDigits (N / 10)++ [UInt8.ofNat (48+N % 10)])[0]?).getD 0=((decDigits (N / 10))[0]?).getD 0:=by
        cases hd:decDigits (N / 10) with
        | nil=>exact absurd hd i3
        | cons c l=>rfl
      refine ⟨?_,?_,by simp,fun h0=>?_,?_,fun h0=>by omega⟩
      · rw [r5,i1,e];omega
      · rw [List.all_append,i2]
        simp only [List.all_cons,List.all_nil,dg,e,Bool.and_true,Bool.true_and,Bool.and_eq_true,decide_eq_true_eq];omega
      · rw [hh];exact i4 (by omega)
      · rw [hh];exact i5
theorem uF (N:Nat):fM (decDigits N)=false:=by
 obtain ⟨i1,i2,i3,i4,i5,i6⟩:=oO N
 by_cases h0:N=0
 ·rw [i6 h0];rfl
 ·have h4:=i4 (by omega)
  simp only [fM,Bool.or_eq_false_iff,Bool.and_eq_false_iff]
  refine ⟨by simpa using i3, .inr ?_⟩
  rw [beq_eq_false_iff_ne]
  intro h
  apply h4
  apply UInt8.toNat_inj.1
  have h48:(48:UInt8).toNat=48:=rfl
  omega
theorem yo (N:Nat):du (decDigits N)=true:=by
 simp only [du,uF,(oO N).2.1];rfl
theorem BO (N:Nat) (c:UInt8) (hN:0<N) (hc:dg c=true):decDigits (N*10+(c.toNat - 48))=decDigits N++ [c]:=by
 simp only [dg,Bool.and_eq_true,decide_eq_true_eq] at hc
 rw [decDigits,dif_neg (by omega)]
 have h1:(N*10+(c.toNat - 48)) / 10=N:=by omega
 have h2:48+(N*10+(c.toNat - 48)) % 10=c.toNat:=by omega
 rw [h1,h2]
 congr 2
 exact UInt8.ofNat_toNat
theorem ni:∀ (r:List UInt8) (a:Nat),0<a→r.all dg=true→decDigits (val a r)=decDigits a++r
  | [],a,_,_=>by simp [val]
  | c :: l, a, ha, h => by
    rw [List.all_cons,Bool.and_eq_true] at h
    have e:val a (c::l)=val (a*10+(c.toNat - 48)) l:=rfl
    rw [e,ni l _ (by omega) h.2,BO a c ha h.1,List.append_assoc];rfl
theorem pV {t:List UInt8} (hg:du t=true):decDigits (val 0 t)=t:=by
  have hz:=val_zero hg
  simp only [du,Bool.and_eq_true,Bool.not_eq_true'] at hg
  obtain ⟨h1,h2⟩:=hg
  cases t with
  | nil=>simp [fM] at h1
  | cons c l =>
    have hall:=h2
    simp only [List.all_cons,Bool.and_eq_true] at h2
    have hc:=h2.1
    simp only [dg,Bool.and_eq_true,decide_eq_true_eq] at hc
    have e:val 0 (c::l)=val (c.toNat - 48) l:=by unfold val;simp [nh]
    have hone:decDigits (c.toNat - 48)= [c]:=by
      rw [decDigits,dif_pos (by omega)]
      congr 1
      rw [show 48+(c.toNat - 48)=c.toNat by omega]
      exact UInt8.ofNat_toNat
    by_cases h0:c.toNat - 48=0
    · cases l with
      | nil=>rw [e,h0];rw [h0] at hone;exact hone
      | cons d l =>
        have:c.toNat=48:=by omega
        simp [fM,this] at h1
        omega
    · rw [e,ni l _ (by omega) h2.2,hone];rfl
theorem yp (x y c:Int) (hc:c.toNat≤1):Pu Tryz.prog 290 [.int .u64 x, .int .u64 y, .int .u64 c] (pM x y c) :=
 Ba Tryz.func290 (by kernel_rfl) rfl (by kernel_rfl) (by kernel_rfl) x y c hc
theorem HX (x y:Nat) (hx:x<18446744073709551616) (hy:y<18446744073709551616):Pu Tryz.prog 289 [.int .u64 x, .int .u64 y] (.tup [.int .u64 ((x*y / 18446744073709551616:Nat):Int), .int .u64 ((x*y % 18446744073709551616:Nat):Int)]):=by
 intro σ
 refine AC.fi (Go.Proofs.enters_of Tryz.func289 (by kernel_rfl) rfl) ?_
 intro g w vs hI hv
 obtain ⟨v1,vs,rfl,r1,hv⟩:=hv.cons_inv
 obtain ⟨v2,vs,rfl,r2,hv⟩:=hv.cons_inv
 rw [hv.cq,r1.bE,r2.bE]
 refine (Tryz.bits_Mul64 x y hx hy w).mono ?_
 rintro e w' ⟨rfl,rfl⟩
 exact ⟨_,rfl,Go.RowKit.Below.refl _ _,fun g' _=>Rel.dX (.cons (.int _ _) (.cons (.int _ _) .nil))⟩
theorem HY (x y:Nat):Pu Tryz.prog 290 [.int .u64 x, .int .u64 y, .int .u64 0] (.tup [.int .u64 (((x+y) % 18446744073709551616:Nat):Int), .int .u64 (((x+y) / 18446744073709551616:Nat):Int)]):=by
 have h:=yp x y 0 (by decide)
 unfold pM at h
 simp only [Int.toNat_natCast,Int.toNat_zero,Nat.add_zero] at h
 exact h
theorem LZ (s:List UInt8) (hs:s.length≤maxLen):Pu Tryz.prog 276 [.str s] (.tup (yn s)):=by
 refine an Ho Lf fun σ=>?_
 simp only [Ho,↓R1,RR,seval]
 (repeat' (with_reducible apply And.intro))
 ·intro h;simp at h;omega
 ·intro h1 h2;simp [h1,h2]
 ·refine ar (fun h5=>?_) (fun h5=>?_)<;>simp only [↓R1,RR,seval]
  ·(refine ak (ad ?_) (by first|(simp [aj,rvS];done)|(simp only [aj,rvS,↓R1,RR,seval];try simp)))
   (simp only [ao,↓R1,RR,seval])
   have hf:fM s=true:=h5
   simp only [yn,du,hf,Bool.not_true,Bool.false_and,cond_false]
  ·have hf:fM s=false:=h5
   clear h5
   refine bK s.length (fun k=> [(24, .int .i64 k),(23, .int .i64 s.length),(0, .str s),(2, .int .u64 ((val 0 (s.take k) % 18446744073709551616:Nat):Int)),(3, .bool (decide (18446744073709551616≤val 0 (s.take k))))]) (fun _=>σ) (fun k=>(s.take k).all dg=true) (by refine ⟨af _,af _,af _,ad rfl,ad rfl,trivial⟩) (St.le_refl _) (by simp) (fun k hk hI=>?_)
   simp only [↓R1,RR,seval]
   refine ar (fun h6=>?_) (fun h6=>?_)<;>simp at h6
   ·have ht:(s.take (k+1)).all dg=dg s[k]:=by
     rw [←List.take_append_getElem h6,List.all_append,hI];simp
    have hV:=jC s k h6
    generalize val 0 (s.take k)=V at *
    simp only [List.getElem?_eq_getElem h6,↓R1,RR,seval]
    refine ⟨⟨by omega,by omega⟩,fun _=>⟨by omega,by omega⟩,?_⟩
    refine ar (fun h7=>?_) (fun h7=>?_)
    ·simp only [↓R1,RR,seval]
     (refine ak (ad ?_) (by first|(simp [aj,rvS];done)|(simp only [aj,rvS,↓R1,RR,seval];try simp)))
     (simp only [ao,↓R1,RR,seval])
     have hd0:dg s[k]=false:=by
      simp only [Bool.or_eq_true,decide_eq_true_eq] at h7
      simp only [dg,Bool.and_eq_false_iff,decide_eq_false_iff_not]
      omega
     have hg:du s=false:=by simp only [du,Fw k h6 hd0,Bool.and_false]
     simp only [yn,hg,Bool.false_and,cond_false]
    ·simp only [Bool.or_eq_false_iff,decide_eq_false_iff_not] at h7
     have hd1:dg s[k]=true:=by
      simp only [dg,Bool.and_eq_true,decide_eq_true_eq]
      omega
     have hw:IntKind.u64.wrap (IntKind.u8.wrap ((s[k].toNat:Int) - 48))=((s[k].toNat - 48:Nat):Int):=by rw [wU,wU8];omega
     have hd9:s[k].toNat - 48≤9:=by omega
     generalize s[k].toNat - 48=d at *
     simp only [↓R1,RR,seval]
     refine (HX (V % 18446744073709551616) 10 (Nat.mod_lt _ (by decide)) (by decide)).to (aa _) ?_
     simp only [List.getElem?_eq_getElem h6,hw,↓R1,RR,seval]
     refine ⟨⟨by omega,by omega⟩,?_⟩
     refine (HY _ d).to (aa _) ?_
     simp only [JU,step1 V d hd9,↓R1,RR,seval]
     refine ⟨h6,by rw [ht];exact hd1,?_,St.le_refl _⟩
     rw [hV]
     refine ⟨ad ?_,af _,af _,af _,af _,trivial⟩
     simp only [slot,↓R1,RR,seval]
     rw [wR h6 hs]
   ·rw [List.take_of_length_le h6] at hI
    simp only [List.take_of_length_le h6,↓R1,RR,seval]
    (refine ak (ad ?_) (by first|(simp [aj,rvS];done)|(simp only [aj,rvS,↓R1,RR,seval];try simp)))
    (simp only [ao,↓R1,RR,seval])
    have hg:du s=true:=by simp only [du,hf,hI];rfl
    simp only [yn,hg,Bool.true_and,cond_true]
theorem L0 (s:List UInt8) (m:Int) (hs:s.length≤maxLen):Pu Tryz.prog 252 [.str s, .int .u64 m] (.tup (BL s m)):=by
  refine an Hk Lb fun σ=>?_
  simp only [Hk,↓R1,RR,seval]
  refine (LZ s hs).to (aa _) ?_
  cases hg:du s with
  | false =>
    simp only [yn,hg,bne_self_eq_false,Bool.or_self,Bool.or_false,Bool.false_or,beq_self_eq_true,Bool.and_self,Bool.and_true,Bool.true_and,Bool.and_false,Bool.false_and,Int.reduceBEq,Int.reduceBNe,Bool.or_true,Bool.true_or,Int.toNat_zero,↓R1,RR,seval]
    (refine ak (ad ?_) (by first|(simp [aj,rvS];done)|(simp only [aj,rvS,↓R1,RR,seval];try simp)))
    (simp only [ao,↓R1,RR,seval])
    simp only [BL,hg,cond_false]
  | true =>
    simp only [yn,hg,bne_self_eq_false,Bool.or_self,Bool.or_false,Bool.false_or,beq_self_eq_true,Bool.and_self,Bool.and_true,Bool.true_and,Bool.and_false,Bool.false_and,Int.reduceBEq,Int.reduceBNe,Bool.or_true,Bool.true_or,Int.toNat_zero,↓R1,RR,seval]
    repeat' (first|(with_reducible rw [ai])|(refine cZ (fun hc=>?_) (fun hc=>?_)<;>(try simp only [hc,↓R1,RR,seval]))|((first|refine ar (fun hc=>?_) (fun hc=>?_)|(with_reducible intro β hβ;(try simp only [RB] at hβ);(repeat (obtain ⟨⟨_,_⟩,hβ⟩:=hβ));(try (have hbis:=ah (by assumption) hβ;obtain ⟨_,_⟩:=hbis)))|((first|(refine bQ (.inr rfl) rfl ?_ ?_ ?_ ?_ ?_ ?_;(first|rfl|exact St.bg _ _ _|(simp only [↓R1,RR,seval]));(first|omega|(simp only [RZ,List.length_nil,List.length_cons];omega)|(simp only [RZ,List.length_nil,List.length_cons]));(first|rfl|first|omega|(simp only [RZ,List.length_nil,List.length_cons];omega)|(simp only [RZ,List.length_nil,List.length_cons])))|(refine bD rfl ?_ ?_ ?_ ?_ ?_ ?_;(first|rfl|exact St.bg _ _ _|(simp only [↓R1,RR,seval]));(first|omega|(simp only [RZ,List.length_nil,List.length_cons];omega)|(simp only [RZ,List.length_nil,List.length_cons]));(first|rfl|first|omega|(simp only [RZ,List.length_nil,List.length_cons];omega)|(simp only [RZ,List.length_nil,List.length_cons])))|(refine appV_own ?_ ?_ ?_ ?_;exact aS (by intro _;rfl) _)|(refine appD_own ?_ ?_ ?_ ?_ ?_;omega;exact aS (by intro _;rfl) _)|(refine appV_fresh rfl trivial rfl ?_ ?_ ?_ ?_ ?_;(first|rfl|first|omega|(simp only [RZ,List.length_nil,List.length_cons];omega)|(simp only [RZ,List.length_nil,List.length_cons]));(first|rfl|first|omega|(simp only [RZ,List.length_nil,List.length_cons];omega)|(simp only [RZ,List.length_nil,List.length_cons])))|(refine appD_fresh rfl trivial rfl ?_ ?_ ?_ ?_ ?_ ?_;omega;(first|rfl|first|omega|(simp only [RZ,List.length_nil,List.length_cons];omega)|(simp only [RZ,List.length_nil,List.length_cons]));(first|rfl|first|omega|(simp only [RZ,List.length_nil,List.length_cons];omega)|(simp only [RZ,List.length_nil,List.length_cons]))));(unfold maxLen;omega);omega))<;>(try simp only [↓R1,RR,seval]))|(with_reducible refine And.intro ?_ ?_;(focus (first|omega|(exact ag))))|(with_reducible apply And.intro))
    all_goals ((refine ak (ad ?_) (by first|(simp [aj,rvS];done)|(simp only [aj,rvS,↓R1,RR,seval];try simp)));(simp only [ao,↓R1,RR,seval]);simp only [BL,hg,hc,cond_true,cond_false])
end Go.Proofs.YtgephffbfiemeaaGreatDoor
