/- Part 24 of the proof of ScriptConfigs: an abstract semantics that is proved sound for the model, contracts of functions in it, and plain facts (Sh40 LW3 EV2 EV3 SM1 EV12 EV13 EV14 SM3). No condition. -/
import Derived.Test.YtgephffbfiemeaaGreatDoorKScriptConfigs23
import Derived.Shelf.Strings.Builder1
import Derived.Shelf.Strings.Builder2
import Derived.Shelf.Strings.OnBuilder
import Derived.Shelf.Strconv.Itoa0
import Derived.Shelf.Strconv.Itoa1
import Derived.Shelf.LaysM
import Derived.Shelf.Strconv.Itoa2
import Derived.Shelf.Strconv.Itoa3
import Derived.Shelf.Strconv.Itoa4
import Derived.Shelf.Strings.Search1
import Derived.Shelf.Strings.Search2
import Derived.Shelf.Strings.Search3
import Derived.Shelf.Strings.Cut
import Derived.Shelf.Strings.Shaped
import Derived.Shelf.Unicode.Decode
import Derived.Shelf.Bits.Mul64
import Derived.Shelf.Unicode.DecodeSlow
import Derived.Shelf.Unicode.DecodeAny
import Derived.Test.YtgephffbfiemeaaGreatDoorProg
set_option linter.all false
namespace Go.Proofs
open Go.Shelf
def Tryz.mA:Go.Shelf.Ren:=⟨fun|169=>174|n=>n,fun|70=>220|9=>9|0=>0|72=>222|37=>135|127=>286|3=>3|5=>5|n=>n,fun|n=>n⟩
theorem Tryz.Gz:Go.Proofs.Lays.n169 Tryz.prog Tryz.mA:={
 mixed:=P7
 f169:=Tryz.func174.trans (congrArg some P7)
 t0:=Tryz.underlying0
 a0:=Tryz.isAgg0
 z0:=Tryz.sizeOf0
 v0:=Tryz.zeroValue0
 t3:=Tryz.underlying3
 a3:=Tryz.isAgg3
 z3:=Tryz.sizeOf3
 v3:=Tryz.zeroValue3
 t9:=Tryz.underlying9
 a9:=Tryz.isAgg9
 z9:=Tryz.sizeOf9
 v9:=Tryz.zeroValue9
 t37:=Tryz.underlying135
 a37:=Tryz.isAgg135
 z37:=Tryz.sizeOf135
 v37:=Tryz.zeroValue135
 t70:=Tryz.underlying220
 a70:=Tryz.isAgg220
 z70:=Tryz.sizeOf220
 v70:=Tryz.zeroValue220
 t72:=Tryz.underlying222
 a72:=Tryz.isAgg222
 z72:=Tryz.sizeOf222
 v72:=Tryz.zeroValue222
 t127:=Tryz.underlying286
 a127:=Tryz.isAgg286
 z127:=Tryz.sizeOf286
 v127:=Tryz.zeroValue286 }
theorem Tryz.kP:Builder.Extra Tryz.prog Tryz.mA:={
 sizeBuilder:=P7
 liesBuilder:=P7
 t5:=Tryz.underlying5
 a5:=Tryz.isAgg5
 z5:=Tryz.sizeOf5
 v5:=Tryz.zeroValue5
 infoByte:=P7
 cellsByte:=P7
 sizeByte:=P7
 neB5:=by decide }
def Tryz.mB:Go.Shelf.Ren:=⟨fun|156=>113|165=>172|166=>173|169=>174|240=>222|241=>223|276=>259|277=>260|n=>n,fun|31=>110|9=>9|3=>3|4=>4|0=>0|20=>20|72=>222|76=>226|70=>220|37=>135|75=>225|127=>286|164=>320|5=>5|80=>200|n=>n,fun|n=>n⟩
theorem Tryz.w7:Go.Proofs.Lays.n156 Tryz.prog Tryz.mB:={
 mixed:=P7
 f156:=Tryz.func113.trans (congrArg some P7)
 f165:=Tryz.func172.trans (congrArg some P7)
 f166:=Tryz.func173.trans (congrArg some P7)
 f169:=Tryz.func174.trans (congrArg some P7)
 f240:=Tryz.func222.trans (congrArg some P7)
 f241:=Tryz.func223.trans (congrArg some P7)
 f276:=Tryz.func259.trans (congrArg some P7)
 f277:=Tryz.func260.trans (congrArg some P7)
 t0:=Tryz.underlying0
 a0:=Tryz.isAgg0
 z0:=Tryz.sizeOf0
 v0:=Tryz.zeroValue0
 t3:=Tryz.underlying3
 a3:=Tryz.isAgg3
 z3:=Tryz.sizeOf3
 v3:=Tryz.zeroValue3
 t4:=Tryz.underlying4
 a4:=Tryz.isAgg4
 z4:=Tryz.sizeOf4
 v4:=Tryz.zeroValue4
 t9:=Tryz.underlying9
 a9:=Tryz.isAgg9
 z9:=Tryz.sizeOf9
 v9:=Tryz.zeroValue9
 t20:=Tryz.underlying20
 a20:=Tryz.isAgg20
 z20:=Tryz.sizeOf20
 v20:=Tryz.zeroValue20
 t31:=Tryz.underlying110
 a31:=Tryz.isAgg110
 z31:=Tryz.sizeOf110
 v31:=Tryz.zeroValue110
 t37:=Tryz.underlying135
 a37:=Tryz.isAgg135
 z37:=Tryz.sizeOf135
 v37:=Tryz.zeroValue135
 t70:=Tryz.underlying220
 a70:=Tryz.isAgg220
 z70:=Tryz.sizeOf220
 v70:=Tryz.zeroValue220
 t72:=Tryz.underlying222
 a72:=Tryz.isAgg222
 z72:=Tryz.sizeOf222
 v72:=Tryz.zeroValue222
 t75:=Tryz.underlying225
 a75:=Tryz.isAgg225
 z75:=Tryz.sizeOf225
 v75:=Tryz.zeroValue225
 t76:=Tryz.underlying226
 a76:=Tryz.isAgg226
 z76:=Tryz.sizeOf226
 v76:=Tryz.zeroValue226
 t127:=Tryz.underlying286
 a127:=Tryz.isAgg286
 z127:=Tryz.sizeOf286
 v127:=Tryz.zeroValue286
 t164:=Tryz.underlying320
 a164:=Tryz.isAgg320
 z164:=Tryz.sizeOf320
 v164:=Tryz.zeroValue320 }
theorem Tryz.gB:Builder.Extra Tryz.prog Tryz.mB:={
 sizeBuilder:=P7
 liesBuilder:=P7
 t5:=Tryz.underlying5
 a5:=Tryz.isAgg5
 z5:=Tryz.sizeOf5
 v5:=Tryz.zeroValue5
 infoByte:=P7
 cellsByte:=P7
 sizeByte:=P7
 neB5:=by decide }
open Go.RowKit in
theorem Tryz.strings_Join_none (a:Option Addr) (c:Nat) (sep:ByteArray) (w:World) :
  Calls Tryz.prog 113 #[.slice a 0 c, .string sep] w fun e w'=>e= .returned (.string ⟨#[]⟩)∧w'=w:=Any.strings_Join_none Tryz.w7 Tryz.gB a c sep w
open Go.RowKit in
theorem Tryz.strings_Join (bk o c:Nat) (xs:List ByteArray) (sep:ByteArray) (w:World) (hcells:∀ (j:Nat) x,xs[j]? =some x→w.cell? ⟨bk,o+j,none⟩=some (.string x)) (hbk:bk<w.heap.size) (hN:xs.length≤140737488355328) (hcap:xs.length≤c) (hlen:(Lib.join (xs.map (·.data.toList)) sep.data.toList).length≤140737488355328) :
  Calls Tryz.prog 113 #[.slice (some ⟨bk,o,none⟩) xs.length c, .string sep] w fun e w'=>e= .returned (.string ⟨(Lib.join (xs.map (·.data.toList)) sep.data.toList).toArray⟩)∧Below w.heap.size w w':=Any.strings_Join Tryz.w7 Tryz.gB bk o c xs sep w hcells hbk hN hcap hlen
def Tryz.tr:Go.Shelf.Ren:=⟨fun|283=>218|n=>n,fun|3=>3|9=>9|4=>4|n=>n,fun|n=>n⟩
theorem Tryz.GA:Go.Proofs.Lays.n283 Tryz.prog Tryz.tr:={
 mixed:=P7
 f283:=Tryz.func218.trans (congrArg some P7)
 t3:=Tryz.underlying3
 a3:=Tryz.isAgg3
 z3:=Tryz.sizeOf3
 v3:=Tryz.zeroValue3
 t4:=Tryz.underlying4
 a4:=Tryz.isAgg4
 z4:=Tryz.sizeOf4
 v4:=Tryz.zeroValue4
 t9:=Tryz.underlying9
 a9:=Tryz.isAgg9
 z9:=Tryz.sizeOf9
 v9:=Tryz.zeroValue9 }
open Go.Lib in
theorem Tryz.internal_strconv_small (i:Nat) (h:i<100) (w:World) :
  Calls Tryz.prog 218 #[.int .i64 i] w fun e w'=>e= .returned (.string ⟨(Lib.decDigits i).toArray⟩)∧w'=w:=Any.internal_strconv_small Tryz.GA i h w
def Tryz.qX:Go.Shelf.Ren:=⟨fun|284=>219|129=>255|317=>254|318=>256|n=>n,fun|53=>29|3=>3|212=>316|0=>0|4=>4|46=>190|5=>5|9=>9|n=>n,fun|17=>2|n=>n⟩
theorem Tryz.Dr:Go.Proofs.LaysM.n284 Tryz.prog Tryz.qX:={
 mixed:=P7
 f129:=Tryz.func255.trans (congrArg some P7)
 f284:=Tryz.func219.trans (congrArg some P7)
 f317:=Tryz.func254.trans (congrArg some P7)
 f318:=Tryz.func256.trans (congrArg some P7)
 t0:=Tryz.underlying0
 a0:=Tryz.isAgg0
 z0:=Tryz.sizeOf0
 v0:=Tryz.zeroValue0
 t3:=Tryz.underlying3
 a3:=Tryz.isAgg3
 z3:=Tryz.sizeOf3
 v3:=Tryz.zeroValue3
 t4:=Tryz.underlying4
 a4:=Tryz.isAgg4
 z4:=Tryz.sizeOf4
 v4:=Tryz.zeroValue4
 t5:=Tryz.underlying5
 a5:=Tryz.isAgg5
 z5:=Tryz.sizeOf5
 v5:=Tryz.zeroValue5
 t9:=Tryz.underlying9
 a9:=Tryz.isAgg9
 z9:=Tryz.sizeOf9
 v9:=Tryz.zeroValue9
 t46:=Tryz.underlying190
 a46:=Tryz.isAgg190
 z46:=Tryz.sizeOf190
 v46:=Tryz.zeroValue190
 t53:=Tryz.underlying29
 a53:=Tryz.isAgg29
 z53:=Tryz.sizeOf29
 v53:=Tryz.zeroValue29
 t212:=Tryz.underlying316
 a212:=Tryz.isAgg316
 z212:=Tryz.sizeOf316
 v212:=Tryz.zeroValue316
 g17:=P7
 i0:=P7
 i3:=P7
 i4:=P7
 i5:=P7
 i9:=P7
 i46:=P7
 i53:=P7
 i212:=P7
 m17:=by kernel_rfl }
open Go.Lib in
theorem Tryz.internal_strconv_numDigits (u:Nat) (h1:1≤u) (h2:u<18446744073709551616) (w:World) (htab:Lib.TabIs Tryz.prog w "internal/strconv.uint64pow10" .u64 Lib.pow10Tab) :
  Calls Tryz.prog 219 #[.int .u64 u] w fun e w'=>e= .returned (.int .i64 (Lib.nDigits u))∧w'=w:=Any.internal_strconv_numDigits Tryz.Dr u h1 h2 w htab
def Tryz.tv:Go.Shelf.Ren:=⟨fun|285=>220|n=>n,fun|37=>135|53=>29|3=>3|4=>4|51=>317|9=>9|5=>5|0=>0|n=>n,fun|n=>n⟩
theorem Tryz.GB:Go.Proofs.Lays.n285 Tryz.prog Tryz.tv:={
 mixed:=P7
 f285:=Tryz.func220.trans (congrArg some P7)
 t0:=Tryz.underlying0
 a0:=Tryz.isAgg0
 z0:=Tryz.sizeOf0
 v0:=Tryz.zeroValue0
 t3:=Tryz.underlying3
 a3:=Tryz.isAgg3
 z3:=Tryz.sizeOf3
 v3:=Tryz.zeroValue3
 t4:=Tryz.underlying4
 a4:=Tryz.isAgg4
 z4:=Tryz.sizeOf4
 v4:=Tryz.zeroValue4
 t5:=Tryz.underlying5
 a5:=Tryz.isAgg5
 z5:=Tryz.sizeOf5
 v5:=Tryz.zeroValue5
 t9:=Tryz.underlying9
 a9:=Tryz.isAgg9
 z9:=Tryz.sizeOf9
 v9:=Tryz.zeroValue9
 t37:=Tryz.underlying135
 a37:=Tryz.isAgg135
 z37:=Tryz.sizeOf135
 v37:=Tryz.zeroValue135
 t51:=Tryz.underlying317
 a51:=Tryz.isAgg317
 z51:=Tryz.sizeOf317
 v51:=Tryz.zeroValue317
 t53:=Tryz.underlying29
 a53:=Tryz.isAgg29
 z53:=Tryz.sizeOf29
 v53:=Tryz.zeroValue29 }
open Go.RowKit Go.Sort Go.Lib in
theorem Tryz.internal_strconv_formatBase10 (blk off cap:Nat) (u:Nat) (d:Array UInt8) (w:World) (hH:Holds (fun (b:UInt8)=>Value.int .u8 (b.toNat:Int)) w blk off d) (hu:u<10^d.size) (hu64:u<18446744073709551616) (hsz:d.size<4611686018427387904) :
  Calls Tryz.prog 220 #[.slice (some ⟨blk,off,none⟩) d.size cap, .int .u64 u] w fun e w' =>
   e= .returned (.tuple #[])∧∃ (n v':Nat) (dk:Array UInt8),w'=(putRow (fun (b:UInt8)=>Value.int .u8 (b.toNat:Int)) w blk off dk).drewN n∧FmtInv d.size u 0 v' dk:=Any.internal_strconv_formatBase10 Tryz.GB blk off cap u d w hH hu hu64 hsz
def Tryz.tx:Go.Shelf.Ren:=⟨fun|171=>112|243=>171|246=>167|283=>218|284=>219|285=>220|286=>221|129=>255|317=>254|318=>256|319=>257|320=>258|337=>278|338=>170|n=>n,fun|3=>3|9=>9|2=>2|4=>4|171=>281|0=>0|53=>29|37=>135|5=>5|173=>283|212=>316|51=>317|20=>20|213=>318|46=>190|232=>338|233=>285|n=>n,fun|17=>2|18=>6|19=>1|n=>n⟩
theorem Tryz.GC:Go.Proofs.Lays.n171 Tryz.prog Tryz.tx:={
 mixed:=P7
 f129:=Tryz.func255.trans (congrArg some P7)
 f171:=Tryz.func112.trans (congrArg some P7)
 f243:=Tryz.func171.trans (congrArg some P7)
 f246:=Tryz.func167.trans (congrArg some P7)
 f283:=Tryz.func218.trans (congrArg some P7)
 f284:=Tryz.func219.trans (congrArg some P7)
 f285:=Tryz.func220.trans (congrArg some P7)
 f286:=Tryz.func221.trans (congrArg some P7)
 f317:=Tryz.func254.trans (congrArg some P7)
 f318:=Tryz.func256.trans (congrArg some P7)
 f319:=Tryz.func257.trans (congrArg some P7)
 f320:=Tryz.func258.trans (congrArg some P7)
 f337:=Tryz.func278.trans (congrArg some P7)
 f338:=Tryz.func170.trans (congrArg some P7)
 t0:=Tryz.underlying0
 a0:=Tryz.isAgg0
 z0:=Tryz.sizeOf0
 v0:=Tryz.zeroValue0
 t2:=Tryz.underlying2
 a2:=Tryz.isAgg2
 z2:=Tryz.sizeOf2
 v2:=Tryz.zeroValue2
 t3:=Tryz.underlying3
 a3:=Tryz.isAgg3
 z3:=Tryz.sizeOf3
 v3:=Tryz.zeroValue3
 t4:=Tryz.underlying4
 a4:=Tryz.isAgg4
 z4:=Tryz.sizeOf4
 v4:=Tryz.zeroValue4
 t5:=Tryz.underlying5
 a5:=Tryz.isAgg5
 z5:=Tryz.sizeOf5
 v5:=Tryz.zeroValue5
 t9:=Tryz.underlying9
 a9:=Tryz.isAgg9
 z9:=Tryz.sizeOf9
 v9:=Tryz.zeroValue9
 t20:=Tryz.underlying20
 a20:=Tryz.isAgg20
 z20:=Tryz.sizeOf20
 v20:=Tryz.zeroValue20
 t37:=Tryz.underlying135
 a37:=Tryz.isAgg135
 z37:=Tryz.sizeOf135
 v37:=Tryz.zeroValue135
 t46:=Tryz.underlying190
 a46:=Tryz.isAgg190
 z46:=Tryz.sizeOf190
 v46:=Tryz.zeroValue190
 t51:=Tryz.underlying317
 a51:=Tryz.isAgg317
 z51:=Tryz.sizeOf317
 v51:=Tryz.zeroValue317
 t53:=Tryz.underlying29
 a53:=Tryz.isAgg29
 z53:=Tryz.sizeOf29
 v53:=Tryz.zeroValue29
 t171:=Tryz.underlying281
 a171:=Tryz.isAgg281
 z171:=Tryz.sizeOf281
 v171:=Tryz.zeroValue281
 t173:=Tryz.underlying283
 a173:=Tryz.isAgg283
 z173:=Tryz.sizeOf283
 v173:=Tryz.zeroValue283
 t212:=Tryz.underlying316
 a212:=Tryz.isAgg316
 z212:=Tryz.sizeOf316
 v212:=Tryz.zeroValue316
 t213:=Tryz.underlying318
 a213:=Tryz.isAgg318
 z213:=Tryz.sizeOf318
 t232:=Tryz.underlying338
 a232:=Tryz.isAgg338
 z232:=Tryz.sizeOf338
 v232:=Tryz.zeroValue338
 t233:=Tryz.underlying285
 a233:=Tryz.isAgg285
 z233:=Tryz.sizeOf285
 v233:=Tryz.zeroValue285
 g17:=P7
 g18:=P7
 g19:=by kernel_rfl }
open Go.RowKit Go.Sort Go.Lib in
theorem Tryz.strconv_Itoa_small (i:Nat) (hi:i<100) (w:World) :
  Calls Tryz.prog 112 #[.int .i64 i] w fun e w'=>e= .returned (.string ⟨(Lib.decDigits i).toArray⟩)∧w'=w:=Any.strconv_Itoa_small Tryz.GC i hi w
def Tryz.qY:Go.Shelf.Ren:=⟨fun|173=>109|246=>167|283=>218|284=>219|285=>220|286=>221|129=>255|317=>254|318=>256|319=>257|320=>258|337=>278|338=>170|n=>n,fun|2=>2|3=>3|9=>9|4=>4|171=>281|0=>0|53=>29|37=>135|5=>5|173=>283|212=>316|51=>317|20=>20|213=>318|46=>190|232=>338|233=>285|n=>n,fun|17=>2|18=>6|19=>1|n=>n⟩
theorem Tryz.Ds:Go.Proofs.LaysM.n173 Tryz.prog Tryz.qY:={
 mixed:=P7
 f129:=Tryz.func255.trans (congrArg some P7)
 f173:=Tryz.func109.trans (congrArg some P7)
 f246:=Tryz.func167.trans (congrArg some P7)
 f283:=Tryz.func218.trans (congrArg some P7)
 f284:=Tryz.func219.trans (congrArg some P7)
 f285:=Tryz.func220.trans (congrArg some P7)
 f286:=Tryz.func221.trans (congrArg some P7)
 f317:=Tryz.func254.trans (congrArg some P7)
 f318:=Tryz.func256.trans (congrArg some P7)
 f319:=Tryz.func257.trans (congrArg some P7)
 f320:=Tryz.func258.trans (congrArg some P7)
 f337:=Tryz.func278.trans (congrArg some P7)
 f338:=Tryz.func170.trans (congrArg some P7)
 t0:=Tryz.underlying0
 a0:=Tryz.isAgg0
 z0:=Tryz.sizeOf0
 v0:=Tryz.zeroValue0
 t2:=Tryz.underlying2
 a2:=Tryz.isAgg2
 z2:=Tryz.sizeOf2
 v2:=Tryz.zeroValue2
 t3:=Tryz.underlying3
 a3:=Tryz.isAgg3
 z3:=Tryz.sizeOf3
 v3:=Tryz.zeroValue3
 t4:=Tryz.underlying4
 a4:=Tryz.isAgg4
 z4:=Tryz.sizeOf4
 v4:=Tryz.zeroValue4
 t5:=Tryz.underlying5
 a5:=Tryz.isAgg5
 z5:=Tryz.sizeOf5
 v5:=Tryz.zeroValue5
 t9:=Tryz.underlying9
 a9:=Tryz.isAgg9
 z9:=Tryz.sizeOf9
 v9:=Tryz.zeroValue9
 t20:=Tryz.underlying20
 a20:=Tryz.isAgg20
 z20:=Tryz.sizeOf20
 v20:=Tryz.zeroValue20
 t37:=Tryz.underlying135
 a37:=Tryz.isAgg135
 z37:=Tryz.sizeOf135
 v37:=Tryz.zeroValue135
 t46:=Tryz.underlying190
 a46:=Tryz.isAgg190
 z46:=Tryz.sizeOf190
 v46:=Tryz.zeroValue190
 t51:=Tryz.underlying317
 a51:=Tryz.isAgg317
 z51:=Tryz.sizeOf317
 v51:=Tryz.zeroValue317
 t53:=Tryz.underlying29
 a53:=Tryz.isAgg29
 z53:=Tryz.sizeOf29
 v53:=Tryz.zeroValue29
 t171:=Tryz.underlying281
 a171:=Tryz.isAgg281
 z171:=Tryz.sizeOf281
 v171:=Tryz.zeroValue281
 t173:=Tryz.underlying283
 a173:=Tryz.isAgg283
 z173:=Tryz.sizeOf283
 v173:=Tryz.zeroValue283
 t212:=Tryz.underlying316
 a212:=Tryz.isAgg316
 z212:=Tryz.sizeOf316
 v212:=Tryz.zeroValue316
 t213:=Tryz.underlying318
 a213:=Tryz.isAgg318
 z213:=Tryz.sizeOf318
 t232:=Tryz.underlying338
 a232:=Tryz.isAgg338
 z232:=Tryz.sizeOf338
 v232:=Tryz.zeroValue338
 t233:=Tryz.underlying285
 a233:=Tryz.isAgg285
 z233:=Tryz.sizeOf285
 v233:=Tryz.zeroValue285
 g17:=P7
 g18:=P7
 g19:=P7
 i0:=P7
 i2:=P7
 i3:=P7
 i4:=P7
 i5:=P7
 i9:=P7
 i20:=P7
 i37:=P7
 i46:=P7
 i51:=P7
 i53:=P7
 i171:=P7
 i173:=P7
 i212:=P7
 i232:=P7
 i233:=P7
 m17:=P7
 m18:=P7
 m19:=by kernel_rfl }
open Go.RowKit Go.Sort Go.Lib in
theorem Tryz.strconv_FormatInt_10 (n:Int) (h0 : -9223372036854775808≤n) (h1:n≤9223372036854775807) (w:World) (htab:Lib.TabIs Tryz.prog w "internal/strconv.uint64pow10" .u64 Lib.pow10Tab) :
  Calls Tryz.prog 109 #[.int .i64 n, .int .i64 10] w fun e w'=>e= .returned (.string ⟨(Lib.itoa n).toArray⟩)∧∃ k os,w'=grow (w.drewN k) os:=Any.strconv_FormatInt_10 Tryz.Ds n h0 h1 w htab
def Tryz.tz:Go.Shelf.Ren:=⟨fun|143=>244|219=>269|217=>283|225=>284|224=>285|267=>286|266=>292|314=>293|n=>n,fun|9=>9|3=>3|4=>4|5=>5|46=>190|146=>339|51=>317|n=>n,fun|1=>3|n=>n⟩
theorem Tryz.GD:Go.Proofs.Lays.n143 Tryz.prog Tryz.tz:={
 mixed:=P7
 f143:=Tryz.func244.trans (congrArg some P7)
 f217:=Tryz.func283.trans (congrArg some P7)
 f219:=Tryz.func269.trans (congrArg some P7)
 f224:=Tryz.func285.trans (congrArg some P7)
 f225:=Tryz.func284.trans (congrArg some P7)
 f266:=Tryz.func292.trans (congrArg some P7)
 f267:=Tryz.func286.trans (congrArg some P7)
 f314:=Tryz.func293.trans (congrArg some P7)
 t3:=Tryz.underlying3
 a3:=Tryz.isAgg3
 z3:=Tryz.sizeOf3
 v3:=Tryz.zeroValue3
 t4:=Tryz.underlying4
 a4:=Tryz.isAgg4
 z4:=Tryz.sizeOf4
 v4:=Tryz.zeroValue4
 t5:=Tryz.underlying5
 a5:=Tryz.isAgg5
 z5:=Tryz.sizeOf5
 v5:=Tryz.zeroValue5
 t9:=Tryz.underlying9
 a9:=Tryz.isAgg9
 z9:=Tryz.sizeOf9
 v9:=Tryz.zeroValue9
 t46:=Tryz.underlying190
 a46:=Tryz.isAgg190
 z46:=Tryz.sizeOf190
 v46:=Tryz.zeroValue190
 t51:=Tryz.underlying317
 a51:=Tryz.isAgg317
 z51:=Tryz.sizeOf317
 v51:=Tryz.zeroValue317
 t146:=Tryz.underlying339
 a146:=Tryz.isAgg339
 z146:=Tryz.sizeOf339
 v146:=Tryz.zeroValue339
 g1:=by kernel_rfl }
open Go.RowKit Go.Lib in
theorem Tryz.strings_Index_one (s:ByteArray) (c:UInt8) (w:World) :
  Calls Tryz.prog 244 #[.string s, .string ⟨#[c]⟩] w fun e w'=>e= .returned (.int .i64 (Lib.indexByte s.data.toList c))∧w'=w:=Any.strings_Index_one Tryz.GD s c w
end Go.Proofs
namespace Go.Proofs.YtgephffbfiemeaaGreatDoor
open Go.Abs
set_option linter.all false
set_option maxRecDepth 100000
theorem Mz:Dm Tryz.prog 113 :=
 tm (Go.Proofs.enters_of Tryz.func113 P7 rfl) (fun x sep w=>Tryz.strings_Join_none x 0 sep w) (fun bk o c xs sep w h1 h2 h3 h4 h5=>Tryz.strings_Join bk o c xs sep w h1 h2 h3 h4 h5)
theorem MA:HG Tryz.prog 112 :=
 Dn (Go.Proofs.enters_of Tryz.func112 P7 rfl) (fun i hi w=>Tryz.strconv_Itoa_small i hi w)
theorem pX {k:Nat} (h:k<100):Lib.decDigits k=iR k:=by
 rw [Lib.decDigits]
 unfold iR
 split
 ·rfl
 ·rw [Lib.decDigits,dif_pos P6];rfl
theorem iO:∀ (l:List Nat),(∀ x∈l,x<64)→Lib.joinTail [44] (l.map Lib.decDigits)=ei l
  | [],_=>rfl
  | k :: l, h => by
    have:=iO l (fun x hx=>h x QT)
    simp only [Lib.joinTail,List.map_cons,List.flatten_cons,ei] at this ⊢
    rw [this,pX (by have:=h k Qd;omega)]
    simp
theorem vN (l:List Nat) (h:∀ x∈l,x<64):Lib.join (l.map Lib.decDigits) [44]=eT l:=by
  cases l with
  | nil=>rfl
  | cons k l =>
    rw [List.map_cons,Lib.join_cons,iO l (fun x hx=>h x QT),pX (by have:=h k Qd;omega)]
    rfl
def strs (l:List Nat):List AV:=l.map fun n=>AV.str (Lib.decDigits n)
theorem cF (l:List Nat):(strs l).length=l.length:=by simp [strs]
theorem zS (l:List Nat) (k:Nat):strs l++ [.str (Lib.decDigits k)]=strs (l++ [k]):=by simp [strs]
theorem Dt (τ:Nat) (l:List Nat):slv (.tsl τ l.length (strs l))=some ((l.map Lib.decDigits).length,(l.map Lib.decDigits).map AV.str):=by simp [slv,strs]
theorem pY (a:BitVec 64):Lib.join ((db a).map Lib.decDigits) [44]=eT (db a):=vN _ fun _ hx=>qJ hx
theorem _root_.QB {p:Prop} (h:p:=by intro _;rfl):p:=h
theorem p51 (a:BitVec 64):PuG Tryz.prog gls 51 [.int .u64 a.toNat] (.str (e8 a)):=by
 intro σ hσ
 refine bg c51 b51 ?_
 simp only [c51,↓R1,RR,seval]
 repeat' (first|(with_reducible rw [ah])|((with_reducible intro β hβ;(try simp only [RB] at hβ);(repeat (obtain ⟨⟨_,_⟩,hβ⟩:=hβ));(try (have hbis:=aj Qa hβ;obtain ⟨_,_⟩:=hbis)))<;>(try simp only [↓R1,RR,seval])))
 refine (OV a _).mono ?_
 rintro _ _ ⟨γ,hγ,rfl,rfl⟩
 rw [St.bq] at hγ
 obtain ⟨⟨_,_⟩,hγ⟩:=hγ
 simp only [↓R1,RR,seval]
 refine fz [(true,3,0,9,1)] ?_
 simp only [cH,List.set_cons_zero,RR,seval]
 refine fun τ hτ=>⟨_,_,rfl,?_⟩
 refine Gt a (fun pre c=>((σ.aa β [.tsl τ pre.length (strs pre)]).aa γ [.int .u64 c.toNat]).ai τ (9,1,pre.length)) (fun _=>True) rfl trivial ?_ ?_ ?_ ?_ ?_ ?_
 ·intro pre b;simp only [RR,seval]
 ·intro pre b b';simp only [RR,seval]
 ·intro pre b;exact hσ
 ·intro pre b L;simp only [RR,seval]
 ·intro L r pre k b hL _ hk
  obtain ⟨rest,hr⟩:=hk
  have hlen:pre.length<64:=by
   have:=gS a
   rw [hr] at this
   simp at this
   omega
  have hk64:k<64:=qJ (a:=a) (by rw [hr];simp)
  simp only [↓R1,RR,seval]
  have hm:pre.length+1≤maxLen:=QL
  repeat' ((first|((first|(refine bI (.inr rfl) rfl ?_ ?_ ?_ ?_ ?_ ?_;(first|rfl|exact St.bn _ _ _|(simp only [↓R1,RR,seval]));(first|omega|(simp only [cF];omega)|(simp only [RZ,cF,List.length_nil,List.length_cons]));(first|rfl|first|omega|(simp only [RZ,cF,List.length_nil,List.length_cons];omega)|(simp only [RZ,cF,List.length_nil,List.length_cons])))|(refine br rfl ?_ ?_ ?_ ?_ ?_ ?_;(first|rfl|exact St.bn _ _ _|(simp only [↓R1,RR,seval]));(first|omega|(simp only [RZ,cF,List.length_nil,List.length_cons];omega)|(simp only [RZ,cF,List.length_nil,List.length_cons]));(first|rfl|first|omega|(simp only [RZ,cF,List.length_nil,List.length_cons];omega)|(simp only [RZ,cF,List.length_nil,List.length_cons])))|(refine appV_own ?_ ?_ ?_ ?_;exact a8 QB _)|(refine appD_own ?_ ?_ ?_ ?_ ?_;omega;exact a8 QB _)|(refine appV_fresh rfl trivial rfl ?_ ?_ ?_ ?_ ?_;(first|rfl|first|omega|(simp only [RZ,cF,List.length_nil,List.length_cons];omega)|(simp only [RZ,cF,List.length_nil,List.length_cons]));(first|rfl|first|omega|(simp only [RZ,cF,List.length_nil,List.length_cons];omega)|(simp only [RZ,cF,List.length_nil,List.length_cons])))|(refine appD_fresh rfl trivial rfl ?_ ?_ ?_ ?_ ?_ ?_;omega;(first|rfl|first|omega|(simp only [RZ,cF,List.length_nil,List.length_cons];omega)|(simp only [RZ,cF,List.length_nil,List.length_cons]));(first|rfl|first|omega|(simp only [RZ,cF,List.length_nil,List.length_cons];omega)|(simp only [RZ,cF,List.length_nil,List.length_cons]))));(unfold maxLen;omega);omega)|(refine Ct (MA k P6) ?_))<;>(try simp only [↓R1,RR,seval]))
  all_goals first|omega|exact Nat.le_refl _|assumption|exact St.le_refl _|(intros;(repeat' (with_reducible apply And.intro))<;>first|omega|(simp only [RZ];omega))|(simp only [aq,slot,ae,↓R1,RR,seval];all_goals exact bz)|exact aZ|(simp_all;done)|skip
  all_goals (try simp only [↓R1,RR,seval])
  refine ⟨_,?_,?_,rfl⟩
  rotate_left
  ·exact hL
  simp only [zS,List.length_append,RR,seval]
 ·intro _
  simp only [↓R1,RR,seval]
  have hbl:=pK a
  refine ((Mz _ _ [44] _ (Dt τ (db a)) (by have:=gS a;simp;omega) (by rw [pY];omega)).mono ?_)
  rintro _ _ ⟨rfl,rfl⟩
  rw [pY]
  simp only [↓R1,RR,seval]
  refine ⟨by omega,?_,?_⟩
  ·omega
  (refine ak (ag ?_))
  (simp only [an,RR,seval])
  simp [e8]
open Go.Lib
def I64 (n:Int):Prop:= -9223372036854775808≤n∧n≤9223372036854775807
def gl3:List (Nat × List AV):= [(1,vA),(2,HE)]
theorem GF {σ:St} (h:cY gl3 σ):cY gls σ:=fun k cs hk=>by
 simp only [gls,Go.Abs.look] at hk
 cases hb:Nat.beq k 1 with
 | false=>rw [hb] at hk;cases hk
 | true=>rw [hb] at hk;exact h k cs (by simp only [gl3,Go.Abs.look,hb];exact hk)
theorem PuG.up3 {f:Nat} {xs:List AV} {v:AV} (h:PuG Tryz.prog gls f xs v):PuG Tryz.prog gl3 f xs v:=fun σ hσ=>h σ (GF hσ)
theorem GG:Tryz.prog.globalNamed "internal/strconv.uint64pow10" =some 2:=P7
theorem O8:Md Tryz.prog 109 2 :=
 Gf (Go.Proofs.enters_of Tryz.func109 P7 rfl) GG (fun n h0 h1 w ht=>Tryz.strconv_FormatInt_10 n h0 h1 w ht)
def GH:List UInt8:= [65,66,67,68,69,70,71,72,73,74,75,76,77,78,79,80,81,82,83,84,85,86,87,88,89,90]
def dy (k:Int):List UInt8:=bif decide (k<0)||decide (26≤k) then [] else (GH.drop k.toNat).take 1
theorem MB {k:Int} (h:(decide (k<0)||decide (26≤k))=false):(0≤k∧k<26)∧IntKind.i64.wrap (k+1)=k+1∧(k+1).toNat - k.toNat=1:=by
 simp only [Bool.or_eq_false_iff,decide_eq_false_iff_not] at h
 exact ⟨by omega,wrap64 P6 P6,by omega⟩
theorem p53 (k:Int):Pu Tryz.prog 53 [.int .i64 k] (.tup [.str (dy k), .int .i64 (ka k)]):=by
 (refine al c53 b53 fun σ=>?_;simp only [c53,↓R1,RR,Nat.reduceEqDiff])
 refine ar (fun hc=>?_) (fun hc=>?_)
 ·simp only [↓R1,RR]
  (refine ak (ag ?_))
  (simp only [an,RR,Nat.reduceEqDiff])
  simp only [dy,ka,hc,cond_true]
 ·obtain ⟨h1,h2,h3⟩:=MB hc
  simp only [h2,↓R1,RR,Nat.reduceEqDiff]
  simp only [h3]
  refine ⟨⟨by omega,by omega,by simp;omega⟩,?_⟩
  (refine ak (ag ?_))
  (simp only [an,RR,Nat.reduceEqDiff])
  simp only [dy,ka,hc,cond_false]
  rfl
theorem p59 (k:Int):Pu Tryz.prog 59 [.int .i64 k] (.tup [.str (dy k), .int .i64 (ka k)]):=by
 (refine al c59 b59 fun σ=>?_;simp only [c59,↓R1,RR,Nat.reduceEqDiff])
 refine ar (fun hc=>?_) (fun hc=>?_)
 ·simp only [↓R1,RR]
  (refine ak (ag ?_))
  (simp only [an,RR,Nat.reduceEqDiff])
  simp only [dy,ka,hc,cond_true]
 ·obtain ⟨h1,h2,h3⟩:=MB hc
  simp only [h2,↓R1,RR,Nat.reduceEqDiff]
  simp only [h3]
  refine ⟨⟨by omega,by omega,by simp;omega⟩,?_⟩
  (refine ak (ag ?_))
  (simp only [an,RR,Nat.reduceEqDiff])
  simp only [dy,ka,hc,cond_false]
  rfl
def GI (l:BitVec 64) (k v:Int):List UInt8:=bif ka k == 0 then Dh l++UInt8.ofNat (IntKind.u8.wrap k).toNat::Dh (BitVec.ofInt 64 v) else []
theorem lX (n:Nat) (h:n<18446744073709551616):(decDigits n).length≤20:=by
  have:∀ (j:Nat) (n:Nat),n<10^(j+1)→(decDigits n).length≤j+1:=by
    intro j
    induction j with
    | zero=>intro n h;rw [decDigits,dif_pos P6];simp
    | succ j ih =>
      intro n h
      rw [decDigits]
      split
      · simp
      · have:=ih (n / 10) (by rw [Nat.pow_succ] at h;omega)
        simp only [List.length_append,List.length_cons,List.length_nil];omega
  exact this 19 n (Nat.lt_trans h Qg)
theorem er (v:Int) (hv:I64 v):(itoa v).length≤21:=by
 unfold I64 at hv
 unfold itoa
 split
 ·have:=lX v.natAbs P6
  simp only [List.length_cons];omega
 ·have:=lX v.toNat P6
  omega
theorem lY (a:BitVec 64):(e8 a).length≤194:=by
 have:=pK a
 simp only [e8,List.length_cons,List.length_append,List.length_nil];omega
theorem tA (k:Int):(dy k).length≤1:=by unfold dy;cases (decide (k<0)||decide (26≤k))<;>simp;omega
theorem wI (n:Int):IntKind.i64.wrap n=if 9223372036854775808≤n % 18446744073709551616 then n % 18446744073709551616 - 18446744073709551616 else n % 18446744073709551616:=by
 simp [IntKind.wrap,IntKind.bits,IntKind.signed]
theorem wU (n:Int):IntKind.u64.wrap n=n % 18446744073709551616:=by
 simp [IntKind.wrap,IntKind.bits,IntKind.signed]
theorem wU8 (n:Int):IntKind.u8.wrap n=n % 256:=by
 simp [IntKind.wrap,IntKind.bits,IntKind.signed]
def dg (c:UInt8):Bool:=decide (48≤c.toNat)&&decide (c.toNat≤57)
def MC (a:Nat) (c:UInt8):Nat:=a*10+(c.toNat - 48)
def val (a:Nat) (l:List UInt8):Nat:=l.foldl MC a
def Kn (s:List UInt8):Bool:=s == []||(decide ((1:Int)<s.length)&&((((s[0]?).getD 0).toNat:Nat):Int) == 48)
def MD (s:List UInt8):Bool:= !Kn s&&s.all dg
def w8:List UInt8→UInt8→Nat
 | [],_=>0
 | x::l,c=>bif x == c then 0 else w8 l c+1
def ME (s:List UInt8):Bool:=s.all dg&&decide (s.length≤20)&&decide (val 0 s<18446744073709551616)
def MF (s:List UInt8):Nat:=bif ME s then val 0 s else 0
def O9 (s:List UInt8):Bool:=MD s&&decide (val 0 s<18446744073709551616)
theorem n5 (n:Nat):itoa (n:Int)=decDigits n:=by unfold itoa;rw [if_neg P6];simp
def hS (s:List UInt8) (c:UInt8):List UInt8:=s.take (w8 s c)
def tS (s:List UInt8) (c:UInt8):List UInt8:=s.drop (w8 s c+1)
def MG (s:List UInt8):Bool:=decide ((eC (hS s 35)).err=0)&&decide (w8 s 35<s.length)&&O9 (tS s 35)&&(idE (MF (tS s 35)) == 0)
def Pb (s:List UInt8):Int:=bif MG s then 0 else 3
def gW (a:Int):Int:=if a<0 then -a else a
theorem MH (a:Int) (ha:I64 a):Pu Tryz.prog 121 [.int .i64 a] (.int .u64 (gW a)):=by
 unfold I64 at ha
 refine sG Gm ND (by simp [Gm]) fun σ=>?_
 simp only [Gm,↓R1,RR,Nat.reduceEqDiff]
 repeat' (first|(with_reducible rw [ah])|(refine bL (fun hc=>?_) (fun hc=>?_)<;>(try simp only [hc,↓R1,RR,Nat.reduceEqDiff,Nat.reduceLeDiff]))|((first|refine ar (fun hc=>?_) (fun hc=>?_)|(with_reducible intro β hβ;(try simp only [RB] at hβ);(repeat (obtain ⟨⟨_,_⟩,hβ⟩:=hβ));(try (have hbis:=aj Qa hβ;obtain ⟨_,_⟩:=hbis)))|((first|(refine bI (.inr rfl) rfl ?_ ?_ ?_ ?_ ?_ ?_;(first|rfl|exact St.bn _ _ _|(simp only [↓R1,RR,Nat.reduceEqDiff,Nat.reduceLeDiff]));(first|omega|(exact aE)|(simp only [RZ]));(first|rfl|first|omega|(exact aE)|(simp only [RZ])))|(refine br rfl ?_ ?_ ?_ ?_ ?_ ?_;(first|rfl|exact St.bn _ _ _|(simp only [↓R1,RR,Nat.reduceEqDiff,Nat.reduceLeDiff]));(first|omega|(exact aE)|(simp only [RZ]));(first|rfl|first|omega|(exact aE)|(simp only [RZ])))|(refine appV_own ?_ ?_ ?_ ?_;exact a8 QB _)|(refine appD_own ?_ ?_ ?_ ?_ ?_;omega;exact a8 QB _)|(refine appV_fresh rfl trivial rfl ?_ ?_ ?_ ?_ ?_;(first|rfl|first|omega|(exact aE)|(simp only [RZ]));(first|rfl|first|omega|(exact aE)|(simp only [RZ])))|(refine appD_fresh rfl trivial rfl ?_ ?_ ?_ ?_ ?_ ?_;omega;(first|rfl|first|omega|(exact aE)|(simp only [RZ]));(first|rfl|first|omega|(exact aE)|(simp only [RZ]))));(unfold maxLen;omega);omega))<;>(try simp only [↓R1,RR,Nat.reduceEqDiff]))|(with_reducible refine And.intro ?_ ?_;(focus (first|omega|(exact af))))|(with_reducible apply And.intro))
 all_goals ((refine ak (ag ?_));(simp only [an,RR,Nat.reduceEqDiff]);simp at hc;simp only [gW,wU,wI,AV.int.injEq,true_and];split<;>(try split)<;>(try split)<;>omega)
theorem Du (a:Int) (ha:I64 a):0≤gW a∧gW a≤9223372036854775808:=by
 unfold gW I64 at *;split<;>omega
theorem Dv (n:Nat):UInt8.ofNat (IntKind.u8.wrap (IntKind.u64.wrap (48+Int.tmod (n:Int) 10))).toNat=UInt8.ofNat (48+n % 10):=by
 have h:Int.tmod (n:Int) 10=((n % 10:Nat):Int):=rfl
 rw [h,wU,wU8]
 have h2:n % 10<10:=Nat.mod_lt _ Qg
 congr 1
 omega
def Dw (N n:Nat) (out:List UInt8):Prop:=(decDigits N=if n=0∧out≠ [] then out else decDigits n++out)∧n*2^out.length≤N
theorem Dx {N n:Nat} {out:List UInt8} (h:Dw N n out) (hc:0<n∨out= []):Dw N (n / 10) (UInt8.ofNat (48+n % 10)::out):=by
 obtain ⟨h1,h2⟩:=h
 have h3:¬ (n=0∧out≠ []):=by
  rintro ⟨a,b⟩;rcases hc with c|c
  ·omega
  ·exact b c
 rw [if_neg h3] at h1
 unfold Dw
 generalize decDigits N=D at h1 ⊢
 rw [decDigits] at h1
 refine ⟨?_,?_⟩
 ·by_cases h4:n<10
  ·rw [dif_pos h4] at h1
   have h5:n / 10=0:=P6
   rw [if_pos ⟨h5,by simp⟩,h1,Nat.mod_eq_of_lt h4];rfl
  ·rw [dif_neg h4] at h1
   have h5:n / 10≠0:=P6
   rw [if_neg P6,h1];simp
 ·simp only [List.length_cons]
  have h6:n / 10*2≤n:=P6
  calc n / 10*2^(out.length+1)=(n / 10*2)*2^out.length:=by rw [Nat.pow_succ];ac_rfl
   _≤n*2^out.length:=Nat.mul_le_mul_right _ h6
   _≤N:=h2
theorem GJ {N n:Nat} {out:List UInt8} (h:Dw N n out) (hc:0<n∨out= []) (hN:N<18446744073709551616):out.length<64:=by
 rcases hc with c|c
 ·have h1:2^out.length≤N:=Nat.le_trans (Nat.le_mul_of_pos_left _ c) h.2
  have h2:2^out.length<2^64:=Nat.lt_of_le_of_lt h1 hN
  exact (Nat.pow_lt_pow_iff_right Qg).1 h2
 ·subst c;decide
theorem Pc (N:Nat) (hN:N<18446744073709551616):Pu Tryz.prog 120 [.int .u64 N] (.str (decDigits N)):=by
 refine al I1 NC fun σ=>?_
 simp only [I1,↓R1,RR,Nat.reduceEqDiff]
 refine ca (α:=Nat × List UInt8) (fun a=> [(0, .int .u64 a.1),(3, .str a.2)]) (fun _=>σ) (fun a=>Dw N a.1 a.2) (fun a=>2*a.1+(if a.2= [] then 1 else 0)) (N,[]) ⟨ae _,ae _,trivial⟩ (St.le_refl _) ⟨by simp,by simp⟩ (fun a ha=>?_)
 obtain ⟨n,out⟩:=a
 simp only at ha ⊢
 simp only [↓R1,RR,Nat.reduceEqDiff]
 refine ar (fun h5=>?_) (fun h5=>?_)
 ·have hc:0<n∨out= []:=by simpa using h5
  have hl:=GJ ha hc hN
  simp only [isByte,List.all_cons,List.all_nil,Bool.and_true,↓R1,RR,Nat.reduceEqDiff,Nat.reduceLeDiff]
  have hnN:n≤N:=Nat.le_trans (Nat.le_mul_of_pos_right _ (Nat.pow_pos Qg)) ha.2
  have hq:IntKind.u64.wrap ((n:Int).tdiv 10)=((n / 10:Nat):Int):=by
   have h:Int.tdiv (n:Int) 10=((n / 10:Nat):Int):=rfl
   rw [h,wU];omega
  refine ⟨by decide,by omega,by decide,(n / 10,UInt8.ofNat (48+n % 10)::out),Dx ha hc,?_,St.le_refl _,?_⟩
  ·refine ⟨ag ?_,ag ?_,trivial⟩
   ·simp only [slot,RR,Nat.reduceEqDiff];rw [hq]
   ·simp only [slot,RR,Nat.reduceEqDiff]
    rw [show Go.Abs.byteOf (AV.int IntKind.u8 (IntKind.u8.wrap (IntKind.u64.wrap (48+(n:Int).tmod 10))))=UInt8.ofNat (48+n % 10) from Dv n]
  ·simp only [reduceCtorEq,if_false]
   rcases hc with c|c
   ·omega
   ·rw [if_pos c];omega
 ·have hc:n=0∧out≠ []:=by simp at h5;exact ⟨by omega,h5.2⟩
  simp only [↓R1,RR,Nat.reduceEqDiff]
  (refine ak (ag ?_))
  (simp only [an,RR,Nat.reduceEqDiff])
  rw [ha.1,if_pos hc]
theorem itoa_neg {n:Int} (h:n<0):itoa n=45::decDigits (gW n).toNat:=by
 unfold itoa gW
 rw [if_pos h,if_pos h]
 congr 2
 omega
theorem Dy {n:Int} (h:¬ n<0):itoa n=decDigits (gW n).toNat:=by
 unfold itoa gW
 rw [if_neg h,if_neg h]
theorem vO (N:Nat) (hN:N<18446744073709551616):(decDigits N).length<100:=by
  have key:∀ (k N:Nat),N<10^(k+1)→(decDigits N).length≤k+1:=by
    intro k
    induction k with
    | zero=>intro N h;rw [decDigits,dif_pos Rf];simp
    | succ k ih =>
      intro N h
      rw [decDigits]
      split
      · simp
      · have:=ih (N / 10) (by rw [Nat.pow_succ] at h;omega)
        simp;omega
  have:=key 19 N P6
  omega
theorem p60 (n:Int) (hn:I64 n):Pu Tryz.prog 60 [.int .i64 n] (.str (itoa n)):=by
 have sn:=Du n hn
 have hc:((gW n).toNat:Int)=gW n:=Int.toNat_of_nonneg sn.1
 have hd:=Pc (gW n).toNat P6
 rw [hc] at hd
 have hl:=vO (gW n).toNat P6
 refine al c60 b60 fun σ=>?_
 simp only [c60,↓R1,RR,Nat.reduceEqDiff]
 refine ar (fun h5=>?_) (fun h5=>?_)<;>simp at h5<;>simp only [↓R1,RR,Nat.reduceEqDiff]
 ·refine (MH n hn).to (ad _) ?_
  simp only [↓R1,RR,Nat.reduceEqDiff]
  refine hd.to (ad _) ?_
  simp only [↓R1,RR,Nat.reduceEqDiff]
  refine ⟨by omega,?_⟩
  (refine ak (ag ?_))
  (simp only [an,RR,Nat.reduceEqDiff])
  rw [itoa_neg h5]
 ·refine (MH n hn).to (ad _) ?_
  simp only [↓R1,RR,Nat.reduceEqDiff]
  refine hd.to (ad _) ?_
  simp only [↓R1,RR,Nat.reduceEqDiff]
  (refine ak (ag ?_))
  (simp only [an,RR,Nat.reduceEqDiff])
  rw [Dy P6]
end Go.Proofs.YtgephffbfiemeaaGreatDoor
