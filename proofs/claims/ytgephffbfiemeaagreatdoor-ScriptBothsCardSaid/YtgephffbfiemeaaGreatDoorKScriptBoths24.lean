/- Part 24 of the proof of ScriptBoths: an abstract semantics that is proved sound for the model, contracts of functions in it, and plain facts (Sh40 LW3 EV2 EV3 SM1 EV12 EV13 EV14 EW1 EW2 SM3). No condition. -/
import Derived.Test.YtgephffbfiemeaaGreatDoorKScriptBoths23
import Derived.Shelf.Strings.Builder1
import Derived.Shelf.Strings.Builder2
import Derived.Shelf.Strings.OnBuilder
import Derived.Shelf.Strconv.Itoa0
import Derived.Shelf.Strconv.Itoa1
import Derived.Shelf.LaysM
import Derived.Shelf.Strconv.Itoa2
import Derived.Shelf.Strconv.Itoa3
import Derived.Shelf.Strconv.Itoa4
import Derived.Shelf.Strings.Search1
import Derived.Shelf.Strings.Search2
import Derived.Shelf.Strings.Search3
import Derived.Shelf.Strings.Cut
import Derived.Shelf.Strings.Shaped
import Derived.Shelf.Unicode.Decode
import Derived.Shelf.Bits.Mul64
import Derived.Shelf.Unicode.DecodeSlow
import Derived.Shelf.Unicode.DecodeAny
import Derived.Test.YtgephffbfiemeaaGreatDoorProg
set_option linter.all false
namespace Go.Proofs
open Go.Shelf
def Tryz.lu:Go.Shelf.Ren:=⟨fun|169=>174|n=>n,fun|70=>220|9=>9|0=>0|72=>222|37=>135|127=>286|3=>3|5=>5|n=>n,fun|n=>n⟩
theorem Tryz.EB:Go.Proofs.Lays.n169 Tryz.prog Tryz.lu:={
 mixed:=MY
 f169:=Tryz.func174.trans (congrArg some MY)
 t0:=Tryz.underlying0
 a0:=Tryz.isAgg0
 z0:=Tryz.sizeOf0
 v0:=Tryz.zeroValue0
 t3:=Tryz.underlying3
 a3:=Tryz.isAgg3
 z3:=Tryz.sizeOf3
 v3:=Tryz.zeroValue3
 t9:=Tryz.underlying9
 a9:=Tryz.isAgg9
 z9:=Tryz.sizeOf9
 v9:=Tryz.zeroValue9
 t37:=Tryz.underlying135
 a37:=Tryz.isAgg135
 z37:=Tryz.sizeOf135
 v37:=Tryz.zeroValue135
 t70:=Tryz.underlying220
 a70:=Tryz.isAgg220
 z70:=Tryz.sizeOf220
 v70:=Tryz.zeroValue220
 t72:=Tryz.underlying222
 a72:=Tryz.isAgg222
 z72:=Tryz.sizeOf222
 v72:=Tryz.zeroValue222
 t127:=Tryz.underlying286
 a127:=Tryz.isAgg286
 z127:=Tryz.sizeOf286
 v127:=Tryz.zeroValue286 }
theorem Tryz.jW:Builder.Extra Tryz.prog Tryz.lu:={
 sizeBuilder:=MY
 liesBuilder:=MY
 t5:=Tryz.underlying5
 a5:=Tryz.isAgg5
 z5:=Tryz.sizeOf5
 v5:=Tryz.zeroValue5
 infoByte:=MY
 cellsByte:=MY
 sizeByte:=MY
 neB5:=by decide }
def Tryz.lv:Go.Shelf.Ren:=⟨fun|156=>113|165=>172|166=>173|169=>174|240=>222|241=>223|276=>259|277=>260|n=>n,fun|31=>110|9=>9|3=>3|4=>4|0=>0|20=>20|72=>222|76=>226|70=>220|37=>135|75=>225|127=>286|164=>320|5=>5|80=>200|n=>n,fun|n=>n⟩
theorem Tryz.vB:Go.Proofs.Lays.n156 Tryz.prog Tryz.lv:={
 mixed:=MY
 f156:=Tryz.func113.trans (congrArg some MY)
 f165:=Tryz.func172.trans (congrArg some MY)
 f166:=Tryz.func173.trans (congrArg some MY)
 f169:=Tryz.func174.trans (congrArg some MY)
 f240:=Tryz.func222.trans (congrArg some MY)
 f241:=Tryz.func223.trans (congrArg some MY)
 f276:=Tryz.func259.trans (congrArg some MY)
 f277:=Tryz.func260.trans (congrArg some MY)
 t0:=Tryz.underlying0
 a0:=Tryz.isAgg0
 z0:=Tryz.sizeOf0
 v0:=Tryz.zeroValue0
 t3:=Tryz.underlying3
 a3:=Tryz.isAgg3
 z3:=Tryz.sizeOf3
 v3:=Tryz.zeroValue3
 t4:=Tryz.underlying4
 a4:=Tryz.isAgg4
 z4:=Tryz.sizeOf4
 v4:=Tryz.zeroValue4
 t9:=Tryz.underlying9
 a9:=Tryz.isAgg9
 z9:=Tryz.sizeOf9
 v9:=Tryz.zeroValue9
 t20:=Tryz.underlying20
 a20:=Tryz.isAgg20
 z20:=Tryz.sizeOf20
 v20:=Tryz.zeroValue20
 t31:=Tryz.underlying110
 a31:=Tryz.isAgg110
 z31:=Tryz.sizeOf110
 v31:=Tryz.zeroValue110
 t37:=Tryz.underlying135
 a37:=Tryz.isAgg135
 z37:=Tryz.sizeOf135
 v37:=Tryz.zeroValue135
 t70:=Tryz.underlying220
 a70:=Tryz.isAgg220
 z70:=Tryz.sizeOf220
 v70:=Tryz.zeroValue220
 t72:=Tryz.underlying222
 a72:=Tryz.isAgg222
 z72:=Tryz.sizeOf222
 v72:=Tryz.zeroValue222
 t75:=Tryz.underlying225
 a75:=Tryz.isAgg225
 z75:=Tryz.sizeOf225
 v75:=Tryz.zeroValue225
 t76:=Tryz.underlying226
 a76:=Tryz.isAgg226
 z76:=Tryz.sizeOf226
 v76:=Tryz.zeroValue226
 t127:=Tryz.underlying286
 a127:=Tryz.isAgg286
 z127:=Tryz.sizeOf286
 v127:=Tryz.zeroValue286
 t164:=Tryz.underlying320
 a164:=Tryz.isAgg320
 z164:=Tryz.sizeOf320
 v164:=Tryz.zeroValue320 }
theorem Tryz.fJ:Builder.Extra Tryz.prog Tryz.lv:={
 sizeBuilder:=MY
 liesBuilder:=MY
 t5:=Tryz.underlying5
 a5:=Tryz.isAgg5
 z5:=Tryz.sizeOf5
 v5:=Tryz.zeroValue5
 infoByte:=MY
 cellsByte:=MY
 sizeByte:=MY
 neB5:=by decide }
open Go.RowKit in
theorem Tryz.strings_Join_none (a:Option Addr) (c:Nat) (sep:ByteArray) (w:World) :
  Calls Tryz.prog 113 #[.slice a 0 c, .string sep] w fun e w'=>e= .returned (.string ⟨#[]⟩)∧w'=w:=Any.strings_Join_none Tryz.vB Tryz.fJ a c sep w
open Go.RowKit in
theorem Tryz.strings_Join (bk o c:Nat) (xs:List ByteArray) (sep:ByteArray) (w:World) (hcells:∀ (j:Nat) x,xs[j]? =some x→w.cell? ⟨bk,o+j,none⟩=some (.string x)) (hbk:bk<w.heap.size) (hN:xs.length≤140737488355328) (hcap:xs.length≤c) (hlen:(Lib.join (xs.map (·.data.toList)) sep.data.toList).length≤140737488355328) :
  Calls Tryz.prog 113 #[.slice (some ⟨bk,o,none⟩) xs.length c, .string sep] w fun e w'=>e= .returned (.string ⟨(Lib.join (xs.map (·.data.toList)) sep.data.toList).toArray⟩)∧Below w.heap.size w w':=Any.strings_Join Tryz.vB Tryz.fJ bk o c xs sep w hcells hbk hN hcap hlen
def Tryz.r5:Go.Shelf.Ren:=⟨fun|283=>218|n=>n,fun|3=>3|9=>9|4=>4|n=>n,fun|n=>n⟩
theorem Tryz.EC:Go.Proofs.Lays.n283 Tryz.prog Tryz.r5:={
 mixed:=MY
 f283:=Tryz.func218.trans (congrArg some MY)
 t3:=Tryz.underlying3
 a3:=Tryz.isAgg3
 z3:=Tryz.sizeOf3
 v3:=Tryz.zeroValue3
 t4:=Tryz.underlying4
 a4:=Tryz.isAgg4
 z4:=Tryz.sizeOf4
 v4:=Tryz.zeroValue4
 t9:=Tryz.underlying9
 a9:=Tryz.isAgg9
 z9:=Tryz.sizeOf9
 v9:=Tryz.zeroValue9 }
open Go.Lib in
theorem Tryz.internal_strconv_small (i:Nat) (h:i<100) (w:World) :
  Calls Tryz.prog 218 #[.int .i64 i] w fun e w'=>e= .returned (.string ⟨(Lib.decDigits i).toArray⟩)∧w'=w:=Any.internal_strconv_small Tryz.EC i h w
def Tryz.pS:Go.Shelf.Ren:=⟨fun|284=>219|129=>255|317=>254|318=>256|n=>n,fun|53=>29|3=>3|212=>316|0=>0|4=>4|46=>190|5=>5|9=>9|n=>n,fun|17=>2|n=>n⟩
theorem Tryz.BL:Go.Proofs.LaysM.n284 Tryz.prog Tryz.pS:={
 mixed:=MY
 f129:=Tryz.func255.trans (congrArg some MY)
 f284:=Tryz.func219.trans (congrArg some MY)
 f317:=Tryz.func254.trans (congrArg some MY)
 f318:=Tryz.func256.trans (congrArg some MY)
 t0:=Tryz.underlying0
 a0:=Tryz.isAgg0
 z0:=Tryz.sizeOf0
 v0:=Tryz.zeroValue0
 t3:=Tryz.underlying3
 a3:=Tryz.isAgg3
 z3:=Tryz.sizeOf3
 v3:=Tryz.zeroValue3
 t4:=Tryz.underlying4
 a4:=Tryz.isAgg4
 z4:=Tryz.sizeOf4
 v4:=Tryz.zeroValue4
 t5:=Tryz.underlying5
 a5:=Tryz.isAgg5
 z5:=Tryz.sizeOf5
 v5:=Tryz.zeroValue5
 t9:=Tryz.underlying9
 a9:=Tryz.isAgg9
 z9:=Tryz.sizeOf9
 v9:=Tryz.zeroValue9
 t46:=Tryz.underlying190
 a46:=Tryz.isAgg190
 z46:=Tryz.sizeOf190
 v46:=Tryz.zeroValue190
 t53:=Tryz.underlying29
 a53:=Tryz.isAgg29
 z53:=Tryz.sizeOf29
 v53:=Tryz.zeroValue29
 t212:=Tryz.underlying316
 a212:=Tryz.isAgg316
 z212:=Tryz.sizeOf316
 v212:=Tryz.zeroValue316
 g17:=MY
 i0:=MY
 i3:=MY
 i4:=MY
 i5:=MY
 i9:=MY
 i46:=MY
 i53:=MY
 i212:=MY
 m17:=by kernel_rfl }
open Go.Lib in
theorem Tryz.internal_strconv_numDigits (u:Nat) (h1:1≤u) (h2:u<18446744073709551616) (w:World) (htab:Lib.TabIs Tryz.prog w "internal/strconv.uint64pow10" .u64 Lib.pow10Tab) :
  Calls Tryz.prog 219 #[.int .u64 u] w fun e w'=>e= .returned (.int .i64 (Lib.nDigits u))∧w'=w:=Any.internal_strconv_numDigits Tryz.BL u h1 h2 w htab
def Tryz.r6:Go.Shelf.Ren:=⟨fun|285=>220|n=>n,fun|37=>135|53=>29|3=>3|4=>4|51=>317|9=>9|5=>5|0=>0|n=>n,fun|n=>n⟩
theorem Tryz.ED:Go.Proofs.Lays.n285 Tryz.prog Tryz.r6:={
 mixed:=MY
 f285:=Tryz.func220.trans (congrArg some MY)
 t0:=Tryz.underlying0
 a0:=Tryz.isAgg0
 z0:=Tryz.sizeOf0
 v0:=Tryz.zeroValue0
 t3:=Tryz.underlying3
 a3:=Tryz.isAgg3
 z3:=Tryz.sizeOf3
 v3:=Tryz.zeroValue3
 t4:=Tryz.underlying4
 a4:=Tryz.isAgg4
 z4:=Tryz.sizeOf4
 v4:=Tryz.zeroValue4
 t5:=Tryz.underlying5
 a5:=Tryz.isAgg5
 z5:=Tryz.sizeOf5
 v5:=Tryz.zeroValue5
 t9:=Tryz.underlying9
 a9:=Tryz.isAgg9
 z9:=Tryz.sizeOf9
 v9:=Tryz.zeroValue9
 t37:=Tryz.underlying135
 a37:=Tryz.isAgg135
 z37:=Tryz.sizeOf135
 v37:=Tryz.zeroValue135
 t51:=Tryz.underlying317
 a51:=Tryz.isAgg317
 z51:=Tryz.sizeOf317
 v51:=Tryz.zeroValue317
 t53:=Tryz.underlying29
 a53:=Tryz.isAgg29
 z53:=Tryz.sizeOf29
 v53:=Tryz.zeroValue29 }
open Go.RowKit Go.Sort Go.Lib in
theorem Tryz.internal_strconv_formatBase10 (blk off cap:Nat) (u:Nat) (d:Array UInt8) (w:World) (hH:Holds (fun (b:UInt8)=>Value.int .u8 (b.toNat:Int)) w blk off d) (hu:u<10^d.size) (hu64:u<18446744073709551616) (hsz:d.size<4611686018427387904) :
  Calls Tryz.prog 220 #[.slice (some ⟨blk,off,none⟩) d.size cap, .int .u64 u] w fun e w' =>
   e= .returned (.tuple #[])∧∃ (n v':Nat) (dk:Array UInt8),w'=(putRow (fun (b:UInt8)=>Value.int .u8 (b.toNat:Int)) w blk off dk).drewN n∧FmtInv d.size u 0 v' dk:=Any.internal_strconv_formatBase10 Tryz.ED blk off cap u d w hH hu hu64 hsz
def Tryz.r7:Go.Shelf.Ren:=⟨fun|171=>112|243=>171|246=>167|283=>218|284=>219|285=>220|286=>221|129=>255|317=>254|318=>256|319=>257|320=>258|337=>278|338=>170|n=>n,fun|3=>3|9=>9|2=>2|4=>4|171=>281|0=>0|53=>29|37=>135|5=>5|173=>283|212=>316|51=>317|20=>20|213=>318|46=>190|232=>338|233=>285|n=>n,fun|17=>2|18=>6|19=>1|n=>n⟩
theorem Tryz.EE:Go.Proofs.Lays.n171 Tryz.prog Tryz.r7:={
 mixed:=MY
 f129:=Tryz.func255.trans (congrArg some MY)
 f171:=Tryz.func112.trans (congrArg some MY)
 f243:=Tryz.func171.trans (congrArg some MY)
 f246:=Tryz.func167.trans (congrArg some MY)
 f283:=Tryz.func218.trans (congrArg some MY)
 f284:=Tryz.func219.trans (congrArg some MY)
 f285:=Tryz.func220.trans (congrArg some MY)
 f286:=Tryz.func221.trans (congrArg some MY)
 f317:=Tryz.func254.trans (congrArg some MY)
 f318:=Tryz.func256.trans (congrArg some MY)
 f319:=Tryz.func257.trans (congrArg some MY)
 f320:=Tryz.func258.trans (congrArg some MY)
 f337:=Tryz.func278.trans (congrArg some MY)
 f338:=Tryz.func170.trans (congrArg some MY)
 t0:=Tryz.underlying0
 a0:=Tryz.isAgg0
 z0:=Tryz.sizeOf0
 v0:=Tryz.zeroValue0
 t2:=Tryz.underlying2
 a2:=Tryz.isAgg2
 z2:=Tryz.sizeOf2
 v2:=Tryz.zeroValue2
 t3:=Tryz.underlying3
 a3:=Tryz.isAgg3
 z3:=Tryz.sizeOf3
 v3:=Tryz.zeroValue3
 t4:=Tryz.underlying4
 a4:=Tryz.isAgg4
 z4:=Tryz.sizeOf4
 v4:=Tryz.zeroValue4
 t5:=Tryz.underlying5
 a5:=Tryz.isAgg5
 z5:=Tryz.sizeOf5
 v5:=Tryz.zeroValue5
 t9:=Tryz.underlying9
 a9:=Tryz.isAgg9
 z9:=Tryz.sizeOf9
 v9:=Tryz.zeroValue9
 t20:=Tryz.underlying20
 a20:=Tryz.isAgg20
 z20:=Tryz.sizeOf20
 v20:=Tryz.zeroValue20
 t37:=Tryz.underlying135
 a37:=Tryz.isAgg135
 z37:=Tryz.sizeOf135
 v37:=Tryz.zeroValue135
 t46:=Tryz.underlying190
 a46:=Tryz.isAgg190
 z46:=Tryz.sizeOf190
 v46:=Tryz.zeroValue190
 t51:=Tryz.underlying317
 a51:=Tryz.isAgg317
 z51:=Tryz.sizeOf317
 v51:=Tryz.zeroValue317
 t53:=Tryz.underlying29
 a53:=Tryz.isAgg29
 z53:=Tryz.sizeOf29
 v53:=Tryz.zeroValue29
 t171:=Tryz.underlying281
 a171:=Tryz.isAgg281
 z171:=Tryz.sizeOf281
 v171:=Tryz.zeroValue281
 t173:=Tryz.underlying283
 a173:=Tryz.isAgg283
 z173:=Tryz.sizeOf283
 v173:=Tryz.zeroValue283
 t212:=Tryz.underlying316
 a212:=Tryz.isAgg316
 z212:=Tryz.sizeOf316
 v212:=Tryz.zeroValue316
 t213:=Tryz.underlying318
 a213:=Tryz.isAgg318
 z213:=Tryz.sizeOf318
 t232:=Tryz.underlying338
 a232:=Tryz.isAgg338
 z232:=Tryz.sizeOf338
 v232:=Tryz.zeroValue338
 t233:=Tryz.underlying285
 a233:=Tryz.isAgg285
 z233:=Tryz.sizeOf285
 v233:=Tryz.zeroValue285
 g17:=MY
 g18:=MY
 g19:=by kernel_rfl }
open Go.RowKit Go.Sort Go.Lib in
theorem Tryz.strconv_Itoa_small (i:Nat) (hi:i<100) (w:World) :
  Calls Tryz.prog 112 #[.int .i64 i] w fun e w'=>e= .returned (.string ⟨(Lib.decDigits i).toArray⟩)∧w'=w:=Any.strconv_Itoa_small Tryz.EE i hi w
def Tryz.pT:Go.Shelf.Ren:=⟨fun|173=>109|246=>167|283=>218|284=>219|285=>220|286=>221|129=>255|317=>254|318=>256|319=>257|320=>258|337=>278|338=>170|n=>n,fun|2=>2|3=>3|9=>9|4=>4|171=>281|0=>0|53=>29|37=>135|5=>5|173=>283|212=>316|51=>317|20=>20|213=>318|46=>190|232=>338|233=>285|n=>n,fun|17=>2|18=>6|19=>1|n=>n⟩
theorem Tryz.BM:Go.Proofs.LaysM.n173 Tryz.prog Tryz.pT:={
 mixed:=MY
 f129:=Tryz.func255.trans (congrArg some MY)
 f173:=Tryz.func109.trans (congrArg some MY)
 f246:=Tryz.func167.trans (congrArg some MY)
 f283:=Tryz.func218.trans (congrArg some MY)
 f284:=Tryz.func219.trans (congrArg some MY)
 f285:=Tryz.func220.trans (congrArg some MY)
 f286:=Tryz.func221.trans (congrArg some MY)
 f317:=Tryz.func254.trans (congrArg some MY)
 f318:=Tryz.func256.trans (congrArg some MY)
 f319:=Tryz.func257.trans (congrArg some MY)
 f320:=Tryz.func258.trans (congrArg some MY)
 f337:=Tryz.func278.trans (congrArg some MY)
 f338:=Tryz.func170.trans (congrArg some MY)
 t0:=Tryz.underlying0
 a0:=Tryz.isAgg0
 z0:=Tryz.sizeOf0
 v0:=Tryz.zeroValue0
 t2:=Tryz.underlying2
 a2:=Tryz.isAgg2
 z2:=Tryz.sizeOf2
 v2:=Tryz.zeroValue2
 t3:=Tryz.underlying3
 a3:=Tryz.isAgg3
 z3:=Tryz.sizeOf3
 v3:=Tryz.zeroValue3
 t4:=Tryz.underlying4
 a4:=Tryz.isAgg4
 z4:=Tryz.sizeOf4
 v4:=Tryz.zeroValue4
 t5:=Tryz.underlying5
 a5:=Tryz.isAgg5
 z5:=Tryz.sizeOf5
 v5:=Tryz.zeroValue5
 t9:=Tryz.underlying9
 a9:=Tryz.isAgg9
 z9:=Tryz.sizeOf9
 v9:=Tryz.zeroValue9
 t20:=Tryz.underlying20
 a20:=Tryz.isAgg20
 z20:=Tryz.sizeOf20
 v20:=Tryz.zeroValue20
 t37:=Tryz.underlying135
 a37:=Tryz.isAgg135
 z37:=Tryz.sizeOf135
 v37:=Tryz.zeroValue135
 t46:=Tryz.underlying190
 a46:=Tryz.isAgg190
 z46:=Tryz.sizeOf190
 v46:=Tryz.zeroValue190
 t51:=Tryz.underlying317
 a51:=Tryz.isAgg317
 z51:=Tryz.sizeOf317
 v51:=Tryz.zeroValue317
 t53:=Tryz.underlying29
 a53:=Tryz.isAgg29
 z53:=Tryz.sizeOf29
 v53:=Tryz.zeroValue29
 t171:=Tryz.underlying281
 a171:=Tryz.isAgg281
 z171:=Tryz.sizeOf281
 v171:=Tryz.zeroValue281
 t173:=Tryz.underlying283
 a173:=Tryz.isAgg283
 z173:=Tryz.sizeOf283
 v173:=Tryz.zeroValue283
 t212:=Tryz.underlying316
 a212:=Tryz.isAgg316
 z212:=Tryz.sizeOf316
 v212:=Tryz.zeroValue316
 t213:=Tryz.underlying318
 a213:=Tryz.isAgg318
 z213:=Tryz.sizeOf318
 t232:=Tryz.underlying338
 a232:=Tryz.isAgg338
 z232:=Tryz.sizeOf338
 v232:=Tryz.zeroValue338
 t233:=Tryz.underlying285
 a233:=Tryz.isAgg285
 z233:=Tryz.sizeOf285
 v233:=Tryz.zeroValue285
 g17:=MY
 g18:=MY
 g19:=MY
 i0:=MY
 i2:=MY
 i3:=MY
 i4:=MY
 i5:=MY
 i9:=MY
 i20:=MY
 i37:=MY
 i46:=MY
 i51:=MY
 i53:=MY
 i171:=MY
 i173:=MY
 i212:=MY
 i232:=MY
 i233:=MY
 m17:=MY
 m18:=MY
 m19:=by kernel_rfl }
open Go.RowKit Go.Sort Go.Lib in
theorem Tryz.strconv_FormatInt_10 (n:Int) (h0 : -9223372036854775808≤n) (h1:n≤9223372036854775807) (w:World) (htab:Lib.TabIs Tryz.prog w "internal/strconv.uint64pow10" .u64 Lib.pow10Tab) :
  Calls Tryz.prog 109 #[.int .i64 n, .int .i64 10] w fun e w'=>e= .returned (.string ⟨(Lib.itoa n).toArray⟩)∧∃ k os,w'=grow (w.drewN k) os:=Any.strconv_FormatInt_10 Tryz.BM n h0 h1 w htab
def Tryz.r8:Go.Shelf.Ren:=⟨fun|143=>244|219=>269|217=>283|225=>284|224=>285|267=>286|266=>292|314=>293|n=>n,fun|9=>9|3=>3|4=>4|5=>5|46=>190|146=>339|51=>317|n=>n,fun|1=>3|n=>n⟩
theorem Tryz.EF:Go.Proofs.Lays.n143 Tryz.prog Tryz.r8:={
 mixed:=MY
 f143:=Tryz.func244.trans (congrArg some MY)
 f217:=Tryz.func283.trans (congrArg some MY)
 f219:=Tryz.func269.trans (congrArg some MY)
 f224:=Tryz.func285.trans (congrArg some MY)
 f225:=Tryz.func284.trans (congrArg some MY)
 f266:=Tryz.func292.trans (congrArg some MY)
 f267:=Tryz.func286.trans (congrArg some MY)
 f314:=Tryz.func293.trans (congrArg some MY)
 t3:=Tryz.underlying3
 a3:=Tryz.isAgg3
 z3:=Tryz.sizeOf3
 v3:=Tryz.zeroValue3
 t4:=Tryz.underlying4
 a4:=Tryz.isAgg4
 z4:=Tryz.sizeOf4
 v4:=Tryz.zeroValue4
 t5:=Tryz.underlying5
 a5:=Tryz.isAgg5
 z5:=Tryz.sizeOf5
 v5:=Tryz.zeroValue5
 t9:=Tryz.underlying9
 a9:=Tryz.isAgg9
 z9:=Tryz.sizeOf9
 v9:=Tryz.zeroValue9
 t46:=Tryz.underlying190
 a46:=Tryz.isAgg190
 z46:=Tryz.sizeOf190
 v46:=Tryz.zeroValue190
 t51:=Tryz.underlying317
 a51:=Tryz.isAgg317
 z51:=Tryz.sizeOf317
 v51:=Tryz.zeroValue317
 t146:=Tryz.underlying339
 a146:=Tryz.isAgg339
 z146:=Tryz.sizeOf339
 v146:=Tryz.zeroValue339
 g1:=by kernel_rfl }
open Go.RowKit Go.Lib in
theorem Tryz.strings_Index_one (s:ByteArray) (c:UInt8) (w:World) :
  Calls Tryz.prog 244 #[.string s, .string ⟨#[c]⟩] w fun e w'=>e= .returned (.int .i64 (Lib.indexByte s.data.toList c))∧w'=w:=Any.strings_Index_one Tryz.EF s c w
end Go.Proofs
namespace Go.Proofs.YtgephffbfiemeaaGreatDoor
open Go.Abs
set_option linter.all false
set_option maxRecDepth 100000
theorem J1:BG Tryz.prog 113 :=
 r4 (Go.Proofs.enters_of Tryz.func113 MY rfl) (fun x sep w=>Tryz.strings_Join_none x 0 sep w) (fun bk o c xs sep w h1 h2 h3 h4 h5=>Tryz.strings_Join bk o c xs sep w h1 h2 h3 h4 h5)
theorem J2:FF Tryz.prog 112 :=
 BH (Go.Proofs.enters_of Tryz.func112 MY rfl) (fun i hi w=>Tryz.strconv_Itoa_small i hi w)
theorem oI {k:Nat} (h:k<100):Lib.decDigits k=gU k:=by
 rw [Lib.decDigits]
 unfold gU
 split
 ·rfl
 ·rw [Lib.decDigits,dif_pos MX];rfl
theorem gS:∀ (l:List Nat),(∀ x∈l,x<64)→Lib.joinTail [44] (l.map Lib.decDigits)=dK l
  | [],_=>rfl
  | k :: l, h => by
    have:=gS l (fun x hx=>h x NI)
    simp only [Lib.joinTail,List.map_cons,List.flatten_cons,dK] at this ⊢
    rw [this,oI (by have:=h k M1;omega)]
    simp
theorem uA (l:List Nat) (h:∀ x∈l,x<64):Lib.join (l.map Lib.decDigits) [44]=ej l:=by
  cases l with
  | nil=>rfl
  | cons k l =>
    rw [List.map_cons,Lib.join_cons,gS l (fun x hx=>h x NI),oI (by have:=h k M1;omega)]
    rfl
def strs (l:List Nat):List AV:=l.map fun n=>AV.str (Lib.decDigits n)
theorem b8 (l:List Nat):(strs l).length=l.length:=by simp [strs]
theorem yi (l:List Nat) (k:Nat):strs l++ [.str (Lib.decDigits k)]=strs (l++ [k]):=by simp [strs]
theorem BN (τ:Nat) (l:List Nat):slv (.tsl τ l.length (strs l))=some ((l.map Lib.decDigits).length,(l.map Lib.decDigits).map AV.str):=by simp [slv,strs]
theorem oJ (a:BitVec 64):Lib.join ((cL a).map Lib.decDigits) [44]=ej (cL a):=uA _ fun _ hx=>pE hx
theorem _root_.Ni {p:Prop} (h:p:=by intro _;rfl):p:=h
theorem p51 (a:BitVec 64):PuG Tryz.prog gls 51 [.int .u64 a.toNat] (.str (cO a)):=by
 intro σ hσ
 refine bf c51 b51 ?_
 simp only [c51,↓R1,RR,seval]
 repeat' (first|(with_reducible rw [ai])|((with_reducible intro β hβ;(try simp only [RB] at hβ);(repeat (obtain ⟨⟨_,_⟩,hβ⟩:=hβ));(try (have hbis:=ah M0 hβ;obtain ⟨_,_⟩:=hbis)))<;>(try simp only [↓R1,RR,seval])))
 refine (L5 a _).mono ?_
 rintro _ _ ⟨γ,hγ,rfl,rfl⟩
 rw [St.aE] at hγ
 obtain ⟨⟨_,_⟩,hγ⟩:=hγ
 simp only [↓R1,RR,seval]
 refine eW [(true,3,0,9,1)] ?_
 simp only [cF,List.set_cons_zero,↓R1,RR,seval]
 refine fun τ hτ=>⟨_,_,rfl,?_⟩
 refine Ev a (fun pre c=>((σ.aa β [.tsl τ pre.length (strs pre)]).aa γ [.int .u64 c.toNat]).ao τ (9,1,pre.length)) (fun _=>True) rfl trivial ?_ ?_ ?_ ?_ ?_ ?_
 ·intro pre b;simp only [↓R1,RR,seval]
 ·intro pre b b';simp only [↓R1,RR,seval]
 ·intro pre b;exact hσ
 ·intro pre b L;simp only [↓R1,RR,seval]
 ·intro L r pre k b hL _ hk
  obtain ⟨rest,hr⟩:=hk
  have hlen:pre.length<64:=by
   have:=fY a
   rw [hr] at this
   simp at this
   omega
  have hk64:k<64:=pE (a:=a) (by rw [hr];simp)
  simp only [↓R1,RR,seval]
  have hm:pre.length+1≤maxLen:=NB
  repeat' ((first|((first|(refine bp (.inr rfl) rfl ?_ ?_ ?_ ?_ ?_ ?_;(first|rfl|exact St.aH _ _ _|(simp only [↓R1,RR,seval]));(first|omega|(simp only [RZ,b8,List.length_nil,List.length_cons];omega)|(simp only [RZ,b8,List.length_nil,List.length_cons]));(first|rfl|first|omega|(simp only [RZ,b8,List.length_nil,List.length_cons];omega)|(simp only [RZ,b8,List.length_nil,List.length_cons])))|(refine aV rfl ?_ ?_ ?_ ?_ ?_ ?_;(first|rfl|exact St.aH _ _ _|(simp only [↓R1,RR,seval]));(first|omega|(simp only [RZ,b8,List.length_nil,List.length_cons];omega)|(simp only [RZ,b8,List.length_nil,List.length_cons]));(first|rfl|first|omega|(simp only [RZ,b8,List.length_nil,List.length_cons];omega)|(simp only [RZ,b8,List.length_nil,List.length_cons])))|(refine appV_own ?_ ?_ ?_ ?_;exact aF Ni _)|(refine appD_own ?_ ?_ ?_ ?_ ?_;omega;exact aF Ni _)|(refine appV_fresh rfl trivial rfl ?_ ?_ ?_ ?_ ?_;(first|rfl|first|omega|(simp only [RZ,b8,List.length_nil,List.length_cons];omega)|(simp only [RZ,b8,List.length_nil,List.length_cons]));(first|rfl|first|omega|(simp only [RZ,b8,List.length_nil,List.length_cons];omega)|(simp only [RZ,b8,List.length_nil,List.length_cons])))|(refine appD_fresh rfl trivial rfl ?_ ?_ ?_ ?_ ?_ ?_;omega;(first|rfl|first|omega|(simp only [RZ,b8,List.length_nil,List.length_cons];omega)|(simp only [RZ,b8,List.length_nil,List.length_cons]));(first|rfl|first|omega|(simp only [RZ,b8,List.length_nil,List.length_cons];omega)|(simp only [RZ,b8,List.length_nil,List.length_cons]))));(unfold maxLen;omega);omega)|(refine Ct (J2 k MX) ?_))<;>(try simp only [↓R1,RR,seval]))
  all_goals first|omega|exact Nat.le_refl _|assumption|exact St.le_refl _|(intros;(repeat' (with_reducible apply And.intro))<;>first|omega|(simp only [RZ,b8];omega))|(simp only [av,slot,ae,↓R1,RR,seval];all_goals exact bE)|exact bu|(simp_all;done)|skip
  all_goals (try simp only [↓R1,RR,seval])
  refine ⟨_,?_,?_,rfl⟩
  rotate_left
  ·exact hL
  simp only [yi,List.length_append,↓R1,RR,seval]
 ·intro _
  simp only [↓R1,RR,seval]
  have hbl:=ox a
  refine ((J1 _ _ [44] _ (BN τ (cL a)) (by have:=fY a;simp;omega) (by rw [oJ];omega)).mono ?_)
  rintro _ _ ⟨rfl,rfl⟩
  rw [oJ]
  simp only [↓R1,RR,seval]
  refine ⟨by omega,?_,?_⟩
  ·omega
  (refine ak (ag ?_))
  (simp only [aq,↓R1,RR,seval])
  simp [cO]
open Go.Lib
def I64 (n:Int):Prop:= -9223372036854775808≤n∧n≤9223372036854775807
def gl3:List (Nat × List AV):= [(1,rS),(2,Ba)]
theorem EG {σ:St} (h:bR gl3 σ):bR gls σ:=fun k cs hk=>by
 simp only [gls,Go.Abs.look] at hk
 cases hb:Nat.beq k 1 with
 | false=>rw [hb] at hk;cases hk
 | true=>rw [hb] at hk;exact h k cs (by simp only [gl3,Go.Abs.look,hb];exact hk)
theorem PuG.up3 {f:Nat} {xs:List AV} {v:AV} (h:PuG Tryz.prog gls f xs v):PuG Tryz.prog gl3 f xs v:=fun σ hσ=>h σ (EG hσ)
theorem EH:Tryz.prog.globalNamed "internal/strconv.uint64pow10" =some 2:=MY
theorem J3:JM Tryz.prog 109 2 :=
 Ej (Go.Proofs.enters_of Tryz.func109 MY rfl) EH (fun n h0 h1 w ht=>Tryz.strconv_FormatInt_10 n h0 h1 w ht)
theorem Me (n:Int) (hn:I64 n):PuG Tryz.prog gl3 141 [.int .i64 n] (.str (itoa n)):=by
 intro σ hσ
 refine bf G5 K4 ?_
 simp only [G5,↓R1,RR,Nat.reduceEqDiff]
 refine AC.mono (J3 n σ hn.1 hn.2 (hσ _ _ rfl)) ?_
 rintro r s ⟨rfl,rfl⟩
 simp only [↓R1,RR,Nat.reduceEqDiff]
 (refine ak (ag ?_))
 (simp only [aq,↓R1,RR,Nat.reduceEqDiff])
def EI:List UInt8:= [65,66,67,68,69,70,71,72,73,74,75,76,77,78,79,80,81,82,83,84,85,86,87,88,89,90]
def cE (k:Int):List UInt8:=bif decide (k<0)||decide (26≤k) then [] else (EI.drop k.toNat).take 1
theorem J4 {k:Int} (h:(decide (k<0)||decide (26≤k))=false):(0≤k∧k<26)∧IntKind.i64.wrap (k+1)=k+1∧(k+1).toNat - k.toNat=1:=by
 simp only [Bool.or_eq_false_iff,decide_eq_false_iff_not] at h
 exact ⟨by omega,wrap64 MX MX,by omega⟩
theorem p53 (k:Int):Pu Tryz.prog 53 [.int .i64 k] (.tup [.str (cE k), .int .i64 (cz k)]):=by
 (refine al c53 b53 fun σ=>?_;simp only [c53,↓R1,RR,Nat.reduceEqDiff])
 refine an (fun hc=>?_) (fun hc=>?_)
 ·simp only [↓R1,RR,Nat.reduceEqDiff]
  (refine ak (ag ?_))
  (simp only [aq,↓R1,RR,Nat.reduceEqDiff])
  simp only [cE,cz,hc,cond_true]
 ·obtain ⟨h1,h2,h3⟩:=J4 hc
  simp only [h2,↓R1,RR,Nat.reduceEqDiff]
  simp only [h3]
  refine ⟨⟨by omega,by omega,by simp;omega⟩,?_⟩
  (refine ak (ag ?_))
  (simp only [aq,↓R1,RR,Nat.reduceEqDiff])
  simp only [cE,cz,hc,cond_false]
  rfl
theorem p59 (k:Int):Pu Tryz.prog 59 [.int .i64 k] (.tup [.str (cE k), .int .i64 (cz k)]):=by
 (refine al c59 b59 fun σ=>?_;simp only [c59,↓R1,RR,Nat.reduceEqDiff])
 refine an (fun hc=>?_) (fun hc=>?_)
 ·simp only [↓R1,RR,Nat.reduceEqDiff]
  (refine ak (ag ?_))
  (simp only [aq,↓R1,RR,Nat.reduceEqDiff])
  simp only [cE,cz,hc,cond_true]
 ·obtain ⟨h1,h2,h3⟩:=J4 hc
  simp only [h2,↓R1,RR,Nat.reduceEqDiff]
  simp only [h3]
  refine ⟨⟨by omega,by omega,by simp;omega⟩,?_⟩
  (refine ak (ag ?_))
  (simp only [aq,↓R1,RR,Nat.reduceEqDiff])
  simp only [cE,cz,hc,cond_false]
  rfl
def EJ (l:BitVec 64) (k v:Int):List UInt8:=bif cz k == 0 then BB l++UInt8.ofNat (IntKind.u8.wrap k).toNat::BB (BitVec.ofInt 64 v) else []
theorem J5 (k:Nat) (h:k<10):List.take 1 (List.drop k ([48,49,50,51,52,53,54,55,56,57]:List UInt8))= [UInt8.ofNat (48+k)]:=by
 rcases (by omega:k=0∨k=1∨k=2∨k=3∨k=4∨k=5∨k=6∨k=7∨k=8∨k=9) with rfl|rfl|rfl|rfl|rfl|rfl|rfl|rfl|rfl|rfl<;>rfl
theorem eF (n:Nat) (h:n<18446744073709551616):(decDigits n).length≤20:=by
  have:∀ (j:Nat) (n:Nat),n<10^(j+1)→(decDigits n).length≤j+1:=by
    intro j
    induction j with
    | zero=>intro n h;rw [decDigits,dif_pos MX];simp
    | succ j ih =>
      intro n h
      rw [decDigits]
      split
      · simp
      · have:=ih (n / 10) (by rw [Nat.pow_succ] at h;omega)
        simp only [List.length_append,List.length_cons,List.length_nil];omega
  exact this 19 n (Nat.lt_trans h Na)
theorem Mf (n:Nat):n<18446744073709551616→Pu Tryz.prog 193 [.int .u64 n] (.str (decDigits n)):=by
  induction n using Nat.strongRecOn with
  | _ n ih =>
    intro hn
    have hlt:decide ((n:Int)<10)=decide (n<10):=NJ
    (refine al Hp Lo fun σ=>?_;simp only [Hp,↓R1,RR,Nat.reduceEqDiff,Nat.reduceAdd,Nat.reduceLeDiff,Nat.reduceLT])
    simp only [hlt,↓R1,RR,Nat.reduceEqDiff,Nat.reduceAdd,Nat.reduceLeDiff,Nat.reduceLT]
    refine an (fun hc=>?_) (fun hc=>?_)
    · have h10:n<10:=by simpa using hc
      have hw:IntKind.u64.wrap ((n:Int)+1)=n+1:=NM
      have ht:((n:Int)+1).toNat - n=1:=MX
      simp only [hw,↓R1,RR,Nat.reduceEqDiff,Nat.reduceAdd,Nat.reduceLeDiff,Nat.reduceLT]
      simp only [ht,J5 n h10]
      refine ⟨⟨by omega,by omega,by simp;omega⟩,?_⟩
      (refine ak (ag ?_))
      (simp only [aq,↓R1,RR,Nat.reduceEqDiff,Nat.reduceAdd,Nat.reduceLeDiff,Nat.reduceLT])
      rw [decDigits,dif_pos h10]
    · have h10:¬ n<10:=by simpa using hc
      have hi:=ih (n / 10) MX MX
      have h1:Int.tdiv (n:Int) 10=((n / 10:Nat):Int):=rfl
      have h2:Int.tmod (n:Int) 10=((n % 10:Nat):Int):=rfl
      have h3:IntKind.u64.wrap ((n / 10:Nat):Int)=((n / 10:Nat):Int):=NM
      have h4:IntKind.u64.wrap (((n % 10:Nat):Int)+1)=((n % 10:Nat):Int)+1:=NM
      have ht:(((n % 10:Nat):Int)+1).toNat - n % 10=1:=MX
      have hd:=eF (n / 10) MX
      have hm:n % 10<10:=Nat.mod_lt _ Na
      simp only [h1,h2,h3,h4,↓R1,RR,Nat.reduceEqDiff,Nat.reduceAdd,Nat.reduceLeDiff,Nat.reduceLT]
      repeat' (first|(with_reducible refine And.intro ?_ ?_;(focus (first|omega|(intros;(repeat' (with_reducible apply And.intro))<;>first|omega|(simp only [List.length_append,List.length_cons,List.length_nil];omega)))))|(with_reducible apply And.intro)|((first|refine Pu.to (hi) (ad _) ?_|refine bo (hi) (ad _) ?_);(try simp only [↓R1,RR,Nat.reduceEqDiff,Nat.reduceAdd,Nat.reduceLeDiff,Nat.reduceLT])))
      all_goals (try simp only [h2,h4,Int.toNat_natCast,ht,J5 _ hm])
      all_goals first|omega|skip
      · simp only [List.length_cons,List.length_nil];omega
      · (refine ak (ag ?_))
        (simp only [aq,↓R1,RR,Nat.reduceEqDiff,Nat.reduceAdd,Nat.reduceLeDiff,Nat.reduceLT])
        rw [decDigits.eq_def n,dif_neg h10]
theorem cI (v:Int) (hv:I64 v):(itoa v).length≤21:=by
 unfold I64 at hv
 unfold itoa
 split
 ·have:=eF v.natAbs MX
  simp only [List.length_cons];omega
 ·have:=eF v.toNat MX
  omega
theorem dY (a:BitVec 64):(cO a).length≤194:=by
 have:=ox a
 simp only [cO,List.length_cons,List.length_append,List.length_nil];omega
theorem lx (k:Int):(cE k).length≤1:=by unfold cE;cases (decide (k<0)||decide (26≤k))<;>simp;omega
theorem wI (n:Int):IntKind.i64.wrap n=if 9223372036854775808≤n % 18446744073709551616 then n % 18446744073709551616 - 18446744073709551616 else n % 18446744073709551616:=by
 simp [IntKind.wrap,IntKind.bits,IntKind.signed]
theorem wU (n:Int):IntKind.u64.wrap n=n % 18446744073709551616:=by
 simp [IntKind.wrap,IntKind.bits,IntKind.signed]
theorem wU8 (n:Int):IntKind.u8.wrap n=n % 256:=by
 simp [IntKind.wrap,IntKind.bits,IntKind.signed]
def dg (c:UInt8):Bool:=decide (48≤c.toNat)&&decide (c.toNat≤57)
def J6 (a:Nat) (c:UInt8):Nat:=a*10+(c.toNat - 48)
def val (a:Nat) (l:List UInt8):Nat:=l.foldl J6 a
def Ia (s:List UInt8):Bool:=s == []||(decide ((1:Int)<s.length)&&((((s[0]?).getD 0).toNat:Nat):Int) == 48)
def J7 (s:List UInt8):Bool:= !Ia s&&s.all dg
def vC:List UInt8→UInt8→Nat
 | [],_=>0
 | x::l,c=>bif x == c then 0 else vC l c+1
def J8 (s:List UInt8):Bool:=s.all dg&&decide (s.length≤20)&&decide (val 0 s<18446744073709551616)
def J9 (s:List UInt8):Nat:=bif J8 s then val 0 s else 0
def Mg (s:List UInt8):Bool:=J7 s&&decide (val 0 s<18446744073709551616)
theorem uB {n:Int}:(idE n == 0)=(decide (1≤n)&&decide (n≤1099511627776)):=by
 simp only [idE,Bool.cond_eq_ite];grind
def dL (l:BitVec 64) (n:Int):List UInt8:=bif idE n == 0 then cO l++ [35]++decDigits n.toNat else []
theorem jX (n:Nat):itoa (n:Int)=decDigits n:=by unfold itoa;rw [if_neg MX];simp
theorem uC (l:BitVec 64) (n:Int):(dL l n).length≤300:=by
  unfold dL
  cases h:(idE n == 0) with
  | false=>simp
  | true =>
    rw [uB] at h
    simp only [Bool.and_eq_true,decide_eq_true_eq] at h
    have h1:=dY l
    have h2:=eF n.toNat MX
    simp only [cond_true,List.length_append,List.length_cons,List.length_nil];omega
theorem Mh (l:BitVec 64) (n:Int):Pu Tryz.prog 143 [.agg [.int .u64 l.toNat, .int .u64 n]] (.tup [.str (dL l n), .int .i64 (idE n)]):=by
 have h0:=Md l.toNat n
 have h1:=p58 l
 have l1:=dY l
 by_cases he:idE n=0
 ·have hb:(idE n == 0)=true:=by simpa using he
  rw [uB] at hb
  simp only [Bool.and_eq_true,decide_eq_true_eq] at hb
  obtain ⟨m,rfl⟩:=Int.eq_ofNat_of_zero_le (show 0≤n by omega)
  have h2:=Mf m MX
  have hx:(cO l).length≤194:=l1
  have l2:=eF m MX
  have ht:dL l m=cO l++ [35]++decDigits m:=by simp [dL,he]
  rw [he] at h0 ⊢
  rw [ht]
  (refine al Bi JR fun σ=>?_;simp only [Bi,↓R1,RR,seval,hx])
  repeat' (first|((first|refine an (fun hc=>?_) (fun hc=>?_)|(with_reducible intro β hβ;(try simp only [St.aE,St.bw,St.bI,St.bJ,St.cn,St.cw] at hβ);(repeat (obtain ⟨⟨_,_⟩,hβ⟩:=hβ));(try (have hbis:=ah M0 hβ;obtain ⟨_,_⟩:=hbis))))<;>(try simp only [↓R1,RR,seval,hx]))|(with_reducible refine And.intro ?_ ?_;(focus (first|omega|(intros;(repeat' (with_reducible apply And.intro))<;>first|omega|(simp only [List.length_append,List.length_cons,List.length_nil];omega)))))|((first|refine Pu.to (h0) (ad _) ?_|refine bo (h0) (ad _) ?_|refine Pu.to (h1) (ad _) ?_|refine bo (h1) (ad _) ?_|refine Pu.to (h2) (ad _) ?_|refine bo (h2) (ad _) ?_);(try simp only [↓R1,RR,seval,hx])))
  all_goals (refine ak (ag ?_))
  all_goals (simp only [aq,↓R1,RR,seval,hx])
 ·have hb:(idE n == 0)=false:=by simpa using he
  have hx:(idE n != 0)=true:=by simpa using he
  have ht:dL l n= []:=by simp [dL,hb]
  rw [ht]
  (refine al Bi JR fun σ=>?_;simp only [Bi,↓R1,RR,seval,hx])
  repeat' (first|((first|refine an (fun hc=>?_) (fun hc=>?_)|(with_reducible intro β hβ;(try simp only [St.aE,St.bw,St.bI,St.bJ,St.cn,St.cw] at hβ);(repeat (obtain ⟨⟨_,_⟩,hβ⟩:=hβ));(try (have hbis:=ah M0 hβ;obtain ⟨_,_⟩:=hbis))))<;>(try simp only [↓R1,RR,seval,hx]))|((first|refine Pu.to (h0) (ad _) ?_|refine bo (h0) (ad _) ?_);(try simp only [↓R1,RR,seval,hx])))
  all_goals (refine ak (ag ?_))
  all_goals (simp only [aq,↓R1,RR,seval,hx])
theorem _root_.Nl {p:Prop} (h:p:=by unfold I64;omega):p:=h
theorem p76 (l:BitVec 64) (n:Int):PuG Tryz.prog gl3 76 [.agg [.int .u64 l.toNat, .int .u64 n]] (.tup [.str (dL l n), .int .i64 (idE n)]):=by
 have h0:=Mc l.toNat n
 have h1:=PuG.up3 (p51 l)
 have l1:=dY l
 by_cases he:idE n=0
 ·have hb:(idE n == 0)=true:=by simpa using he
  rw [uB] at hb
  simp only [Bool.and_eq_true,decide_eq_true_eq] at hb
  obtain ⟨m,rfl⟩:=Int.eq_ofNat_of_zero_le (show 0≤n by omega)
  have hx:IntKind.i64.wrap (m:Int)=m:=wrap64 MX MX
  have h2:=Me m Nl
  rw [jX] at h2
  have l2:=eF m MX
  have ht:dL l m=cO l++ [35]++decDigits m:=by simp [dL,he]
  rw [he] at h0 ⊢
  rw [ht]
  (refine aR c76 b76 fun σ hσ=>?_;simp only [c76,↓R1,RR,seval,hx])
  repeat' (first|((first|refine an (fun hc=>?_) (fun hc=>?_)|(with_reducible intro β hβ;(try simp only [St.aE,St.bw,St.bI,St.bJ,St.cn,St.cw] at hβ);(repeat (obtain ⟨⟨_,_⟩,hβ⟩:=hβ));(try (have hbis:=ah M0 hβ;obtain ⟨_,_⟩:=hbis))))<;>(try simp only [↓R1,RR,seval,hx]))|(with_reducible refine And.intro ?_ ?_;(focus (first|omega|(intros;(repeat' (with_reducible apply And.intro))<;>first|omega|(simp only [List.length_append,List.length_cons,List.length_nil];omega)))))|((first|refine Pu.to (h0) (ad _) ?_|refine bo (h0) (ad _) ?_|refine a7 (h1) hσ (ad _) ?_|refine a7 (h2) hσ (ad _) ?_);(try simp only [↓R1,RR,seval,hx])))
  all_goals (refine ak (ag ?_))
  all_goals (simp only [aq,↓R1,RR,seval,hx])
 ·have hb:(idE n == 0)=false:=by simpa using he
  have hx:(idE n != 0)=true:=by simpa using he
  have ht:dL l n= []:=by simp [dL,hb]
  rw [ht]
  (refine aR c76 b76 fun σ hσ=>?_;simp only [c76,↓R1,RR,seval,hx])
  repeat' (first|((first|refine an (fun hc=>?_) (fun hc=>?_)|(with_reducible intro β hβ;(try simp only [St.aE,St.bw,St.bI,St.bJ,St.cn,St.cw] at hβ);(repeat (obtain ⟨⟨_,_⟩,hβ⟩:=hβ));(try (have hbis:=ah M0 hβ;obtain ⟨_,_⟩:=hbis))))<;>(try simp only [↓R1,RR,seval,hx]))|((first|refine Pu.to (h0) (ad _) ?_|refine bo (h0) (ad _) ?_);(try simp only [↓R1,RR,seval,hx])))
  all_goals (refine ak (ag ?_))
  all_goals (simp only [aq,↓R1,RR,seval,hx])
def hS (s:List UInt8) (c:UInt8):List UInt8:=s.take (vC s c)
def tS (s:List UInt8) (c:UInt8):List UInt8:=s.drop (vC s c+1)
def Ka (s:List UInt8):Bool:=decide ((pG (hS s 35)).err=0)&&decide (vC s 35<s.length)&&Mg (tS s 35)&&(idE (J9 (tS s 35)) == 0)
def Mj (s:List UInt8):Int:=bif Ka s then 0 else 3
end Go.Proofs.YtgephffbfiemeaaGreatDoor
namespace Go.Proofs.YtgephffbfiemeaaGreatDoor
open Go.Abs Go.Lib
set_option linter.all false
set_option maxRecDepth 100000
structure Rd where
 s:List UInt8
 at_:Nat
 e:Int
 fa:Nat
def cRd (r:Rd):List AV:= [.str r.s, .int .i64 r.at_, .int .i64 r.e, .int .i64 r.fa]
structure Rd.Ok (r:Rd):Prop where
 len:r.s.length≤1000000
 at_:r.at_≤r.s.length
 e:0≤r.e∧r.e≤23
 fa:r.fa≤r.s.length
 no:r.e=0→r.fa=0
theorem St.jY {σ:St} {β γ:Nat} {c d:List AV} (h:Apart β γ) (hn:σ.box γ=none):St.le (σ.aa β c) ((σ.aa γ d).aa β c):=by
 rw [St.set_comm σ (Ne.symm h.ne)]
 exact St.az (St.le_refl _) (St.rq.2 ⟨(Ne.symm h.ne),hn⟩)
theorem EK {res:List RV} {e1:Exit} {fr:Fr} {σ0 σ:St} {cs:List AV} (β:Nat) (hβ:σ0.box β=none) (he:e1= .ret∨e1= .normal) (hs:ax σ fr res) (hw:eU (res.map (rvV σ fr))= .ptr β 0) (hl:St.le (σ0.aa β cs) σ) :
  fQ res (fun r s=>∃ β,σ0.box β=none∧r= .ptr β 0∧s=σ0.aa β cs) e1 fr σ:=aG he hs (ag hw) hl ⟨β,hβ,rfl,rfl⟩
theorem _root_.M5 {p:Prop} (h:p:=by first|(simp [ax,rvS];done)|(simp only [ax,rvS,↓R1,RR,Nat.reduceEqDiff,Nat.reduceAdd,Nat.reduceLeDiff,Nat.reduceLT];try simp)):p:=h
theorem Mk (s:List UInt8):Pu Tryz.prog 135 [.str s] (.agg (cRd ⟨s,0,0,0⟩)):=by
 (refine al GZ KY fun σ=>?_;simp only [GZ,↓R1,RR,Nat.reduceEqDiff,Nat.reduceAdd,Nat.reduceLeDiff,Nat.reduceLT])
 repeat' (first|(with_reducible rw [ai])|((first|refine an (fun hc=>?_) (fun hc=>?_)|(with_reducible intro β hβ;(try simp only [St.aE,St.bw,St.bI,St.bJ,St.cn,St.cw] at hβ);(repeat (obtain ⟨⟨_,_⟩,hβ⟩:=hβ));(try (have hbis:=ah M0 hβ;obtain ⟨_,_⟩:=hbis))))<;>(try simp only [↓R1,RR,Nat.reduceEqDiff,Nat.reduceAdd,Nat.reduceLeDiff,Nat.reduceLT])))
 (refine ak (ag ?_) M5)
 (simp only [aq,↓R1,RR,Nat.reduceEqDiff,Nat.reduceAdd,Nat.reduceLeDiff,Nat.reduceLT])
 rfl
theorem Ib (r:Rd) (h:r.Ok):Bx Tryz.prog 189 [.agg (cRd r)] (cRd r):=by
 obtain ⟨s,a,e,f⟩:=r
 obtain ⟨h1,h2,h3,h4,h5⟩:=h
 simp only [cRd] at *
 intro σ
 (refine bf Hl Lk ?_;simp only [Hl,↓R1,RR,Nat.reduceEqDiff,Nat.reduceAdd,Nat.reduceLeDiff,Nat.reduceLT])
 repeat' (first|((first|refine an (fun hc=>?_) (fun hc=>?_)|(with_reducible intro β hβ;(try simp only [St.aE,St.bw,St.bI,St.bJ,St.cn,St.cw] at hβ);(repeat (obtain ⟨⟨_,_⟩,hβ⟩:=hβ));(try (have hbis:=ah M0 hβ;obtain ⟨_,_⟩:=hbis))))<;>(try simp only [↓R1,RR,Nat.reduceEqDiff,Nat.reduceAdd,Nat.reduceLeDiff,Nat.reduceLT])))
 all_goals first|(exfalso;simp at hc hc_1;omega)|skip
 all_goals first|(exfalso;simp at *;omega)|skip
 all_goals (refine EK _ hβ M1 Nd (by (simp only [aq,↓R1,RR,Nat.reduceEqDiff,Nat.reduceAdd,Nat.reduceLeDiff,Nat.reduceLT])) (St.jY M0 M0))
theorem Ml (n:Int):Pu Tryz.prog 231 [.int .i64 n] (.bool ((n == 1||n == 2)||n == 4||n == 8)):=by
 (refine al Hy Ly fun σ=>?_;simp only [Hy,↓R1,RR,Nat.reduceEqDiff,Nat.reduceAdd,Nat.reduceLeDiff,Nat.reduceLT])
 skip
 all_goals first|(exfalso;simp_all;done)|((refine ak (ag ?_));(simp only [aq,↓R1,RR,Nat.reduceEqDiff,Nat.reduceAdd,Nat.reduceLeDiff,Nat.reduceLT]);done)
theorem St.r9 {σ:St} {β:Nat} {c:List AV} (h:σ.box β=some c):σ.aa β c=σ:=by
 obtain ⟨b,t,g,l⟩:=σ
 simp only [St.aa,St.mk.injEq,and_true]
 funext j
 simp only [upd]
 split
 ·rename_i e;subst e;exact h.symm
 ·rfl
theorem EL (σ:St) (β:Nat) (r:Rd) (h:σ.box β=some (cRd r)):AC Tryz.prog 232 [.ptr β 0] σ (fun x s=>x= .bool (r.e == 0)∧s=σ):=by
 simp only [cRd] at h
 (refine bf Hz Lz ?_;simp only [Hz,↓R1,RR,Nat.reduceEqDiff,Nat.reduceAdd,Nat.reduceLeDiff,Nat.reduceLT,h])
 skip
 (refine ak (ag ?_))
 (simp only [aq,↓R1,RR,Nat.reduceEqDiff,Nat.reduceAdd,Nat.reduceLeDiff,Nat.reduceLT,h])
def dO (r:Rd) (e:Int) (a:Nat):Rd:=bif r.e == 0 then { r with e:=e,fa:=a } else r
theorem Ic (σ:St) (β:Nat) (r:Rd) (e:Int) (a:Nat) (h:σ.box β=some (cRd r)):AC Tryz.prog 190 [.ptr β 0, .int .i64 e, .int .i64 a] σ (fun x s=>s=σ.aa β (cRd (dO r e a))):=by
 have hf:=EL σ β r h
 have hs:=St.r9 h
 simp only [cRd] at h
 (refine bf Hm Ll ?_;simp only [Hm,↓R1,RR,Nat.reduceEqDiff,Nat.reduceAdd,Nat.reduceLeDiff,Nat.reduceLT,h])
 refine AC.mono hf ?_
 rintro _ _ ⟨rfl,rfl⟩
 simp only [↓R1,RR,Nat.reduceEqDiff,Nat.reduceAdd,Nat.reduceLeDiff,Nat.reduceLT,h]
 refine an (fun hc=>?_) (fun hc=>?_)
 ·simp only [↓R1,RR,Nat.reduceEqDiff,Nat.reduceAdd,Nat.reduceLeDiff,Nat.reduceLT,h]
  skip
  refine aG M1 Nd (ae _) (St.le_refl _) ?_
  simp only [dO,hc,cond_true,cRd]
 ·simp only [↓R1,RR,Nat.reduceEqDiff,Nat.reduceAdd,Nat.reduceLeDiff,Nat.reduceLT,h]
  refine aG M1 Nd (ae _) (St.le_refl _) ?_
  simp only [dO,hc,cond_false]
  exact hs.symm
theorem Mm (s:List UInt8) (hs:s.length≤maxLen):Pu Tryz.prog 234 [.str s] (.int .u64 (s.foldl mG 0#64).toNat):=by
 have hm:=oA
 have hbs:∀ k,k<s.length→List.take 1 (List.drop (k*1) (s.map fun b=>AV.int .u8 b.toNat))= [.int .u8 (s[k]?.getD 0).toNat]:=fun k hk=>by
  rw [L9 (fun b:UInt8=>AV.int .u8 b.toNat) s k hk]
  simp [hk]
 (refine al HB LB fun σ=>?_;simp only [HB,↓R1,RR,Nat.reduceEqDiff,Nat.reduceAdd,Nat.reduceLeDiff,Nat.reduceLT])
 refine aQ s.length (fun k=> [(3, .int .u64 ((s.take k).foldl mG 0#64).toNat),(7, .sl false s.length (s.map fun b=>AV.int .u8 b.toNat)),(8, .int .i64 s.length),(9, .int .i64 k)]) (fun _=>σ) (fun _=>True) M8 (St.le_refl _) trivial (fun k hk _=>?_)
 simp only [BA,↓R1,RR,Nat.reduceEqDiff,Nat.reduceAdd,Nat.reduceLeDiff,Nat.reduceLT]
 refine an (fun hc=>?_) (fun hc=>?_)
 ·have hlt:k<s.length:=by simpa using hc
  have hfo:=mF mG 0#64 s k hlt
  have hak:=J0 (s:=s) (k:=k) hlt
  have hgt:=hbs k hlt
  simp only [hgt,↓R1,RR,Nat.reduceEqDiff,Nat.reduceAdd,Nat.reduceLeDiff,Nat.reduceLT]
  repeat' (first|(with_reducible refine And.intro ?_ ?_;(focus (first|omega|(intros;(repeat' (with_reducible apply And.intro))<;>first|omega|(simp only [List.length_append,List.length_cons,List.length_nil];omega)))))|(with_reducible apply And.intro))
  all_goals (try simp only [hgt,↓R1,RR,Nat.reduceEqDiff,Nat.reduceAdd,Nat.reduceLeDiff,Nat.reduceLT])
  ·simp;omega
  ·simp only [av,slot,ae,hak,FD,hfo,↓R1,RR,Nat.reduceEqDiff,Nat.reduceAdd,Nat.reduceLeDiff,Nat.reduceLT];exact tQ MX
  ·exact St.le_refl _
 ·have:k=s.length:=by simp at hc;omega
  subst this
  simp only [List.take_length,↓R1,RR,Nat.reduceEqDiff,Nat.reduceAdd,Nat.reduceLeDiff,Nat.reduceLT]
  (refine ak (ag ?_))
  (simp only [aq,↓R1,RR,Nat.reduceEqDiff,Nat.reduceAdd,Nat.reduceLeDiff,Nat.reduceLT])
def cd (r:Rd) (n:Nat):Rd:=bif r.e == 0 then (bif decide (r.s.length<r.at_+n) then { r with e:=5,fa:=r.at_ } else { r with at_:=r.at_+n }) else r
def cX (r:Rd) (n:Nat):List UInt8:=bif r.e == 0 then (bif decide (r.s.length<r.at_+n) then [] else (r.s.drop r.at_).take n) else []
theorem Mn (σ:St) (β:Nat) (r:Rd) (n:Nat) (hn:n≤8) (ho:r.Ok) (h:σ.box β=some (cRd r)):AC Tryz.prog 233 [.ptr β 0, .int .i64 (n:Nat)] σ (fun x s=>x= .str (cX r n)∧s=σ.aa β (cRd (cd r n))):=by
 have h0:=h
 have hsf:=St.r9 h
 have hl:=ho.len
 have ha:=ho.at_
 have hn0:decide ((n:Int)<0)=false:=M1
 have hgt:decide (IntKind.i64.wrap ((r.s.length:Int) - r.at_)<(n:Int))=decide (r.s.length<r.at_+n):=by
  rw [wrap64 MX MX,Bool.eq_iff_iff];simp;omega
 simp only [cRd] at h
 (refine bf HA LA ?_;simp only [HA,↓R1,RR,Nat.reduceEqDiff,Nat.reduceAdd,Nat.reduceLeDiff,Nat.reduceLT,h,hn0,hgt])
 refine an (fun hc=>?_) (fun hc=>?_)
 ·simp only [↓R1,RR,Nat.reduceEqDiff,Nat.reduceAdd,Nat.reduceLeDiff,Nat.reduceLT,h,hn0,hgt]
  refine AC.mono (Ic σ β r 5 r.at_ h0) ?_
  rintro _ _ rfl
  simp only [↓R1,RR,Nat.reduceEqDiff,Nat.reduceAdd,Nat.reduceLeDiff,Nat.reduceLT,h,hn0,hgt]
  refine AC.mono (EL _ β (dO r 5 r.at_) (St.bN _ _ _)) ?_
  rintro _ _ ⟨rfl,rfl⟩
  have hf:((dO r 5 r.at_).e == 0)=false:=by unfold dO;cases he:r.e == 0<;>simp [he]
  have ht:cd r n=dO r 5 r.at_:=by simp only [cd,dO,hc,cond_true]
  have hs:cX r n= []:=by simp only [cX,hc,cond_true];cases r.e == 0<;>rfl
  simp only [hf,↓R1,RR,Nat.reduceEqDiff,Nat.reduceAdd,Nat.reduceLeDiff,Nat.reduceLT,h,hn0,hgt]
  rw [ht,hs]
  refine aG M1 Nd (ae _) (St.le_refl _) ⟨?_,rfl⟩
  (simp only [aq,↓R1,RR,Nat.reduceEqDiff,Nat.reduceAdd,Nat.reduceLeDiff,Nat.reduceLT,h,hn0,hgt])
 ·simp only [↓R1,RR,Nat.reduceEqDiff,Nat.reduceAdd,Nat.reduceLeDiff,Nat.reduceLT,h,hn0,hgt]
  refine AC.mono (EL _ β r h0) ?_
  rintro _ _ ⟨rfl,rfl⟩
  simp only [↓R1,RR,Nat.reduceEqDiff,Nat.reduceAdd,Nat.reduceLeDiff,Nat.reduceLT,h,hn0,hgt]
  refine an (fun hc2=>?_) (fun hc2=>?_)
  ·have he:(r.e == 0)=false:=by simpa using hc2
   have ht:cd r n=r:=by simp only [cd,he,cond_false]
   have hs:cX r n= []:=by simp only [cX,he,cond_false]
   simp only [↓R1,RR,Nat.reduceEqDiff,Nat.reduceAdd,Nat.reduceLeDiff,Nat.reduceLT,h,hn0,hgt]
   rw [ht,hs,hsf]
   refine aG M1 Nd (ae _) (St.le_refl _) ⟨?_,rfl⟩
   (simp only [aq,↓R1,RR,Nat.reduceEqDiff,Nat.reduceAdd,Nat.reduceLeDiff,Nat.reduceLT,h,hn0,hgt])
  ·have he:(r.e == 0)=true:=by simpa using hc2
   have ht:cd r n={ r with at_:=r.at_+n }:=by simp only [cd,he,hc,cond_true,cond_false]
   have hs:cX r n=(r.s.drop r.at_).take n:=by simp only [cX,he,hc,cond_true,cond_false]
   have hlt:r.at_+n≤r.s.length:=Nu
   have hw:IntKind.i64.wrap ((r.at_:Int)+n)=((r.at_+n:Nat):Int):=MZ
   have hw2:IntKind.i64.wrap (((r.at_+n:Nat):Int) - n)=(r.at_:Int):=MZ
   simp only [hw,hw2,↓R1,RR,Nat.reduceEqDiff,Nat.reduceAdd,Nat.reduceLeDiff,Nat.reduceLT,h,hn0,hgt]
   repeat' (first|(with_reducible refine And.intro ?_ ?_;(focus (first|omega|(intros;(repeat' (with_reducible apply And.intro))<;>first|omega|(simp only [List.length_append,List.length_cons,List.length_nil];omega))))))
   rw [ht,hs,Nat.add_sub_cancel_left]
   refine aG M1 Nd (ae _) (St.le_refl _) ⟨?_,rfl⟩
   (simp only [aq,↓R1,RR,Nat.reduceEqDiff,Nat.reduceAdd,Nat.reduceLeDiff,Nat.reduceLT,h,hn0,hgt])
end Go.Proofs.YtgephffbfiemeaaGreatDoor
namespace Go.Proofs.YtgephffbfiemeaaGreatDoor
open Go.Abs Go.Lib
set_option linter.all false
set_option maxRecDepth 100000
theorem mQ {r:Rd} (h:r.Ok) (n:Nat):(cd r n).Ok:=by
  obtain ⟨h1,h2,h3,h4,h5⟩:=h
  unfold cd
  cases he:(r.e == 0) with
  | false=>exact ⟨h1,h2,h3,h4,h5⟩
  | true =>
    cases hc:decide (r.s.length<r.at_+n) with
    | true=>exact ⟨h1,h2,⟨by simp,by simp⟩,h2,fun h=>by simp at h⟩
    | false=>exact ⟨h1,by simpa using hc,h3,h4,h5⟩
theorem BO {r:Rd} (h:r.Ok) (e:Int) (a:Nat) (he:1≤e∧e≤23) (ha:a≤r.s.length):(dO r e a).Ok:=by
 obtain ⟨h1,h2,h3,h4,h5⟩:=h
 unfold dO
 cases (r.e == 0) with
 | false=>exact ⟨h1,h2,h3,h4,h5⟩
 | true=>exact ⟨h1,h2,⟨by simp;omega,by simp;omega⟩,ha,fun h=>by simp at h;omega⟩
theorem yj (r:Rd) (n:Nat):(cX r n).length≤n:=by
 unfold cX
 cases (r.e == 0)<;>cases decide (r.s.length<r.at_+n)<;>simp<;>omega
theorem vD (r:Rd) (n:Nat):(cd r n).s=r.s:=by
 unfold cd
 cases (r.e == 0)<;>cases decide (r.s.length<r.at_+n)<;>rfl
def iW (s:List UInt8):BitVec 64:=s.foldl mG 0#64
theorem Mo (r:Rd) (n:Nat) (ho:r.Ok) (hn:n=1∨n=8):Pu Tryz.prog 188 [.agg (cRd r), .int .i64 (n:Nat)] (.tup [.agg (cRd (cd r n)), .int .u64 (iW (cX r n)).toNat]):=by
 have hu:=Ib r ho
 have hz:=Ml (n:Int)
 have hz1:(((n:Int) == 1||(n:Int) == 2)||(n:Int) == 4||(n:Int) == 8)=true:=by rcases hn with rfl|rfl<;>rfl
 rw [hz1] at hz
 have hnum:=Mm (cX r n) (by have:=yj r n;unfold maxLen;omega)
 simp only [cRd] at hu
 (refine al Hk Lj fun σ=>?_;simp only [Hk,↓R1,RR,Nat.reduceEqDiff,Nat.reduceAdd,Nat.reduceLeDiff,Nat.reduceLT])
 simp only [cRd,↓R1,RR,Nat.reduceEqDiff,Nat.reduceAdd,Nat.reduceLeDiff,Nat.reduceLT]
 repeat' (first|(with_reducible rw [ai])|((first|refine an (fun hc=>?_) (fun hc=>?_)|(with_reducible intro β hβ;(try simp only [St.aE,St.bw,St.bI,St.bJ,St.cn,St.cw] at hβ);(repeat (obtain ⟨⟨_,_⟩,hβ⟩:=hβ));(try (have hbis:=ah M0 hβ;obtain ⟨_,_⟩:=hbis))))<;>(try simp only [↓R1,RR,Nat.reduceEqDiff,Nat.reduceAdd,Nat.reduceLeDiff,Nat.reduceLT]))|((first|refine Pu.to (hz) (ad _) ?_|refine bo (hz) (ad _) ?_);(try simp only [↓R1,RR,Nat.reduceEqDiff,Nat.reduceAdd,Nat.reduceLeDiff,Nat.reduceLT]))|(refine Bx.to (hu) (ad _) ?_;intro β hβ;(try simp only [St.aE,St.bw,St.bI,St.bJ,St.cn,St.cw] at hβ);(repeat (obtain ⟨⟨_,_⟩,hβ⟩:=hβ));(try (have hbis:=ah M0 hβ;obtain ⟨_,_⟩:=hbis));(try simp only [↓R1,RR,Nat.reduceEqDiff,Nat.reduceAdd,Nat.reduceLeDiff,Nat.reduceLT])))
 refine AC.mono (EL _ β r (St.bN _ _ _)) ?_
 rintro _ _ ⟨rfl,rfl⟩
 simp only [↓R1,RR,Nat.reduceEqDiff,Nat.reduceAdd,Nat.reduceLeDiff,Nat.reduceLT]
 refine an (fun hc=>?_) (fun hc=>?_)
 ·have he:(r.e == 0)=false:=by simpa using hc
  have ht:cd r n=r:=by simp only [cd,he,cond_false]
  have hs:cX r n= []:=by simp only [cX,he,cond_false]
  rw [ht,hs]
  simp only [↓R1,RR,Nat.reduceEqDiff,Nat.reduceAdd,Nat.reduceLeDiff,Nat.reduceLT]
  skip
  (refine ak (ag ?_) M5)
  (simp only [aq,↓R1,RR,Nat.reduceEqDiff,Nat.reduceAdd,Nat.reduceLeDiff,Nat.reduceLT])
  rfl
 ·simp only [↓R1,RR,Nat.reduceEqDiff,Nat.reduceAdd,Nat.reduceLeDiff,Nat.reduceLT]
  refine AC.mono (Mn _ β r n MX ho (St.bN _ _ _)) ?_
  rintro _ _ ⟨rfl,rfl⟩
  simp only [cRd,↓R1,RR,Nat.reduceEqDiff,Nat.reduceAdd,Nat.reduceLeDiff,Nat.reduceLT]
  repeat' (first|((first|refine Pu.to (hnum) (ad _) ?_|refine bo (hnum) (ad _) ?_);(try simp only [↓R1,RR,Nat.reduceEqDiff,Nat.reduceAdd,Nat.reduceLeDiff,Nat.reduceLT])))
  (refine ak (ag ?_) M5)
  (simp only [aq,↓R1,RR,Nat.reduceEqDiff,Nat.reduceAdd,Nat.reduceLeDiff,Nat.reduceLT])
  rfl
theorem Mp (r:Rd) (ho:r.Ok):Pu Tryz.prog 138 [.agg (cRd r), .int .i64 11, .int .i64 8] (.agg (cRd (dO r 11 (min 8 r.s.length)))):=by
 have hu:=Ib r ho
 have hm:(if (r.s.length:Int)<(if (0:Int)>8 then (0:Int) else 8) then (r.s.length:Int) else (if (0:Int)>8 then (0:Int) else 8))=((min 8 r.s.length:Nat):Int):=by
  rw [if_neg (by decide:¬ (0:Int)>8)];split<;>omega
 simp only [cRd] at hu
 (refine al G2 K1 fun σ=>?_;simp only [G2,↓R1,RR,Nat.reduceEqDiff,Nat.reduceAdd,Nat.reduceLeDiff,Nat.reduceLT])
 simp only [cRd,↓R1,RR,Nat.reduceEqDiff,Nat.reduceAdd,Nat.reduceLeDiff,Nat.reduceLT]
 repeat' (first|(with_reducible rw [ai])|((first|refine an (fun hc=>?_) (fun hc=>?_)|(with_reducible intro β hβ;(try simp only [St.aE,St.bw,St.bI,St.bJ,St.cn,St.cw] at hβ);(repeat (obtain ⟨⟨_,_⟩,hβ⟩:=hβ));(try (have hbis:=ah M0 hβ;obtain ⟨_,_⟩:=hbis))))<;>(try simp only [↓R1,RR,Nat.reduceEqDiff,Nat.reduceAdd,Nat.reduceLeDiff,Nat.reduceLT]))|(refine Bx.to (hu) (ad _) ?_;intro β hβ;(try simp only [St.aE,St.bw,St.bI,St.bJ,St.cn,St.cw] at hβ);(repeat (obtain ⟨⟨_,_⟩,hβ⟩:=hβ));(try (have hbis:=ah M0 hβ;obtain ⟨_,_⟩:=hbis));(try simp only [↓R1,RR,Nat.reduceEqDiff,Nat.reduceAdd,Nat.reduceLeDiff,Nat.reduceLT])))
 ·exfalso;revert hc;decide
 rw [hm]
 refine AC.mono (Ic _ β r 11 (min 8 r.s.length) (St.bN _ _ _)) ?_
 rintro _ _ rfl
 simp only [cRd,↓R1,RR,Nat.reduceEqDiff,Nat.reduceAdd,Nat.reduceLeDiff,Nat.reduceLT]
 (refine ak (ag ?_) M5)
 (simp only [aq,↓R1,RR,Nat.reduceEqDiff,Nat.reduceAdd,Nat.reduceLeDiff,Nat.reduceLT])
def ez (r:Rd):Rd:=bif decide (r.at_<r.s.length) then dO r 4 r.at_ else r
theorem Mq (r:Rd) (ho:r.Ok):Pu Tryz.prog 139 [.agg (cRd r)] (.agg [.int .i64 (ez r).e, .int .i64 (ez r).fa]):=by
 have hu:=Ib r ho
 have hlt:decide ((r.at_:Int)<(r.s.length:Int))=decide (r.at_<r.s.length):=M1
 simp only [cRd] at hu
 (refine al G3 K2 fun σ=>?_;simp only [G3,↓R1,RR,Nat.reduceEqDiff,Nat.reduceAdd,Nat.reduceLeDiff,Nat.reduceLT])
 simp only [cRd,↓R1,RR,Nat.reduceEqDiff,Nat.reduceAdd,Nat.reduceLeDiff,Nat.reduceLT]
 repeat' (first|(with_reducible rw [ai])|((first|refine an (fun hc=>?_) (fun hc=>?_)|(with_reducible intro β hβ;(try simp only [St.aE,St.bw,St.bI,St.bJ,St.cn,St.cw] at hβ);(repeat (obtain ⟨⟨_,_⟩,hβ⟩:=hβ));(try (have hbis:=ah M0 hβ;obtain ⟨_,_⟩:=hbis))))<;>(try simp only [↓R1,RR,Nat.reduceEqDiff,Nat.reduceAdd,Nat.reduceLeDiff,Nat.reduceLT]))|(refine Bx.to (hu) (ad _) ?_;intro β hβ;(try simp only [St.aE,St.bw,St.bI,St.bJ,St.cn,St.cw] at hβ);(repeat (obtain ⟨⟨_,_⟩,hβ⟩:=hβ));(try (have hbis:=ah M0 hβ;obtain ⟨_,_⟩:=hbis));(try simp only [↓R1,RR,Nat.reduceEqDiff,Nat.reduceAdd,Nat.reduceLeDiff,Nat.reduceLT])))
 ·have he:ez r=dO r 4 r.at_:=by rw [hlt] at hc;simp only [ez,hc,cond_true]
  refine AC.mono (Ic _ β r 4 r.at_ (St.bN _ _ _)) ?_
  rintro _ _ rfl
  rw [he]
  simp only [cRd,↓R1,RR,Nat.reduceEqDiff,Nat.reduceAdd,Nat.reduceLeDiff,Nat.reduceLT]
  (refine ak (ag ?_) M5)
  (simp only [aq,↓R1,RR,Nat.reduceEqDiff,Nat.reduceAdd,Nat.reduceLeDiff,Nat.reduceLT])
 ·have he:ez r=r:=by rw [hlt] at hc;simp only [ez,hc,cond_false]
  rw [he]
  (refine ak (ag ?_) M5)
  (simp only [aq,↓R1,RR,Nat.reduceEqDiff,Nat.reduceAdd,Nat.reduceLeDiff,Nat.reduceLT])
theorem EM (σ:St) (β:Nat) (r:Rd) (n:Nat) (l k v:Int) (ho:r.Ok) (hn:n=1∨n=8) (h:σ.box β=some [.str r.s, .int .i64 r.at_, .int .i64 r.e, .int .i64 r.fa, .int .u64 l, .int .i64 k, .int .i64 v]) :
  AC Tryz.prog 136 [.ptr β 0, .int .i64 (n:Nat)] σ (fun x s=>x= .int .u64 (iW (cX r n)).toNat∧s=σ.aa β [.str (cd r n).s, .int .i64 (cd r n).at_, .int .i64 (cd r n).e, .int .i64 (cd r n).fa, .int .u64 l, .int .i64 k, .int .i64 v]):=by
 have hu:=Mo r n ho hn
 have hbi:BoxIs σ β _:=⟨h⟩
 simp only [cRd] at hu
 (refine bf G0 KZ ?_;simp only [G0,↓R1,RR,Nat.reduceEqDiff,Nat.reduceAdd,Nat.reduceLeDiff,Nat.reduceLT])
 repeat' (first|(with_reducible rw [ai])|((first|refine an (fun hc=>?_) (fun hc=>?_)|(with_reducible intro β hβ;(try simp only [St.aE,St.bw,St.bI,St.bJ,St.cn,St.cw] at hβ);(repeat (obtain ⟨⟨_,_⟩,hβ⟩:=hβ));(try (have hbis:=ah M0 hβ;obtain ⟨_,_⟩:=hbis))))<;>(try simp only [↓R1,RR,Nat.reduceEqDiff,Nat.reduceAdd,Nat.reduceLeDiff,Nat.reduceLT]))|((first|refine Pu.to (hu) (ad _) ?_|refine bo (hu) (ad _) ?_);(try simp only [↓R1,RR,Nat.reduceEqDiff,Nat.reduceAdd,Nat.reduceLeDiff,Nat.reduceLT])))
 refine aG M1 Nd (ae _) (St.jY M0 hβ) ⟨?_,rfl⟩
 (simp only [aq,↓R1,RR,Nat.reduceEqDiff,Nat.reduceAdd,Nat.reduceLeDiff,Nat.reduceLT])
end Go.Proofs.YtgephffbfiemeaaGreatDoor
namespace Go.Proofs.YtgephffbfiemeaaGreatDoor
open Go.Abs Go.Lib
set_option linter.all false
set_option maxRecDepth 100000
def rd0 (s:List UInt8):Rd:=⟨s,0,0,0⟩
def rd1 (s:List UInt8):Rd:=cd (rd0 s) 8
def rd2 (s:List UInt8):Rd:=cd (rd1 s) 1
def eu (s:List UInt8):Int:=IntKind.i64.wrap ((iW (cX (rd1 s) 1)).toNat:Int)
def rd3 (s:List UInt8):Rd:=bif cz (eu s) == 0 then rd2 s else dO (rd2 s) 11 (min 8 s.length)
def rd4 (s:List UInt8):Rd:=cd (rd3 s) 8
def lJ (s:List UInt8):List AV:=bif (ez (rd4 s)).e == 0 then [.int .u64 (iW (cX (rd0 s) 8)).toNat, .int .i64 (eu s), .int .i64 (IntKind.i64.wrap ((iW (cX (rd3 s) 8)).toNat:Int))] else [.int .u64 0, .int .i64 0, .int .i64 0]
def lK (s:List UInt8):List AV:=bif (ez (rd4 s)).e == 0 then [.int .i64 0, .int .i64 0] else [.int .i64 (ez (rd4 s)).e, .int .i64 (ez (rd4 s)).fa]
set_option maxHeartbeats 4000000 in
theorem p75 (s:List UInt8) (hs:s.length≤1000):Pu Tryz.prog 75 [.str s] (.tup [.agg (lJ s), .agg (lK s)]):=by
  have o0:(rd0 s).Ok:=⟨by simp only [rd0];omega,by simp [rd0],by simp [rd0],by simp [rd0],fun _=>rfl⟩
  have o1:(rd1 s).Ok:=mQ o0 8
  have o2:(rd2 s).Ok:=mQ o1 1
  have o3:(rd3 s).Ok:=by
    unfold rd3
    cases (cz (eu s) == 0)
    · exact BO o2 11 _ MX (by simp only [rd2,rd1,vD,rd0];omega)
    · exact o2
  have o4:(rd4 s).Ok:=mQ o3 8
  have hr:=Mk s
  have hE:=Mq (rd4 s) o4
  have hF:=Mp (rd2 s) o2
  have hC:=Mb (iW (cX (rd0 s) 8)).toNat (eu s) 0
  have hs2:(rd2 s).s=s:=by simp only [rd2,rd1,vD];rfl
  rw [hs2] at hF
  have hb:(rd3 s=dO (rd2 s) 11 (min 8 s.length)∧cz (eu s)≠0)∨(rd3 s=rd2 s∧cz (eu s)=0):=by
    unfold rd3
    by_cases h:cz (eu s)=0
    · right;simp [h]
    · left
      have:(cz (eu s) == 0)=false:=NZ
      simp [this,h]
  simp only [cRd] at hr hE hF
  (refine al c75 b75 fun σ=>?_;simp only [c75,↓R1,RR,Nat.reduceEqDiff,Nat.reduceAdd,Nat.reduceLeDiff,Nat.reduceLT])
  repeat' (first|(with_reducible rw [ai])|((first|refine an (fun hc=>?_) (fun hc=>?_)|(with_reducible intro β hβ;(try simp only [St.aE,St.bw,St.bI,St.bJ,St.cn,St.cw] at hβ);(repeat (obtain ⟨⟨_,_⟩,hβ⟩:=hβ));(try (have hbis:=ah M0 hβ;obtain ⟨_,_⟩:=hbis))))<;>(try simp only [↓R1,RR,Nat.reduceEqDiff,Nat.reduceAdd,Nat.reduceLeDiff,Nat.reduceLT]))|((first|refine Pu.to (hr) (ad _) ?_|refine bo (hr) (ad _) ?_);(try simp only [↓R1,RR,Nat.reduceEqDiff,Nat.reduceAdd,Nat.reduceLeDiff,Nat.reduceLT])))
  refine AC.mono (EM _ β (rd0 s) 8 0 0 0 o0 (.inr rfl) (St.bN _ _ _)) ?_
  rintro _ _ ⟨rfl,rfl⟩
  simp only [↓R1,RR,Nat.reduceEqDiff,Nat.reduceAdd,Nat.reduceLeDiff,Nat.reduceLT]
  rw [show cd (rd0 s) 8=rd1 s from rfl]
  refine AC.mono (EM _ β (rd1 s) 1 _ 0 0 o1 (.inl rfl) (St.bN _ _ _)) ?_
  rintro _ _ ⟨rfl,rfl⟩
  rw [show cd (rd1 s) 1=rd2 s from rfl]
  simp only [↓R1,RR,Nat.reduceEqDiff,Nat.reduceAdd,Nat.reduceLeDiff,Nat.reduceLT]
  rw [show IntKind.i64.wrap ((iW (cX (rd1 s) 1)).toNat:Int)=eu s from rfl]
  repeat' (first|((first|refine an (fun hc=>?_) (fun hc=>?_)|(with_reducible intro β hβ;(try simp only [St.aE,St.bw,St.bI,St.bJ,St.cn,St.cw] at hβ);(repeat (obtain ⟨⟨_,_⟩,hβ⟩:=hβ));(try (have hbis:=ah M0 hβ;obtain ⟨_,_⟩:=hbis))))<;>(try simp only [↓R1,RR,Nat.reduceEqDiff,Nat.reduceAdd,Nat.reduceLeDiff,Nat.reduceLT]))|((first|refine Pu.to (hC) (ad _) ?_|refine bo (hC) (ad _) ?_);(try simp only [↓R1,RR,Nat.reduceEqDiff,Nat.reduceAdd,Nat.reduceLeDiff,Nat.reduceLT])))
  · obtain ⟨h3,_⟩:rd3 s=dO (rd2 s) 11 (min 8 s.length)∧cz (eu s)≠0:=by
      rcases hb with h|h
      · exact h
      · rw [h.2] at hc;simp at hc
    rw [←h3] at hF
    repeat' (first|((first|refine Pu.to (hF) (ad _) ?_|refine bo (hF) (ad _) ?_);(try simp only [↓R1,RR,Nat.reduceEqDiff,Nat.reduceAdd,Nat.reduceLeDiff,Nat.reduceLT])))
    refine AC.mono (EM _ β (rd3 s) 8 _ _ _ o3 (.inr rfl) (St.bN _ _ _)) ?_
    rintro _ _ ⟨rfl,rfl⟩
    rw [show cd (rd3 s) 8=rd4 s from rfl]
    simp only [↓R1,RR,Nat.reduceEqDiff,Nat.reduceAdd,Nat.reduceLeDiff,Nat.reduceLT]
    repeat' (first|(with_reducible rw [ai])|((first|refine an (fun hc=>?_) (fun hc=>?_)|(with_reducible intro β hβ;(try simp only [St.aE,St.bw,St.bI,St.bJ,St.cn,St.cw] at hβ);(repeat (obtain ⟨⟨_,_⟩,hβ⟩:=hβ));(try (have hbis:=ah M0 hβ;obtain ⟨_,_⟩:=hbis))))<;>(try simp only [↓R1,RR,Nat.reduceEqDiff,Nat.reduceAdd,Nat.reduceLeDiff,Nat.reduceLT]))|(with_reducible apply And.intro)|((first|refine Pu.to (hE) (ad _) ?_|refine bo (hE) (ad _) ?_);(try simp only [↓R1,RR,Nat.reduceEqDiff,Nat.reduceAdd,Nat.reduceLeDiff,Nat.reduceLT])))
    all_goals (first
      | (have hz : ((ez   (rd4 s)).e == 0) = false := by simpa [bne] using hc
         simp only [lJ,lK,hz,cond_false])
      | (have hz : ((ez   (rd4 s)).e == 0) = true := by simpa [bne] using hc
         simp only [lJ,lK,hz,cond_true]))
    all_goals (refine ak (ag ?_) M5)
    all_goals (simp only [aq,↓R1,RR,Nat.reduceEqDiff,Nat.reduceAdd,Nat.reduceLeDiff,Nat.reduceLT])
  · obtain ⟨h3,_⟩:rd3 s=rd2 s∧cz (eu s)=0:=by
      rcases hb with h|h
      · exact (h.2 Nu).elim
      · exact h
    rw [←h3]
    refine AC.mono (EM _ β (rd3 s) 8 _ _ _ o3 (.inr rfl) (St.bN _ _ _)) ?_
    rintro _ _ ⟨rfl,rfl⟩
    rw [show cd (rd3 s) 8=rd4 s from rfl]
    simp only [↓R1,RR,Nat.reduceEqDiff,Nat.reduceAdd,Nat.reduceLeDiff,Nat.reduceLT]
    repeat' (first|(with_reducible rw [ai])|((first|refine an (fun hc=>?_) (fun hc=>?_)|(with_reducible intro β hβ;(try simp only [St.aE,St.bw,St.bI,St.bJ,St.cn,St.cw] at hβ);(repeat (obtain ⟨⟨_,_⟩,hβ⟩:=hβ));(try (have hbis:=ah M0 hβ;obtain ⟨_,_⟩:=hbis))))<;>(try simp only [↓R1,RR,Nat.reduceEqDiff,Nat.reduceAdd,Nat.reduceLeDiff,Nat.reduceLT]))|(with_reducible apply And.intro)|((first|refine Pu.to (hE) (ad _) ?_|refine bo (hE) (ad _) ?_);(try simp only [↓R1,RR,Nat.reduceEqDiff,Nat.reduceAdd,Nat.reduceLeDiff,Nat.reduceLT])))
    all_goals (first
      | (have hz : ((ez   (rd4 s)).e == 0) = false := by simpa [bne] using hc
         simp only [lJ,lK,hz,cond_false])
      | (have hz : ((ez   (rd4 s)).e == 0) = true := by simpa [bne] using hc
         simp only [lJ,lK,hz,cond_true]))
    all_goals (refine ak (ag ?_) M5)
    all_goals (simp only [aq,↓R1,RR,Nat.reduceEqDiff,Nat.reduceAdd,Nat.reduceLeDiff,Nat.reduceLT])
end Go.Proofs.YtgephffbfiemeaaGreatDoor
namespace Go.Proofs.YtgephffbfiemeaaGreatDoor
open Go.Abs Go.Lib
set_option linter.all false
set_option maxRecDepth 100000
theorem Kb (s:List UInt8) (hs:s.length≤1000):Pu Tryz.prog 191 [.str s] (.int .u64 (iW s).toNat):=by
 (refine al Hn Lm fun σ=>?_;simp only [Hn,↓R1,RR,Nat.reduceEqDiff,Nat.reduceAdd,Nat.reduceLeDiff,Nat.reduceLT])
 refine aQ s.length (fun k=> [(0, .str s),(3, .int .u64 ((s.take k).foldl mG 0#64).toNat),(4, .int .i64 k)]) (fun _=>σ) (fun _=>True) M8 (St.le_refl _) trivial (fun k hk _=>?_)
 simp only [BA,↓R1,RR,Nat.reduceEqDiff,Nat.reduceAdd,Nat.reduceLeDiff,Nat.reduceLT]
 refine an (fun hc=>?_) (fun hc=>?_)
 ·have hlt:k<s.length:=by simpa using hc
  have hfo:=mF mG 0#64 s k hlt
  have hak:=J0 (s:=s) (k:=k) hlt
  simp only [↓R1,RR,Nat.reduceEqDiff,Nat.reduceAdd,Nat.reduceLeDiff,Nat.reduceLT]
  repeat' (first|(with_reducible refine And.intro ?_ ?_;(focus (first|omega|(intros;(repeat' (with_reducible apply And.intro))<;>first|omega|(simp only [List.length_append,List.length_cons,List.length_nil];omega)))))|(with_reducible apply And.intro))
  ·simp only [av,slot,ae,hak,FD,hfo,↓R1,RR,Nat.reduceEqDiff,Nat.reduceAdd,Nat.reduceLeDiff,Nat.reduceLT];exact tQ MX
  ·exact St.le_refl _
 ·have:k=s.length:=by simp at hc;omega
  subst this
  simp only [List.take_length,↓R1,RR,Nat.reduceEqDiff,Nat.reduceAdd,Nat.reduceLeDiff,Nat.reduceLT]
  skip
  (refine ak (ag ?_))
  (simp only [aq,↓R1,RR,Nat.reduceEqDiff,Nat.reduceAdd,Nat.reduceLeDiff,Nat.reduceLT])
  rfl
theorem oK (b:UInt8):IntKind.i64.wrap (b.toNat:Int)=(b.toNat:Int):=by
 have:=b.toNat_lt;rw [wrap64 MX MX]
def fK (s:List UInt8):List AV:=bif s.length == 17&&decide ((s[8]?.getD 0).toNat<26) then [.int .u64 (iW (s.take 8)).toNat, .int .i64 (s[8]?.getD 0).toNat, .int .i64 (IntKind.i64.wrap ((iW (s.drop 9)).toNat:Int))] else [.int .u64 0, .int .i64 0, .int .i64 0]
def ga (s:List UInt8):List AV :=
 bif decide (s.length<8) then [.int .i64 5, .int .i64 0] else bif decide (s.length<9) then [.int .i64 5, .int .i64 8] else bif decide (26≤(s[8]?.getD 0).toNat) then [.int .i64 11, .int .i64 8] else
 bif decide (s.length<17) then [.int .i64 5, .int .i64 9] else bif decide (17<s.length) then [.int .i64 4, .int .i64 17] else [.int .i64 0, .int .i64 0]
theorem Mr (s:List UInt8) (hs:s.length≤1000):Pu Tryz.prog 142 [.str s] (.tup [.agg (fK s), .agg (ga s)]):=by
 have h1:=Kb (s.take 8) Ng
 have h2:=Kb (s.drop 9) Ng
 rw [show s.drop 9=List.take (s.length - Int.toNat 9) (List.drop (Int.toNat 9) s) from by rw [show Int.toNat 9=9 from rfl,List.take_of_length_le M1]] at h2
 (refine al G6 K5 fun σ=>?_;simp only [G6,↓R1,RR,Nat.reduceEqDiff,Nat.reduceAdd,Nat.reduceLeDiff,Nat.reduceLT])
 repeat' (first|(with_reducible rw [ai])|((first|refine an (fun hc=>?_) (fun hc=>?_)|(with_reducible intro β hβ;(try simp only [St.aE,St.bw,St.bI,St.bJ,St.cn,St.cw] at hβ);(repeat (obtain ⟨⟨_,_⟩,hβ⟩:=hβ));(try (have hbis:=ah M0 hβ;obtain ⟨_,_⟩:=hbis))))<;>(try simp only [↓R1,RR,Nat.reduceEqDiff,Nat.reduceAdd,Nat.reduceLeDiff,Nat.reduceLT]))|(with_reducible refine And.intro ?_ ?_;(focus (first|omega|(intros;(repeat' (with_reducible apply And.intro))<;>first|omega|(simp only [List.length_append,List.length_cons,List.length_nil];omega)))))|(with_reducible apply And.intro)|((first|refine Pu.to (h1) (ad _) ?_|refine bo (h1) (ad _) ?_|refine Pu.to (h2) (ad _) ?_|refine bo (h2) (ad _) ?_);(try simp only [↓R1,RR,Nat.reduceEqDiff,Nat.reduceAdd,Nat.reduceLeDiff,Nat.reduceLT])))
 all_goals (try simp only [oK,show Int.toNat 8=8 from rfl] at *)
 all_goals (try (simp only [decide_eq_true_eq,decide_eq_false_iff_not] at *;omega))
 all_goals (refine ak (ag ?_) M5)
 all_goals (simp only [aq,↓R1,RR,Nat.reduceEqDiff,Nat.reduceAdd,Nat.reduceLeDiff,Nat.reduceLT])
 all_goals simp only [fK,ga,Bool.cond_eq_ite,show Int.toNat 9=9 from rfl,show Int.toNat 8=8 from rfl] at *
 all_goals (try rw [List.take_of_length_le (by simp:(List.drop 9 s).length≤s.length - 9)])
 all_goals grind
end Go.Proofs.YtgephffbfiemeaaGreatDoor
namespace Go.Proofs.YtgephffbfiemeaaGreatDoor
open Go.Abs Go.Lib
set_option linter.all false
set_option maxRecDepth 100000
def gf (a:Int):Int:=if a<0 then -a else a
theorem Kc (a:Int) (ha:I64 a):Pu Tryz.prog 121 [.int .i64 a] (.int .u64 (gf a)):=by
 unfold I64 at ha
 refine rl Ep KV (by simp [Ep]) fun σ=>?_
 simp only [Ep,↓R1,RR,Nat.reduceEqDiff,Nat.reduceLeDiff]
 repeat' (first|(with_reducible rw [ai])|(refine bl (fun hc=>?_) (fun hc=>?_)<;>(try simp only [hc,↓R1,RR,Nat.reduceEqDiff,Nat.reduceLeDiff]))|((first|refine an (fun hc=>?_) (fun hc=>?_)|(with_reducible intro β hβ;(try simp only [RB] at hβ);(repeat (obtain ⟨⟨_,_⟩,hβ⟩:=hβ));(try (have hbis:=ah M0 hβ;obtain ⟨_,_⟩:=hbis)))|((first|(refine bp (.inr rfl) rfl ?_ ?_ ?_ ?_ ?_ ?_;(first|rfl|exact St.aH _ _ _|(simp only [↓R1,RR,Nat.reduceEqDiff,Nat.reduceLeDiff]));(first|omega|(exact aj)|(simp only [RZ]));(first|rfl|first|omega|(exact aj)|(simp only [RZ])))|(refine aV rfl ?_ ?_ ?_ ?_ ?_ ?_;(first|rfl|exact St.aH _ _ _|(simp only [↓R1,RR,Nat.reduceEqDiff,Nat.reduceLeDiff]));(first|omega|(exact aj)|(simp only [RZ]));(first|rfl|first|omega|(exact aj)|(simp only [RZ])))|(refine appV_own ?_ ?_ ?_ ?_;exact aF Ni _)|(refine appD_own ?_ ?_ ?_ ?_ ?_;omega;exact aF Ni _)|(refine appV_fresh rfl trivial rfl ?_ ?_ ?_ ?_ ?_;(first|rfl|first|omega|(exact aj)|(simp only [RZ]));(first|rfl|first|omega|(exact aj)|(simp only [RZ])))|(refine appD_fresh rfl trivial rfl ?_ ?_ ?_ ?_ ?_ ?_;omega;(first|rfl|first|omega|(exact aj)|(simp only [RZ]));(first|rfl|first|omega|(exact aj)|(simp only [RZ]))));(unfold maxLen;omega);omega))<;>(try simp only [↓R1,RR,Nat.reduceEqDiff,Nat.reduceLeDiff]))|(with_reducible refine And.intro ?_ ?_;(focus (first|omega|(exact af))))|(with_reducible apply And.intro))
 all_goals ((refine ak (ag ?_));(simp only [aq,↓R1,RR,Nat.reduceEqDiff,Nat.reduceLeDiff]);simp at hc;simp only [gf,wU,wI,AV.int.injEq,true_and];split<;>(try split)<;>(try split)<;>omega)
theorem BP (a:Int) (ha:I64 a):0≤gf a∧gf a≤9223372036854775808:=by
 unfold gf I64 at *;split<;>omega
theorem sa (n:Nat):UInt8.ofNat (IntKind.u8.wrap (IntKind.u64.wrap (48+Int.tmod (n:Int) 10))).toNat=UInt8.ofNat (48+n % 10):=by
 have h:Int.tmod (n:Int) 10=((n % 10:Nat):Int):=rfl
 rw [h,wU,wU8]
 have h2:n % 10<10:=Nat.mod_lt _ Na
 congr 1
 omega
def BQ (N n:Nat) (out:List UInt8):Prop:=(decDigits N=if n=0∧out≠ [] then out else decDigits n++out)∧n*2^out.length≤N
theorem BR {N n:Nat} {out:List UInt8} (h:BQ N n out) (hc:0<n∨out= []):BQ N (n / 10) (UInt8.ofNat (48+n % 10)::out):=by
 obtain ⟨h1,h2⟩:=h
 have h3:¬ (n=0∧out≠ []):=by
  rintro ⟨a,b⟩;rcases hc with c|c
  ·omega
  ·exact b c
 rw [if_neg h3] at h1
 unfold BQ
 generalize decDigits N=D at h1 ⊢
 rw [decDigits] at h1
 refine ⟨?_,?_⟩
 ·by_cases h4:n<10
  ·rw [dif_pos h4] at h1
   have h5:n / 10=0:=MX
   rw [if_pos ⟨h5,by simp⟩,h1,Nat.mod_eq_of_lt h4];rfl
  ·rw [dif_neg h4] at h1
   have h5:n / 10≠0:=MX
   rw [if_neg MX,h1];simp
 ·simp only [List.length_cons]
  have h6:n / 10*2≤n:=MX
  calc n / 10*2^(out.length+1)=(n / 10*2)*2^out.length:=by rw [Nat.pow_succ];ac_rfl
   _≤n*2^out.length:=Nat.mul_le_mul_right _ h6
   _≤N:=h2
theorem EN {N n:Nat} {out:List UInt8} (h:BQ N n out) (hc:0<n∨out= []) (hN:N<18446744073709551616):out.length<64:=by
 rcases hc with c|c
 ·have h1:2^out.length≤N:=Nat.le_trans (Nat.le_mul_of_pos_left _ c) h.2
  have h2:2^out.length<2^64:=Nat.lt_of_le_of_lt h1 hN
  exact (Nat.pow_lt_pow_iff_right Na).1 h2
 ·subst c;decide
theorem Mt (N:Nat) (hN:N<18446744073709551616):Pu Tryz.prog 120 [.int .u64 N] (.str (decDigits N)):=by
 refine al GV KU fun σ=>?_
 simp only [GV,↓R1,RR,Nat.reduceEqDiff,Nat.reduceLeDiff]
 refine b6 (α:=Nat × List UInt8) (fun a=> [(0, .int .u64 a.1),(3, .str a.2)]) (fun _=>σ) (fun a=>BQ N a.1 a.2) (fun a=>2*a.1+(if a.2= [] then 1 else 0)) (N,[]) ⟨ae _,ae _,trivial⟩ (St.le_refl _) ⟨by simp,by simp⟩ (fun a ha=>?_)
 obtain ⟨n,out⟩:=a
 simp only at ha ⊢
 simp only [↓R1,RR,Nat.reduceEqDiff,Nat.reduceLeDiff]
 refine an (fun h5=>?_) (fun h5=>?_)
 ·have hc:0<n∨out= []:=by simpa using h5
  have hl:=EN ha hc hN
  simp only [byteOf,isByte,List.all_cons,List.all_nil,sa,Bool.and_true,↓R1,RR,Nat.reduceEqDiff,Nat.reduceLeDiff]
  have hnN:n≤N:=Nat.le_trans (Nat.le_mul_of_pos_right _ (Nat.pow_pos Na)) ha.2
  have hq:IntKind.u64.wrap ((n:Int).tdiv 10)=((n / 10:Nat):Int):=by
   have h:Int.tdiv (n:Int) 10=((n / 10:Nat):Int):=rfl
   rw [h,wU];omega
  refine ⟨by decide,by omega,by decide,(n / 10,UInt8.ofNat (48+n % 10)::out),BR ha hc,?_,St.le_refl _,?_⟩
  ·refine ⟨ag ?_,ag ?_,trivial⟩
   ·simp only [slot,↓R1,RR,Nat.reduceEqDiff,Nat.reduceLeDiff];rw [hq]
   ·simp only [slot,↓R1,RR,Nat.reduceEqDiff,Nat.reduceLeDiff]
    rw [show Go.Abs.byteOf (AV.int IntKind.u8 (IntKind.u8.wrap (IntKind.u64.wrap (48+(n:Int).tmod 10))))=UInt8.ofNat (48+n % 10) from sa n]
  ·simp only [reduceCtorEq,if_false]
   rcases hc with c|c
   ·omega
   ·rw [if_pos c];omega
 ·have hc:n=0∧out≠ []:=by simp at h5;exact ⟨by omega,h5.2⟩
  simp only [↓R1,RR,Nat.reduceEqDiff,Nat.reduceLeDiff]
  (refine ak (ag ?_))
  (simp only [aq,↓R1,RR,Nat.reduceEqDiff,Nat.reduceLeDiff])
  rw [ha.1,if_pos hc]
theorem itoa_neg {n:Int} (h:n<0):itoa n=45::decDigits (gf n).toNat:=by
 unfold itoa gf
 rw [if_pos h,if_pos h]
 congr 2
 omega
theorem BS {n:Int} (h:¬ n<0):itoa n=decDigits (gf n).toNat:=by
 unfold itoa gf
 rw [if_neg h,if_neg h]
theorem uD (N:Nat) (hN:N<18446744073709551616):(decDigits N).length<100:=by
  have key:∀ (k N:Nat),N<10^(k+1)→(decDigits N).length≤k+1:=by
    intro k
    induction k with
    | zero=>intro N h;rw [decDigits,dif_pos NZ];simp
    | succ k ih =>
      intro N h
      rw [decDigits]
      split
      · simp
      · have:=ih (N / 10) (by rw [Nat.pow_succ] at h;omega)
        simp;omega
  have:=key 19 N MX
  omega
theorem p60 (n:Int) (hn:I64 n):Pu Tryz.prog 60 [.int .i64 n] (.str (itoa n)):=by
 have sn:=BP n hn
 have hc:((gf n).toNat:Int)=gf n:=Int.toNat_of_nonneg sn.1
 have hd:=Mt (gf n).toNat MX
 rw [hc] at hd
 have hl:=uD (gf n).toNat MX
 refine al c60 b60 fun σ=>?_
 simp only [c60,↓R1,RR,Nat.reduceEqDiff,Nat.reduceLeDiff]
 refine an (fun h5=>?_) (fun h5=>?_)<;>simp at h5<;>simp only [↓R1,RR,Nat.reduceEqDiff,Nat.reduceLeDiff]
 ·refine (Kc n hn).to (ad _) ?_
  simp only [↓R1,RR,Nat.reduceEqDiff,Nat.reduceLeDiff]
  refine hd.to (ad _) ?_
  simp only [↓R1,RR,Nat.reduceEqDiff,Nat.reduceLeDiff]
  refine ⟨by omega,?_⟩
  (refine ak (ag ?_))
  (simp only [aq,↓R1,RR,Nat.reduceEqDiff,Nat.reduceLeDiff])
  rw [itoa_neg h5]
 ·refine (Kc n hn).to (ad _) ?_
  simp only [↓R1,RR,Nat.reduceEqDiff,Nat.reduceLeDiff]
  refine hd.to (ad _) ?_
  simp only [↓R1,RR,Nat.reduceEqDiff,Nat.reduceLeDiff]
  (refine ak (ag ?_))
  (simp only [aq,↓R1,RR,Nat.reduceEqDiff,Nat.reduceLeDiff])
  rw [BS MX]
end Go.Proofs.YtgephffbfiemeaaGreatDoor
