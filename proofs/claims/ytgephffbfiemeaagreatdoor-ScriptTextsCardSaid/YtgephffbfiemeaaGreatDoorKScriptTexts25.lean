/- Part 25 of the proof of ScriptTexts: an abstract semantics that is proved sound for the model, contracts of functions in it, and plain facts (Sh40 LW3 EV2 EV3 SM1 SM2 EW1 EW2 SM3). No condition. -/
import Derived.Test.YtgephffbfiemeaaGreatDoorKScriptTexts24
import Derived.Shelf.Strings.Builder1
import Derived.Shelf.Strings.Builder2
import Derived.Shelf.Strings.OnBuilder
import Derived.Shelf.Strconv.Itoa0
import Derived.Shelf.Strconv.Itoa1
import Derived.Shelf.LaysM
import Derived.Shelf.Strconv.Itoa2
import Derived.Shelf.Strconv.Itoa3
import Derived.Shelf.Strconv.Itoa4
import Derived.Shelf.Strings.Search1
import Derived.Shelf.Strings.Search2
import Derived.Shelf.Strings.Search3
import Derived.Shelf.Strings.Cut
import Derived.Shelf.Strings.Shaped
import Derived.Shelf.Unicode.Decode
import Derived.Shelf.Bits.Mul64
import Derived.Shelf.Unicode.DecodeSlow
import Derived.Shelf.Unicode.DecodeAny
import Derived.Test.YtgephffbfiemeaaGreatDoorProg
set_option linter.all false
namespace Go.Proofs
open Go.Shelf
def Tryz.kM:Go.Shelf.Ren:=⟨fun|169=>174|n=>n,fun|70=>220|9=>9|0=>0|72=>222|37=>135|127=>286|3=>3|5=>5|n=>n,fun|n=>n⟩
theorem Tryz.Ea:Go.Proofs.Lays.n169 Tryz.prog Tryz.kM:={
 mixed:=by kernel_rfl
 f169:=Tryz.func174.trans (congrArg some (by kernel_rfl))
 t0:=Tryz.underlying0
 a0:=Tryz.isAgg0
 z0:=Tryz.sizeOf0
 v0:=Tryz.zeroValue0
 t3:=Tryz.underlying3
 a3:=Tryz.isAgg3
 z3:=Tryz.sizeOf3
 v3:=Tryz.zeroValue3
 t9:=Tryz.underlying9
 a9:=Tryz.isAgg9
 z9:=Tryz.sizeOf9
 v9:=Tryz.zeroValue9
 t37:=Tryz.underlying135
 a37:=Tryz.isAgg135
 z37:=Tryz.sizeOf135
 v37:=Tryz.zeroValue135
 t70:=Tryz.underlying220
 a70:=Tryz.isAgg220
 z70:=Tryz.sizeOf220
 v70:=Tryz.zeroValue220
 t72:=Tryz.underlying222
 a72:=Tryz.isAgg222
 z72:=Tryz.sizeOf222
 v72:=Tryz.zeroValue222
 t127:=Tryz.underlying286
 a127:=Tryz.isAgg286
 z127:=Tryz.sizeOf286
 v127:=Tryz.zeroValue286 }
theorem Tryz.jD:Builder.Extra Tryz.prog Tryz.kM:={
 sizeBuilder:=by kernel_rfl
 liesBuilder:=by kernel_rfl
 t5:=Tryz.underlying5
 a5:=Tryz.isAgg5
 z5:=Tryz.sizeOf5
 v5:=Tryz.zeroValue5
 infoByte:=by kernel_rfl
 cellsByte:=by kernel_rfl
 sizeByte:=by kernel_rfl
 neB5:=by decide }
def Tryz.kO:Go.Shelf.Ren:=⟨fun|156=>113|165=>172|166=>173|169=>174|240=>222|241=>223|276=>259|277=>260|n=>n,fun|31=>110|9=>9|3=>3|4=>4|0=>0|20=>20|72=>222|76=>226|70=>220|37=>135|75=>225|127=>286|164=>320|5=>5|80=>200|n=>n,fun|n=>n⟩
theorem Tryz.uV:Go.Proofs.Lays.n156 Tryz.prog Tryz.kO:={
 mixed:=by kernel_rfl
 f156:=Tryz.func113.trans (congrArg some (by kernel_rfl))
 f165:=Tryz.func172.trans (congrArg some (by kernel_rfl))
 f166:=Tryz.func173.trans (congrArg some (by kernel_rfl))
 f169:=Tryz.func174.trans (congrArg some (by kernel_rfl))
 f240:=Tryz.func222.trans (congrArg some (by kernel_rfl))
 f241:=Tryz.func223.trans (congrArg some (by kernel_rfl))
 f276:=Tryz.func259.trans (congrArg some (by kernel_rfl))
 f277:=Tryz.func260.trans (congrArg some (by kernel_rfl))
 t0:=Tryz.underlying0
 a0:=Tryz.isAgg0
 z0:=Tryz.sizeOf0
 v0:=Tryz.zeroValue0
 t3:=Tryz.underlying3
 a3:=Tryz.isAgg3
 z3:=Tryz.sizeOf3
 v3:=Tryz.zeroValue3
 t4:=Tryz.underlying4
 a4:=Tryz.isAgg4
 z4:=Tryz.sizeOf4
 v4:=Tryz.zeroValue4
 t9:=Tryz.underlying9
 a9:=Tryz.isAgg9
 z9:=Tryz.sizeOf9
 v9:=Tryz.zeroValue9
 t20:=Tryz.underlying20
 a20:=Tryz.isAgg20
 z20:=Tryz.sizeOf20
 v20:=Tryz.zeroValue20
 t31:=Tryz.underlying110
 a31:=Tryz.isAgg110
 z31:=Tryz.sizeOf110
 v31:=Tryz.zeroValue110
 t37:=Tryz.underlying135
 a37:=Tryz.isAgg135
 z37:=Tryz.sizeOf135
 v37:=Tryz.zeroValue135
 t70:=Tryz.underlying220
 a70:=Tryz.isAgg220
 z70:=Tryz.sizeOf220
 v70:=Tryz.zeroValue220
 t72:=Tryz.underlying222
 a72:=Tryz.isAgg222
 z72:=Tryz.sizeOf222
 v72:=Tryz.zeroValue222
 t75:=Tryz.underlying225
 a75:=Tryz.isAgg225
 z75:=Tryz.sizeOf225
 v75:=Tryz.zeroValue225
 t76:=Tryz.underlying226
 a76:=Tryz.isAgg226
 z76:=Tryz.sizeOf226
 v76:=Tryz.zeroValue226
 t127:=Tryz.underlying286
 a127:=Tryz.isAgg286
 z127:=Tryz.sizeOf286
 v127:=Tryz.zeroValue286
 t164:=Tryz.underlying320
 a164:=Tryz.isAgg320
 z164:=Tryz.sizeOf320
 v164:=Tryz.zeroValue320 }
theorem Tryz.fx:Builder.Extra Tryz.prog Tryz.kO:={
 sizeBuilder:=by kernel_rfl
 liesBuilder:=by kernel_rfl
 t5:=Tryz.underlying5
 a5:=Tryz.isAgg5
 z5:=Tryz.sizeOf5
 v5:=Tryz.zeroValue5
 infoByte:=by kernel_rfl
 cellsByte:=by kernel_rfl
 sizeByte:=by kernel_rfl
 neB5:=by decide }
open Go.RowKit in
theorem Tryz.strings_Join_none (a:Option Addr) (c:Nat) (sep:ByteArray) (w:World) :
  Calls Tryz.prog 113 #[.slice a 0 c, .string sep] w fun e w'=>e= .returned (.string ⟨#[]⟩)∧w'=w:=Any.strings_Join_none Tryz.uV Tryz.fx a c sep w
open Go.RowKit in
theorem Tryz.strings_Join (bk o c:Nat) (xs:List ByteArray) (sep:ByteArray) (w:World) (hcells:∀ (j:Nat) x,xs[j]? =some x→w.cell? ⟨bk,o+j,none⟩=some (.string x)) (hbk:bk<w.heap.size) (hN:xs.length≤140737488355328) (hcap:xs.length≤c) (hlen:(Lib.join (xs.map (·.data.toList)) sep.data.toList).length≤140737488355328) :
  Calls Tryz.prog 113 #[.slice (some ⟨bk,o,none⟩) xs.length c, .string sep] w fun e w'=>e= .returned (.string ⟨(Lib.join (xs.map (·.data.toList)) sep.data.toList).toArray⟩)∧Below w.heap.size w w':=Any.strings_Join Tryz.uV Tryz.fx bk o c xs sep w hcells hbk hN hcap hlen
def Tryz.rj:Go.Shelf.Ren:=⟨fun|283=>218|n=>n,fun|3=>3|9=>9|4=>4|n=>n,fun|n=>n⟩
theorem Tryz.Eb:Go.Proofs.Lays.n283 Tryz.prog Tryz.rj:={
 mixed:=by kernel_rfl
 f283:=Tryz.func218.trans (congrArg some (by kernel_rfl))
 t3:=Tryz.underlying3
 a3:=Tryz.isAgg3
 z3:=Tryz.sizeOf3
 v3:=Tryz.zeroValue3
 t4:=Tryz.underlying4
 a4:=Tryz.isAgg4
 z4:=Tryz.sizeOf4
 v4:=Tryz.zeroValue4
 t9:=Tryz.underlying9
 a9:=Tryz.isAgg9
 z9:=Tryz.sizeOf9
 v9:=Tryz.zeroValue9 }
open Go.Lib in
theorem Tryz.internal_strconv_small (i:Nat) (h:i<100) (w:World) :
  Calls Tryz.prog 218 #[.int .i64 i] w fun e w'=>e= .returned (.string ⟨(Lib.decDigits i).toArray⟩)∧w'=w:=Any.internal_strconv_small Tryz.Eb i h w
def Tryz.po:Go.Shelf.Ren:=⟨fun|284=>219|129=>255|317=>254|318=>256|n=>n,fun|53=>29|3=>3|212=>316|0=>0|4=>4|46=>190|5=>5|9=>9|n=>n,fun|17=>2|n=>n⟩
theorem Tryz.Bc:Go.Proofs.LaysM.n284 Tryz.prog Tryz.po:={
 mixed:=by kernel_rfl
 f129:=Tryz.func255.trans (congrArg some (by kernel_rfl))
 f284:=Tryz.func219.trans (congrArg some (by kernel_rfl))
 f317:=Tryz.func254.trans (congrArg some (by kernel_rfl))
 f318:=Tryz.func256.trans (congrArg some (by kernel_rfl))
 t0:=Tryz.underlying0
 a0:=Tryz.isAgg0
 z0:=Tryz.sizeOf0
 v0:=Tryz.zeroValue0
 t3:=Tryz.underlying3
 a3:=Tryz.isAgg3
 z3:=Tryz.sizeOf3
 v3:=Tryz.zeroValue3
 t4:=Tryz.underlying4
 a4:=Tryz.isAgg4
 z4:=Tryz.sizeOf4
 v4:=Tryz.zeroValue4
 t5:=Tryz.underlying5
 a5:=Tryz.isAgg5
 z5:=Tryz.sizeOf5
 v5:=Tryz.zeroValue5
 t9:=Tryz.underlying9
 a9:=Tryz.isAgg9
 z9:=Tryz.sizeOf9
 v9:=Tryz.zeroValue9
 t46:=Tryz.underlying190
 a46:=Tryz.isAgg190
 z46:=Tryz.sizeOf190
 v46:=Tryz.zeroValue190
 t53:=Tryz.underlying29
 a53:=Tryz.isAgg29
 z53:=Tryz.sizeOf29
 v53:=Tryz.zeroValue29
 t212:=Tryz.underlying316
 a212:=Tryz.isAgg316
 z212:=Tryz.sizeOf316
 v212:=Tryz.zeroValue316
 g17:=by kernel_rfl
 i0:=by kernel_rfl
 i3:=by kernel_rfl
 i4:=by kernel_rfl
 i5:=by kernel_rfl
 i9:=by kernel_rfl
 i46:=by kernel_rfl
 i53:=by kernel_rfl
 i212:=by kernel_rfl
 m17:=by kernel_rfl }
open Go.Lib in
theorem Tryz.internal_strconv_numDigits (u:Nat) (h1:1≤u) (h2:u<18446744073709551616) (w:World) (htab:Lib.TabIs Tryz.prog w "internal/strconv.uint64pow10" .u64 Lib.pow10Tab) :
  Calls Tryz.prog 219 #[.int .u64 u] w fun e w'=>e= .returned (.int .i64 (Lib.nDigits u))∧w'=w:=Any.internal_strconv_numDigits Tryz.Bc u h1 h2 w htab
def Tryz.rl:Go.Shelf.Ren:=⟨fun|285=>220|n=>n,fun|37=>135|53=>29|3=>3|4=>4|51=>317|9=>9|5=>5|0=>0|n=>n,fun|n=>n⟩
theorem Tryz.Ec:Go.Proofs.Lays.n285 Tryz.prog Tryz.rl:={
 mixed:=by kernel_rfl
 f285:=Tryz.func220.trans (congrArg some (by kernel_rfl))
 t0:=Tryz.underlying0
 a0:=Tryz.isAgg0
 z0:=Tryz.sizeOf0
 v0:=Tryz.zeroValue0
 t3:=Tryz.underlying3
 a3:=Tryz.isAgg3
 z3:=Tryz.sizeOf3
 v3:=Tryz.zeroValue3
 t4:=Tryz.underlying4
 a4:=Tryz.isAgg4
 z4:=Tryz.sizeOf4
 v4:=Tryz.zeroValue4
 t5:=Tryz.underlying5
 a5:=Tryz.isAgg5
 z5:=Tryz.sizeOf5
 v5:=Tryz.zeroValue5
 t9:=Tryz.underlying9
 a9:=Tryz.isAgg9
 z9:=Tryz.sizeOf9
 v9:=Tryz.zeroValue9
 t37:=Tryz.underlying135
 a37:=Tryz.isAgg135
 z37:=Tryz.sizeOf135
 v37:=Tryz.zeroValue135
 t51:=Tryz.underlying317
 a51:=Tryz.isAgg317
 z51:=Tryz.sizeOf317
 v51:=Tryz.zeroValue317
 t53:=Tryz.underlying29
 a53:=Tryz.isAgg29
 z53:=Tryz.sizeOf29
 v53:=Tryz.zeroValue29 }
open Go.RowKit Go.Sort Go.Lib in
theorem Tryz.internal_strconv_formatBase10 (blk off cap:Nat) (u:Nat) (d:Array UInt8) (w:World) (hH:Holds (fun (b:UInt8)=>Value.int .u8 (b.toNat:Int)) w blk off d) (hu:u<10^d.size) (hu64:u<18446744073709551616) (hsz:d.size<4611686018427387904) :
  Calls Tryz.prog 220 #[.slice (some ⟨blk,off,none⟩) d.size cap, .int .u64 u] w fun e w' =>
   e= .returned (.tuple #[])∧∃ (n v':Nat) (dk:Array UInt8),w'=(putRow (fun (b:UInt8)=>Value.int .u8 (b.toNat:Int)) w blk off dk).drewN n∧FmtInv d.size u 0 v' dk:=Any.internal_strconv_formatBase10 Tryz.Ec blk off cap u d w hH hu hu64 hsz
def Tryz.rm:Go.Shelf.Ren:=⟨fun|171=>112|243=>171|246=>167|283=>218|284=>219|285=>220|286=>221|129=>255|317=>254|318=>256|319=>257|320=>258|337=>278|338=>170|n=>n,fun|3=>3|9=>9|2=>2|4=>4|171=>281|0=>0|53=>29|37=>135|5=>5|173=>283|212=>316|51=>317|20=>20|213=>318|46=>190|232=>338|233=>285|n=>n,fun|17=>2|18=>6|19=>1|n=>n⟩
theorem Tryz.Ed:Go.Proofs.Lays.n171 Tryz.prog Tryz.rm:={
 mixed:=by kernel_rfl
 f129:=Tryz.func255.trans (congrArg some (by kernel_rfl))
 f171:=Tryz.func112.trans (congrArg some (by kernel_rfl))
 f243:=Tryz.func171.trans (congrArg some (by kernel_rfl))
 f246:=Tryz.func167.trans (congrArg some (by kernel_rfl))
 f283:=Tryz.func218.trans (congrArg some (by kernel_rfl))
 f284:=Tryz.func219.trans (congrArg some (by kernel_rfl))
 f285:=Tryz.func220.trans (congrArg some (by kernel_rfl))
 f286:=Tryz.func221.trans (congrArg some (by kernel_rfl))
 f317:=Tryz.func254.trans (congrArg some (by kernel_rfl))
 f318:=Tryz.func256.trans (congrArg some (by kernel_rfl))
 f319:=Tryz.func257.trans (congrArg some (by kernel_rfl))
 f320:=Tryz.func258.trans (congrArg some (by kernel_rfl))
 f337:=Tryz.func278.trans (congrArg some (by kernel_rfl))
 f338:=Tryz.func170.trans (congrArg some (by kernel_rfl))
 t0:=Tryz.underlying0
 a0:=Tryz.isAgg0
 z0:=Tryz.sizeOf0
 v0:=Tryz.zeroValue0
 t2:=Tryz.underlying2
 a2:=Tryz.isAgg2
 z2:=Tryz.sizeOf2
 v2:=Tryz.zeroValue2
 t3:=Tryz.underlying3
 a3:=Tryz.isAgg3
 z3:=Tryz.sizeOf3
 v3:=Tryz.zeroValue3
 t4:=Tryz.underlying4
 a4:=Tryz.isAgg4
 z4:=Tryz.sizeOf4
 v4:=Tryz.zeroValue4
 t5:=Tryz.underlying5
 a5:=Tryz.isAgg5
 z5:=Tryz.sizeOf5
 v5:=Tryz.zeroValue5
 t9:=Tryz.underlying9
 a9:=Tryz.isAgg9
 z9:=Tryz.sizeOf9
 v9:=Tryz.zeroValue9
 t20:=Tryz.underlying20
 a20:=Tryz.isAgg20
 z20:=Tryz.sizeOf20
 v20:=Tryz.zeroValue20
 t37:=Tryz.underlying135
 a37:=Tryz.isAgg135
 z37:=Tryz.sizeOf135
 v37:=Tryz.zeroValue135
 t46:=Tryz.underlying190
 a46:=Tryz.isAgg190
 z46:=Tryz.sizeOf190
 v46:=Tryz.zeroValue190
 t51:=Tryz.underlying317
 a51:=Tryz.isAgg317
 z51:=Tryz.sizeOf317
 v51:=Tryz.zeroValue317
 t53:=Tryz.underlying29
 a53:=Tryz.isAgg29
 z53:=Tryz.sizeOf29
 v53:=Tryz.zeroValue29
 t171:=Tryz.underlying281
 a171:=Tryz.isAgg281
 z171:=Tryz.sizeOf281
 v171:=Tryz.zeroValue281
 t173:=Tryz.underlying283
 a173:=Tryz.isAgg283
 z173:=Tryz.sizeOf283
 v173:=Tryz.zeroValue283
 t212:=Tryz.underlying316
 a212:=Tryz.isAgg316
 z212:=Tryz.sizeOf316
 v212:=Tryz.zeroValue316
 t213:=Tryz.underlying318
 a213:=Tryz.isAgg318
 z213:=Tryz.sizeOf318
 t232:=Tryz.underlying338
 a232:=Tryz.isAgg338
 z232:=Tryz.sizeOf338
 v232:=Tryz.zeroValue338
 t233:=Tryz.underlying285
 a233:=Tryz.isAgg285
 z233:=Tryz.sizeOf285
 v233:=Tryz.zeroValue285
 g17:=by kernel_rfl
 g18:=by kernel_rfl
 g19:=by kernel_rfl }
open Go.RowKit Go.Sort Go.Lib in
theorem Tryz.strconv_Itoa_small (i:Nat) (hi:i<100) (w:World) :
  Calls Tryz.prog 112 #[.int .i64 i] w fun e w'=>e= .returned (.string ⟨(Lib.decDigits i).toArray⟩)∧w'=w:=Any.strconv_Itoa_small Tryz.Ed i hi w
def Tryz.pq:Go.Shelf.Ren:=⟨fun|173=>109|246=>167|283=>218|284=>219|285=>220|286=>221|129=>255|317=>254|318=>256|319=>257|320=>258|337=>278|338=>170|n=>n,fun|2=>2|3=>3|9=>9|4=>4|171=>281|0=>0|53=>29|37=>135|5=>5|173=>283|212=>316|51=>317|20=>20|213=>318|46=>190|232=>338|233=>285|n=>n,fun|17=>2|18=>6|19=>1|n=>n⟩
theorem Tryz.Bd:Go.Proofs.LaysM.n173 Tryz.prog Tryz.pq:={
 mixed:=by kernel_rfl
 f129:=Tryz.func255.trans (congrArg some (by kernel_rfl))
 f173:=Tryz.func109.trans (congrArg some (by kernel_rfl))
 f246:=Tryz.func167.trans (congrArg some (by kernel_rfl))
 f283:=Tryz.func218.trans (congrArg some (by kernel_rfl))
 f284:=Tryz.func219.trans (congrArg some (by kernel_rfl))
 f285:=Tryz.func220.trans (congrArg some (by kernel_rfl))
 f286:=Tryz.func221.trans (congrArg some (by kernel_rfl))
 f317:=Tryz.func254.trans (congrArg some (by kernel_rfl))
 f318:=Tryz.func256.trans (congrArg some (by kernel_rfl))
 f319:=Tryz.func257.trans (congrArg some (by kernel_rfl))
 f320:=Tryz.func258.trans (congrArg some (by kernel_rfl))
 f337:=Tryz.func278.trans (congrArg some (by kernel_rfl))
 f338:=Tryz.func170.trans (congrArg some (by kernel_rfl))
 t0:=Tryz.underlying0
 a0:=Tryz.isAgg0
 z0:=Tryz.sizeOf0
 v0:=Tryz.zeroValue0
 t2:=Tryz.underlying2
 a2:=Tryz.isAgg2
 z2:=Tryz.sizeOf2
 v2:=Tryz.zeroValue2
 t3:=Tryz.underlying3
 a3:=Tryz.isAgg3
 z3:=Tryz.sizeOf3
 v3:=Tryz.zeroValue3
 t4:=Tryz.underlying4
 a4:=Tryz.isAgg4
 z4:=Tryz.sizeOf4
 v4:=Tryz.zeroValue4
 t5:=Tryz.underlying5
 a5:=Tryz.isAgg5
 z5:=Tryz.sizeOf5
 v5:=Tryz.zeroValue5
 t9:=Tryz.underlying9
 a9:=Tryz.isAgg9
 z9:=Tryz.sizeOf9
 v9:=Tryz.zeroValue9
 t20:=Tryz.underlying20
 a20:=Tryz.isAgg20
 z20:=Tryz.sizeOf20
 v20:=Tryz.zeroValue20
 t37:=Tryz.underlying135
 a37:=Tryz.isAgg135
 z37:=Tryz.sizeOf135
 v37:=Tryz.zeroValue135
 t46:=Tryz.underlying190
 a46:=Tryz.isAgg190
 z46:=Tryz.sizeOf190
 v46:=Tryz.zeroValue190
 t51:=Tryz.underlying317
 a51:=Tryz.isAgg317
 z51:=Tryz.sizeOf317
 v51:=Tryz.zeroValue317
 t53:=Tryz.underlying29
 a53:=Tryz.isAgg29
 z53:=Tryz.sizeOf29
 v53:=Tryz.zeroValue29
 t171:=Tryz.underlying281
 a171:=Tryz.isAgg281
 z171:=Tryz.sizeOf281
 v171:=Tryz.zeroValue281
 t173:=Tryz.underlying283
 a173:=Tryz.isAgg283
 z173:=Tryz.sizeOf283
 v173:=Tryz.zeroValue283
 t212:=Tryz.underlying316
 a212:=Tryz.isAgg316
 z212:=Tryz.sizeOf316
 v212:=Tryz.zeroValue316
 t213:=Tryz.underlying318
 a213:=Tryz.isAgg318
 z213:=Tryz.sizeOf318
 t232:=Tryz.underlying338
 a232:=Tryz.isAgg338
 z232:=Tryz.sizeOf338
 v232:=Tryz.zeroValue338
 t233:=Tryz.underlying285
 a233:=Tryz.isAgg285
 z233:=Tryz.sizeOf285
 v233:=Tryz.zeroValue285
 g17:=by kernel_rfl
 g18:=by kernel_rfl
 g19:=by kernel_rfl
 i0:=by kernel_rfl
 i2:=by kernel_rfl
 i3:=by kernel_rfl
 i4:=by kernel_rfl
 i5:=by kernel_rfl
 i9:=by kernel_rfl
 i20:=by kernel_rfl
 i37:=by kernel_rfl
 i46:=by kernel_rfl
 i51:=by kernel_rfl
 i53:=by kernel_rfl
 i171:=by kernel_rfl
 i173:=by kernel_rfl
 i212:=by kernel_rfl
 i232:=by kernel_rfl
 i233:=by kernel_rfl
 m17:=by kernel_rfl
 m18:=by kernel_rfl
 m19:=by kernel_rfl }
open Go.RowKit Go.Sort Go.Lib in
theorem Tryz.strconv_FormatInt_10 (n:Int) (h0 : -9223372036854775808≤n) (h1:n≤9223372036854775807) (w:World) (htab:Lib.TabIs Tryz.prog w "internal/strconv.uint64pow10" .u64 Lib.pow10Tab) :
  Calls Tryz.prog 109 #[.int .i64 n, .int .i64 10] w fun e w'=>e= .returned (.string ⟨(Lib.itoa n).toArray⟩)∧∃ k os,w'=grow (w.drewN k) os:=Any.strconv_FormatInt_10 Tryz.Bd n h0 h1 w htab
def Tryz.rq:Go.Shelf.Ren:=⟨fun|219=>269|217=>283|225=>284|224=>285|267=>286|266=>292|314=>293|n=>n,fun|9=>9|3=>3|4=>4|5=>5|46=>190|146=>339|51=>317|n=>n,fun|1=>3|n=>n⟩
theorem Tryz.Ee:Go.Proofs.Lays.n219 Tryz.prog Tryz.rq:={
 mixed:=by kernel_rfl
 f217:=Tryz.func283.trans (congrArg some (by kernel_rfl))
 f219:=Tryz.func269.trans (congrArg some (by kernel_rfl))
 f224:=Tryz.func285.trans (congrArg some (by kernel_rfl))
 f225:=Tryz.func284.trans (congrArg some (by kernel_rfl))
 f266:=Tryz.func292.trans (congrArg some (by kernel_rfl))
 f267:=Tryz.func286.trans (congrArg some (by kernel_rfl))
 f314:=Tryz.func293.trans (congrArg some (by kernel_rfl))
 t3:=Tryz.underlying3
 a3:=Tryz.isAgg3
 z3:=Tryz.sizeOf3
 v3:=Tryz.zeroValue3
 t4:=Tryz.underlying4
 a4:=Tryz.isAgg4
 z4:=Tryz.sizeOf4
 v4:=Tryz.zeroValue4
 t5:=Tryz.underlying5
 a5:=Tryz.isAgg5
 z5:=Tryz.sizeOf5
 v5:=Tryz.zeroValue5
 t9:=Tryz.underlying9
 a9:=Tryz.isAgg9
 z9:=Tryz.sizeOf9
 v9:=Tryz.zeroValue9
 t46:=Tryz.underlying190
 a46:=Tryz.isAgg190
 z46:=Tryz.sizeOf190
 v46:=Tryz.zeroValue190
 t51:=Tryz.underlying317
 a51:=Tryz.isAgg317
 z51:=Tryz.sizeOf317
 v51:=Tryz.zeroValue317
 t146:=Tryz.underlying339
 a146:=Tryz.isAgg339
 z146:=Tryz.sizeOf339
 v146:=Tryz.zeroValue339
 g1:=by kernel_rfl }
open Go.RowKit Go.Lib in
theorem Tryz.stringslite_Index_one (s:ByteArray) (c:UInt8) (w:World) :
  Calls Tryz.prog 269 #[.string s, .string ⟨#[c]⟩] w fun e w'=>e= .returned (.int .i64 (Lib.indexByte s.data.toList c))∧w'=w:=Any.stringslite_Index_one Tryz.Ee s c w
def Tryz.rA:Go.Shelf.Ren:=⟨fun|143=>244|219=>269|217=>283|225=>284|224=>285|267=>286|266=>292|314=>293|n=>n,fun|9=>9|3=>3|4=>4|5=>5|46=>190|146=>339|51=>317|n=>n,fun|1=>3|n=>n⟩
theorem Tryz.Ef:Go.Proofs.Lays.n143 Tryz.prog Tryz.rA:={
 mixed:=by kernel_rfl
 f143:=Tryz.func244.trans (congrArg some (by kernel_rfl))
 f217:=Tryz.func283.trans (congrArg some (by kernel_rfl))
 f219:=Tryz.func269.trans (congrArg some (by kernel_rfl))
 f224:=Tryz.func285.trans (congrArg some (by kernel_rfl))
 f225:=Tryz.func284.trans (congrArg some (by kernel_rfl))
 f266:=Tryz.func292.trans (congrArg some (by kernel_rfl))
 f267:=Tryz.func286.trans (congrArg some (by kernel_rfl))
 f314:=Tryz.func293.trans (congrArg some (by kernel_rfl))
 t3:=Tryz.underlying3
 a3:=Tryz.isAgg3
 z3:=Tryz.sizeOf3
 v3:=Tryz.zeroValue3
 t4:=Tryz.underlying4
 a4:=Tryz.isAgg4
 z4:=Tryz.sizeOf4
 v4:=Tryz.zeroValue4
 t5:=Tryz.underlying5
 a5:=Tryz.isAgg5
 z5:=Tryz.sizeOf5
 v5:=Tryz.zeroValue5
 t9:=Tryz.underlying9
 a9:=Tryz.isAgg9
 z9:=Tryz.sizeOf9
 v9:=Tryz.zeroValue9
 t46:=Tryz.underlying190
 a46:=Tryz.isAgg190
 z46:=Tryz.sizeOf190
 v46:=Tryz.zeroValue190
 t51:=Tryz.underlying317
 a51:=Tryz.isAgg317
 z51:=Tryz.sizeOf317
 v51:=Tryz.zeroValue317
 t146:=Tryz.underlying339
 a146:=Tryz.isAgg339
 z146:=Tryz.sizeOf339
 v146:=Tryz.zeroValue339
 g1:=by kernel_rfl }
open Go.RowKit Go.Lib in
theorem Tryz.strings_Index_one (s:ByteArray) (c:UInt8) (w:World) :
  Calls Tryz.prog 244 #[.string s, .string ⟨#[c]⟩] w fun e w'=>e= .returned (.int .i64 (Lib.indexByte s.data.toList c))∧w'=w:=Any.strings_Index_one Tryz.Ef s c w
def Tryz.rB:Go.Shelf.Ren:=⟨fun|264=>289|n=>n,fun|53=>29|46=>190|n=>n,fun|n=>n⟩
theorem Tryz.Eg:Go.Proofs.Lays.n264 Tryz.prog Tryz.rB:={
 mixed:=by kernel_rfl
 f264:=Tryz.func289.trans (congrArg some (by kernel_rfl))
 t46:=Tryz.underlying190
 a46:=Tryz.isAgg190
 z46:=Tryz.sizeOf190
 v46:=Tryz.zeroValue190
 t53:=Tryz.underlying29
 a53:=Tryz.isAgg29
 z53:=Tryz.sizeOf29
 v53:=Tryz.zeroValue29 }
open Go.RowKit Go.Lib in
theorem Tryz.bits_Mul64 (x y:Nat) (hx:x<18446744073709551616) (hy:y<18446744073709551616) (w:World) :
  Calls Tryz.prog 289 #[.int .u64 x, .int .u64 y] w fun e w'=>e= .returned (.tuple #[.int .u64 ((x*y / 18446744073709551616:Nat):Int), .int .u64 ((x*y % 18446744073709551616:Nat):Int)])∧w'=w:=Any.bits_Mul64 Tryz.Eg x y hx hy w
end Go.Proofs
namespace Go.Proofs.YtgephffbfiemeaaGreatDoor
open Go.Abs
set_option linter.all false
set_option maxRecDepth 100000
theorem JD:A6 Tryz.prog 113 :=
 ri (Go.Proofs.enters_of Tryz.func113 (by kernel_rfl) rfl) (fun x sep w=>Tryz.strings_Join_none x 0 sep w) (fun bk o c xs sep w h1 h2 h3 h4 h5=>Tryz.strings_Join bk o c xs sep w h1 h2 h3 h4 h5)
theorem JE:E4 Tryz.prog 112 :=
 A7 (Go.Proofs.enters_of Tryz.func112 (by kernel_rfl) rfl) (fun i hi w=>Tryz.strconv_Itoa_small i hi w)
theorem oi {k:Nat} (h:k<100):Lib.decDigits k=fp k:=by
 rw [Lib.decDigits]
 unfold fp
 split
 ·rfl
 ·rw [Lib.decDigits,dif_pos (by omega)];rfl
theorem gL:∀ (l:List Nat),(∀ x∈l,x<64)→Lib.joinTail [44] (l.map Lib.decDigits)=dj l
  | [],_=>rfl
  | k :: l, h => by
    have:=gL l (fun x hx=>h x (by simp [hx]))
    simp only [Lib.joinTail,List.map_cons,List.flatten_cons,dj] at this ⊢
    rw [this,oi (by have:=h k (by simp);omega)]
    simp
theorem tP (l:List Nat) (h:∀ x∈l,x<64):Lib.join (l.map Lib.decDigits) [44]=dF l:=by
  cases l with
  | nil=>rfl
  | cons k l =>
    rw [List.map_cons,Lib.join_cons,gL l (fun x hx=>h x (by simp [hx])),oi (by have:=h k (by simp);omega)]
    rfl
def strs (l:List Nat):List AV:=l.map fun n=>AV.str (Lib.decDigits n)
theorem b7 (l:List Nat):(strs l).length=l.length:=by simp [strs]
theorem xJ (l:List Nat) (k:Nat):strs l++ [.str (Lib.decDigits k)]=strs (l++ [k]):=by simp [strs]
theorem Be (τ:Nat) (l:List Nat):slv (.tsl τ l.length (strs l))=some ((l.map Lib.decDigits).length,(l.map Lib.decDigits).map AV.str):=by simp [slv,strs]
theorem oj (a:BitVec 64):Lib.join ((cC a).map Lib.decDigits) [44]=dF (cC a):=tP _ fun _ hx=>oW hx
theorem p51 (a:BitVec 64):PuG Tryz.prog gls 51 [.int .u64 a.toNat] (.str (cT a)):=by
 intro σ hσ
 refine aT c51 b51 ?_
 simp only [c51,↓R1,RR,seval]
 repeat' (first|(with_reducible rw [ah])|((with_reducible intro β hβ;(try simp only [RB] at hβ);(repeat (obtain ⟨⟨_,_⟩,hβ⟩:=hβ));(try (have hbis:=ag (by assumption) hβ;obtain ⟨_,_⟩:=hbis)))<;>(try simp only [↓R1,RR,seval])))
 refine (LJ a _).mono ?_
 rintro _ _ ⟨γ,hγ,rfl,rfl⟩
 rw [St.aD] at hγ
 obtain ⟨⟨_,_⟩,hγ⟩:=hγ
 simp only [↓R1,RR,seval]
 refine eQ [(true,3,0,9,1)] ?_
 simp only [cA,List.set_cons_zero,↓R1,RR,seval]
 refine fun τ hτ=>⟨_,_,rfl,?_⟩
 refine D3 a (fun pre c=>((σ.ad β [.tsl τ pre.length (strs pre)]).ad γ [.int .u64 c.toNat]).ai τ (9,1,pre.length)) (fun _=>True) rfl trivial ?_ ?_ ?_ ?_ ?_ ?_
 ·intro pre b;simp only [↓R1,RR,seval]
 ·intro pre b b';simp only [↓R1,RR,seval]
 ·intro pre b;exact hσ
 ·intro pre b L;simp only [↓R1,RR,seval]
 ·intro L r pre k b hL _ hk
  obtain ⟨rest,hr⟩:=hk
  have hlen:pre.length<64:=by
   have:=fM a
   rw [hr] at this
   simp at this
   omega
  have hk64:k<64:=oW (a:=a) (by rw [hr];simp)
  simp only [↓R1,RR,seval]
  have hm:pre.length+1≤maxLen:=by unfold maxLen;omega
  repeat' ((first|((first|(refine cD (.inr rfl) rfl ?_ ?_ ?_ ?_ ?_ ?_;(first|rfl|exact St.bm _ _ _|(simp only [↓R1,RR,seval]));(first|omega|(simp only [RZ,b7,List.length_nil,List.length_cons];omega)|(simp only [RZ,b7,List.length_nil,List.length_cons]));(first|rfl|first|omega|(simp only [RZ,b7,List.length_nil,List.length_cons];omega)|(simp only [RZ,b7,List.length_nil,List.length_cons])))|(refine bV rfl ?_ ?_ ?_ ?_ ?_ ?_;(first|rfl|exact St.bm _ _ _|(simp only [↓R1,RR,seval]));(first|omega|(simp only [RZ,b7,List.length_nil,List.length_cons];omega)|(simp only [RZ,b7,List.length_nil,List.length_cons]));(first|rfl|first|omega|(simp only [RZ,b7,List.length_nil,List.length_cons];omega)|(simp only [RZ,b7,List.length_nil,List.length_cons])))|(refine dr ?_ ?_ ?_ ?_;exact aU (by intro _;rfl) _)|(refine appD_own ?_ ?_ ?_ ?_ ?_;omega;exact aU (by intro _;rfl) _)|(refine ct rfl trivial rfl ?_ ?_ ?_ ?_ ?_;(first|rfl|first|omega|(simp only [RZ,b7,List.length_nil,List.length_cons];omega)|(simp only [RZ,b7,List.length_nil,List.length_cons]));(first|rfl|first|omega|(simp only [RZ,b7,List.length_nil,List.length_cons];omega)|(simp only [RZ,b7,List.length_nil,List.length_cons])))|(refine appD_fresh rfl trivial rfl ?_ ?_ ?_ ?_ ?_ ?_;omega;(first|rfl|first|omega|(simp only [RZ,b7,List.length_nil,List.length_cons];omega)|(simp only [RZ,b7,List.length_nil,List.length_cons]));(first|rfl|first|omega|(simp only [RZ,b7,List.length_nil,List.length_cons];omega)|(simp only [RZ,b7,List.length_nil,List.length_cons]))));(unfold maxLen;omega);omega)|(refine Ct (JE k (by omega)) ?_))<;>(try simp only [↓R1,RR,seval]))
  all_goals first|omega|exact Nat.le_refl _|assumption|exact St.le_refl _|(intros;(repeat' (with_reducible apply And.intro))<;>first|omega|(simp only [RZ,b7];omega))|(simp only [aE,slot,ae,↓R1,RR,seval];(repeat' (with_reducible apply And.intro))<;>first|exact j4 (by have:=dT;omega)|exact cd _ _ _|exact bw _ _|exact af (congrArg (AV.tsl _ _) (flat_step (by assumption))))|((repeat (first|exact St.le_refl _|(refine St.aM ?_ (by assumption))|(refine St.eI ?_ (by assumption))));done)|(simp_all;done)|skip
  all_goals (try simp only [↓R1,RR,seval])
  refine ⟨_,?_,?_,rfl⟩
  rotate_left
  ·exact hL
  simp only [xJ,List.length_append,↓R1,RR,seval]
 ·intro _
  simp only [↓R1,RR,seval]
  have hbl:=nT a
  refine ((JD _ _ [44] _ (Be τ (cC a)) (by have:=fM a;simp;omega) (by rw [oj];omega)).mono ?_)
  rintro _ _ ⟨rfl,rfl⟩
  rw [oj]
  simp only [↓R1,RR,seval]
  refine ⟨by omega,?_,?_⟩
  ·omega
  (refine ak (af ?_))
  (simp only [ao,↓R1,RR,seval])
  simp [cT]
open Go.Lib
def I64 (n:Int):Prop:= -9223372036854775808≤n∧n≤9223372036854775807
def gl3:List (Nat × List AV):= [(1,qV),(2,Ay)]
theorem Eh {σ:St} (h:bY gl3 σ):bY gls σ:=fun k cs hk=>by
 simp only [gls,Go.Abs.look] at hk
 cases hb:Nat.beq k 1 with
 | false=>rw [hb] at hk;cases hk
 | true=>rw [hb] at hk;exact h k cs (by simp only [gl3,Go.Abs.look,hb];exact hk)
theorem PuG.up3 {f:Nat} {xs:List AV} {v:AV} (h:PuG Tryz.prog gls f xs v):PuG Tryz.prog gl3 f xs v:=fun σ hσ=>h σ (Eh hσ)
theorem Ei:Tryz.prog.globalNamed "internal/strconv.uint64pow10" =some 2:=by kernel_rfl
theorem JF:Jm Tryz.prog 109 2 :=
 DS (Go.Proofs.enters_of Tryz.func109 (by kernel_rfl) rfl) Ei (fun n h0 h1 w ht=>Tryz.strconv_FormatInt_10 n h0 h1 w ht)
theorem LW (n:Int) (hn:I64 n):PuG Tryz.prog gl3 141 [.int .i64 n] (.str (itoa n)):=by
 intro σ hσ
 refine aT Gs Kz ?_
 simp only [Gs,↓R1,RR,Nat.reduceEqDiff]
 refine AC.mono (JF n σ hn.1 hn.2 (hσ _ _ rfl)) ?_
 rintro r s ⟨rfl,rfl⟩
 simp only [↓R1,RR,Nat.reduceEqDiff]
 (refine ak (af ?_))
 (simp only [ao,↓R1,RR,Nat.reduceEqDiff])
def Ej:List UInt8:= [65,66,67,68,69,70,71,72,73,74,75,76,77,78,79,80,81,82,83,84,85,86,87,88,89,90]
def cP (k:Int):List UInt8:=bif decide (k<0)||decide (26≤k) then [] else (Ej.drop k.toNat).take 1
theorem JG {k:Int} (h:(decide (k<0)||decide (26≤k))=false):(0≤k∧k<26)∧IntKind.i64.wrap (k+1)=k+1∧(k+1).toNat - k.toNat=1:=by
 simp only [Bool.or_eq_false_iff,decide_eq_false_iff_not] at h
 exact ⟨by omega,wrap64 (by omega) (by omega),by omega⟩
theorem p53 (k:Int):Pu Tryz.prog 53 [.int .i64 k] (.tup [.str (cP k), .int .i64 (b6 k)]):=by
 (refine al c53 b53 fun σ=>?_;simp only [c53,↓R1,RR,Nat.reduceEqDiff])
 refine an (fun hc=>?_) (fun hc=>?_)
 ·simp only [↓R1,RR,Nat.reduceEqDiff]
  (refine ak (af ?_))
  (simp only [ao,↓R1,RR,Nat.reduceEqDiff])
  simp only [cP,b6,hc,cond_true]
 ·obtain ⟨h1,h2,h3⟩:=JG hc
  simp only [h2,↓R1,RR,Nat.reduceEqDiff]
  simp only [h3]
  refine ⟨⟨by omega,by omega,by simp;omega⟩,?_⟩
  (refine ak (af ?_))
  (simp only [ao,↓R1,RR,Nat.reduceEqDiff])
  simp only [cP,b6,hc,cond_false]
  rfl
theorem p59 (k:Int):Pu Tryz.prog 59 [.int .i64 k] (.tup [.str (cP k), .int .i64 (b6 k)]):=by
 (refine al c59 b59 fun σ=>?_;simp only [c59,↓R1,RR,Nat.reduceEqDiff])
 refine an (fun hc=>?_) (fun hc=>?_)
 ·simp only [↓R1,RR,Nat.reduceEqDiff]
  (refine ak (af ?_))
  (simp only [ao,↓R1,RR,Nat.reduceEqDiff])
  simp only [cP,b6,hc,cond_true]
 ·obtain ⟨h1,h2,h3⟩:=JG hc
  simp only [h2,↓R1,RR,Nat.reduceEqDiff]
  simp only [h3]
  refine ⟨⟨by omega,by omega,by simp;omega⟩,?_⟩
  (refine ak (af ?_))
  (simp only [ao,↓R1,RR,Nat.reduceEqDiff])
  simp only [cP,b6,hc,cond_false]
  rfl
theorem JH (v:Int):IntKind.u64.wrap v=((BitVec.ofInt 64 v).toNat:Int):=by
 rw [IntKind.wrap_u64,BitVec.toNat_ofInt];omega
theorem E5 (a:BitVec 64) {k:Nat} (h:k<8):IntKind.u8.wrap ((a.toNat:Int).fdiv (2^min (56 - 8*(k:Int)).toNat IntKind.u64.bits))=(oa a k:Nat):=by
 have e:(56 - 8*(k:Int)).toNat=56 - 8*k:=by omega
 rw [e,HJ]
theorem LX (a:BitVec 64):Tp Tryz.prog 210 [.int .u64 a.toNat] 5 1 8 (fP a 8):=by
 have hby:=True.intro
 have hge:∀ k:Nat,decide ((0:Int)≤56 - 8*(k:Int))=decide (k<8):=fun k=>by rw [Bool.eq_iff_iff];simp;omega
 intro σ
 (refine aT GW K0 ?_;simp only [GW,↓R1,RR,Nat.reduceEqDiff,hby])
 refine iZ 8 4 5 1 0 [] (fun τ k=> [(5, .int .i64 (56 - 8*(k:Int))),(3, .int .u64 a.toNat),(4, .tsl τ k (fP a k))]) (fun τ k=>σ.ai τ (5,1,k)) (fun _=>True) trivial rfl trivial (fun τ=>by simp [aE,slot,ae,fP]) (fun τ _=>St.le_refl _) (fun τ hτ k hk _=>?_)
 simp only [hge,↓R1,RR,Nat.reduceEqDiff,hby]
 refine an (fun hc=>?_) (fun hc=>?_)
 ·have hlt:k<8:=by simpa using hc
  have hby:=E5 a hlt
  have hl:=ax a k
  have hm:k+1≤maxLen:=by unfold maxLen;omega
  simp only [↓R1,RR,Nat.reduceEqDiff,hby]
  repeat' (first|(with_reducible refine And.intro ?_ ?_;focus (intros;(repeat' (with_reducible apply And.intro))<;>first|omega|(simp only [RZ,ax];omega)))|(with_reducible apply And.intro)|(((first|(refine cD (.inr rfl) rfl ?_ ?_ ?_ ?_ ?_ ?_;(first|rfl|exact St.bm _ _ _|(simp only [↓R1,RR,Nat.reduceEqDiff,hby]));(first|omega|(simp only [RZ,ax,List.length_nil,List.length_cons];omega)|(simp only [RZ,ax,List.length_nil,List.length_cons]));(first|rfl|first|omega|(simp only [RZ,ax,List.length_nil,List.length_cons];omega)|(simp only [RZ,ax,List.length_nil,List.length_cons])))|(refine bV rfl ?_ ?_ ?_ ?_ ?_ ?_;(first|rfl|exact St.bm _ _ _|(simp only [↓R1,RR,Nat.reduceEqDiff,hby]));(first|omega|(simp only [RZ,ax,List.length_nil,List.length_cons];omega)|(simp only [RZ,ax,List.length_nil,List.length_cons]));(first|rfl|first|omega|(simp only [RZ,ax,List.length_nil,List.length_cons];omega)|(simp only [RZ,ax,List.length_nil,List.length_cons])))|(refine dr ?_ ?_ ?_ ?_;exact aU (by intro _;rfl) _)|(refine appD_own ?_ ?_ ?_ ?_ ?_;omega;exact aU (by intro _;rfl) _)|(refine ct rfl trivial rfl ?_ ?_ ?_ ?_ ?_;(first|rfl|first|omega|(simp only [RZ,ax,List.length_nil,List.length_cons];omega)|(simp only [RZ,ax,List.length_nil,List.length_cons]));(first|rfl|first|omega|(simp only [RZ,ax,List.length_nil,List.length_cons];omega)|(simp only [RZ,ax,List.length_nil,List.length_cons])))|(refine appD_fresh rfl trivial rfl ?_ ?_ ?_ ?_ ?_ ?_;omega;(first|rfl|first|omega|(simp only [RZ,ax,List.length_nil,List.length_cons];omega)|(simp only [RZ,ax,List.length_nil,List.length_cons]));(first|rfl|first|omega|(simp only [RZ,ax,List.length_nil,List.length_cons];omega)|(simp only [RZ,ax,List.length_nil,List.length_cons]))));(unfold maxLen;omega);omega)<;>(try simp only [↓R1,RR,Nat.reduceEqDiff,hby])))
  all_goals first|omega|exact Nat.le_refl _|assumption|exact St.le_refl _|(intros;(repeat' (with_reducible apply And.intro))<;>first|omega|(simp only [RZ,ax];omega))|(simp only [aE,slot,ae,↓R1,RR,Nat.reduceEqDiff,hby];(repeat' (with_reducible apply And.intro))<;>first|exact j4 (by have:=dT;omega)|exact cd _ _ _|exact bw _ _|exact af (congrArg (AV.tsl _ _) (flat_step (by assumption))))|((repeat (first|exact St.le_refl _|(refine St.aM ?_ (by assumption))|(refine St.eI ?_ (by assumption))));done)|(simp_all;done)|skip
  simp only [aE,slot,ae,oc,↓R1,RR,Nat.reduceEqDiff,hby]
  exact af (by rw [wrap64 (by omega) (by omega)];congr 1;omega)
 ·have:k=8:=by simp at hc;omega
  subst this
  simp only [↓R1,RR,Nat.reduceEqDiff,hby]
  refine ma τ hτ (by simp) (by simp [aj,rvS]) (af (by (simp only [ao,↓R1,RR,Nat.reduceEqDiff,hby]))) (St.le_refl _)
theorem LY (v:Int):Tp Tryz.prog 211 [.int .i64 v] 5 1 8 (fP (BitVec.ofInt 64 v) 8):=by
 have hby:=True.intro
 have hge:∀ k:Nat,decide ((0:Int)≤56 - 8*(k:Int))=decide (k<8):=fun k=>by rw [Bool.eq_iff_iff];simp;omega
 intro σ
 (refine aT GX K1 ?_;simp only [GX,↓R1,RR,Nat.reduceEqDiff,hby])
 simp only [JH]
 obtain ⟨a,ha⟩:∃ a,BitVec.ofInt 64 v=a:=⟨_,rfl⟩
 rw [ha]
 refine iZ 8 4 5 1 0 [] (fun τ k=> [(5, .int .i64 (56 - 8*(k:Int))),(3, .int .u64 a.toNat),(4, .tsl τ k (fP a k))]) (fun τ k=>σ.ai τ (5,1,k)) (fun _=>True) trivial rfl trivial (fun τ=>by simp [aE,slot,ae,fP]) (fun τ _=>St.le_refl _) (fun τ hτ k hk _=>?_)
 simp only [hge,↓R1,RR,Nat.reduceEqDiff,hby]
 refine an (fun hc=>?_) (fun hc=>?_)
 ·have hlt:k<8:=by simpa using hc
  have hby:=E5 a hlt
  have hl:=ax a k
  have hm:k+1≤maxLen:=by unfold maxLen;omega
  simp only [↓R1,RR,Nat.reduceEqDiff,hby]
  repeat' (first|(with_reducible refine And.intro ?_ ?_;focus (intros;(repeat' (with_reducible apply And.intro))<;>first|omega|(simp only [RZ,ax];omega)))|(with_reducible apply And.intro)|(((first|(refine cD (.inr rfl) rfl ?_ ?_ ?_ ?_ ?_ ?_;(first|rfl|exact St.bm _ _ _|(simp only [↓R1,RR,Nat.reduceEqDiff,hby]));(first|omega|(simp only [RZ,ax,List.length_nil,List.length_cons];omega)|(simp only [RZ,ax,List.length_nil,List.length_cons]));(first|rfl|first|omega|(simp only [RZ,ax,List.length_nil,List.length_cons];omega)|(simp only [RZ,ax,List.length_nil,List.length_cons])))|(refine bV rfl ?_ ?_ ?_ ?_ ?_ ?_;(first|rfl|exact St.bm _ _ _|(simp only [↓R1,RR,Nat.reduceEqDiff,hby]));(first|omega|(simp only [RZ,ax,List.length_nil,List.length_cons];omega)|(simp only [RZ,ax,List.length_nil,List.length_cons]));(first|rfl|first|omega|(simp only [RZ,ax,List.length_nil,List.length_cons];omega)|(simp only [RZ,ax,List.length_nil,List.length_cons])))|(refine dr ?_ ?_ ?_ ?_;exact aU (by intro _;rfl) _)|(refine appD_own ?_ ?_ ?_ ?_ ?_;omega;exact aU (by intro _;rfl) _)|(refine ct rfl trivial rfl ?_ ?_ ?_ ?_ ?_;(first|rfl|first|omega|(simp only [RZ,ax,List.length_nil,List.length_cons];omega)|(simp only [RZ,ax,List.length_nil,List.length_cons]));(first|rfl|first|omega|(simp only [RZ,ax,List.length_nil,List.length_cons];omega)|(simp only [RZ,ax,List.length_nil,List.length_cons])))|(refine appD_fresh rfl trivial rfl ?_ ?_ ?_ ?_ ?_ ?_;omega;(first|rfl|first|omega|(simp only [RZ,ax,List.length_nil,List.length_cons];omega)|(simp only [RZ,ax,List.length_nil,List.length_cons]));(first|rfl|first|omega|(simp only [RZ,ax,List.length_nil,List.length_cons];omega)|(simp only [RZ,ax,List.length_nil,List.length_cons]))));(unfold maxLen;omega);omega)<;>(try simp only [↓R1,RR,Nat.reduceEqDiff,hby])))
  all_goals first|omega|exact Nat.le_refl _|assumption|exact St.le_refl _|(intros;(repeat' (with_reducible apply And.intro))<;>first|omega|(simp only [RZ,ax];omega))|(simp only [aE,slot,ae,↓R1,RR,Nat.reduceEqDiff,hby];(repeat' (with_reducible apply And.intro))<;>first|exact j4 (by have:=dT;omega)|exact cd _ _ _|exact bw _ _|exact af (congrArg (AV.tsl _ _) (flat_step (by assumption))))|((repeat (first|exact St.le_refl _|(refine St.aM ?_ (by assumption))|(refine St.eI ?_ (by assumption))));done)|(simp_all;done)|skip
  simp only [aE,slot,ae,oc,↓R1,RR,Nat.reduceEqDiff,hby]
  exact af (by rw [wrap64 (by omega) (by omega)];congr 1;omega)
 ·have:k=8:=by simp at hc;omega
  subst this
  simp only [↓R1,RR,Nat.reduceEqDiff,hby]
  refine ma τ hτ (by simp) (by simp [aj,rvS]) (af (by (simp only [ao,↓R1,RR,Nat.reduceEqDiff,hby]))) (St.le_refl _)
def lE (l:BitVec 64) (k v:Int):List UInt8:=bif b6 k == 0 then ka l++UInt8.ofNat (IntKind.u8.wrap k).toNat::ka (BitVec.ofInt 64 v) else []
theorem xK (a b:BitVec 64) (x:Int):((fP a 8++ [AV.int .u8 x])++fP b 8).all isByte=true∧((fP a 8++ [AV.int .u8 x])++fP b 8).map Go.Abs.byteOf=ka a++UInt8.ofNat x.toNat::ka b∧((fP a 8++ [AV.int .u8 x])++fP b 8).length=17:=by
 refine ⟨by simp [List.all_append,qX,isByte],?_,by simp [ax]⟩
 rw [List.map_append,List.map_append,mh,mh]
 simp [Go.Abs.byteOf]
set_option maxHeartbeats 4000000 in
theorem LZ (l:BitVec 64) (k v:Int):Pu Tryz.prog 155 [.agg [.int .u64 l.toNat, .int .i64 k, .int .i64 v]] (.tup [.str (lE l k v), .int .i64 (b6 k)]):=by
 obtain ⟨g1,g2,g3⟩:=xK l (BitVec.ofInt 64 v) (IntKind.u8.wrap k)
 (refine al Gx KE fun σ=>?_;simp only [Gx,↓R1,RR,Nat.reduceEqDiff])
 repeat' (first|(with_reducible refine And.intro ?_ ?_;focus (intros;(repeat' (with_reducible apply And.intro))<;>first|omega|(simp only [RZ,ax];omega)))|(with_reducible apply And.intro)|((first|(refine an (fun hc=>?_) (fun hc=>?_))|(with_reducible intro β hβ;(try simp only [RB] at hβ);(repeat (obtain ⟨⟨_,_⟩,hβ⟩:=hβ));(try (have hbis:=ag (by assumption) hβ;obtain ⟨_,_⟩:=hbis)))|((first|(refine cD (.inr rfl) rfl ?_ ?_ ?_ ?_ ?_ ?_;(first|rfl|exact St.bm _ _ _|(simp only [↓R1,RR,Nat.reduceEqDiff]));(first|omega|(simp only [RZ,ax,List.length_nil,List.length_cons];omega)|(simp only [RZ,ax,List.length_nil,List.length_cons]));(first|rfl|first|omega|(simp only [RZ,ax,List.length_nil,List.length_cons];omega)|(simp only [RZ,ax,List.length_nil,List.length_cons])))|(refine bV rfl ?_ ?_ ?_ ?_ ?_ ?_;(first|rfl|exact St.bm _ _ _|(simp only [↓R1,RR,Nat.reduceEqDiff]));(first|omega|(simp only [RZ,ax,List.length_nil,List.length_cons];omega)|(simp only [RZ,ax,List.length_nil,List.length_cons]));(first|rfl|first|omega|(simp only [RZ,ax,List.length_nil,List.length_cons];omega)|(simp only [RZ,ax,List.length_nil,List.length_cons])))|(refine dr ?_ ?_ ?_ ?_;exact aU (by intro _;rfl) _)|(refine appD_own ?_ ?_ ?_ ?_ ?_;omega;exact aU (by intro _;rfl) _)|(refine ct rfl trivial rfl ?_ ?_ ?_ ?_ ?_;(first|rfl|first|omega|(simp only [RZ,ax,List.length_nil,List.length_cons];omega)|(simp only [RZ,ax,List.length_nil,List.length_cons]));(first|rfl|first|omega|(simp only [RZ,ax,List.length_nil,List.length_cons];omega)|(simp only [RZ,ax,List.length_nil,List.length_cons])))|(refine appD_fresh rfl trivial rfl ?_ ?_ ?_ ?_ ?_ ?_;omega;(first|rfl|first|omega|(simp only [RZ,ax,List.length_nil,List.length_cons];omega)|(simp only [RZ,ax,List.length_nil,List.length_cons]));(first|rfl|first|omega|(simp only [RZ,ax,List.length_nil,List.length_cons];omega)|(simp only [RZ,ax,List.length_nil,List.length_cons]))));(unfold maxLen;omega);omega)|(refine Pt (JA l.toNat k v) ?_)|((refine Tp.to (LX l) ?_ ?_;(focus ((repeat' (first|exact ae _|exact c7|exact cd _ _ _|exact bw _ _|exact wkL.nil|exact aa _|refine ez ?_|refine dC ?_|refine wkL.cons ?_ ?_));done));intro τ hβ;(try simp only [RB] at hβ);(repeat (obtain ⟨⟨_,_⟩,hβ⟩:=hβ));(try (have hbis:=ag (by assumption) hβ;obtain ⟨_,_⟩:=hbis))))|((refine Tp.to (LY v) ?_ ?_;(focus ((repeat' (first|exact ae _|exact c7|exact cd _ _ _|exact bw _ _|exact wkL.nil|exact aa _|refine ez ?_|refine dC ?_|refine wkL.cons ?_ ?_));done));intro τ hβ;(try simp only [RB] at hβ);(repeat (obtain ⟨⟨_,_⟩,hβ⟩:=hβ));(try (have hbis:=ag (by assumption) hβ;obtain ⟨_,_⟩:=hbis)))))<;>(try simp only [↓R1,RR,Nat.reduceEqDiff])))
 ·(refine ak (af ?_))
  (simp only [ao,↓R1,RR,Nat.reduceEqDiff])
  have he:(b6 k == 0)=false:=by simpa using hc
  simp only [lE,he,cond_false]
 all_goals ((refine ak (af ?_));(simp only [ao,↓R1,RR,Nat.reduceEqDiff]);rw [g2];have he:b6 k=0:=by simpa using hc)
 all_goals simp [lE,he]
theorem JI (k:Nat) (h:k<10):List.take 1 (List.drop k ([48,49,50,51,52,53,54,55,56,57]:List UInt8))= [UInt8.ofNat (48+k)]:=by
 rcases (by omega:k=0∨k=1∨k=2∨k=3∨k=4∨k=5∨k=6∨k=7∨k=8∨k=9) with rfl|rfl|rfl|rfl|rfl|rfl|rfl|rfl|rfl|rfl<;>rfl
theorem dU (n:Nat) (h:n<18446744073709551616):(decDigits n).length≤20:=by
  have:∀ (j:Nat) (n:Nat),n<10^(j+1)→(decDigits n).length≤j+1:=by
    intro j
    induction j with
    | zero=>intro n h;rw [decDigits,dif_pos (by omega)];simp
    | succ j ih =>
      intro n h
      rw [decDigits]
      split
      · simp
      · have:=ih (n / 10) (by rw [Nat.pow_succ] at h;omega)
        simp only [List.length_append,List.length_cons,List.length_nil];omega
  exact this 19 n (Nat.lt_trans h (by decide))
theorem L0 (n:Nat):n<18446744073709551616→Pu Tryz.prog 193 [.int .u64 n] (.str (decDigits n)):=by
  induction n using Nat.strongRecOn with
  | _ n ih =>
    intro hn
    have hlt:decide ((n:Int)<10)=decide (n<10):=by rw [Bool.eq_iff_iff];simp;omega
    (refine al GO KU fun σ=>?_;simp only [GO,↓R1,RR,Nat.reduceEqDiff,Nat.reduceAdd,Nat.reduceLeDiff,Nat.reduceLT])
    simp only [hlt,↓R1,RR,Nat.reduceEqDiff,Nat.reduceAdd,Nat.reduceLeDiff,Nat.reduceLT]
    refine an (fun hc=>?_) (fun hc=>?_)
    · have h10:n<10:=by simpa using hc
      have hw:IntKind.u64.wrap ((n:Int)+1)=n+1:=by rw [IntKind.wrap_u64];omega
      have ht:((n:Int)+1).toNat - n=1:=by omega
      simp only [hw,↓R1,RR,Nat.reduceEqDiff,Nat.reduceAdd,Nat.reduceLeDiff,Nat.reduceLT]
      simp only [ht,JI n h10]
      refine ⟨⟨by omega,by omega,by simp;omega⟩,?_⟩
      (refine ak (af ?_))
      (simp only [ao,↓R1,RR,Nat.reduceEqDiff,Nat.reduceAdd,Nat.reduceLeDiff,Nat.reduceLT])
      rw [decDigits,dif_pos h10]
    · have h10:¬ n<10:=by simpa using hc
      have hi:=ih (n / 10) (by omega) (by omega)
      have h1:Int.tdiv (n:Int) 10=((n / 10:Nat):Int):=rfl
      have h2:Int.tmod (n:Int) 10=((n % 10:Nat):Int):=rfl
      have h3:IntKind.u64.wrap ((n / 10:Nat):Int)=((n / 10:Nat):Int):=by rw [IntKind.wrap_u64];omega
      have h4:IntKind.u64.wrap (((n % 10:Nat):Int)+1)=((n % 10:Nat):Int)+1:=by rw [IntKind.wrap_u64];omega
      have ht:(((n % 10:Nat):Int)+1).toNat - n % 10=1:=by omega
      have hd:=dU (n / 10) (by omega)
      have hm:n % 10<10:=Nat.mod_lt _ (by decide)
      simp only [h1,h2,h3,h4,↓R1,RR,Nat.reduceEqDiff,Nat.reduceAdd,Nat.reduceLeDiff,Nat.reduceLT]
      repeat' (first|(with_reducible refine And.intro ?_ ?_;(focus (first|omega|(intros;(repeat' (with_reducible apply And.intro))<;>first|omega|(simp only [List.length_append,List.length_cons,List.length_nil];omega)))))|(with_reducible apply And.intro)|((first|refine Pu.to (hi) (aa _) ?_|refine aK (hi) (aa _) ?_);(try simp only [↓R1,RR,Nat.reduceEqDiff,Nat.reduceAdd,Nat.reduceLeDiff,Nat.reduceLT])))
      all_goals (try simp only [h2,h4,Int.toNat_natCast,ht,JI _ hm])
      all_goals first|omega|skip
      · simp only [List.length_cons,List.length_nil];omega
      · (refine ak (af ?_))
        (simp only [ao,↓R1,RR,Nat.reduceEqDiff,Nat.reduceAdd,Nat.reduceLeDiff,Nat.reduceLT])
        rw [decDigits.eq_def n,dif_neg h10]
theorem cF (v:Int) (hv:I64 v):(itoa v).length≤21:=by
 unfold I64 at hv
 unfold itoa
 split
 ·have:=dU v.natAbs (by omega)
  simp only [List.length_cons];omega
 ·have:=dU v.toNat (by omega)
  omega
theorem dV (a:BitVec 64):(cT a).length≤194:=by
 have:=nT a
 simp only [cT,List.length_cons,List.length_append,List.length_nil];omega
theorem kP (k:Int):(cP k).length≤1:=by unfold cP;cases (decide (k<0)||decide (26≤k))<;>simp;omega
theorem wI (n:Int):IntKind.i64.wrap n=if 9223372036854775808≤n % 18446744073709551616 then n % 18446744073709551616 - 18446744073709551616 else n % 18446744073709551616:=by
 simp [IntKind.wrap,IntKind.bits,IntKind.signed]
theorem wU (n:Int):IntKind.u64.wrap n=n % 18446744073709551616:=by
 simp [IntKind.wrap,IntKind.bits,IntKind.signed]
theorem wU8 (n:Int):IntKind.u8.wrap n=n % 256:=by
 simp [IntKind.wrap,IntKind.bits,IntKind.signed]
def dg (c:UInt8):Bool:=decide (48≤c.toNat)&&decide (c.toNat≤57)
def om (a:Nat) (c:UInt8):Nat:=a*10+(c.toNat - 48)
def val (a:Nat) (l:List UInt8):Nat:=l.foldl om a
theorem Bf (l:List UInt8) (a:Nat) (c:UInt8):val a (l++ [c])=val a l*10+(c.toNat - 48):=by
 unfold val
 rw [List.foldl_append]
 rfl
def gB (s:List UInt8):Bool:=s == []||(decide ((1:Int)<s.length)&&((((s[0]?).getD 0).toNat:Nat):Int) == 48)
def dm (s:List UInt8):Bool:= !gB s&&s.all dg
theorem nu (s:List UInt8) (k:Nat) (h:k<s.length):val 0 (s.take (k+1))=val 0 (s.take k)*10+(s[k].toNat - 48):=by
 rw [←List.take_append_getElem h,Bf]
theorem JJ {s:List UInt8} (k:Nat) (h:k<s.length) (hc:dg s[k]=false):s.all dg=false:=by
 cases h2:s.all dg with
 | false=>rfl
 | true=>rw [List.all_eq_true] at h2;rw [h2 _ (List.getElem_mem h)] at hc;cases hc
def xL (s:List UInt8):List AV:= [.int .u64 (bif dm s then ((val 0 s % 18446744073709551616:Nat):Int) else 0), .bool (dm s&&decide (18446744073709551616≤val 0 s)), .bool (dm s)]
theorem JK (V d:Nat) (hd:d≤9):(18446744073709551616≤V∨(V % 18446744073709551616*10) / 18446744073709551616≠0∨((V % 18446744073709551616*10) % 18446744073709551616+d) / 18446744073709551616≠0)↔18446744073709551616≤V*10+d:=by omega
theorem JL (V d:Nat):((V % 18446744073709551616*10) % 18446744073709551616+d) % 18446744073709551616=(V*10+d) % 18446744073709551616:=by omega
theorem step1 (V d:Nat) (hd:d≤9):(decide (18446744073709551616≤V)||(((V % 18446744073709551616*10 / 18446744073709551616:Nat):Int) != 0)||((((V % 18446744073709551616*10 % 18446744073709551616+d) / 18446744073709551616:Nat):Int) != 0))=decide (18446744073709551616≤V*10+d):=by
 have h:=JK V d hd
 rw [Bool.eq_iff_iff]
 simp only [Bool.or_eq_true,decide_eq_true_eq,bne_iff_ne,ne_eq,Int.natCast_eq_zero]
 rw [or_assoc]
 exact h
theorem Bg:∀ (l:List UInt8) (a:Nat),a≤val a l
  | [],a=>Nat.le_refl _
  | c :: l, a => by
    have:=Bg l (om a c)
    have h2:a≤om a c:=by unfold om;omega
    exact Nat.le_trans h2 this
theorem val_zero {t:List UInt8} (hg:dm t=true):(val 0 t == 0)=(t == [48]):=by
  simp only [dm,Bool.and_eq_true,Bool.not_eq_true'] at hg
  obtain ⟨h1,h2⟩:=hg
  cases t with
  | nil=>simp [gB] at h1
  | cons c l =>
    simp only [List.all_cons,Bool.and_eq_true,dg,decide_eq_true_eq] at h2
    have e:val 0 (c::l)=val (c.toNat - 48) l:=by unfold val;simp [om]
    rw [e]
    cases l with
    | nil =>
      rw [Bool.eq_iff_iff]
      simp only [val,List.foldl_nil,beq_iff_eq,List.cons.injEq,and_true]
      constructor
      · intro h;exact UInt8.toNat_inj.1 (show c.toNat=48 by omega)
      · intro h;subst h;rfl
    | cons d l =>
      have h3:c.toNat≠48:=by
        intro h
        simp [gB,h] at h1
        omega
      have h4:=Bg (d::l) (c.toNat - 48)
      rw [Bool.eq_iff_iff]
      simp only [beq_iff_eq,List.cons.injEq]
      constructor
      · intro h;omega
      · intro h;simp at h
def Bh (s:List UInt8) (m:Int):List AV:=bif dm s then (bif decide (18446744073709551616≤val 0 s)||decide (m<((val 0 s % 18446744073709551616:Nat):Int)) then [.int .u64 0, .int .i64 2] else [.int .u64 ((val 0 s % 18446744073709551616:Nat):Int), .int .i64 0]) else [.int .u64 0, .int .i64 3]
def Bi (s:List UInt8) (m:Int):Bool:=decide (18446744073709551616≤val 0 s)||decide (m<((val 0 s % 18446744073709551616:Nat):Int))
def Bj (s:List UInt8) (m:Int):Int:=bif dm s then (bif Bi s m then 0 else ((val 0 s % 18446744073709551616:Nat):Int)) else 0
def tQ (s:List UInt8) (m:Int):Int:=bif dm s then (bif Bi s m then 2 else 0) else 3
theorem Ek (s:List UInt8) (m:Int):Bh s m= [.int .u64 (Bj s m), .int .i64 (tQ s m)]:=by
 have e:Bh s m=bif dm s then (bif Bi s m then [.int .u64 0, .int .i64 2] else [.int .u64 ((val 0 s % 18446744073709551616:Nat):Int), .int .i64 0]) else [.int .u64 0, .int .i64 3]:=rfl
 rw [e]
 unfold Bj tQ
 cases dm s<;>cases Bi s m<;>rfl
theorem Bl (N:Nat) (c:UInt8) (hN:0<N) (hc:dg c=true):decDigits (N*10+(c.toNat - 48))=decDigits N++ [c]:=by
 simp only [dg,Bool.and_eq_true,decide_eq_true_eq] at hc
 rw [decDigits,dif_neg (by omega)]
 have h1:(N*10+(c.toNat - 48)) / 10=N:=by omega
 have h2:48+(N*10+(c.toNat - 48)) % 10=c.toNat:=by omega
 rw [h1,h2]
 congr 2
 exact UInt8.ofNat_toNat
theorem mr:∀ (r:List UInt8) (a:Nat),0<a→r.all dg=true→decDigits (val a r)=decDigits a++r
  | [],a,_,_=>by simp [val]
  | c :: l, a, ha, h => by
    rw [List.all_cons,Bool.and_eq_true] at h
    have e:val a (c::l)=val (a*10+(c.toNat - 48)) l:=rfl
    rw [e,mr l _ (by omega) h.2,Bl a c ha h.1,List.append_assoc];rfl
theorem uW {t:List UInt8} (hg:dm t=true):decDigits (val 0 t)=t:=by
  have hz:=val_zero hg
  simp only [dm,Bool.and_eq_true,Bool.not_eq_true'] at hg
  obtain ⟨h1,h2⟩:=hg
  cases t with
  | nil=>simp [gB] at h1
  | cons c l =>
    have hall:=h2
    simp only [List.all_cons,Bool.and_eq_true] at h2
    have hc:=h2.1
    simp only [dg,Bool.and_eq_true,decide_eq_true_eq] at hc
    have e:val 0 (c::l)=val (c.toNat - 48) l:=by unfold val;simp [om]
    have hone:decDigits (c.toNat - 48)= [c]:=by
      rw [decDigits,dif_pos (by omega)]
      congr 1
      rw [show 48+(c.toNat - 48)=c.toNat by omega]
      exact UInt8.ofNat_toNat
    by_cases h0:c.toNat - 48=0
    · cases l with
      | nil=>rw [e,h0];rw [h0] at hone;exact hone
      | cons d l =>
        have:c.toNat=48:=by omega
        simp [gB,this] at h1
        omega
    · rw [e,mr l _ (by omega) h2.2,hone];rfl
theorem xM (x y c:Int) (hc:c.toNat≤1):Pu Tryz.prog 290 [.int .u64 x, .int .u64 y, .int .u64 c] (o9 x y c) :=
 AA Tryz.func290 (by kernel_rfl) rfl (by kernel_rfl) (by kernel_rfl) x y c hc
theorem HM (x y:Nat) (hx:x<18446744073709551616) (hy:y<18446744073709551616):Pu Tryz.prog 289 [.int .u64 x, .int .u64 y] (.tup [.int .u64 ((x*y / 18446744073709551616:Nat):Int), .int .u64 ((x*y % 18446744073709551616:Nat):Int)]):=by
 intro σ
 refine AC.eO (Go.Proofs.enters_of Tryz.func289 (by kernel_rfl) rfl) ?_
 intro g w vs hI hv
 obtain ⟨v1,vs,rfl,r1,hv⟩:=hv.cons_inv
 obtain ⟨v2,vs,rfl,r2,hv⟩:=hv.cons_inv
 rw [hv.bO,r1.bc,r2.bc]
 refine (Tryz.bits_Mul64 x y hx hy w).mono ?_
 rintro e w' ⟨rfl,rfl⟩
 exact ⟨_,rfl,Go.RowKit.Below.refl _ _,fun g' _=>Rel.dz (.cons (.int _ _) (.cons (.int _ _) .nil))⟩
theorem HN (x y:Nat):Pu Tryz.prog 290 [.int .u64 x, .int .u64 y, .int .u64 0] (.tup [.int .u64 (((x+y) % 18446744073709551616:Nat):Int), .int .u64 (((x+y) / 18446744073709551616:Nat):Int)]):=by
 have h:=xM x y 0 (by decide)
 unfold o9 at h
 simp only [Int.toNat_natCast,Int.toNat_zero,Nat.add_zero] at h
 exact h
theorem L1 (s:List UInt8) (hs:s.length≤maxLen):Pu Tryz.prog 276 [.str s] (.tup (xL s)):=by
 refine al Hg Lk fun σ=>?_
 simp only [Hg,↓R1,RR,seval]
 (repeat' (with_reducible apply And.intro))
 ·intro h;simp at h;omega
 ·intro h1 h2;simp [h1,h2]
 ·refine an (fun h5=>?_) (fun h5=>?_)<;>simp only [↓R1,RR,seval]
  ·(refine ak (af ?_) (by first|(simp [aj,rvS];done)|(simp only [aj,rvS,↓R1,RR,seval];try simp)))
   (simp only [ao,↓R1,RR,seval])
   have hf:gB s=true:=h5
   simp only [xL,dm,hf,Bool.not_true,Bool.false_and,cond_false]
  ·have hf:gB s=false:=h5
   clear h5
   refine bn s.length (fun k=> [(24, .int .i64 k),(23, .int .i64 s.length),(0, .str s),(2, .int .u64 ((val 0 (s.take k) % 18446744073709551616:Nat):Int)),(3, .bool (decide (18446744073709551616≤val 0 (s.take k))))]) (fun _=>σ) (fun k=>(s.take k).all dg=true) (by refine ⟨ae _,ae _,ae _,af rfl,af rfl,trivial⟩) (St.le_refl _) (by simp) (fun k hk hI=>?_)
   simp only [↓R1,RR,seval]
   refine an (fun h6=>?_) (fun h6=>?_)<;>simp at h6
   ·have ht:(s.take (k+1)).all dg=dg s[k]:=by
     rw [←List.take_append_getElem h6,List.all_append,hI];simp
    have hV:=nu s k h6
    generalize val 0 (s.take k)=V at *
    simp only [List.getElem?_eq_getElem h6,↓R1,RR,seval]
    refine ⟨⟨by omega,by omega⟩,fun _=>⟨by omega,by omega⟩,?_⟩
    refine an (fun h7=>?_) (fun h7=>?_)
    ·simp only [↓R1,RR,seval]
     (refine ak (af ?_) (by first|(simp [aj,rvS];done)|(simp only [aj,rvS,↓R1,RR,seval];try simp)))
     (simp only [ao,↓R1,RR,seval])
     have hd0:dg s[k]=false:=by
      simp only [Bool.or_eq_true,decide_eq_true_eq] at h7
      simp only [dg,Bool.and_eq_false_iff,decide_eq_false_iff_not]
      omega
     have hg:dm s=false:=by simp only [dm,JJ k h6 hd0,Bool.and_false]
     simp only [xL,hg,Bool.false_and,cond_false]
    ·simp only [Bool.or_eq_false_iff,decide_eq_false_iff_not] at h7
     have hd1:dg s[k]=true:=by
      simp only [dg,Bool.and_eq_true,decide_eq_true_eq]
      omega
     have hw:IntKind.u64.wrap (IntKind.u8.wrap ((s[k].toNat:Int) - 48))=((s[k].toNat - 48:Nat):Int):=by rw [wU,wU8];omega
     have hd9:s[k].toNat - 48≤9:=by omega
     generalize s[k].toNat - 48=d at *
     simp only [↓R1,RR,seval]
     refine (HM (V % 18446744073709551616) 10 (Nat.mod_lt _ (by decide)) (by decide)).to (aa _) ?_
     simp only [List.getElem?_eq_getElem h6,hw,↓R1,RR,seval]
     refine ⟨⟨by omega,by omega⟩,?_⟩
     refine (HN _ d).to (aa _) ?_
     simp only [JL,step1 V d hd9,↓R1,RR,seval]
     refine ⟨h6,by rw [ht];exact hd1,?_,St.le_refl _⟩
     rw [hV]
     refine ⟨af ?_,ae _,ae _,ae _,ae _,trivial⟩
     simp only [slot,↓R1,RR,seval]
     rw [v7 h6 hs]
   ·rw [List.take_of_length_le h6] at hI
    simp only [List.take_of_length_le h6,↓R1,RR,seval]
    (refine ak (af ?_) (by first|(simp [aj,rvS];done)|(simp only [aj,rvS,↓R1,RR,seval];try simp)))
    (simp only [ao,↓R1,RR,seval])
    have hg:dm s=true:=by simp only [dm,hf,hI];rfl
    simp only [xL,hg,Bool.true_and,cond_true]
theorem L2 (s:List UInt8) (m:Int) (hs:s.length≤maxLen):Pu Tryz.prog 252 [.str s, .int .u64 m] (.tup (Bh s m)):=by
  refine al Hc Lg fun σ=>?_
  simp only [Hc,↓R1,RR,seval]
  refine (L1 s hs).to (aa _) ?_
  cases hg:dm s with
  | false =>
    simp only [xL,hg,bne_self_eq_false,Bool.or_self,Bool.or_false,Bool.false_or,beq_self_eq_true,Bool.and_self,Bool.and_true,Bool.true_and,Bool.and_false,Bool.false_and,Int.reduceBEq,Int.reduceBNe,Bool.or_true,Bool.true_or,Int.toNat_zero,↓R1,RR,seval]
    (refine ak (af ?_) (by first|(simp [aj,rvS];done)|(simp only [aj,rvS,↓R1,RR,seval];try simp)))
    (simp only [ao,↓R1,RR,seval])
    simp only [Bh,hg,cond_false]
  | true =>
    simp only [xL,hg,bne_self_eq_false,Bool.or_self,Bool.or_false,Bool.false_or,beq_self_eq_true,Bool.and_self,Bool.and_true,Bool.true_and,Bool.and_false,Bool.false_and,Int.reduceBEq,Int.reduceBNe,Bool.or_true,Bool.true_or,Int.toNat_zero,↓R1,RR,seval]
    repeat' (first|(with_reducible rw [ah])|(refine ir (fun hc=>?_) (fun hc=>?_)<;>(try simp only [hc,↓R1,RR,seval]))|((first|refine an (fun hc=>?_) (fun hc=>?_)|(with_reducible intro β hβ;(try simp only [RB] at hβ);(repeat (obtain ⟨⟨_,_⟩,hβ⟩:=hβ));(try (have hbis:=ag (by assumption) hβ;obtain ⟨_,_⟩:=hbis)))|((first|(refine cD (.inr rfl) rfl ?_ ?_ ?_ ?_ ?_ ?_;(first|rfl|exact St.bm _ _ _|(simp only [↓R1,RR,seval]));(first|omega|(simp only [RZ,List.length_nil,List.length_cons];omega)|(simp only [RZ,List.length_nil,List.length_cons]));(first|rfl|first|omega|(simp only [RZ,List.length_nil,List.length_cons];omega)|(simp only [RZ,List.length_nil,List.length_cons])))|(refine bV rfl ?_ ?_ ?_ ?_ ?_ ?_;(first|rfl|exact St.bm _ _ _|(simp only [↓R1,RR,seval]));(first|omega|(simp only [RZ,List.length_nil,List.length_cons];omega)|(simp only [RZ,List.length_nil,List.length_cons]));(first|rfl|first|omega|(simp only [RZ,List.length_nil,List.length_cons];omega)|(simp only [RZ,List.length_nil,List.length_cons])))|(refine dr ?_ ?_ ?_ ?_;exact aU (by intro _;rfl) _)|(refine appD_own ?_ ?_ ?_ ?_ ?_;omega;exact aU (by intro _;rfl) _)|(refine ct rfl trivial rfl ?_ ?_ ?_ ?_ ?_;(first|rfl|first|omega|(simp only [RZ,List.length_nil,List.length_cons];omega)|(simp only [RZ,List.length_nil,List.length_cons]));(first|rfl|first|omega|(simp only [RZ,List.length_nil,List.length_cons];omega)|(simp only [RZ,List.length_nil,List.length_cons])))|(refine appD_fresh rfl trivial rfl ?_ ?_ ?_ ?_ ?_ ?_;omega;(first|rfl|first|omega|(simp only [RZ,List.length_nil,List.length_cons];omega)|(simp only [RZ,List.length_nil,List.length_cons]));(first|rfl|first|omega|(simp only [RZ,List.length_nil,List.length_cons];omega)|(simp only [RZ,List.length_nil,List.length_cons]))));(unfold maxLen;omega);omega))<;>(try simp only [↓R1,RR,seval]))|(with_reducible refine And.intro ?_ ?_;(focus (first|omega|(exact aq))))|(with_reducible apply And.intro))
    all_goals ((refine ak (af ?_) (by first|(simp [aj,rvS];done)|(simp only [aj,rvS,↓R1,RR,seval];try simp)));(simp only [ao,↓R1,RR,seval]);simp only [Bh,hg,hc,cond_true,cond_false])
end Go.Proofs.YtgephffbfiemeaaGreatDoor
namespace Go.Proofs.YtgephffbfiemeaaGreatDoor
open Go.Abs Go.Lib
set_option linter.all false
set_option maxRecDepth 100000
structure Rd where
 s:List UInt8
 at_:Nat
 e:Int
 fa:Nat
def cRd (r:Rd):List AV:= [.str r.s, .int .i64 r.at_, .int .i64 r.e, .int .i64 r.fa]
structure Rd.Ok (r:Rd):Prop where
 len:r.s.length≤1000000
 at_:r.at_≤r.s.length
 e:0≤r.e∧r.e≤23
 fa:r.fa≤r.s.length
 no:r.e=0→r.fa=0
theorem St.jE {σ:St} {β γ:Nat} {c d:List AV} (h:Apart β γ) (hn:σ.box γ=none):St.le (σ.ad β c) ((σ.ad γ d).ad β c):=by
 rw [St.set_comm σ (Ne.symm h.ne)]
 exact St.aw (St.le_refl _) (St.qz.2 ⟨(Ne.symm h.ne),hn⟩)
theorem El {res:List RV} {e1:Exit} {fr:Fr} {σ0 σ:St} {cs:List AV} (β:Nat) (hβ:σ0.box β=none) (he:e1= .ret∨e1= .normal) (hs:aj σ fr res) (hw:eN (res.map (rvV σ fr))= .ptr β 0) (hl:St.le (σ0.ad β cs) σ) :
  fE res (fun r s=>∃ β,σ0.box β=none∧r= .ptr β 0∧s=σ0.ad β cs) e1 fr σ:=aB he hs (af hw) hl ⟨β,hβ,rfl,rfl⟩
theorem L3 (s:List UInt8):Pu Tryz.prog 135 [.str s] (.agg (cRd ⟨s,0,0,0⟩)):=by
 (refine al Gl Kt fun σ=>?_;simp only [Gl,↓R1,RR,Nat.reduceEqDiff,Nat.reduceAdd,Nat.reduceLeDiff,Nat.reduceLT])
 repeat' (first|(with_reducible rw [ah])|((first|refine an (fun hc=>?_) (fun hc=>?_)|(with_reducible intro β hβ;(try simp only [St.aD,St.bh,St.bx,St.bz,St.ca,St.cg] at hβ);(repeat (obtain ⟨⟨_,_⟩,hβ⟩:=hβ));(try (have hbis:=ag (by assumption) hβ;obtain ⟨_,_⟩:=hbis))))<;>(try simp only [↓R1,RR,Nat.reduceEqDiff,Nat.reduceAdd,Nat.reduceLeDiff,Nat.reduceLT])))
 (refine ak (af ?_) (by first|(simp [aj,rvS];done)|(simp only [aj,rvS,↓R1,RR,Nat.reduceEqDiff,Nat.reduceAdd,Nat.reduceLeDiff,Nat.reduceLT];try simp)))
 (simp only [ao,↓R1,RR,Nat.reduceEqDiff,Nat.reduceAdd,Nat.reduceLeDiff,Nat.reduceLT])
 rfl
theorem HO (r:Rd) (h:r.Ok):Bx Tryz.prog 189 [.agg (cRd r)] (cRd r):=by
 obtain ⟨s,a,e,f⟩:=r
 obtain ⟨h1,h2,h3,h4,h5⟩:=h
 simp only [cRd] at *
 intro σ
 (refine aT GK KQ ?_;simp only [GK,↓R1,RR,Nat.reduceEqDiff,Nat.reduceAdd,Nat.reduceLeDiff,Nat.reduceLT])
 repeat' (first|((first|refine an (fun hc=>?_) (fun hc=>?_)|(with_reducible intro β hβ;(try simp only [St.aD,St.bh,St.bx,St.bz,St.ca,St.cg] at hβ);(repeat (obtain ⟨⟨_,_⟩,hβ⟩:=hβ));(try (have hbis:=ag (by assumption) hβ;obtain ⟨_,_⟩:=hbis))))<;>(try simp only [↓R1,RR,Nat.reduceEqDiff,Nat.reduceAdd,Nat.reduceLeDiff,Nat.reduceLT])))
 all_goals first|(exfalso;simp at hc hc_1;omega)|skip
 all_goals first|(exfalso;simp at *;omega)|skip
 all_goals (refine El _ hβ (by simp) (by first|(simp [aj,rvS];done)|(simp only [aj,rvS,↓R1,RR,Nat.reduceEqDiff,Nat.reduceAdd,Nat.reduceLeDiff,Nat.reduceLT];try simp)) (by (simp only [ao,↓R1,RR,Nat.reduceEqDiff,Nat.reduceAdd,Nat.reduceLeDiff,Nat.reduceLT])) (St.jE (by assumption) (by assumption)))
theorem L4 (n:Int):Pu Tryz.prog 231 [.int .i64 n] (.bool ((n == 1||n == 2)||n == 4||n == 8)):=by
 (refine al G2 K6 fun σ=>?_;simp only [G2,↓R1,RR,Nat.reduceEqDiff,Nat.reduceAdd,Nat.reduceLeDiff,Nat.reduceLT])
 skip
 all_goals first|(exfalso;simp_all;done)|((refine ak (af ?_) (by first|(simp [aj,rvS];done)|(simp only [aj,rvS,↓R1,RR,Nat.reduceEqDiff,Nat.reduceAdd,Nat.reduceLeDiff,Nat.reduceLT];try simp)));(simp only [ao,↓R1,RR,Nat.reduceEqDiff,Nat.reduceAdd,Nat.reduceLeDiff,Nat.reduceLT]);done)
theorem St.rC {σ:St} {β:Nat} {c:List AV} (h:σ.box β=some c):σ.ad β c=σ:=by
 obtain ⟨b,t,g,l⟩:=σ
 simp only [St.ad,St.mk.injEq,and_true]
 funext j
 simp only [upd]
 split
 ·rename_i e;subst e;exact h.symm
 ·rfl
theorem Em (σ:St) (β:Nat) (r:Rd) (h:σ.box β=some (cRd r)):AC Tryz.prog 232 [.ptr β 0] σ (fun x s=>x= .bool (r.e == 0)∧s=σ):=by
 simp only [cRd] at h
 (refine aT G3 K7 ?_;simp only [G3,↓R1,RR,Nat.reduceEqDiff,Nat.reduceAdd,Nat.reduceLeDiff,Nat.reduceLT,h])
 skip
 (refine ak (af ?_) (by first|(simp [aj,rvS];done)|(simp only [aj,rvS,↓R1,RR,Nat.reduceEqDiff,Nat.reduceAdd,Nat.reduceLeDiff,Nat.reduceLT,h];try simp)))
 (simp only [ao,↓R1,RR,Nat.reduceEqDiff,Nat.reduceAdd,Nat.reduceLeDiff,Nat.reduceLT,h])
def dG (r:Rd) (e:Int) (a:Nat):Rd:=bif r.e == 0 then { r with e:=e,fa:=a } else r
theorem HP (σ:St) (β:Nat) (r:Rd) (e:Int) (a:Nat) (h:σ.box β=some (cRd r)):AC Tryz.prog 190 [.ptr β 0, .int .i64 e, .int .i64 a] σ (fun x s=>s=σ.ad β (cRd (dG r e a))):=by
 have hf:=Em σ β r h
 have hs:=St.rC h
 simp only [cRd] at h
 (refine aT GL KR ?_;simp only [GL,↓R1,RR,Nat.reduceEqDiff,Nat.reduceAdd,Nat.reduceLeDiff,Nat.reduceLT,h])
 refine AC.mono hf ?_
 rintro _ _ ⟨rfl,rfl⟩
 simp only [↓R1,RR,Nat.reduceEqDiff,Nat.reduceAdd,Nat.reduceLeDiff,Nat.reduceLT,h]
 refine an (fun hc=>?_) (fun hc=>?_)
 ·simp only [↓R1,RR,Nat.reduceEqDiff,Nat.reduceAdd,Nat.reduceLeDiff,Nat.reduceLT,h]
  skip
  refine aB (by simp) (by first|(simp [aj,rvS];done)|(simp only [aj,rvS,↓R1,RR,Nat.reduceEqDiff,Nat.reduceAdd,Nat.reduceLeDiff,Nat.reduceLT,h];try simp)) (ae _) (St.le_refl _) ?_
  simp only [dG,hc,cond_true,cRd]
 ·simp only [↓R1,RR,Nat.reduceEqDiff,Nat.reduceAdd,Nat.reduceLeDiff,Nat.reduceLT,h]
  refine aB (by simp) (by first|(simp [aj,rvS];done)|(simp only [aj,rvS,↓R1,RR,Nat.reduceEqDiff,Nat.reduceAdd,Nat.reduceLeDiff,Nat.reduceLT,h];try simp)) (ae _) (St.le_refl _) ?_
  simp only [dG,hc,cond_false]
  exact hs.symm
theorem L5 (s:List UInt8) (hs:s.length≤maxLen):Pu Tryz.prog 234 [.str s] (.int .u64 (s.foldl mg 0#64).toNat):=by
 have hm:=dT
 have hbs:∀ k,k<s.length→List.take 1 (List.drop (k*1) (s.map fun b=>AV.int .u8 b.toNat))= [.int .u8 (s[k]?.getD 0).toNat]:=fun k hk=>by
  rw [LN (fun b:UInt8=>AV.int .u8 b.toNat) s k hk]
  simp [hk]
 (refine al G5 K9 fun σ=>?_;simp only [G5,↓R1,RR,Nat.reduceEqDiff,Nat.reduceAdd,Nat.reduceLeDiff,Nat.reduceLT])
 refine bn s.length (fun k=> [(3, .int .u64 ((s.take k).foldl mg 0#64).toNat),(7, .sl false s.length (s.map fun b=>AV.int .u8 b.toNat)),(8, .int .i64 s.length),(9, .int .i64 k)]) (fun _=>σ) (fun _=>True) (by simp [aE,slot,ae]) (St.le_refl _) trivial (fun k hk _=>?_)
 simp only [A1,↓R1,RR,Nat.reduceEqDiff,Nat.reduceAdd,Nat.reduceLeDiff,Nat.reduceLT]
 refine an (fun hc=>?_) (fun hc=>?_)
 ·have hlt:k<s.length:=by simpa using hc
  have hfo:=mf mg 0#64 s k hlt
  have hak:=Jz (s:=s) (k:=k) hlt
  have hgt:=hbs k hlt
  simp only [hgt,↓R1,RR,Nat.reduceEqDiff,Nat.reduceAdd,Nat.reduceLeDiff,Nat.reduceLT]
  repeat' (first|(with_reducible refine And.intro ?_ ?_;(focus (first|omega|(intros;(repeat' (with_reducible apply And.intro))<;>first|omega|(simp only [List.length_append,List.length_cons,List.length_nil];omega)))))|(with_reducible apply And.intro))
  all_goals (try simp only [hgt,↓R1,RR,Nat.reduceEqDiff,Nat.reduceAdd,Nat.reduceLeDiff,Nat.reduceLT])
  ·simp;omega
  ·simp only [aE,slot,ae,hak,E2,hfo,↓R1,RR,Nat.reduceEqDiff,Nat.reduceAdd,Nat.reduceLeDiff,Nat.reduceLT];exact j4 (by omega)
  ·exact St.le_refl _
 ·have:k=s.length:=by simp at hc;omega
  subst this
  simp only [List.take_length,↓R1,RR,Nat.reduceEqDiff,Nat.reduceAdd,Nat.reduceLeDiff,Nat.reduceLT]
  (refine ak (af ?_) (by first|(simp [aj,rvS];done)|(simp only [aj,rvS,↓R1,RR,Nat.reduceEqDiff,Nat.reduceAdd,Nat.reduceLeDiff,Nat.reduceLT];try simp)))
  (simp only [ao,↓R1,RR,Nat.reduceEqDiff,Nat.reduceAdd,Nat.reduceLeDiff,Nat.reduceLT])
def b9 (r:Rd) (n:Nat):Rd:=bif r.e == 0 then (bif decide (r.s.length<r.at_+n) then { r with e:=5,fa:=r.at_ } else { r with at_:=r.at_+n }) else r
def cV (r:Rd) (n:Nat):List UInt8:=bif r.e == 0 then (bif decide (r.s.length<r.at_+n) then [] else (r.s.drop r.at_).take n) else []
theorem L6 (σ:St) (β:Nat) (r:Rd) (n:Nat) (hn:n≤8) (ho:r.Ok) (h:σ.box β=some (cRd r)):AC Tryz.prog 233 [.ptr β 0, .int .i64 (n:Nat)] σ (fun x s=>x= .str (cV r n)∧s=σ.ad β (cRd (b9 r n))):=by
 have h0:=h
 have hsf:=St.rC h
 have hl:=ho.len
 have ha:=ho.at_
 have hn0:decide ((n:Int)<0)=false:=by simp
 have hgt:decide (IntKind.i64.wrap ((r.s.length:Int) - r.at_)<(n:Int))=decide (r.s.length<r.at_+n):=by
  rw [wrap64 (by omega) (by omega),Bool.eq_iff_iff];simp;omega
 simp only [cRd] at h
 (refine aT G4 K8 ?_;simp only [G4,↓R1,RR,Nat.reduceEqDiff,Nat.reduceAdd,Nat.reduceLeDiff,Nat.reduceLT,h,hn0,hgt])
 refine an (fun hc=>?_) (fun hc=>?_)
 ·simp only [↓R1,RR,Nat.reduceEqDiff,Nat.reduceAdd,Nat.reduceLeDiff,Nat.reduceLT,h,hn0,hgt]
  refine AC.mono (HP σ β r 5 r.at_ h0) ?_
  rintro _ _ rfl
  simp only [↓R1,RR,Nat.reduceEqDiff,Nat.reduceAdd,Nat.reduceLeDiff,Nat.reduceLT,h,hn0,hgt]
  refine AC.mono (Em _ β (dG r 5 r.at_) (St.bL _ _ _)) ?_
  rintro _ _ ⟨rfl,rfl⟩
  have hf:((dG r 5 r.at_).e == 0)=false:=by unfold dG;cases he:r.e == 0<;>simp [he]
  have ht:b9 r n=dG r 5 r.at_:=by simp only [b9,dG,hc,cond_true]
  have hs:cV r n= []:=by simp only [cV,hc,cond_true];cases r.e == 0<;>rfl
  simp only [hf,↓R1,RR,Nat.reduceEqDiff,Nat.reduceAdd,Nat.reduceLeDiff,Nat.reduceLT,h,hn0,hgt]
  rw [ht,hs]
  refine aB (by simp) (by first|(simp [aj,rvS];done)|(simp only [aj,rvS,↓R1,RR,Nat.reduceEqDiff,Nat.reduceAdd,Nat.reduceLeDiff,Nat.reduceLT,h,hn0,hgt];try simp)) (ae _) (St.le_refl _) ⟨?_,rfl⟩
  (simp only [ao,↓R1,RR,Nat.reduceEqDiff,Nat.reduceAdd,Nat.reduceLeDiff,Nat.reduceLT,h,hn0,hgt])
 ·simp only [↓R1,RR,Nat.reduceEqDiff,Nat.reduceAdd,Nat.reduceLeDiff,Nat.reduceLT,h,hn0,hgt]
  refine AC.mono (Em _ β r h0) ?_
  rintro _ _ ⟨rfl,rfl⟩
  simp only [↓R1,RR,Nat.reduceEqDiff,Nat.reduceAdd,Nat.reduceLeDiff,Nat.reduceLT,h,hn0,hgt]
  refine an (fun hc2=>?_) (fun hc2=>?_)
  ·have he:(r.e == 0)=false:=by simpa using hc2
   have ht:b9 r n=r:=by simp only [b9,he,cond_false]
   have hs:cV r n= []:=by simp only [cV,he,cond_false]
   simp only [↓R1,RR,Nat.reduceEqDiff,Nat.reduceAdd,Nat.reduceLeDiff,Nat.reduceLT,h,hn0,hgt]
   rw [ht,hs,hsf]
   refine aB (by simp) (by first|(simp [aj,rvS];done)|(simp only [aj,rvS,↓R1,RR,Nat.reduceEqDiff,Nat.reduceAdd,Nat.reduceLeDiff,Nat.reduceLT,h,hn0,hgt];try simp)) (ae _) (St.le_refl _) ⟨?_,rfl⟩
   (simp only [ao,↓R1,RR,Nat.reduceEqDiff,Nat.reduceAdd,Nat.reduceLeDiff,Nat.reduceLT,h,hn0,hgt])
  ·have he:(r.e == 0)=true:=by simpa using hc2
   have ht:b9 r n={ r with at_:=r.at_+n }:=by simp only [b9,he,hc,cond_true,cond_false]
   have hs:cV r n=(r.s.drop r.at_).take n:=by simp only [cV,he,hc,cond_true,cond_false]
   have hlt:r.at_+n≤r.s.length:=by simpa using hc
   have hw:IntKind.i64.wrap ((r.at_:Int)+n)=((r.at_+n:Nat):Int):=by rw [wrap64 (by omega) (by omega)];omega
   have hw2:IntKind.i64.wrap (((r.at_+n:Nat):Int) - n)=(r.at_:Int):=by rw [wrap64 (by omega) (by omega)];omega
   simp only [hw,hw2,↓R1,RR,Nat.reduceEqDiff,Nat.reduceAdd,Nat.reduceLeDiff,Nat.reduceLT,h,hn0,hgt]
   repeat' (first|(with_reducible refine And.intro ?_ ?_;(focus (first|omega|(intros;(repeat' (with_reducible apply And.intro))<;>first|omega|(simp only [List.length_append,List.length_cons,List.length_nil];omega))))))
   rw [ht,hs,Nat.add_sub_cancel_left]
   refine aB (by simp) (by first|(simp [aj,rvS];done)|(simp only [aj,rvS,↓R1,RR,Nat.reduceEqDiff,Nat.reduceAdd,Nat.reduceLeDiff,Nat.reduceLT,h,hn0,hgt];try simp)) (ae _) (St.le_refl _) ⟨?_,rfl⟩
   (simp only [ao,↓R1,RR,Nat.reduceEqDiff,Nat.reduceAdd,Nat.reduceLeDiff,Nat.reduceLT,h,hn0,hgt])
end Go.Proofs.YtgephffbfiemeaaGreatDoor
namespace Go.Proofs.YtgephffbfiemeaaGreatDoor
open Go.Abs Go.Lib
set_option linter.all false
set_option maxRecDepth 100000
theorem mu {r:Rd} (h:r.Ok) (n:Nat):(b9 r n).Ok:=by
  obtain ⟨h1,h2,h3,h4,h5⟩:=h
  unfold b9
  cases he:(r.e == 0) with
  | false=>exact ⟨h1,h2,h3,h4,h5⟩
  | true =>
    cases hc:decide (r.s.length<r.at_+n) with
    | true=>exact ⟨h1,h2,⟨by simp,by simp⟩,h2,fun h=>by simp at h⟩
    | false=>exact ⟨h1,by simpa using hc,h3,h4,h5⟩
theorem Bm {r:Rd} (h:r.Ok) (e:Int) (a:Nat) (he:1≤e∧e≤23) (ha:a≤r.s.length):(dG r e a).Ok:=by
 obtain ⟨h1,h2,h3,h4,h5⟩:=h
 unfold dG
 cases (r.e == 0) with
 | false=>exact ⟨h1,h2,h3,h4,h5⟩
 | true=>exact ⟨h1,h2,⟨by simp;omega,by simp;omega⟩,ha,fun h=>by simp at h;omega⟩
theorem xN (r:Rd) (n:Nat):(cV r n).length≤n:=by
 unfold cV
 cases (r.e == 0)<;>cases decide (r.s.length<r.at_+n)<;>simp<;>omega
theorem uX (r:Rd) (n:Nat):(b9 r n).s=r.s:=by
 unfold b9
 cases (r.e == 0)<;>cases decide (r.s.length<r.at_+n)<;>rfl
def iG (s:List UInt8):BitVec 64:=s.foldl mg 0#64
theorem L7 (r:Rd) (n:Nat) (ho:r.Ok) (hn:n=1∨n=8):Pu Tryz.prog 188 [.agg (cRd r), .int .i64 (n:Nat)] (.tup [.agg (cRd (b9 r n)), .int .u64 (iG (cV r n)).toNat]):=by
 have hu:=HO r ho
 have hz:=L4 (n:Int)
 have hz1:(((n:Int) == 1||(n:Int) == 2)||(n:Int) == 4||(n:Int) == 8)=true:=by rcases hn with rfl|rfl<;>rfl
 rw [hz1] at hz
 have hnum:=L5 (cV r n) (by have:=xN r n;unfold maxLen;omega)
 simp only [cRd] at hu
 (refine al GJ KP fun σ=>?_;simp only [GJ,↓R1,RR,Nat.reduceEqDiff,Nat.reduceAdd,Nat.reduceLeDiff,Nat.reduceLT])
 simp only [cRd,↓R1,RR,Nat.reduceEqDiff,Nat.reduceAdd,Nat.reduceLeDiff,Nat.reduceLT]
 repeat' (first|(with_reducible rw [ah])|((first|refine an (fun hc=>?_) (fun hc=>?_)|(with_reducible intro β hβ;(try simp only [St.aD,St.bh,St.bx,St.bz,St.ca,St.cg] at hβ);(repeat (obtain ⟨⟨_,_⟩,hβ⟩:=hβ));(try (have hbis:=ag (by assumption) hβ;obtain ⟨_,_⟩:=hbis))))<;>(try simp only [↓R1,RR,Nat.reduceEqDiff,Nat.reduceAdd,Nat.reduceLeDiff,Nat.reduceLT]))|((first|refine Pu.to (hz) (aa _) ?_|refine aK (hz) (aa _) ?_);(try simp only [↓R1,RR,Nat.reduceEqDiff,Nat.reduceAdd,Nat.reduceLeDiff,Nat.reduceLT]))|(refine Bx.to (hu) (aa _) ?_;intro β hβ;(try simp only [St.aD,St.bh,St.bx,St.bz,St.ca,St.cg] at hβ);(repeat (obtain ⟨⟨_,_⟩,hβ⟩:=hβ));(try (have hbis:=ag (by assumption) hβ;obtain ⟨_,_⟩:=hbis));(try simp only [↓R1,RR,Nat.reduceEqDiff,Nat.reduceAdd,Nat.reduceLeDiff,Nat.reduceLT])))
 refine AC.mono (Em _ β r (St.bL _ _ _)) ?_
 rintro _ _ ⟨rfl,rfl⟩
 simp only [↓R1,RR,Nat.reduceEqDiff,Nat.reduceAdd,Nat.reduceLeDiff,Nat.reduceLT]
 refine an (fun hc=>?_) (fun hc=>?_)
 ·have he:(r.e == 0)=false:=by simpa using hc
  have ht:b9 r n=r:=by simp only [b9,he,cond_false]
  have hs:cV r n= []:=by simp only [cV,he,cond_false]
  rw [ht,hs]
  simp only [↓R1,RR,Nat.reduceEqDiff,Nat.reduceAdd,Nat.reduceLeDiff,Nat.reduceLT]
  skip
  (refine ak (af ?_) (by first|(simp [aj,rvS];done)|(simp only [aj,rvS,↓R1,RR,Nat.reduceEqDiff,Nat.reduceAdd,Nat.reduceLeDiff,Nat.reduceLT];try simp)))
  (simp only [ao,↓R1,RR,Nat.reduceEqDiff,Nat.reduceAdd,Nat.reduceLeDiff,Nat.reduceLT])
  rfl
 ·simp only [↓R1,RR,Nat.reduceEqDiff,Nat.reduceAdd,Nat.reduceLeDiff,Nat.reduceLT]
  refine AC.mono (L6 _ β r n (by omega) ho (St.bL _ _ _)) ?_
  rintro _ _ ⟨rfl,rfl⟩
  simp only [cRd,↓R1,RR,Nat.reduceEqDiff,Nat.reduceAdd,Nat.reduceLeDiff,Nat.reduceLT]
  repeat' (first|((first|refine Pu.to (hnum) (aa _) ?_|refine aK (hnum) (aa _) ?_);(try simp only [↓R1,RR,Nat.reduceEqDiff,Nat.reduceAdd,Nat.reduceLeDiff,Nat.reduceLT])))
  (refine ak (af ?_) (by first|(simp [aj,rvS];done)|(simp only [aj,rvS,↓R1,RR,Nat.reduceEqDiff,Nat.reduceAdd,Nat.reduceLeDiff,Nat.reduceLT];try simp)))
  (simp only [ao,↓R1,RR,Nat.reduceEqDiff,Nat.reduceAdd,Nat.reduceLeDiff,Nat.reduceLT])
  rfl
theorem L8 (r:Rd) (ho:r.Ok):Pu Tryz.prog 138 [.agg (cRd r), .int .i64 11, .int .i64 8] (.agg (cRd (dG r 11 (min 8 r.s.length)))):=by
 have hu:=HO r ho
 have hm:(if (r.s.length:Int)<(if (0:Int)>8 then (0:Int) else 8) then (r.s.length:Int) else (if (0:Int)>8 then (0:Int) else 8))=((min 8 r.s.length:Nat):Int):=by
  rw [if_neg (by decide:¬ (0:Int)>8)];split<;>omega
 simp only [cRd] at hu
 (refine al Gp Kw fun σ=>?_;simp only [Gp,↓R1,RR,Nat.reduceEqDiff,Nat.reduceAdd,Nat.reduceLeDiff,Nat.reduceLT])
 simp only [cRd,↓R1,RR,Nat.reduceEqDiff,Nat.reduceAdd,Nat.reduceLeDiff,Nat.reduceLT]
 repeat' (first|(with_reducible rw [ah])|((first|refine an (fun hc=>?_) (fun hc=>?_)|(with_reducible intro β hβ;(try simp only [St.aD,St.bh,St.bx,St.bz,St.ca,St.cg] at hβ);(repeat (obtain ⟨⟨_,_⟩,hβ⟩:=hβ));(try (have hbis:=ag (by assumption) hβ;obtain ⟨_,_⟩:=hbis))))<;>(try simp only [↓R1,RR,Nat.reduceEqDiff,Nat.reduceAdd,Nat.reduceLeDiff,Nat.reduceLT]))|(refine Bx.to (hu) (aa _) ?_;intro β hβ;(try simp only [St.aD,St.bh,St.bx,St.bz,St.ca,St.cg] at hβ);(repeat (obtain ⟨⟨_,_⟩,hβ⟩:=hβ));(try (have hbis:=ag (by assumption) hβ;obtain ⟨_,_⟩:=hbis));(try simp only [↓R1,RR,Nat.reduceEqDiff,Nat.reduceAdd,Nat.reduceLeDiff,Nat.reduceLT])))
 ·exfalso;revert hc;decide
 rw [hm]
 refine AC.mono (HP _ β r 11 (min 8 r.s.length) (St.bL _ _ _)) ?_
 rintro _ _ rfl
 simp only [cRd,↓R1,RR,Nat.reduceEqDiff,Nat.reduceAdd,Nat.reduceLeDiff,Nat.reduceLT]
 (refine ak (af ?_) (by first|(simp [aj,rvS];done)|(simp only [aj,rvS,↓R1,RR,Nat.reduceEqDiff,Nat.reduceAdd,Nat.reduceLeDiff,Nat.reduceLT];try simp)))
 (simp only [ao,↓R1,RR,Nat.reduceEqDiff,Nat.reduceAdd,Nat.reduceLeDiff,Nat.reduceLT])
def en (r:Rd):Rd:=bif decide (r.at_<r.s.length) then dG r 4 r.at_ else r
theorem L9 (r:Rd) (ho:r.Ok):Pu Tryz.prog 139 [.agg (cRd r)] (.agg [.int .i64 (en r).e, .int .i64 (en r).fa]):=by
 have hu:=HO r ho
 have hlt:decide ((r.at_:Int)<(r.s.length:Int))=decide (r.at_<r.s.length):=by simp
 simp only [cRd] at hu
 (refine al Gq Kx fun σ=>?_;simp only [Gq,↓R1,RR,Nat.reduceEqDiff,Nat.reduceAdd,Nat.reduceLeDiff,Nat.reduceLT])
 simp only [cRd,↓R1,RR,Nat.reduceEqDiff,Nat.reduceAdd,Nat.reduceLeDiff,Nat.reduceLT]
 repeat' (first|(with_reducible rw [ah])|((first|refine an (fun hc=>?_) (fun hc=>?_)|(with_reducible intro β hβ;(try simp only [St.aD,St.bh,St.bx,St.bz,St.ca,St.cg] at hβ);(repeat (obtain ⟨⟨_,_⟩,hβ⟩:=hβ));(try (have hbis:=ag (by assumption) hβ;obtain ⟨_,_⟩:=hbis))))<;>(try simp only [↓R1,RR,Nat.reduceEqDiff,Nat.reduceAdd,Nat.reduceLeDiff,Nat.reduceLT]))|(refine Bx.to (hu) (aa _) ?_;intro β hβ;(try simp only [St.aD,St.bh,St.bx,St.bz,St.ca,St.cg] at hβ);(repeat (obtain ⟨⟨_,_⟩,hβ⟩:=hβ));(try (have hbis:=ag (by assumption) hβ;obtain ⟨_,_⟩:=hbis));(try simp only [↓R1,RR,Nat.reduceEqDiff,Nat.reduceAdd,Nat.reduceLeDiff,Nat.reduceLT])))
 ·have he:en r=dG r 4 r.at_:=by rw [hlt] at hc;simp only [en,hc,cond_true]
  refine AC.mono (HP _ β r 4 r.at_ (St.bL _ _ _)) ?_
  rintro _ _ rfl
  rw [he]
  simp only [cRd,↓R1,RR,Nat.reduceEqDiff,Nat.reduceAdd,Nat.reduceLeDiff,Nat.reduceLT]
  (refine ak (af ?_) (by first|(simp [aj,rvS];done)|(simp only [aj,rvS,↓R1,RR,Nat.reduceEqDiff,Nat.reduceAdd,Nat.reduceLeDiff,Nat.reduceLT];try simp)))
  (simp only [ao,↓R1,RR,Nat.reduceEqDiff,Nat.reduceAdd,Nat.reduceLeDiff,Nat.reduceLT])
 ·have he:en r=r:=by rw [hlt] at hc;simp only [en,hc,cond_false]
  rw [he]
  (refine ak (af ?_) (by first|(simp [aj,rvS];done)|(simp only [aj,rvS,↓R1,RR,Nat.reduceEqDiff,Nat.reduceAdd,Nat.reduceLeDiff,Nat.reduceLT];try simp)))
  (simp only [ao,↓R1,RR,Nat.reduceEqDiff,Nat.reduceAdd,Nat.reduceLeDiff,Nat.reduceLT])
theorem En (σ:St) (β:Nat) (r:Rd) (n:Nat) (l k v:Int) (ho:r.Ok) (hn:n=1∨n=8) (h:σ.box β=some [.str r.s, .int .i64 r.at_, .int .i64 r.e, .int .i64 r.fa, .int .u64 l, .int .i64 k, .int .i64 v]) :
  AC Tryz.prog 136 [.ptr β 0, .int .i64 (n:Nat)] σ (fun x s=>x= .int .u64 (iG (cV r n)).toNat∧s=σ.ad β [.str (b9 r n).s, .int .i64 (b9 r n).at_, .int .i64 (b9 r n).e, .int .i64 (b9 r n).fa, .int .u64 l, .int .i64 k, .int .i64 v]):=by
 have hu:=L7 r n ho hn
 have hbi:BoxIs σ β _:=⟨h⟩
 simp only [cRd] at hu
 (refine aT Gm Ku ?_;simp only [Gm,↓R1,RR,Nat.reduceEqDiff,Nat.reduceAdd,Nat.reduceLeDiff,Nat.reduceLT])
 repeat' (first|(with_reducible rw [ah])|((first|refine an (fun hc=>?_) (fun hc=>?_)|(with_reducible intro β hβ;(try simp only [St.aD,St.bh,St.bx,St.bz,St.ca,St.cg] at hβ);(repeat (obtain ⟨⟨_,_⟩,hβ⟩:=hβ));(try (have hbis:=ag (by assumption) hβ;obtain ⟨_,_⟩:=hbis))))<;>(try simp only [↓R1,RR,Nat.reduceEqDiff,Nat.reduceAdd,Nat.reduceLeDiff,Nat.reduceLT]))|((first|refine Pu.to (hu) (aa _) ?_|refine aK (hu) (aa _) ?_);(try simp only [↓R1,RR,Nat.reduceEqDiff,Nat.reduceAdd,Nat.reduceLeDiff,Nat.reduceLT])))
 refine aB (by simp) (by first|(simp [aj,rvS];done)|(simp only [aj,rvS,↓R1,RR,Nat.reduceEqDiff,Nat.reduceAdd,Nat.reduceLeDiff,Nat.reduceLT];try simp)) (ae _) (St.jE (by assumption) hβ) ⟨?_,rfl⟩
 (simp only [ao,↓R1,RR,Nat.reduceEqDiff,Nat.reduceAdd,Nat.reduceLeDiff,Nat.reduceLT])
end Go.Proofs.YtgephffbfiemeaaGreatDoor
namespace Go.Proofs.YtgephffbfiemeaaGreatDoor
open Go.Abs Go.Lib
set_option linter.all false
set_option maxRecDepth 100000
def rd0 (s:List UInt8):Rd:=⟨s,0,0,0⟩
def rd1 (s:List UInt8):Rd:=b9 (rd0 s) 8
def rd2 (s:List UInt8):Rd:=b9 (rd1 s) 1
def eh (s:List UInt8):Int:=IntKind.i64.wrap ((iG (cV (rd1 s) 1)).toNat:Int)
def rd3 (s:List UInt8):Rd:=bif b6 (eh s) == 0 then rd2 s else dG (rd2 s) 11 (min 8 s.length)
def rd4 (s:List UInt8):Rd:=b9 (rd3 s) 8
def lf (s:List UInt8):List AV:=bif (en (rd4 s)).e == 0 then [.int .u64 (iG (cV (rd0 s) 8)).toNat, .int .i64 (eh s), .int .i64 (IntKind.i64.wrap ((iG (cV (rd3 s) 8)).toNat:Int))] else [.int .u64 0, .int .i64 0, .int .i64 0]
def lg (s:List UInt8):List AV:=bif (en (rd4 s)).e == 0 then [.int .i64 0, .int .i64 0] else [.int .i64 (en (rd4 s)).e, .int .i64 (en (rd4 s)).fa]
set_option maxHeartbeats 4000000 in
theorem p75 (s:List UInt8) (hs:s.length≤1000):Pu Tryz.prog 75 [.str s] (.tup [.agg (lf s), .agg (lg s)]):=by
  have o0:(rd0 s).Ok:=⟨by simp only [rd0];omega,by simp [rd0],by simp [rd0],by simp [rd0],fun _=>rfl⟩
  have o1:(rd1 s).Ok:=mu o0 8
  have o2:(rd2 s).Ok:=mu o1 1
  have o3:(rd3 s).Ok:=by
    unfold rd3
    cases (b6 (eh s) == 0)
    · exact Bm o2 11 _ (by omega) (by simp only [rd2,rd1,uX,rd0];omega)
    · exact o2
  have o4:(rd4 s).Ok:=mu o3 8
  have hr:=L3 s
  have hE:=L9 (rd4 s) o4
  have hF:=L8 (rd2 s) o2
  have hC:=JA (iG (cV (rd0 s) 8)).toNat (eh s) 0
  have hs2:(rd2 s).s=s:=by simp only [rd2,rd1,uX];rfl
  rw [hs2] at hF
  have hb:(rd3 s=dG (rd2 s) 11 (min 8 s.length)∧b6 (eh s)≠0)∨(rd3 s=rd2 s∧b6 (eh s)=0):=by
    unfold rd3
    by_cases h:b6 (eh s)=0
    · right;simp [h]
    · left
      have:(b6 (eh s) == 0)=false:=by simpa using h
      simp [this,h]
  simp only [cRd] at hr hE hF
  (refine al c75 b75 fun σ=>?_;simp only [c75,↓R1,RR,Nat.reduceEqDiff,Nat.reduceAdd,Nat.reduceLeDiff,Nat.reduceLT])
  repeat' (first|(with_reducible rw [ah])|((first|refine an (fun hc=>?_) (fun hc=>?_)|(with_reducible intro β hβ;(try simp only [St.aD,St.bh,St.bx,St.bz,St.ca,St.cg] at hβ);(repeat (obtain ⟨⟨_,_⟩,hβ⟩:=hβ));(try (have hbis:=ag (by assumption) hβ;obtain ⟨_,_⟩:=hbis))))<;>(try simp only [↓R1,RR,Nat.reduceEqDiff,Nat.reduceAdd,Nat.reduceLeDiff,Nat.reduceLT]))|((first|refine Pu.to (hr) (aa _) ?_|refine aK (hr) (aa _) ?_);(try simp only [↓R1,RR,Nat.reduceEqDiff,Nat.reduceAdd,Nat.reduceLeDiff,Nat.reduceLT])))
  refine AC.mono (En _ β (rd0 s) 8 0 0 0 o0 (.inr rfl) (St.bL _ _ _)) ?_
  rintro _ _ ⟨rfl,rfl⟩
  simp only [↓R1,RR,Nat.reduceEqDiff,Nat.reduceAdd,Nat.reduceLeDiff,Nat.reduceLT]
  rw [show b9 (rd0 s) 8=rd1 s from rfl]
  refine AC.mono (En _ β (rd1 s) 1 _ 0 0 o1 (.inl rfl) (St.bL _ _ _)) ?_
  rintro _ _ ⟨rfl,rfl⟩
  rw [show b9 (rd1 s) 1=rd2 s from rfl]
  simp only [↓R1,RR,Nat.reduceEqDiff,Nat.reduceAdd,Nat.reduceLeDiff,Nat.reduceLT]
  rw [show IntKind.i64.wrap ((iG (cV (rd1 s) 1)).toNat:Int)=eh s from rfl]
  repeat' (first|((first|refine an (fun hc=>?_) (fun hc=>?_)|(with_reducible intro β hβ;(try simp only [St.aD,St.bh,St.bx,St.bz,St.ca,St.cg] at hβ);(repeat (obtain ⟨⟨_,_⟩,hβ⟩:=hβ));(try (have hbis:=ag (by assumption) hβ;obtain ⟨_,_⟩:=hbis))))<;>(try simp only [↓R1,RR,Nat.reduceEqDiff,Nat.reduceAdd,Nat.reduceLeDiff,Nat.reduceLT]))|((first|refine Pu.to (hC) (aa _) ?_|refine aK (hC) (aa _) ?_);(try simp only [↓R1,RR,Nat.reduceEqDiff,Nat.reduceAdd,Nat.reduceLeDiff,Nat.reduceLT])))
  · obtain ⟨h3,_⟩:rd3 s=dG (rd2 s) 11 (min 8 s.length)∧b6 (eh s)≠0:=by
      rcases hb with h|h
      · exact h
      · rw [h.2] at hc;simp at hc
    rw [←h3] at hF
    repeat' (first|((first|refine Pu.to (hF) (aa _) ?_|refine aK (hF) (aa _) ?_);(try simp only [↓R1,RR,Nat.reduceEqDiff,Nat.reduceAdd,Nat.reduceLeDiff,Nat.reduceLT])))
    refine AC.mono (En _ β (rd3 s) 8 _ _ _ o3 (.inr rfl) (St.bL _ _ _)) ?_
    rintro _ _ ⟨rfl,rfl⟩
    rw [show b9 (rd3 s) 8=rd4 s from rfl]
    simp only [↓R1,RR,Nat.reduceEqDiff,Nat.reduceAdd,Nat.reduceLeDiff,Nat.reduceLT]
    repeat' (first|(with_reducible rw [ah])|((first|refine an (fun hc=>?_) (fun hc=>?_)|(with_reducible intro β hβ;(try simp only [St.aD,St.bh,St.bx,St.bz,St.ca,St.cg] at hβ);(repeat (obtain ⟨⟨_,_⟩,hβ⟩:=hβ));(try (have hbis:=ag (by assumption) hβ;obtain ⟨_,_⟩:=hbis))))<;>(try simp only [↓R1,RR,Nat.reduceEqDiff,Nat.reduceAdd,Nat.reduceLeDiff,Nat.reduceLT]))|(with_reducible apply And.intro)|((first|refine Pu.to (hE) (aa _) ?_|refine aK (hE) (aa _) ?_);(try simp only [↓R1,RR,Nat.reduceEqDiff,Nat.reduceAdd,Nat.reduceLeDiff,Nat.reduceLT])))
    all_goals (first
      | (have hz : ((en   (rd4 s)).e == 0) = false := by simpa [bne] using hc
         simp only [lf,lg,hz,cond_false])
      | (have hz : ((en   (rd4 s)).e == 0) = true := by simpa [bne] using hc
         simp only [lf,lg,hz,cond_true]))
    all_goals (refine ak (af ?_) (by first|(simp [aj,rvS];done)|(simp only [aj,rvS,↓R1,RR,Nat.reduceEqDiff,Nat.reduceAdd,Nat.reduceLeDiff,Nat.reduceLT];try simp)))
    all_goals (simp only [ao,↓R1,RR,Nat.reduceEqDiff,Nat.reduceAdd,Nat.reduceLeDiff,Nat.reduceLT])
  · obtain ⟨h3,_⟩:rd3 s=rd2 s∧b6 (eh s)=0:=by
      rcases hb with h|h
      · exact (h.2 (by simpa using hc)).elim
      · exact h
    rw [←h3]
    refine AC.mono (En _ β (rd3 s) 8 _ _ _ o3 (.inr rfl) (St.bL _ _ _)) ?_
    rintro _ _ ⟨rfl,rfl⟩
    rw [show b9 (rd3 s) 8=rd4 s from rfl]
    simp only [↓R1,RR,Nat.reduceEqDiff,Nat.reduceAdd,Nat.reduceLeDiff,Nat.reduceLT]
    repeat' (first|(with_reducible rw [ah])|((first|refine an (fun hc=>?_) (fun hc=>?_)|(with_reducible intro β hβ;(try simp only [St.aD,St.bh,St.bx,St.bz,St.ca,St.cg] at hβ);(repeat (obtain ⟨⟨_,_⟩,hβ⟩:=hβ));(try (have hbis:=ag (by assumption) hβ;obtain ⟨_,_⟩:=hbis))))<;>(try simp only [↓R1,RR,Nat.reduceEqDiff,Nat.reduceAdd,Nat.reduceLeDiff,Nat.reduceLT]))|(with_reducible apply And.intro)|((first|refine Pu.to (hE) (aa _) ?_|refine aK (hE) (aa _) ?_);(try simp only [↓R1,RR,Nat.reduceEqDiff,Nat.reduceAdd,Nat.reduceLeDiff,Nat.reduceLT])))
    all_goals (first
      | (have hz : ((en   (rd4 s)).e == 0) = false := by simpa [bne] using hc
         simp only [lf,lg,hz,cond_false])
      | (have hz : ((en   (rd4 s)).e == 0) = true := by simpa [bne] using hc
         simp only [lf,lg,hz,cond_true]))
    all_goals (refine ak (af ?_) (by first|(simp [aj,rvS];done)|(simp only [aj,rvS,↓R1,RR,Nat.reduceEqDiff,Nat.reduceAdd,Nat.reduceLeDiff,Nat.reduceLT];try simp)))
    all_goals (simp only [ao,↓R1,RR,Nat.reduceEqDiff,Nat.reduceAdd,Nat.reduceLeDiff,Nat.reduceLT])
end Go.Proofs.YtgephffbfiemeaaGreatDoor
namespace Go.Proofs.YtgephffbfiemeaaGreatDoor
open Go.Abs Go.Lib
set_option linter.all false
set_option maxRecDepth 100000
theorem JM (s:List UInt8) (hs:s.length≤1000):Pu Tryz.prog 191 [.str s] (.int .u64 (iG s).toNat):=by
 (refine al GM KS fun σ=>?_;simp only [GM,↓R1,RR,Nat.reduceEqDiff,Nat.reduceAdd,Nat.reduceLeDiff,Nat.reduceLT])
 refine bn s.length (fun k=> [(0, .str s),(3, .int .u64 ((s.take k).foldl mg 0#64).toNat),(4, .int .i64 k)]) (fun _=>σ) (fun _=>True) (by simp [aE,slot,ae]) (St.le_refl _) trivial (fun k hk _=>?_)
 simp only [A1,↓R1,RR,Nat.reduceEqDiff,Nat.reduceAdd,Nat.reduceLeDiff,Nat.reduceLT]
 refine an (fun hc=>?_) (fun hc=>?_)
 ·have hlt:k<s.length:=by simpa using hc
  have hfo:=mf mg 0#64 s k hlt
  have hak:=Jz (s:=s) (k:=k) hlt
  simp only [↓R1,RR,Nat.reduceEqDiff,Nat.reduceAdd,Nat.reduceLeDiff,Nat.reduceLT]
  repeat' (first|(with_reducible refine And.intro ?_ ?_;(focus (first|omega|(intros;(repeat' (with_reducible apply And.intro))<;>first|omega|(simp only [List.length_append,List.length_cons,List.length_nil];omega)))))|(with_reducible apply And.intro))
  ·simp only [aE,slot,ae,hak,E2,hfo,↓R1,RR,Nat.reduceEqDiff,Nat.reduceAdd,Nat.reduceLeDiff,Nat.reduceLT];exact j4 (by omega)
  ·exact St.le_refl _
 ·have:k=s.length:=by simp at hc;omega
  subst this
  simp only [List.take_length,↓R1,RR,Nat.reduceEqDiff,Nat.reduceAdd,Nat.reduceLeDiff,Nat.reduceLT]
  skip
  (refine ak (af ?_) (by first|(simp [aj,rvS];done)|(simp only [aj,rvS,↓R1,RR,Nat.reduceEqDiff,Nat.reduceAdd,Nat.reduceLeDiff,Nat.reduceLT];try simp)))
  (simp only [ao,↓R1,RR,Nat.reduceEqDiff,Nat.reduceAdd,Nat.reduceLeDiff,Nat.reduceLT])
  rfl
theorem oo (b:UInt8):IntKind.i64.wrap (b.toNat:Int)=(b.toNat:Int):=by
 have:=b.toNat_lt;rw [wrap64 (by omega) (by omega)]
def fy (s:List UInt8):List AV:=bif s.length == 17&&decide ((s[8]?.getD 0).toNat<26) then [.int .u64 (iG (s.take 8)).toNat, .int .i64 (s[8]?.getD 0).toNat, .int .i64 (IntKind.i64.wrap ((iG (s.drop 9)).toNat:Int))] else [.int .u64 0, .int .i64 0, .int .i64 0]
def fQ (s:List UInt8):List AV :=
 bif decide (s.length<8) then [.int .i64 5, .int .i64 0] else bif decide (s.length<9) then [.int .i64 5, .int .i64 8] else bif decide (26≤(s[8]?.getD 0).toNat) then [.int .i64 11, .int .i64 8] else
 bif decide (s.length<17) then [.int .i64 5, .int .i64 9] else bif decide (17<s.length) then [.int .i64 4, .int .i64 17] else [.int .i64 0, .int .i64 0]
theorem Ma (s:List UInt8) (hs:s.length≤1000):Pu Tryz.prog 142 [.str s] (.tup [.agg (fy s), .agg (fQ s)]):=by
 have h1:=JM (s.take 8) (by simp;omega)
 have h2:=JM (s.drop 9) (by simp;omega)
 rw [show s.drop 9=List.take (s.length - Int.toNat 9) (List.drop (Int.toNat 9) s) from by rw [show Int.toNat 9=9 from rfl,List.take_of_length_le (by simp)]] at h2
 (refine al Gt KA fun σ=>?_;simp only [Gt,↓R1,RR,Nat.reduceEqDiff,Nat.reduceAdd,Nat.reduceLeDiff,Nat.reduceLT])
 repeat' (first|(with_reducible rw [ah])|((first|refine an (fun hc=>?_) (fun hc=>?_)|(with_reducible intro β hβ;(try simp only [St.aD,St.bh,St.bx,St.bz,St.ca,St.cg] at hβ);(repeat (obtain ⟨⟨_,_⟩,hβ⟩:=hβ));(try (have hbis:=ag (by assumption) hβ;obtain ⟨_,_⟩:=hbis))))<;>(try simp only [↓R1,RR,Nat.reduceEqDiff,Nat.reduceAdd,Nat.reduceLeDiff,Nat.reduceLT]))|(with_reducible refine And.intro ?_ ?_;(focus (first|omega|(intros;(repeat' (with_reducible apply And.intro))<;>first|omega|(simp only [List.length_append,List.length_cons,List.length_nil];omega)))))|(with_reducible apply And.intro)|((first|refine Pu.to (h1) (aa _) ?_|refine aK (h1) (aa _) ?_|refine Pu.to (h2) (aa _) ?_|refine aK (h2) (aa _) ?_);(try simp only [↓R1,RR,Nat.reduceEqDiff,Nat.reduceAdd,Nat.reduceLeDiff,Nat.reduceLT])))
 all_goals (try simp only [oo,show Int.toNat 8=8 from rfl] at *)
 all_goals (try (simp only [decide_eq_true_eq,decide_eq_false_iff_not] at *;omega))
 all_goals (refine ak (af ?_) (by first|(simp [aj,rvS];done)|(simp only [aj,rvS,↓R1,RR,Nat.reduceEqDiff,Nat.reduceAdd,Nat.reduceLeDiff,Nat.reduceLT];try simp)))
 all_goals (simp only [ao,↓R1,RR,Nat.reduceEqDiff,Nat.reduceAdd,Nat.reduceLeDiff,Nat.reduceLT])
 all_goals simp only [fy,fQ,Bool.cond_eq_ite,show Int.toNat 9=9 from rfl,show Int.toNat 8=8 from rfl] at *
 all_goals (try rw [List.take_of_length_le (by simp:(List.drop 9 s).length≤s.length - 9)])
 all_goals grind
end Go.Proofs.YtgephffbfiemeaaGreatDoor
namespace Go.Proofs.YtgephffbfiemeaaGreatDoor
open Go.Abs Go.Lib
set_option linter.all false
set_option maxRecDepth 100000
def fR (a:Int):Int:=if a<0 then -a else a
theorem JN (a:Int) (ha:I64 a):Pu Tryz.prog 121 [.int .i64 a] (.int .u64 (fR a)):=by
 unfold I64 at ha
 refine qx DY Kq (by simp [DY]) fun σ=>?_
 simp only [DY,↓R1,RR,Nat.reduceEqDiff,Nat.reduceLeDiff]
 repeat' (first|(with_reducible rw [ah])|(refine ir (fun hc=>?_) (fun hc=>?_)<;>(try simp only [hc,↓R1,RR,Nat.reduceEqDiff,Nat.reduceLeDiff]))|((first|refine an (fun hc=>?_) (fun hc=>?_)|(with_reducible intro β hβ;(try simp only [RB] at hβ);(repeat (obtain ⟨⟨_,_⟩,hβ⟩:=hβ));(try (have hbis:=ag (by assumption) hβ;obtain ⟨_,_⟩:=hbis)))|((first|(refine cD (.inr rfl) rfl ?_ ?_ ?_ ?_ ?_ ?_;(first|rfl|exact St.bm _ _ _|(simp only [↓R1,RR,Nat.reduceEqDiff,Nat.reduceLeDiff]));(first|omega|(simp only [RZ,List.length_nil,List.length_cons];omega)|(simp only [RZ,List.length_nil,List.length_cons]));(first|rfl|first|omega|(simp only [RZ,List.length_nil,List.length_cons];omega)|(simp only [RZ,List.length_nil,List.length_cons])))|(refine bV rfl ?_ ?_ ?_ ?_ ?_ ?_;(first|rfl|exact St.bm _ _ _|(simp only [↓R1,RR,Nat.reduceEqDiff,Nat.reduceLeDiff]));(first|omega|(simp only [RZ,List.length_nil,List.length_cons];omega)|(simp only [RZ,List.length_nil,List.length_cons]));(first|rfl|first|omega|(simp only [RZ,List.length_nil,List.length_cons];omega)|(simp only [RZ,List.length_nil,List.length_cons])))|(refine dr ?_ ?_ ?_ ?_;exact aU (by intro _;rfl) _)|(refine appD_own ?_ ?_ ?_ ?_ ?_;omega;exact aU (by intro _;rfl) _)|(refine ct rfl trivial rfl ?_ ?_ ?_ ?_ ?_;(first|rfl|first|omega|(simp only [RZ,List.length_nil,List.length_cons];omega)|(simp only [RZ,List.length_nil,List.length_cons]));(first|rfl|first|omega|(simp only [RZ,List.length_nil,List.length_cons];omega)|(simp only [RZ,List.length_nil,List.length_cons])))|(refine appD_fresh rfl trivial rfl ?_ ?_ ?_ ?_ ?_ ?_;omega;(first|rfl|first|omega|(simp only [RZ,List.length_nil,List.length_cons];omega)|(simp only [RZ,List.length_nil,List.length_cons]));(first|rfl|first|omega|(simp only [RZ,List.length_nil,List.length_cons];omega)|(simp only [RZ,List.length_nil,List.length_cons]))));(unfold maxLen;omega);omega))<;>(try simp only [↓R1,RR,Nat.reduceEqDiff,Nat.reduceLeDiff]))|(with_reducible refine And.intro ?_ ?_;(focus (first|omega|(exact aq))))|(with_reducible apply And.intro))
 all_goals ((refine ak (af ?_) (by first|(simp [aj,rvS];done)|(simp only [aj,rvS,↓R1,RR,Nat.reduceEqDiff,Nat.reduceLeDiff];try simp)));(simp only [ao,↓R1,RR,Nat.reduceEqDiff,Nat.reduceLeDiff]);simp at hc;simp only [fR,wU,wI,AV.int.injEq,true_and];split<;>(try split)<;>(try split)<;>omega)
theorem Bn (a:Int) (ha:I64 a):0≤fR a∧fR a≤9223372036854775808:=by
 unfold fR I64 at *;split<;>omega
theorem rD (n:Nat):UInt8.ofNat (IntKind.u8.wrap (IntKind.u64.wrap (48+Int.tmod (n:Int) 10))).toNat=UInt8.ofNat (48+n % 10):=by
 have h:Int.tmod (n:Int) 10=((n % 10:Nat):Int):=rfl
 rw [h,wU,wU8]
 have h2:n % 10<10:=Nat.mod_lt _ (by decide)
 congr 1
 omega
def Bo (N n:Nat) (out:List UInt8):Prop:=(decDigits N=if n=0∧out≠ [] then out else decDigits n++out)∧n*2^out.length≤N
theorem Bp {N n:Nat} {out:List UInt8} (h:Bo N n out) (hc:0<n∨out= []):Bo N (n / 10) (UInt8.ofNat (48+n % 10)::out):=by
 obtain ⟨h1,h2⟩:=h
 have h3:¬ (n=0∧out≠ []):=by
  rintro ⟨a,b⟩;rcases hc with c|c
  ·omega
  ·exact b c
 rw [if_neg h3] at h1
 unfold Bo
 generalize decDigits N=D at h1 ⊢
 rw [decDigits] at h1
 refine ⟨?_,?_⟩
 ·by_cases h4:n<10
  ·rw [dif_pos h4] at h1
   have h5:n / 10=0:=by omega
   rw [if_pos ⟨h5,by simp⟩,h1,Nat.mod_eq_of_lt h4];rfl
  ·rw [dif_neg h4] at h1
   have h5:n / 10≠0:=by omega
   rw [if_neg (by omega),h1];simp
 ·simp only [List.length_cons]
  have h6:n / 10*2≤n:=by omega
  calc n / 10*2^(out.length+1)=(n / 10*2)*2^out.length:=by rw [Nat.pow_succ];ac_rfl
   _≤n*2^out.length:=Nat.mul_le_mul_right _ h6
   _≤N:=h2
theorem Eo {N n:Nat} {out:List UInt8} (h:Bo N n out) (hc:0<n∨out= []) (hN:N<18446744073709551616):out.length<64:=by
 rcases hc with c|c
 ·have h1:2^out.length≤N:=Nat.le_trans (Nat.le_mul_of_pos_left _ c) h.2
  have h2:2^out.length<2^64:=Nat.lt_of_le_of_lt h1 hN
  exact (Nat.pow_lt_pow_iff_right (by decide)).1 h2
 ·subst c;decide
theorem Mb (N:Nat) (hN:N<18446744073709551616):Pu Tryz.prog 120 [.int .u64 N] (.str (decDigits N)):=by
 refine al Gg Kp fun σ=>?_
 simp only [Gg,↓R1,RR,Nat.reduceEqDiff,Nat.reduceLeDiff]
 refine bQ (α:=Nat × List UInt8) (fun a=> [(0, .int .u64 a.1),(3, .str a.2)]) (fun _=>σ) (fun a=>Bo N a.1 a.2) (fun a=>2*a.1+(if a.2= [] then 1 else 0)) (N,[]) ⟨ae _,ae _,trivial⟩ (St.le_refl _) ⟨by simp,by simp⟩ (fun a ha=>?_)
 obtain ⟨n,out⟩:=a
 simp only at ha ⊢
 simp only [↓R1,RR,Nat.reduceEqDiff,Nat.reduceLeDiff]
 refine an (fun h5=>?_) (fun h5=>?_)
 ·have hc:0<n∨out= []:=by simpa using h5
  have hl:=Eo ha hc hN
  simp only [byteOf,isByte,List.all_cons,List.all_nil,rD,Bool.and_true,↓R1,RR,Nat.reduceEqDiff,Nat.reduceLeDiff]
  have hnN:n≤N:=Nat.le_trans (Nat.le_mul_of_pos_right _ (Nat.pow_pos (by decide))) ha.2
  have hq:IntKind.u64.wrap ((n:Int).tdiv 10)=((n / 10:Nat):Int):=by
   have h:Int.tdiv (n:Int) 10=((n / 10:Nat):Int):=rfl
   rw [h,wU];omega
  refine ⟨by decide,by omega,by decide,(n / 10,UInt8.ofNat (48+n % 10)::out),Bp ha hc,?_,St.le_refl _,?_⟩
  ·refine ⟨af ?_,af ?_,trivial⟩
   ·simp only [slot,↓R1,RR,Nat.reduceEqDiff,Nat.reduceLeDiff];rw [hq]
   ·simp only [slot,↓R1,RR,Nat.reduceEqDiff,Nat.reduceLeDiff]
    rw [show Go.Abs.byteOf (AV.int IntKind.u8 (IntKind.u8.wrap (IntKind.u64.wrap (48+(n:Int).tmod 10))))=UInt8.ofNat (48+n % 10) from rD n]
  ·simp only [reduceCtorEq,if_false]
   rcases hc with c|c
   ·omega
   ·rw [if_pos c];omega
 ·have hc:n=0∧out≠ []:=by simp at h5;exact ⟨by omega,h5.2⟩
  simp only [↓R1,RR,Nat.reduceEqDiff,Nat.reduceLeDiff]
  (refine ak (af ?_) (by first|(simp [aj,rvS];done)|(simp only [aj,rvS,↓R1,RR,Nat.reduceEqDiff,Nat.reduceLeDiff];try simp)))
  (simp only [ao,↓R1,RR,Nat.reduceEqDiff,Nat.reduceLeDiff])
  rw [ha.1,if_pos hc]
theorem itoa_neg {n:Int} (h:n<0):itoa n=45::decDigits (fR n).toNat:=by
 unfold itoa fR
 rw [if_pos h,if_pos h]
 congr 2
 omega
theorem Bq {n:Int} (h:¬ n<0):itoa n=decDigits (fR n).toNat:=by
 unfold itoa fR
 rw [if_neg h,if_neg h]
theorem tR (N:Nat) (hN:N<18446744073709551616):(decDigits N).length<100:=by
  have key:∀ (k N:Nat),N<10^(k+1)→(decDigits N).length≤k+1:=by
    intro k
    induction k with
    | zero=>intro N h;rw [decDigits,dif_pos (by simpa using h)];simp
    | succ k ih =>
      intro N h
      rw [decDigits]
      split
      · simp
      · have:=ih (N / 10) (by rw [Nat.pow_succ] at h;omega)
        simp;omega
  have:=key 19 N (by omega)
  omega
theorem p60 (n:Int) (hn:I64 n):Pu Tryz.prog 60 [.int .i64 n] (.str (itoa n)):=by
 have sn:=Bn n hn
 have hc:((fR n).toNat:Int)=fR n:=Int.toNat_of_nonneg sn.1
 have hd:=Mb (fR n).toNat (by omega)
 rw [hc] at hd
 have hl:=tR (fR n).toNat (by omega)
 refine al c60 b60 fun σ=>?_
 simp only [c60,↓R1,RR,Nat.reduceEqDiff,Nat.reduceLeDiff]
 refine an (fun h5=>?_) (fun h5=>?_)<;>simp at h5<;>simp only [↓R1,RR,Nat.reduceEqDiff,Nat.reduceLeDiff]
 ·refine (JN n hn).to (aa _) ?_
  simp only [↓R1,RR,Nat.reduceEqDiff,Nat.reduceLeDiff]
  refine hd.to (aa _) ?_
  simp only [↓R1,RR,Nat.reduceEqDiff,Nat.reduceLeDiff]
  refine ⟨by omega,?_⟩
  (refine ak (af ?_) (by first|(simp [aj,rvS];done)|(simp only [aj,rvS,↓R1,RR,Nat.reduceEqDiff,Nat.reduceLeDiff];try simp)))
  (simp only [ao,↓R1,RR,Nat.reduceEqDiff,Nat.reduceLeDiff])
  rw [itoa_neg h5]
 ·refine (JN n hn).to (aa _) ?_
  simp only [↓R1,RR,Nat.reduceEqDiff,Nat.reduceLeDiff]
  refine hd.to (aa _) ?_
  simp only [↓R1,RR,Nat.reduceEqDiff,Nat.reduceLeDiff]
  (refine ak (af ?_) (by first|(simp [aj,rvS];done)|(simp only [aj,rvS,↓R1,RR,Nat.reduceEqDiff,Nat.reduceLeDiff];try simp)))
  (simp only [ao,↓R1,RR,Nat.reduceEqDiff,Nat.reduceLeDiff])
  rw [Bq (by omega)]
end Go.Proofs.YtgephffbfiemeaaGreatDoor
