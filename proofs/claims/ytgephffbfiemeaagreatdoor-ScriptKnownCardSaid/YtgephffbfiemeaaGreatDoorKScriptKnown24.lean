/- Part 24 of the proof of ScriptKnown: an abstract semantics that is proved sound for the model, contracts of functions in it, and plain facts (Sh40 LW3 EV2 EV3 SM1 SM2 EW1 EW2). No condition. -/
import Derived.Test.YtgephffbfiemeaaGreatDoorKScriptKnown23
import Derived.Shelf.Strings.Builder1
import Derived.Shelf.Strings.Builder2
import Derived.Shelf.Strings.OnBuilder
import Derived.Shelf.Strconv.Itoa0
import Derived.Shelf.Strconv.Itoa1
import Derived.Shelf.LaysM
import Derived.Shelf.Strconv.Itoa2
import Derived.Shelf.Strconv.Itoa3
import Derived.Shelf.Strconv.Itoa4
import Derived.Shelf.Strings.Search1
import Derived.Shelf.Strings.Search2
import Derived.Shelf.Strings.Search3
import Derived.Shelf.Strings.Cut
import Derived.Shelf.Strings.Shaped
import Derived.Shelf.Unicode.Decode
import Derived.Shelf.Bits.Mul64
import Derived.Shelf.Unicode.DecodeSlow
import Derived.Shelf.Unicode.DecodeAny
import Derived.Test.YtgephffbfiemeaaGreatDoorProg
set_option linter.all false
namespace Go.Proofs
open Go.Shelf
def Tryz.k8:Go.Shelf.Ren:=⟨fun|169=>174|n=>n,fun|70=>220|9=>9|0=>0|72=>222|37=>135|127=>286|3=>3|5=>5|n=>n,fun|n=>n⟩
theorem Tryz.Fg:Go.Proofs.Lays.n169 Tryz.prog Tryz.k8:={
 mixed:=OA
 f169:=Tryz.func174.trans (congrArg some OA)
 t0:=Tryz.underlying0
 a0:=Tryz.isAgg0
 z0:=Tryz.sizeOf0
 v0:=Tryz.zeroValue0
 t3:=Tryz.underlying3
 a3:=Tryz.isAgg3
 z3:=Tryz.sizeOf3
 v3:=Tryz.zeroValue3
 t9:=Tryz.underlying9
 a9:=Tryz.isAgg9
 z9:=Tryz.sizeOf9
 v9:=Tryz.zeroValue9
 t37:=Tryz.underlying135
 a37:=Tryz.isAgg135
 z37:=Tryz.sizeOf135
 v37:=Tryz.zeroValue135
 t70:=Tryz.underlying220
 a70:=Tryz.isAgg220
 z70:=Tryz.sizeOf220
 v70:=Tryz.zeroValue220
 t72:=Tryz.underlying222
 a72:=Tryz.isAgg222
 z72:=Tryz.sizeOf222
 v72:=Tryz.zeroValue222
 t127:=Tryz.underlying286
 a127:=Tryz.isAgg286
 z127:=Tryz.sizeOf286
 v127:=Tryz.zeroValue286 }
theorem Tryz.jU:Builder.Extra Tryz.prog Tryz.k8:={
 sizeBuilder:=OA
 liesBuilder:=OA
 t5:=Tryz.underlying5
 a5:=Tryz.isAgg5
 z5:=Tryz.sizeOf5
 v5:=Tryz.zeroValue5
 infoByte:=OA
 cellsByte:=OA
 sizeByte:=OA
 neB5:=by decide }
def Tryz.k9:Go.Shelf.Ren:=⟨fun|156=>113|165=>172|166=>173|169=>174|240=>222|241=>223|276=>259|277=>260|n=>n,fun|31=>110|9=>9|3=>3|4=>4|0=>0|20=>20|72=>222|76=>226|70=>220|37=>135|75=>225|127=>286|164=>320|5=>5|80=>200|n=>n,fun|n=>n⟩
theorem Tryz.vv:Go.Proofs.Lays.n156 Tryz.prog Tryz.k9:={
 mixed:=OA
 f156:=Tryz.func113.trans (congrArg some OA)
 f165:=Tryz.func172.trans (congrArg some OA)
 f166:=Tryz.func173.trans (congrArg some OA)
 f169:=Tryz.func174.trans (congrArg some OA)
 f240:=Tryz.func222.trans (congrArg some OA)
 f241:=Tryz.func223.trans (congrArg some OA)
 f276:=Tryz.func259.trans (congrArg some OA)
 f277:=Tryz.func260.trans (congrArg some OA)
 t0:=Tryz.underlying0
 a0:=Tryz.isAgg0
 z0:=Tryz.sizeOf0
 v0:=Tryz.zeroValue0
 t3:=Tryz.underlying3
 a3:=Tryz.isAgg3
 z3:=Tryz.sizeOf3
 v3:=Tryz.zeroValue3
 t4:=Tryz.underlying4
 a4:=Tryz.isAgg4
 z4:=Tryz.sizeOf4
 v4:=Tryz.zeroValue4
 t9:=Tryz.underlying9
 a9:=Tryz.isAgg9
 z9:=Tryz.sizeOf9
 v9:=Tryz.zeroValue9
 t20:=Tryz.underlying20
 a20:=Tryz.isAgg20
 z20:=Tryz.sizeOf20
 v20:=Tryz.zeroValue20
 t31:=Tryz.underlying110
 a31:=Tryz.isAgg110
 z31:=Tryz.sizeOf110
 v31:=Tryz.zeroValue110
 t37:=Tryz.underlying135
 a37:=Tryz.isAgg135
 z37:=Tryz.sizeOf135
 v37:=Tryz.zeroValue135
 t70:=Tryz.underlying220
 a70:=Tryz.isAgg220
 z70:=Tryz.sizeOf220
 v70:=Tryz.zeroValue220
 t72:=Tryz.underlying222
 a72:=Tryz.isAgg222
 z72:=Tryz.sizeOf222
 v72:=Tryz.zeroValue222
 t75:=Tryz.underlying225
 a75:=Tryz.isAgg225
 z75:=Tryz.sizeOf225
 v75:=Tryz.zeroValue225
 t76:=Tryz.underlying226
 a76:=Tryz.isAgg226
 z76:=Tryz.sizeOf226
 v76:=Tryz.zeroValue226
 t127:=Tryz.underlying286
 a127:=Tryz.isAgg286
 z127:=Tryz.sizeOf286
 v127:=Tryz.zeroValue286
 t164:=Tryz.underlying320
 a164:=Tryz.isAgg320
 z164:=Tryz.sizeOf320
 v164:=Tryz.zeroValue320 }
theorem Tryz.fG:Builder.Extra Tryz.prog Tryz.k9:={
 sizeBuilder:=OA
 liesBuilder:=OA
 t5:=Tryz.underlying5
 a5:=Tryz.isAgg5
 z5:=Tryz.sizeOf5
 v5:=Tryz.zeroValue5
 infoByte:=OA
 cellsByte:=OA
 sizeByte:=OA
 neB5:=by decide }
open Go.RowKit in
theorem Tryz.strings_Join_none (a:Option Addr) (c:Nat) (sep:ByteArray) (w:World) :
  Calls Tryz.prog 113 #[.slice a 0 c, .string sep] w fun e w'=>e= .returned (.string ⟨#[]⟩)∧w'=w:=Any.strings_Join_none Tryz.vv Tryz.fG a c sep w
open Go.RowKit in
theorem Tryz.strings_Join (bk o c:Nat) (xs:List ByteArray) (sep:ByteArray) (w:World) (hcells:∀ (j:Nat) x,xs[j]? =some x→w.cell? ⟨bk,o+j,none⟩=some (.string x)) (hbk:bk<w.heap.size) (hN:xs.length≤140737488355328) (hcap:xs.length≤c) (hlen:(Lib.join (xs.map (·.data.toList)) sep.data.toList).length≤140737488355328) :
  Calls Tryz.prog 113 #[.slice (some ⟨bk,o,none⟩) xs.length c, .string sep] w fun e w'=>e= .returned (.string ⟨(Lib.join (xs.map (·.data.toList)) sep.data.toList).toArray⟩)∧Below w.heap.size w w':=Any.strings_Join Tryz.vv Tryz.fG bk o c xs sep w hcells hbk hN hcap hlen
def Tryz.rS:Go.Shelf.Ren:=⟨fun|283=>218|n=>n,fun|3=>3|9=>9|4=>4|n=>n,fun|n=>n⟩
theorem Tryz.Fh:Go.Proofs.Lays.n283 Tryz.prog Tryz.rS:={
 mixed:=OA
 f283:=Tryz.func218.trans (congrArg some OA)
 t3:=Tryz.underlying3
 a3:=Tryz.isAgg3
 z3:=Tryz.sizeOf3
 v3:=Tryz.zeroValue3
 t4:=Tryz.underlying4
 a4:=Tryz.isAgg4
 z4:=Tryz.sizeOf4
 v4:=Tryz.zeroValue4
 t9:=Tryz.underlying9
 a9:=Tryz.isAgg9
 z9:=Tryz.sizeOf9
 v9:=Tryz.zeroValue9 }
open Go.Lib in
theorem Tryz.internal_strconv_small (i:Nat) (h:i<100) (w:World) :
  Calls Tryz.prog 218 #[.int .i64 i] w fun e w'=>e= .returned (.string ⟨(Lib.decDigits i).toArray⟩)∧w'=w:=Any.internal_strconv_small Tryz.Fh i h w
def Tryz.pO:Go.Shelf.Ren:=⟨fun|284=>219|129=>255|317=>254|318=>256|n=>n,fun|53=>29|3=>3|212=>316|0=>0|4=>4|46=>190|5=>5|9=>9|n=>n,fun|17=>2|n=>n⟩
theorem Tryz.BZ:Go.Proofs.LaysM.n284 Tryz.prog Tryz.pO:={
 mixed:=OA
 f129:=Tryz.func255.trans (congrArg some OA)
 f284:=Tryz.func219.trans (congrArg some OA)
 f317:=Tryz.func254.trans (congrArg some OA)
 f318:=Tryz.func256.trans (congrArg some OA)
 t0:=Tryz.underlying0
 a0:=Tryz.isAgg0
 z0:=Tryz.sizeOf0
 v0:=Tryz.zeroValue0
 t3:=Tryz.underlying3
 a3:=Tryz.isAgg3
 z3:=Tryz.sizeOf3
 v3:=Tryz.zeroValue3
 t4:=Tryz.underlying4
 a4:=Tryz.isAgg4
 z4:=Tryz.sizeOf4
 v4:=Tryz.zeroValue4
 t5:=Tryz.underlying5
 a5:=Tryz.isAgg5
 z5:=Tryz.sizeOf5
 v5:=Tryz.zeroValue5
 t9:=Tryz.underlying9
 a9:=Tryz.isAgg9
 z9:=Tryz.sizeOf9
 v9:=Tryz.zeroValue9
 t46:=Tryz.underlying190
 a46:=Tryz.isAgg190
 z46:=Tryz.sizeOf190
 v46:=Tryz.zeroValue190
 t53:=Tryz.underlying29
 a53:=Tryz.isAgg29
 z53:=Tryz.sizeOf29
 v53:=Tryz.zeroValue29
 t212:=Tryz.underlying316
 a212:=Tryz.isAgg316
 z212:=Tryz.sizeOf316
 v212:=Tryz.zeroValue316
 g17:=OA
 i0:=OA
 i3:=OA
 i4:=OA
 i5:=OA
 i9:=OA
 i46:=OA
 i53:=OA
 i212:=OA
 m17:=by kernel_rfl }
open Go.Lib in
theorem Tryz.internal_strconv_numDigits (u:Nat) (h1:1≤u) (h2:u<18446744073709551616) (w:World) (htab:Lib.TabIs Tryz.prog w "internal/strconv.uint64pow10" .u64 Lib.pow10Tab) :
  Calls Tryz.prog 219 #[.int .u64 u] w fun e w'=>e= .returned (.int .i64 (Lib.nDigits u))∧w'=w:=Any.internal_strconv_numDigits Tryz.BZ u h1 h2 w htab
def Tryz.rT:Go.Shelf.Ren:=⟨fun|285=>220|n=>n,fun|37=>135|53=>29|3=>3|4=>4|51=>317|9=>9|5=>5|0=>0|n=>n,fun|n=>n⟩
theorem Tryz.Fi:Go.Proofs.Lays.n285 Tryz.prog Tryz.rT:={
 mixed:=OA
 f285:=Tryz.func220.trans (congrArg some OA)
 t0:=Tryz.underlying0
 a0:=Tryz.isAgg0
 z0:=Tryz.sizeOf0
 v0:=Tryz.zeroValue0
 t3:=Tryz.underlying3
 a3:=Tryz.isAgg3
 z3:=Tryz.sizeOf3
 v3:=Tryz.zeroValue3
 t4:=Tryz.underlying4
 a4:=Tryz.isAgg4
 z4:=Tryz.sizeOf4
 v4:=Tryz.zeroValue4
 t5:=Tryz.underlying5
 a5:=Tryz.isAgg5
 z5:=Tryz.sizeOf5
 v5:=Tryz.zeroValue5
 t9:=Tryz.underlying9
 a9:=Tryz.isAgg9
 z9:=Tryz.sizeOf9
 v9:=Tryz.zeroValue9
 t37:=Tryz.underlying135
 a37:=Tryz.isAgg135
 z37:=Tryz.sizeOf135
 v37:=Tryz.zeroValue135
 t51:=Tryz.underlying317
 a51:=Tryz.isAgg317
 z51:=Tryz.sizeOf317
 v51:=Tryz.zeroValue317
 t53:=Tryz.underlying29
 a53:=Tryz.isAgg29
 z53:=Tryz.sizeOf29
 v53:=Tryz.zeroValue29 }
open Go.RowKit Go.Sort Go.Lib in
theorem Tryz.internal_strconv_formatBase10 (blk off cap:Nat) (u:Nat) (d:Array UInt8) (w:World) (hH:Holds (fun (b:UInt8)=>Value.int .u8 (b.toNat:Int)) w blk off d) (hu:u<10^d.size) (hu64:u<18446744073709551616) (hsz:d.size<4611686018427387904) :
  Calls Tryz.prog 220 #[.slice (some ⟨blk,off,none⟩) d.size cap, .int .u64 u] w fun e w' =>
   e= .returned (.tuple #[])∧∃ (n v':Nat) (dk:Array UInt8),w'=(putRow (fun (b:UInt8)=>Value.int .u8 (b.toNat:Int)) w blk off dk).drewN n∧FmtInv d.size u 0 v' dk:=Any.internal_strconv_formatBase10 Tryz.Fi blk off cap u d w hH hu hu64 hsz
def Tryz.rU:Go.Shelf.Ren:=⟨fun|171=>112|243=>171|246=>167|283=>218|284=>219|285=>220|286=>221|129=>255|317=>254|318=>256|319=>257|320=>258|337=>278|338=>170|n=>n,fun|3=>3|9=>9|2=>2|4=>4|171=>281|0=>0|53=>29|37=>135|5=>5|173=>283|212=>316|51=>317|20=>20|213=>318|46=>190|232=>338|233=>285|n=>n,fun|17=>2|18=>6|19=>1|n=>n⟩
theorem Tryz.Fj:Go.Proofs.Lays.n171 Tryz.prog Tryz.rU:={
 mixed:=OA
 f129:=Tryz.func255.trans (congrArg some OA)
 f171:=Tryz.func112.trans (congrArg some OA)
 f243:=Tryz.func171.trans (congrArg some OA)
 f246:=Tryz.func167.trans (congrArg some OA)
 f283:=Tryz.func218.trans (congrArg some OA)
 f284:=Tryz.func219.trans (congrArg some OA)
 f285:=Tryz.func220.trans (congrArg some OA)
 f286:=Tryz.func221.trans (congrArg some OA)
 f317:=Tryz.func254.trans (congrArg some OA)
 f318:=Tryz.func256.trans (congrArg some OA)
 f319:=Tryz.func257.trans (congrArg some OA)
 f320:=Tryz.func258.trans (congrArg some OA)
 f337:=Tryz.func278.trans (congrArg some OA)
 f338:=Tryz.func170.trans (congrArg some OA)
 t0:=Tryz.underlying0
 a0:=Tryz.isAgg0
 z0:=Tryz.sizeOf0
 v0:=Tryz.zeroValue0
 t2:=Tryz.underlying2
 a2:=Tryz.isAgg2
 z2:=Tryz.sizeOf2
 v2:=Tryz.zeroValue2
 t3:=Tryz.underlying3
 a3:=Tryz.isAgg3
 z3:=Tryz.sizeOf3
 v3:=Tryz.zeroValue3
 t4:=Tryz.underlying4
 a4:=Tryz.isAgg4
 z4:=Tryz.sizeOf4
 v4:=Tryz.zeroValue4
 t5:=Tryz.underlying5
 a5:=Tryz.isAgg5
 z5:=Tryz.sizeOf5
 v5:=Tryz.zeroValue5
 t9:=Tryz.underlying9
 a9:=Tryz.isAgg9
 z9:=Tryz.sizeOf9
 v9:=Tryz.zeroValue9
 t20:=Tryz.underlying20
 a20:=Tryz.isAgg20
 z20:=Tryz.sizeOf20
 v20:=Tryz.zeroValue20
 t37:=Tryz.underlying135
 a37:=Tryz.isAgg135
 z37:=Tryz.sizeOf135
 v37:=Tryz.zeroValue135
 t46:=Tryz.underlying190
 a46:=Tryz.isAgg190
 z46:=Tryz.sizeOf190
 v46:=Tryz.zeroValue190
 t51:=Tryz.underlying317
 a51:=Tryz.isAgg317
 z51:=Tryz.sizeOf317
 v51:=Tryz.zeroValue317
 t53:=Tryz.underlying29
 a53:=Tryz.isAgg29
 z53:=Tryz.sizeOf29
 v53:=Tryz.zeroValue29
 t171:=Tryz.underlying281
 a171:=Tryz.isAgg281
 z171:=Tryz.sizeOf281
 v171:=Tryz.zeroValue281
 t173:=Tryz.underlying283
 a173:=Tryz.isAgg283
 z173:=Tryz.sizeOf283
 v173:=Tryz.zeroValue283
 t212:=Tryz.underlying316
 a212:=Tryz.isAgg316
 z212:=Tryz.sizeOf316
 v212:=Tryz.zeroValue316
 t213:=Tryz.underlying318
 a213:=Tryz.isAgg318
 z213:=Tryz.sizeOf318
 t232:=Tryz.underlying338
 a232:=Tryz.isAgg338
 z232:=Tryz.sizeOf338
 v232:=Tryz.zeroValue338
 t233:=Tryz.underlying285
 a233:=Tryz.isAgg285
 z233:=Tryz.sizeOf285
 v233:=Tryz.zeroValue285
 g17:=OA
 g18:=OA
 g19:=by kernel_rfl }
open Go.RowKit Go.Sort Go.Lib in
theorem Tryz.strconv_Itoa_small (i:Nat) (hi:i<100) (w:World) :
  Calls Tryz.prog 112 #[.int .i64 i] w fun e w'=>e= .returned (.string ⟨(Lib.decDigits i).toArray⟩)∧w'=w:=Any.strconv_Itoa_small Tryz.Fj i hi w
def Tryz.pP:Go.Shelf.Ren:=⟨fun|173=>109|246=>167|283=>218|284=>219|285=>220|286=>221|129=>255|317=>254|318=>256|319=>257|320=>258|337=>278|338=>170|n=>n,fun|2=>2|3=>3|9=>9|4=>4|171=>281|0=>0|53=>29|37=>135|5=>5|173=>283|212=>316|51=>317|20=>20|213=>318|46=>190|232=>338|233=>285|n=>n,fun|17=>2|18=>6|19=>1|n=>n⟩
theorem Tryz.B0:Go.Proofs.LaysM.n173 Tryz.prog Tryz.pP:={
 mixed:=OA
 f129:=Tryz.func255.trans (congrArg some OA)
 f173:=Tryz.func109.trans (congrArg some OA)
 f246:=Tryz.func167.trans (congrArg some OA)
 f283:=Tryz.func218.trans (congrArg some OA)
 f284:=Tryz.func219.trans (congrArg some OA)
 f285:=Tryz.func220.trans (congrArg some OA)
 f286:=Tryz.func221.trans (congrArg some OA)
 f317:=Tryz.func254.trans (congrArg some OA)
 f318:=Tryz.func256.trans (congrArg some OA)
 f319:=Tryz.func257.trans (congrArg some OA)
 f320:=Tryz.func258.trans (congrArg some OA)
 f337:=Tryz.func278.trans (congrArg some OA)
 f338:=Tryz.func170.trans (congrArg some OA)
 t0:=Tryz.underlying0
 a0:=Tryz.isAgg0
 z0:=Tryz.sizeOf0
 v0:=Tryz.zeroValue0
 t2:=Tryz.underlying2
 a2:=Tryz.isAgg2
 z2:=Tryz.sizeOf2
 v2:=Tryz.zeroValue2
 t3:=Tryz.underlying3
 a3:=Tryz.isAgg3
 z3:=Tryz.sizeOf3
 v3:=Tryz.zeroValue3
 t4:=Tryz.underlying4
 a4:=Tryz.isAgg4
 z4:=Tryz.sizeOf4
 v4:=Tryz.zeroValue4
 t5:=Tryz.underlying5
 a5:=Tryz.isAgg5
 z5:=Tryz.sizeOf5
 v5:=Tryz.zeroValue5
 t9:=Tryz.underlying9
 a9:=Tryz.isAgg9
 z9:=Tryz.sizeOf9
 v9:=Tryz.zeroValue9
 t20:=Tryz.underlying20
 a20:=Tryz.isAgg20
 z20:=Tryz.sizeOf20
 v20:=Tryz.zeroValue20
 t37:=Tryz.underlying135
 a37:=Tryz.isAgg135
 z37:=Tryz.sizeOf135
 v37:=Tryz.zeroValue135
 t46:=Tryz.underlying190
 a46:=Tryz.isAgg190
 z46:=Tryz.sizeOf190
 v46:=Tryz.zeroValue190
 t51:=Tryz.underlying317
 a51:=Tryz.isAgg317
 z51:=Tryz.sizeOf317
 v51:=Tryz.zeroValue317
 t53:=Tryz.underlying29
 a53:=Tryz.isAgg29
 z53:=Tryz.sizeOf29
 v53:=Tryz.zeroValue29
 t171:=Tryz.underlying281
 a171:=Tryz.isAgg281
 z171:=Tryz.sizeOf281
 v171:=Tryz.zeroValue281
 t173:=Tryz.underlying283
 a173:=Tryz.isAgg283
 z173:=Tryz.sizeOf283
 v173:=Tryz.zeroValue283
 t212:=Tryz.underlying316
 a212:=Tryz.isAgg316
 z212:=Tryz.sizeOf316
 v212:=Tryz.zeroValue316
 t213:=Tryz.underlying318
 a213:=Tryz.isAgg318
 z213:=Tryz.sizeOf318
 t232:=Tryz.underlying338
 a232:=Tryz.isAgg338
 z232:=Tryz.sizeOf338
 v232:=Tryz.zeroValue338
 t233:=Tryz.underlying285
 a233:=Tryz.isAgg285
 z233:=Tryz.sizeOf285
 v233:=Tryz.zeroValue285
 g17:=OA
 g18:=OA
 g19:=OA
 i0:=OA
 i2:=OA
 i3:=OA
 i4:=OA
 i5:=OA
 i9:=OA
 i20:=OA
 i37:=OA
 i46:=OA
 i51:=OA
 i53:=OA
 i171:=OA
 i173:=OA
 i212:=OA
 i232:=OA
 i233:=OA
 m17:=OA
 m18:=OA
 m19:=by kernel_rfl }
open Go.RowKit Go.Sort Go.Lib in
theorem Tryz.strconv_FormatInt_10 (n:Int) (h0 : -9223372036854775808≤n) (h1:n≤9223372036854775807) (w:World) (htab:Lib.TabIs Tryz.prog w "internal/strconv.uint64pow10" .u64 Lib.pow10Tab) :
  Calls Tryz.prog 109 #[.int .i64 n, .int .i64 10] w fun e w'=>e= .returned (.string ⟨(Lib.itoa n).toArray⟩)∧∃ k os,w'=grow (w.drewN k) os:=Any.strconv_FormatInt_10 Tryz.B0 n h0 h1 w htab
def Tryz.rV:Go.Shelf.Ren:=⟨fun|219=>269|217=>283|225=>284|224=>285|267=>286|266=>292|314=>293|n=>n,fun|9=>9|3=>3|4=>4|5=>5|46=>190|146=>339|51=>317|n=>n,fun|1=>3|n=>n⟩
theorem Tryz.Fk:Go.Proofs.Lays.n219 Tryz.prog Tryz.rV:={
 mixed:=OA
 f217:=Tryz.func283.trans (congrArg some OA)
 f219:=Tryz.func269.trans (congrArg some OA)
 f224:=Tryz.func285.trans (congrArg some OA)
 f225:=Tryz.func284.trans (congrArg some OA)
 f266:=Tryz.func292.trans (congrArg some OA)
 f267:=Tryz.func286.trans (congrArg some OA)
 f314:=Tryz.func293.trans (congrArg some OA)
 t3:=Tryz.underlying3
 a3:=Tryz.isAgg3
 z3:=Tryz.sizeOf3
 v3:=Tryz.zeroValue3
 t4:=Tryz.underlying4
 a4:=Tryz.isAgg4
 z4:=Tryz.sizeOf4
 v4:=Tryz.zeroValue4
 t5:=Tryz.underlying5
 a5:=Tryz.isAgg5
 z5:=Tryz.sizeOf5
 v5:=Tryz.zeroValue5
 t9:=Tryz.underlying9
 a9:=Tryz.isAgg9
 z9:=Tryz.sizeOf9
 v9:=Tryz.zeroValue9
 t46:=Tryz.underlying190
 a46:=Tryz.isAgg190
 z46:=Tryz.sizeOf190
 v46:=Tryz.zeroValue190
 t51:=Tryz.underlying317
 a51:=Tryz.isAgg317
 z51:=Tryz.sizeOf317
 v51:=Tryz.zeroValue317
 t146:=Tryz.underlying339
 a146:=Tryz.isAgg339
 z146:=Tryz.sizeOf339
 v146:=Tryz.zeroValue339
 g1:=by kernel_rfl }
open Go.RowKit Go.Lib in
theorem Tryz.stringslite_Index_one (s:ByteArray) (c:UInt8) (w:World) :
  Calls Tryz.prog 269 #[.string s, .string ⟨#[c]⟩] w fun e w'=>e= .returned (.int .i64 (Lib.indexByte s.data.toList c))∧w'=w:=Any.stringslite_Index_one Tryz.Fk s c w
def Tryz.rW:Go.Shelf.Ren:=⟨fun|143=>244|219=>269|217=>283|225=>284|224=>285|267=>286|266=>292|314=>293|n=>n,fun|9=>9|3=>3|4=>4|5=>5|46=>190|146=>339|51=>317|n=>n,fun|1=>3|n=>n⟩
theorem Tryz.Fl:Go.Proofs.Lays.n143 Tryz.prog Tryz.rW:={
 mixed:=OA
 f143:=Tryz.func244.trans (congrArg some OA)
 f217:=Tryz.func283.trans (congrArg some OA)
 f219:=Tryz.func269.trans (congrArg some OA)
 f224:=Tryz.func285.trans (congrArg some OA)
 f225:=Tryz.func284.trans (congrArg some OA)
 f266:=Tryz.func292.trans (congrArg some OA)
 f267:=Tryz.func286.trans (congrArg some OA)
 f314:=Tryz.func293.trans (congrArg some OA)
 t3:=Tryz.underlying3
 a3:=Tryz.isAgg3
 z3:=Tryz.sizeOf3
 v3:=Tryz.zeroValue3
 t4:=Tryz.underlying4
 a4:=Tryz.isAgg4
 z4:=Tryz.sizeOf4
 v4:=Tryz.zeroValue4
 t5:=Tryz.underlying5
 a5:=Tryz.isAgg5
 z5:=Tryz.sizeOf5
 v5:=Tryz.zeroValue5
 t9:=Tryz.underlying9
 a9:=Tryz.isAgg9
 z9:=Tryz.sizeOf9
 v9:=Tryz.zeroValue9
 t46:=Tryz.underlying190
 a46:=Tryz.isAgg190
 z46:=Tryz.sizeOf190
 v46:=Tryz.zeroValue190
 t51:=Tryz.underlying317
 a51:=Tryz.isAgg317
 z51:=Tryz.sizeOf317
 v51:=Tryz.zeroValue317
 t146:=Tryz.underlying339
 a146:=Tryz.isAgg339
 z146:=Tryz.sizeOf339
 v146:=Tryz.zeroValue339
 g1:=by kernel_rfl }
open Go.RowKit Go.Lib in
theorem Tryz.strings_Index_one (s:ByteArray) (c:UInt8) (w:World) :
  Calls Tryz.prog 244 #[.string s, .string ⟨#[c]⟩] w fun e w'=>e= .returned (.int .i64 (Lib.indexByte s.data.toList c))∧w'=w:=Any.strings_Index_one Tryz.Fl s c w
def Tryz.rX:Go.Shelf.Ren:=⟨fun|264=>289|n=>n,fun|53=>29|46=>190|n=>n,fun|n=>n⟩
theorem Tryz.Fm:Go.Proofs.Lays.n264 Tryz.prog Tryz.rX:={
 mixed:=OA
 f264:=Tryz.func289.trans (congrArg some OA)
 t46:=Tryz.underlying190
 a46:=Tryz.isAgg190
 z46:=Tryz.sizeOf190
 v46:=Tryz.zeroValue190
 t53:=Tryz.underlying29
 a53:=Tryz.isAgg29
 z53:=Tryz.sizeOf29
 v53:=Tryz.zeroValue29 }
open Go.RowKit Go.Lib in
theorem Tryz.bits_Mul64 (x y:Nat) (hx:x<18446744073709551616) (hy:y<18446744073709551616) (w:World) :
  Calls Tryz.prog 289 #[.int .u64 x, .int .u64 y] w fun e w'=>e= .returned (.tuple #[.int .u64 ((x*y / 18446744073709551616:Nat):Int), .int .u64 ((x*y % 18446744073709551616:Nat):Int)])∧w'=w:=Any.bits_Mul64 Tryz.Fm x y hx hy w
end Go.Proofs
namespace Go.Proofs.YtgephffbfiemeaaGreatDoor
open Go.Abs
set_option linter.all false
set_option maxRecDepth 100000
theorem K2:BU Tryz.prog 113 :=
 rR (Go.Proofs.enters_of Tryz.func113 OA rfl) (fun x sep w=>Tryz.strings_Join_none x 0 sep w) (fun bk o c xs sep w h1 h2 h3 h4 h5=>Tryz.strings_Join bk o c xs sep w h1 h2 h3 h4 h5)
theorem K3:Gq Tryz.prog 112 :=
 BV (Go.Proofs.enters_of Tryz.func112 OA rfl) (fun i hi w=>Tryz.strconv_Itoa_small i hi w)
theorem oH {k:Nat} (h:k<100):Lib.decDigits k=jk k:=by
 rw [Lib.decDigits]
 unfold jk
 split
 ·rfl
 ·rw [Lib.decDigits,dif_pos Oz];rfl
theorem gQ:∀ (l:List Nat),(∀ x∈l,x<64)→Lib.joinTail [44] (l.map Lib.decDigits)=eB l
  | [],_=>rfl
  | k :: l, h => by
    have:=gQ l (fun x hx=>h x Pv)
    simp only [Lib.joinTail,List.map_cons,List.flatten_cons,eB] at this ⊢
    rw [this,oH (by have:=h k OF;omega)]
    simp
theorem uC (l:List Nat) (h:∀ x∈l,x<64):Lib.join (l.map Lib.decDigits) [44]=gO l:=by
  cases l with
  | nil=>rfl
  | cons k l =>
    rw [List.map_cons,Lib.join_cons,gQ l (fun x hx=>h x Pv),oH (by have:=h k OF;omega)]
    rfl
def strs (l:List Nat):List AV:=l.map fun n=>AV.str (Lib.decDigits n)
theorem bV (l:List Nat):(strs l).length=l.length:=by simp [strs]
theorem yo (l:List Nat) (k:Nat):strs l++ [.str (Lib.decDigits k)]=strs (l++ [k]):=by simp [strs]
theorem B1 (τ:Nat) (l:List Nat):slv (.tsl τ l.length (strs l))=some ((l.map Lib.decDigits).length,(l.map Lib.decDigits).map AV.str):=by simp [slv,strs]
theorem oI (a:BitVec 64):Lib.join ((eW a).map Lib.decDigits) [44]=gO (eW a):=uC _ fun _ hx=>vm hx
theorem _root_.OW {p:Prop} (h:p:=by intro _;rfl):p:=h
theorem p51 (a:BitVec 64):PuG Tryz.prog gls 51 [.int .u64 a.toNat] (.str (dI a)):=by
 intro σ hσ
 refine aT c51 b51 ?_
 simp only [c51,↓R1,RR,seval]
 repeat' (first|(with_reducible rw [ah])|((with_reducible intro β hβ;(try simp only [RB] at hβ);(repeat (obtain ⟨⟨_,_⟩,hβ⟩:=hβ));(try (have hbis:=ag OB hβ;obtain ⟨_,_⟩:=hbis)))<;>(try simp only [↓R1,RR,seval])))
 refine (Nl a _).mono ?_
 rintro _ _ ⟨γ,hγ,rfl,rfl⟩
 rw [St.aG] at hγ
 obtain ⟨⟨_,_⟩,hγ⟩:=hγ
 simp only [↓R1,RR,seval]
 refine eZ [(true,3,0,9,1)] ?_
 simp only [cb,List.set_cons_zero,RR,seval]
 refine fun τ hτ=>⟨_,_,rfl,?_⟩
 refine Fb a (fun pre c=>((σ.ad β [.tsl τ pre.length (strs pre)]).ad γ [.int .u64 c.toNat]).ai τ (9,1,pre.length)) (fun _=>True) rfl trivial ?_ ?_ ?_ ?_ ?_ ?_
 ·intro pre b;simp only [RR,seval]
 ·intro pre b b';simp only [RR,seval]
 ·intro pre b;exact hσ
 ·intro pre b L;simp only [RR,seval]
 ·intro L r pre k b hL _ hk
  obtain ⟨rest,hr⟩:=hk
  have hlen:pre.length<64:=by
   have:=mq a
   rw [hr] at this
   simp at this
   omega
  have hk64:k<64:=vm (a:=a) (by rw [hr];simp)
  simp only [↓R1,RR,seval]
  have hm:pre.length+1≤maxLen:=O9
  repeat' ((first|((first|(refine bz (.inr rfl) rfl ?_ ?_ ?_ ?_ ?_ ?_;(first|rfl|exact St.aW _ _ _|(simp only [↓R1,RR,seval]));(first|omega|(simp only [bV];omega)|(simp only [RZ,bV,List.length_nil,List.length_cons]));(first|rfl|first|omega|(simp only [RZ,bV,List.length_nil,List.length_cons];omega)|(simp only [RZ,bV,List.length_nil,List.length_cons])))|(refine bx rfl ?_ ?_ ?_ ?_ ?_ ?_;(first|rfl|exact St.aW _ _ _|(simp only [↓R1,RR,seval]));(first|omega|(simp only [RZ,bV,List.length_nil,List.length_cons];omega)|(simp only [RZ,bV,List.length_nil,List.length_cons]));(first|rfl|first|omega|(simp only [RZ,bV,List.length_nil,List.length_cons];omega)|(simp only [RZ,bV,List.length_nil,List.length_cons])))|(refine appV_own ?_ ?_ ?_ ?_;exact aD OW _)|(refine appD_own ?_ ?_ ?_ ?_ ?_;omega;exact aD OW _)|(refine appV_fresh rfl trivial rfl ?_ ?_ ?_ ?_ ?_;(first|rfl|first|omega|(simp only [RZ,bV,List.length_nil,List.length_cons];omega)|(simp only [RZ,bV,List.length_nil,List.length_cons]));(first|rfl|first|omega|(simp only [RZ,bV,List.length_nil,List.length_cons];omega)|(simp only [RZ,bV,List.length_nil,List.length_cons])))|(refine appD_fresh rfl trivial rfl ?_ ?_ ?_ ?_ ?_ ?_;omega;(first|rfl|first|omega|(simp only [RZ,bV,List.length_nil,List.length_cons];omega)|(simp only [RZ,bV,List.length_nil,List.length_cons]));(first|rfl|first|omega|(simp only [RZ,bV,List.length_nil,List.length_cons];omega)|(simp only [RZ,bV,List.length_nil,List.length_cons]))));(unfold maxLen;omega);omega)|(refine Ct (K3 k Oz) ?_))<;>(try simp only [↓R1,RR,seval]))
  all_goals first|omega|exact Nat.le_refl _|assumption|exact St.le_refl _|(intros;(repeat' (with_reducible apply And.intro))<;>first|omega|(simp only [RZ];omega))|(simp only [aK,slot,ae,↓R1,RR,seval];all_goals exact vr)|exact ub|(simp_all;done)|skip
  all_goals (try simp only [↓R1,RR,seval])
  refine ⟨_,?_,?_,rfl⟩
  rotate_left
  ·exact hL
  simp only [yo,List.length_append,RR,seval]
 ·intro _
  simp only [↓R1,RR,seval]
  have hbl:=om a
  refine ((K2 _ _ [44] _ (B1 τ (eW a)) (by have:=mq a;simp;omega) (by rw [oI];omega)).mono ?_)
  rintro _ _ ⟨rfl,rfl⟩
  rw [oI]
  simp only [↓R1,RR,seval]
  refine ⟨by omega,?_,?_⟩
  ·omega
  (refine aq (af ?_))
  (simp only [ar,RR,seval])
  simp [dI]
open Go.Lib
def I64 (n:Int):Prop:= -9223372036854775808≤n∧n≤9223372036854775807
def gl3:List (Nat × List AV):= [(1,rD),(2,Bn)]
theorem Fo {σ:St} (h:bw gl3 σ):bw gls σ:=fun k cs hk=>by
 simp only [gls,Go.Abs.look] at hk
 cases hb:Nat.beq k 1 with
 | false=>rw [hb] at hk;cases hk
 | true=>rw [hb] at hk;exact h k cs (by simp only [gl3,Go.Abs.look,hb];exact hk)
theorem PuG.up3 {f:Nat} {xs:List AV} {v:AV} (h:PuG Tryz.prog gls f xs v):PuG Tryz.prog gl3 f xs v:=fun σ hσ=>h σ (Fo hσ)
theorem Fp:Tryz.prog.globalNamed "internal/strconv.uint64pow10" =some 2:=OA
theorem K4:KK Tryz.prog 109 2 :=
 E0 (Go.Proofs.enters_of Tryz.func109 OA rfl) Fp (fun n h0 h1 w ht=>Tryz.strconv_FormatInt_10 n h0 h1 w ht)
theorem Nu (n:Int) (hn:I64 n):PuG Tryz.prog gl3 141 [.int .i64 n] (.str (itoa n)):=by
 intro σ hσ
 refine aT HH L8 ?_
 simp only [HH,↓R1,RR,Nat.reduceEqDiff]
 refine AC.mono (K4 n σ hn.1 hn.2 (hσ _ _ rfl)) ?_
 rintro r s ⟨rfl,rfl⟩
 simp only [↓R1,RR,Nat.reduceEqDiff]
 (refine aq (af ?_))
 (simp only [ar,RR,Nat.reduceEqDiff])
def Fq:List UInt8:= [65,66,67,68,69,70,71,72,73,74,75,76,77,78,79,80,81,82,83,84,85,86,87,88,89,90]
def dM (k:Int):List UInt8:=bif decide (k<0)||decide (26≤k) then [] else (Fq.drop k.toNat).take 1
theorem Nv {k:Int} (h:(decide (k<0)||decide (26≤k))=false):(0≤k∧k<26)∧IntKind.i64.wrap (k+1)=k+1∧(k+1).toNat - k.toNat=1:=by
 simp only [Bool.or_eq_false_iff,decide_eq_false_iff_not] at h
 exact ⟨by omega,wrap64 Oz Oz,by omega⟩
theorem p53 (k:Int):Pu Tryz.prog 53 [.int .i64 k] (.tup [.str (dM k), .int .i64 (bI k)]):=by
 (refine av c53 b53 fun σ=>?_;simp only [c53,↓R1,RR,Nat.reduceEqDiff])
 refine aj (fun hc=>?_) (fun hc=>?_)
 ·simp only [↓R1,RR]
  (refine aq (af ?_))
  (simp only [ar,RR,Nat.reduceEqDiff])
  simp only [dM,bI,hc,cond_true]
 ·obtain ⟨h1,h2,h3⟩:=Nv hc
  simp only [h2,↓R1,RR,Nat.reduceEqDiff]
  simp only [h3]
  refine ⟨⟨by omega,by omega,by simp;omega⟩,?_⟩
  (refine aq (af ?_))
  (simp only [ar,RR,Nat.reduceEqDiff])
  simp only [dM,bI,hc,cond_false]
  rfl
theorem Gr (v:Int):IntKind.u64.wrap v=((BitVec.ofInt 64 v).toNat:Int):=by
 rw [IntKind.wrap_u64,BitVec.toNat_ofInt];omega
theorem Gs (a:BitVec 64) {k:Nat} (h:k<8):IntKind.u8.wrap ((a.toNat:Int).fdiv (2^min (56 - 8*(k:Int)).toNat IntKind.u64.bits))=(iU a k:Nat):=by
 have e:(56 - 8*(k:Int)).toNat=56 - 8*k:=Oz
 rw [e,I1]
theorem _root_.OT {p:Prop} (h:p:=by simp [aw,rvS]):p:=h
theorem _root_.Pm {p:Prop} (h:p:=by (simp only [ar,RR,Nat.reduceEqDiff])):p:=h
theorem Nw (a:BitVec 64):Tp Tryz.prog 210 [.int .u64 a.toNat] 5 1 8 (fV a 8):=by
 have hby:=True.intro
 have hge:∀ k:Nat,decide ((0:Int)≤56 - 8*(k:Int))=decide (k<8):=fun k=>by rw [Bool.eq_iff_iff];simp;omega
 intro σ
 (refine aT H3 Mu ?_;simp only [H3,↓R1,RR,Nat.reduceEqDiff])
 refine my 8 4 5 1 0 [] (fun τ k=> [(5, .int .i64 (56 - 8*(k:Int))),(3, .int .u64 a.toNat),(4, .tsl τ k (fV a k))]) (fun τ k=>σ.ai τ (5,1,k)) (fun _=>True) trivial rfl trivial (fun τ=>by simp [aK,slot,ae,fV]) (fun τ _=>St.le_refl _) (fun τ hτ k hk _=>?_)
 simp only [hge,↓R1,RR,Nat.reduceEqDiff]
 refine aj (fun hc=>?_) (fun hc=>?_)
 ·have hlt:k<8:=by simpa using hc
  have hby:=Gs a hlt
  have hl:=ay a k
  have hm:k+1≤maxLen:=O9
  simp only [↓R1,RR,Nat.reduceEqDiff,hby]
  repeat' (first|(with_reducible refine And.intro ?_ ?_;focus (intros;(repeat' (with_reducible apply And.intro))<;>first|omega|(simp only [RZ,ay];omega)))|(with_reducible apply And.intro)|(((first|(refine bz (.inr rfl) rfl ?_ ?_ ?_ ?_ ?_ ?_;(first|rfl|exact St.aW _ _ _|(simp only [↓R1,RR,Nat.reduceEqDiff,hby]));(first|omega|(simp only [RZ,ay,List.length_nil,List.length_cons];omega)|(simp only [RZ,ay,List.length_nil,List.length_cons]));(first|rfl|first|omega|(simp only [RZ,ay,List.length_nil,List.length_cons];omega)|(simp only [RZ,ay,List.length_nil,List.length_cons])))|(refine bx rfl ?_ ?_ ?_ ?_ ?_ ?_;(first|rfl|exact St.aW _ _ _|(simp only [↓R1,RR,Nat.reduceEqDiff,hby]));(first|omega|(simp only [RZ,ay,List.length_nil,List.length_cons];omega)|(simp only [RZ,ay,List.length_nil,List.length_cons]));(first|rfl|first|omega|(simp only [RZ,ay,List.length_nil,List.length_cons];omega)|(simp only [RZ,ay,List.length_nil,List.length_cons])))|(refine appV_own ?_ ?_ ?_ ?_;exact aD OW _)|(refine appD_own ?_ ?_ ?_ ?_ ?_;omega;exact aD OW _)|(refine appV_fresh rfl trivial rfl ?_ ?_ ?_ ?_ ?_;(first|rfl|first|omega|(simp only [RZ,ay,List.length_nil,List.length_cons];omega)|(simp only [RZ,ay,List.length_nil,List.length_cons]));(first|rfl|first|omega|(simp only [RZ,ay,List.length_nil,List.length_cons];omega)|(simp only [RZ,ay,List.length_nil,List.length_cons])))|(refine appD_fresh rfl trivial rfl ?_ ?_ ?_ ?_ ?_ ?_;omega;(first|rfl|first|omega|(simp only [RZ,ay,List.length_nil,List.length_cons];omega)|(simp only [RZ,ay,List.length_nil,List.length_cons]));(first|rfl|first|omega|(simp only [RZ,ay,List.length_nil,List.length_cons];omega)|(simp only [RZ,ay,List.length_nil,List.length_cons]))));(unfold maxLen;omega);omega)<;>(try simp only [↓R1,RR,Nat.reduceEqDiff])))
  all_goals first|omega|exact Nat.le_refl _|assumption|exact St.le_refl _|(intros;(repeat' (with_reducible apply And.intro))<;>first|omega|(simp only [RZ,ay];omega))|(simp only [aK,slot,ae,RR,Nat.reduceEqDiff];all_goals exact vr)|exact ub|(simp_all;done)|skip
  simp only [aK,slot,ae,oE,RR,Nat.reduceEqDiff]
  exact af (by rw [wrap64 Oz Oz];congr 1;omega)
 ·have:k=8:=by simp at hc;omega
  subst this
  simp only [↓R1,RR,Nat.reduceEqDiff]
  refine rb τ hτ OF OT (af Pm) (St.le_refl _)
theorem Nx (v:Int):Tp Tryz.prog 211 [.int .i64 v] 5 1 8 (fV (BitVec.ofInt 64 v) 8):=by
 have hby:=True.intro
 have hge:∀ k:Nat,decide ((0:Int)≤56 - 8*(k:Int))=decide (k<8):=fun k=>by rw [Bool.eq_iff_iff];simp;omega
 intro σ
 (refine aT H4 Mw ?_;simp only [H4,↓R1,RR,Nat.reduceEqDiff])
 simp only [Gr]
 obtain ⟨a,ha⟩:∃ a,BitVec.ofInt 64 v=a:=⟨_,rfl⟩
 rw [ha]
 refine my 8 4 5 1 0 [] (fun τ k=> [(5, .int .i64 (56 - 8*(k:Int))),(3, .int .u64 a.toNat),(4, .tsl τ k (fV a k))]) (fun τ k=>σ.ai τ (5,1,k)) (fun _=>True) trivial rfl trivial (fun τ=>by simp [aK,slot,ae,fV]) (fun τ _=>St.le_refl _) (fun τ hτ k hk _=>?_)
 simp only [hge,↓R1,RR,Nat.reduceEqDiff]
 refine aj (fun hc=>?_) (fun hc=>?_)
 ·have hlt:k<8:=by simpa using hc
  have hby:=Gs a hlt
  have hl:=ay a k
  have hm:k+1≤maxLen:=O9
  simp only [↓R1,RR,Nat.reduceEqDiff,hby]
  repeat' (first|(with_reducible refine And.intro ?_ ?_;focus (intros;(repeat' (with_reducible apply And.intro))<;>first|omega|(simp only [RZ,ay];omega)))|(with_reducible apply And.intro)|(((first|(refine bz (.inr rfl) rfl ?_ ?_ ?_ ?_ ?_ ?_;(first|rfl|exact St.aW _ _ _|(simp only [↓R1,RR,Nat.reduceEqDiff,hby]));(first|omega|(simp only [RZ,ay,List.length_nil,List.length_cons];omega)|(simp only [RZ,ay,List.length_nil,List.length_cons]));(first|rfl|first|omega|(simp only [RZ,ay,List.length_nil,List.length_cons];omega)|(simp only [RZ,ay,List.length_nil,List.length_cons])))|(refine bx rfl ?_ ?_ ?_ ?_ ?_ ?_;(first|rfl|exact St.aW _ _ _|(simp only [↓R1,RR,Nat.reduceEqDiff,hby]));(first|omega|(simp only [RZ,ay,List.length_nil,List.length_cons];omega)|(simp only [RZ,ay,List.length_nil,List.length_cons]));(first|rfl|first|omega|(simp only [RZ,ay,List.length_nil,List.length_cons];omega)|(simp only [RZ,ay,List.length_nil,List.length_cons])))|(refine appV_own ?_ ?_ ?_ ?_;exact aD OW _)|(refine appD_own ?_ ?_ ?_ ?_ ?_;omega;exact aD OW _)|(refine appV_fresh rfl trivial rfl ?_ ?_ ?_ ?_ ?_;(first|rfl|first|omega|(simp only [RZ,ay,List.length_nil,List.length_cons];omega)|(simp only [RZ,ay,List.length_nil,List.length_cons]));(first|rfl|first|omega|(simp only [RZ,ay,List.length_nil,List.length_cons];omega)|(simp only [RZ,ay,List.length_nil,List.length_cons])))|(refine appD_fresh rfl trivial rfl ?_ ?_ ?_ ?_ ?_ ?_;omega;(first|rfl|first|omega|(simp only [RZ,ay,List.length_nil,List.length_cons];omega)|(simp only [RZ,ay,List.length_nil,List.length_cons]));(first|rfl|first|omega|(simp only [RZ,ay,List.length_nil,List.length_cons];omega)|(simp only [RZ,ay,List.length_nil,List.length_cons]))));(unfold maxLen;omega);omega)<;>(try simp only [↓R1,RR,Nat.reduceEqDiff])))
  all_goals first|omega|exact Nat.le_refl _|assumption|exact St.le_refl _|(intros;(repeat' (with_reducible apply And.intro))<;>first|omega|(simp only [RZ,ay];omega))|(simp only [aK,slot,ae,RR,Nat.reduceEqDiff];all_goals exact vr)|exact ub|(simp_all;done)|skip
  simp only [aK,slot,ae,oE,RR,Nat.reduceEqDiff]
  exact af (by rw [wrap64 Oz Oz];congr 1;omega)
 ·have:k=8:=by simp at hc;omega
  subst this
  simp only [↓R1,RR,Nat.reduceEqDiff]
  refine rb τ hτ OF OT (af Pm) (St.le_refl _)
theorem Ny:Int.toNat 8=8:=rfl
theorem p85 (a:BitVec 64):Pu Tryz.prog 85 [.int .u64 a.toNat] (.str (fq a)):=by
 (refine av c85 b85 fun σ=>?_;simp only [c85,↓R1,RR,Nat.reduceEqDiff])
 refine ⟨by decide,fun β hβ=>?_⟩
 simp only [Ny]
 refine bq 8 (fun k=> [(4, .int .i64 k),(0, .int .u64 a.toNat),(3, .psl β 0 8)]) (fun k=>σ.ad β (mC a k)) (fun _=>True) OP (St.le_refl _) trivial (fun k hk _=>?_)
 have hlt8:decide ((k:Int)<8)=decide (k<8):=Ph
 simp only [hlt8,↓R1,RR,Nat.reduceEqDiff]
 refine aj (fun hc=>?_) (fun hc=>?_)
 ·have hlt:k<8:=by simpa using hc
  simp only [BO a hlt,Nat.mul_one,mD,↓R1,RR,Nat.reduceEqDiff]
  refine ⟨?_,⟨by omega,by omega⟩,by omega,hlt,?_,?_⟩
  ·have e1:IntKind.i64.wrap (8*(k:Int))=8*k:=by rw [wrap64 Oz Oz]
   have e2:IntKind.i64.wrap (56 - 8*(k:Int))=((56 - 8*k:Nat):Int):=OD
   rw [e1,e2,IntKind.wrap_u64];omega
  ·simp only [aK,slot,ae,RR,Nat.reduceEqDiff];exact Hl Oz
  ·rw [yj a hlt];exact St.le_refl _
 ·have:k=8:=by simp at hc;omega
  subst this
  have ht:(mC a 8).take 8=mC a 8:=List.take_of_length_le (by rw [mD];omega)
  simp only [ht,rE,uo,↓R1,RR,Nat.reduceEqDiff]
  refine ⟨by rw [mD];omega,?_⟩
  (refine aq (af ?_))
  (simp only [ar,RR,Nat.reduceEqDiff])
def fH (l:BitVec 64) (k v:Int):List UInt8:=bif bI k == 0 then fq l++UInt8.ofNat (IntKind.u8.wrap k).toNat::fq (BitVec.ofInt 64 v) else []
theorem yp (a b:BitVec 64) (x:Int):((fV a 8++ [AV.int .u8 x])++fV b 8).all isByte=true∧((fV a 8++ [AV.int .u8 x])++fV b 8).map Go.Abs.byteOf=fq a++UInt8.ofNat x.toNat::fq b∧((fV a 8++ [AV.int .u8 x])++fV b 8).length=17:=by
 refine ⟨by simp [List.all_append,rG,isByte],?_,by simp [ay]⟩
 rw [List.map_append,List.map_append,mE,mE]
 simp [Go.Abs.byteOf]
set_option maxHeartbeats 4000000 in
theorem Nz (l:BitVec 64) (k v:Int):Pu Tryz.prog 155 [.agg [.int .u64 l.toNat, .int .i64 k, .int .i64 v]] (.tup [.str (fH l k v), .int .i64 (bI k)]):=by
 obtain ⟨g1,g2,g3⟩:=yp l (BitVec.ofInt 64 v) (IntKind.u8.wrap k)
 (refine av HL Mc fun σ=>?_;simp only [HL,↓R1,RR,Nat.reduceEqDiff])
 repeat' (first|(with_reducible refine And.intro ?_ ?_;focus (intros;(repeat' (with_reducible apply And.intro))<;>first|omega|(simp only [RZ,ay];omega)))|(with_reducible apply And.intro)|((first|(refine aj (fun hc=>?_) (fun hc=>?_))|(with_reducible intro β hβ;(try simp only [RB] at hβ);(repeat (obtain ⟨⟨_,_⟩,hβ⟩:=hβ));(try (have hbis:=ag OB hβ;obtain ⟨_,_⟩:=hbis)))|((first|(refine bz (.inr rfl) rfl ?_ ?_ ?_ ?_ ?_ ?_;(first|rfl|exact St.aW _ _ _|(simp only [↓R1,RR,Nat.reduceEqDiff]));(first|omega|(simp only [RZ,ay,List.length_nil,List.length_cons];omega)|(simp only [RZ,ay,List.length_nil,List.length_cons]));(first|rfl|first|omega|(simp only [RZ,ay,List.length_nil,List.length_cons];omega)|(simp only [RZ,ay,List.length_nil,List.length_cons])))|(refine bx rfl ?_ ?_ ?_ ?_ ?_ ?_;(first|rfl|exact St.aW _ _ _|(simp only [RR]));(first|omega|(simp only [RZ,ay];omega)|(simp only [RZ,ay]));(first|rfl|first|omega|(simp only [RZ,ay,List.length_nil,List.length_cons];omega)|(simp only [RZ,ay,List.length_nil,List.length_cons])))|(refine appV_own ?_ ?_ ?_ ?_;exact aD OW _)|(refine appD_own ?_ ?_ ?_ ?_ ?_;omega;exact aD OW _)|(refine appV_fresh rfl trivial rfl ?_ ?_ ?_ ?_ ?_;(first|rfl|first|omega|(simp only [RZ,ay,List.length_nil,List.length_cons];omega)|(simp only [RZ,ay,List.length_nil,List.length_cons]));(first|rfl|first|omega|(simp only [RZ,ay,List.length_nil,List.length_cons];omega)|(simp only [RZ,ay,List.length_nil,List.length_cons])))|(refine appD_fresh rfl trivial rfl ?_ ?_ ?_ ?_ ?_ ?_;omega;(first|rfl|first|omega|(simp only [RZ,ay,List.length_nil,List.length_cons];omega)|(simp only [RZ,ay,List.length_nil,List.length_cons]));(first|rfl|first|omega|(simp only [RZ,ay,List.length_nil,List.length_cons];omega)|(simp only [RZ,ay,List.length_nil,List.length_cons]))));(unfold maxLen;omega);omega)|(refine Pt (KZ l.toNat k v) ?_)|((refine Tp.to (Nw l) ?_ ?_;(focus exact fo);intro τ hβ;(try simp only [RB] at hβ);(repeat (obtain ⟨⟨_,_⟩,hβ⟩:=hβ));(try (have hbis:=ag OB hβ;obtain ⟨_,_⟩:=hbis))))|((refine Tp.to (Nx v) ?_ ?_;(focus exact fo);intro τ hβ;(try simp only [RB] at hβ);(repeat (obtain ⟨⟨_,_⟩,hβ⟩:=hβ));(try (have hbis:=ag OB hβ;obtain ⟨_,_⟩:=hbis)))))<;>(try simp only [↓R1,RR,Nat.reduceEqDiff])))
 ·(refine aq (af ?_))
  (simp only [ar,RR,Nat.reduceEqDiff])
  have he:(bI k == 0)=false:=Pg
  simp only [fH,he,cond_false]
 all_goals ((refine aq (af ?_));(simp only [ar,RR,Nat.reduceEqDiff]);rw [g2];have he:bI k=0:=by simpa using hc)
 all_goals simp [fH,he]
theorem mL (a:BitVec 64):(fq a).length=8:=by simp [fq]
theorem p38 (l:BitVec 64) (k v:Int):Pu Tryz.prog 38 [.agg [.int .u64 l.toNat, .int .i64 k, .int .i64 v]] (.tup [.str (fH l k v), .int .i64 (bI k)]):=by
 have hw:=Gr v
 (refine av c38 b38 fun σ=>?_;simp only [c38,↓R1,RR,Nat.reduceEqDiff,Nat.reduceAdd,Nat.reduceLeDiff])
 repeat' (first|((first|refine aj (fun hc=>?_) (fun hc=>?_)|(with_reducible intro β hβ;(try simp only [St.aG,St.bC,St.bn,St.bu,St.cS,St.da] at hβ);(repeat (obtain ⟨⟨_,_⟩,hβ⟩:=hβ));(try (have hbis:=ag OB hβ;obtain ⟨_,_⟩:=hbis))))<;>(try simp only [↓R1,RR,Nat.reduceEqDiff,Nat.reduceAdd,Nat.reduceLeDiff,Nat.reduceLT]))|(with_reducible apply And.intro)|((first|refine Pu.to (p84 l.toNat k v) (aa _) ?_|refine bd (p84 l.toNat k v) (aa _) ?_|refine Pu.to (p85 l) (aa _) ?_|refine bd (p85 l) (aa _) ?_|refine Pu.to (p85 (BitVec.ofInt 64 v)) (aa _) ?_|refine bd (p85 (BitVec.ofInt 64 v)) (aa _) ?_);(try simp only [↓R1,RR,Nat.reduceEqDiff,Nat.reduceAdd,Nat.reduceLeDiff,Nat.reduceLT,hw])))
 all_goals first|rfl|(simp only [mL];omega)|(simp only [List.length_append,List.length_cons,List.length_nil,mL];omega)|skip
 ·(refine aq (af ?_))
  (simp only [ar,RR,Nat.reduceEqDiff])
  have he:(bI k == 0)=false:=Pg
  simp only [fH,he,cond_false]
 have he:bI k=0:=Pg
 (refine aq (af ?_))
 (simp only [ar,RR,Nat.reduceEqDiff])
 simp [fH,he,Go.Abs.byteOf]
theorem fh (n:Nat) (h:n<18446744073709551616):(decDigits n).length≤20:=by
  have:∀ (j:Nat) (n:Nat),n<10^(j+1)→(decDigits n).length≤j+1:=by
    intro j
    induction j with
    | zero=>intro n h;rw [decDigits,dif_pos Oz];simp
    | succ j ih =>
      intro n h
      rw [decDigits]
      split
      · simp
      · have:=ih (n / 10) (by rw [Nat.pow_succ] at h;omega)
        simp only [List.length_append,List.length_cons,List.length_nil];omega
  exact this 19 n (Nat.lt_trans h OK)
theorem cu (v:Int) (hv:I64 v):(itoa v).length≤21:=by
 unfold I64 at hv
 unfold itoa
 split
 ·have:=fh v.natAbs Oz
  simp only [List.length_cons];omega
 ·have:=fh v.toNat Oz
  omega
theorem eF (a:BitVec 64):(dI a).length≤194:=by
 have:=om a
 simp only [dI,List.length_cons,List.length_append,List.length_nil];omega
theorem la (k:Int):(dM k).length≤1:=by unfold dM;cases (decide (k<0)||decide (26≤k))<;>simp;omega
theorem wI (n:Int):IntKind.i64.wrap n=if 9223372036854775808≤n % 18446744073709551616 then n % 18446744073709551616 - 18446744073709551616 else n % 18446744073709551616:=by
 simp [IntKind.wrap,IntKind.bits,IntKind.signed]
theorem wU (n:Int):IntKind.u64.wrap n=n % 18446744073709551616:=by
 simp [IntKind.wrap,IntKind.bits,IntKind.signed]
theorem wU8 (n:Int):IntKind.u8.wrap n=n % 256:=by
 simp [IntKind.wrap,IntKind.bits,IntKind.signed]
def dg (c:UInt8):Bool:=decide (48≤c.toNat)&&decide (c.toNat≤57)
def oJ (a:Nat) (c:UInt8):Nat:=a*10+(c.toNat - 48)
def val (a:Nat) (l:List UInt8):Nat:=l.foldl oJ a
theorem B2 (l:List UInt8) (a:Nat) (c:UInt8):val a (l++ [c])=val a l*10+(c.toNat - 48):=by
 unfold val
 rw [List.foldl_append]
 rfl
def gD (s:List UInt8):Bool:=s == []||(decide ((1:Int)<s.length)&&((((s[0]?).getD 0).toNat:Nat):Int) == 48)
def de (s:List UInt8):Bool:= !gD s&&s.all dg
theorem nL (s:List UInt8) (k:Nat) (h:k<s.length):val 0 (s.take (k+1))=val 0 (s.take k)*10+(s[k].toNat - 48):=by
 rw [←List.take_append_getElem h,B2]
theorem K5 {s:List UInt8} (k:Nat) (h:k<s.length) (hc:dg s[k]=false):s.all dg=false:=by
 cases h2:s.all dg with
 | false=>rfl
 | true=>rw [List.all_eq_true] at h2;rw [h2 _ (List.getElem_mem h)] at hc;cases hc
def yq (s:List UInt8):List AV:= [.int .u64 (bif de s then ((val 0 s % 18446744073709551616:Nat):Int) else 0), .bool (de s&&decide (18446744073709551616≤val 0 s)), .bool (de s)]
theorem K6 (V d:Nat) (hd:d≤9):(18446744073709551616≤V∨(V % 18446744073709551616*10) / 18446744073709551616≠0∨((V % 18446744073709551616*10) % 18446744073709551616+d) / 18446744073709551616≠0)↔18446744073709551616≤V*10+d:=Oz
theorem K7 (V d:Nat):((V % 18446744073709551616*10) % 18446744073709551616+d) % 18446744073709551616=(V*10+d) % 18446744073709551616:=Oz
theorem step1 (V d:Nat) (hd:d≤9):(decide (18446744073709551616≤V)||(((V % 18446744073709551616*10 / 18446744073709551616:Nat):Int) != 0)||((((V % 18446744073709551616*10 % 18446744073709551616+d) / 18446744073709551616:Nat):Int) != 0))=decide (18446744073709551616≤V*10+d):=by
 have h:=K6 V d hd
 rw [Bool.eq_iff_iff]
 simp only [Bool.or_eq_true,decide_eq_true_eq,bne_iff_ne,ne_eq,Int.natCast_eq_zero]
 rw [or_assoc]
 exact h
theorem B3:∀ (l:List UInt8) (a:Nat),a≤val a l
  | [],a=>Nat.le_refl _
  | c :: l, a => by
    have:=B3 l (oJ a c)
    have h2:a≤oJ a c:=by unfold oJ;omega
    exact Nat.le_trans h2 this
theorem val_zero {t:List UInt8} (hg:de t=true):(val 0 t == 0)=(t == [48]):=by
  simp only [de,Bool.and_eq_true,Bool.not_eq_true'] at hg
  obtain ⟨h1,h2⟩:=hg
  cases t with
  | nil=>simp [gD] at h1
  | cons c l =>
    simp only [List.all_cons,Bool.and_eq_true,dg,decide_eq_true_eq] at h2
    have e:val 0 (c::l)=val (c.toNat - 48) l:=by unfold val;simp [oJ]
    rw [e]
    cases l with
    | nil =>
      rw [Bool.eq_iff_iff]
      simp only [val,List.foldl_nil,beq_iff_eq,List.cons.injEq,and_true]
      constructor
      · intro h;exact UInt8.toNat_inj.1 (show c.toNat=48 by omega)
      · intro h;subst h;rfl
    | cons d l =>
      have h3:c.toNat≠48:=by
        intro h
        simp [gD,h] at h1
        omega
      have h4:=B3 (d::l) (c.toNat - 48)
      rw [Bool.eq_iff_iff]
      simp only [beq_iff_eq,List.cons.injEq]
      constructor
      · intro h;omega
      · intro h;simp at h
def B4 (s:List UInt8) (m:Int):List AV:=bif de s then (bif decide (18446744073709551616≤val 0 s)||decide (m<((val 0 s % 18446744073709551616:Nat):Int)) then [.int .u64 0, .int .i64 2] else [.int .u64 ((val 0 s % 18446744073709551616:Nat):Int), .int .i64 0]) else [.int .u64 0, .int .i64 3]
def B5 (s:List UInt8) (m:Int):Bool:=decide (18446744073709551616≤val 0 s)||decide (m<((val 0 s % 18446744073709551616:Nat):Int))
def B6 (s:List UInt8) (m:Int):Int:=bif de s then (bif B5 s m then 0 else ((val 0 s % 18446744073709551616:Nat):Int)) else 0
def uD (s:List UInt8) (m:Int):Int:=bif de s then (bif B5 s m then 2 else 0) else 3
theorem Fs (s:List UInt8) (m:Int):B4 s m= [.int .u64 (B6 s m), .int .i64 (uD s m)]:=by
 have e:B4 s m=bif de s then (bif B5 s m then [.int .u64 0, .int .i64 2] else [.int .u64 ((val 0 s % 18446744073709551616:Nat):Int), .int .i64 0]) else [.int .u64 0, .int .i64 3]:=rfl
 rw [e]
 unfold B6 uD
 cases de s<;>cases B5 s m<;>rfl
theorem B7 (N:Nat) (c:UInt8) (hN:0<N) (hc:dg c=true):decDigits (N*10+(c.toNat - 48))=decDigits N++ [c]:=by
 simp only [dg,Bool.and_eq_true,decide_eq_true_eq] at hc
 rw [decDigits,dif_neg Oz]
 have h1:(N*10+(c.toNat - 48)) / 10=N:=Oz
 have h2:48+(N*10+(c.toNat - 48)) % 10=c.toNat:=Oz
 rw [h1,h2]
 congr 2
 exact UInt8.ofNat_toNat
theorem mM:∀ (r:List UInt8) (a:Nat),0<a→r.all dg=true→decDigits (val a r)=decDigits a++r
  | [],a,_,_=>by simp [val]
  | c :: l, a, ha, h => by
    rw [List.all_cons,Bool.and_eq_true] at h
    have e:val a (c::l)=val (a*10+(c.toNat - 48)) l:=rfl
    rw [e,mM l _ Oz h.2,B7 a c ha h.1,List.append_assoc];rfl
theorem vw {t:List UInt8} (hg:de t=true):decDigits (val 0 t)=t:=by
  have hz:=val_zero hg
  simp only [de,Bool.and_eq_true,Bool.not_eq_true'] at hg
  obtain ⟨h1,h2⟩:=hg
  cases t with
  | nil=>simp [gD] at h1
  | cons c l =>
    have hall:=h2
    simp only [List.all_cons,Bool.and_eq_true] at h2
    have hc:=h2.1
    simp only [dg,Bool.and_eq_true,decide_eq_true_eq] at hc
    have e:val 0 (c::l)=val (c.toNat - 48) l:=by unfold val;simp [oJ]
    have hone:decDigits (c.toNat - 48)= [c]:=by
      rw [decDigits,dif_pos Oz]
      congr 1
      rw [show 48+(c.toNat - 48)=c.toNat by omega]
      exact UInt8.ofNat_toNat
    by_cases h0:c.toNat - 48=0
    · cases l with
      | nil=>rw [e,h0];rw [h0] at hone;exact hone
      | cons d l =>
        have:c.toNat=48:=Oz
        simp [gD,this] at h1
        omega
    · rw [e,mM l _ Oz h2.2,hone];rfl
theorem yr (x y c:Int) (hc:c.toNat≤1):Pu Tryz.prog 290 [.int .u64 x, .int .u64 y, .int .u64 c] (pI x y c) :=
 Bp Tryz.func290 OA rfl OA OA x y c hc
theorem I4 (x y:Nat) (hx:x<18446744073709551616) (hy:y<18446744073709551616):Pu Tryz.prog 289 [.int .u64 x, .int .u64 y] (.tup [.int .u64 ((x*y / 18446744073709551616:Nat):Int), .int .u64 ((x*y % 18446744073709551616:Nat):Int)]):=by
 intro σ
 refine AC.eX (Go.Proofs.enters_of Tryz.func289 OA rfl) ?_
 intro g w vs hI hv
 obtain ⟨v1,vs,rfl,r1,hv⟩:=hv.cons_inv
 obtain ⟨v2,vs,rfl,r2,hv⟩:=hv.cons_inv
 rw [hv.bK,r1.a8,r2.a8]
 refine (Tryz.bits_Mul64 x y hx hy w).mono ?_
 rintro e w' ⟨rfl,rfl⟩
 exact ⟨_,rfl,Go.RowKit.Below.refl _ _,fun g' _=>Rel.dA (.cons (.int _ _) (.cons (.int _ _) .nil))⟩
theorem I5 (x y:Nat):Pu Tryz.prog 290 [.int .u64 x, .int .u64 y, .int .u64 0] (.tup [.int .u64 (((x+y) % 18446744073709551616:Nat):Int), .int .u64 (((x+y) / 18446744073709551616:Nat):Int)]):=by
 have h:=yr x y 0 OK
 unfold pI at h
 simp only [Int.toNat_natCast,Int.toNat_zero,Nat.add_zero] at h
 exact h
theorem NA (s:List UInt8) (hs:s.length≤maxLen):Pu Tryz.prog 276 [.str s] (.tup (yq s)):=by
 refine av Is MQ fun σ=>?_
 simp only [Is,↓R1,RR,seval]
 (repeat' (with_reducible apply And.intro))
 ·intro h;simp at h;omega
 ·intro h1 h2;simp [h1,h2]
 ·refine aj (fun h5=>?_) (fun h5=>?_)<;>simp only [↓R1,RR,seval]
  ·(refine aq (af ?_))
   (simp only [ar,↓R1,RR,seval])
   have hf:gD s=true:=h5
   simp only [yq,de,hf,Bool.not_true,Bool.false_and,cond_false]
  ·have hf:gD s=false:=h5
   clear h5
   refine bq s.length (fun k=> [(24, .int .i64 k),(23, .int .i64 s.length),(0, .str s),(2, .int .u64 ((val 0 (s.take k) % 18446744073709551616:Nat):Int)),(3, .bool (decide (18446744073709551616≤val 0 (s.take k))))]) (fun _=>σ) (fun k=>(s.take k).all dg=true) (by refine ⟨ae _,ae _,ae _,af rfl,af rfl,trivial⟩) (St.le_refl _) OF (fun k hk hI=>?_)
   simp only [↓R1,RR,seval]
   refine aj (fun h6=>?_) (fun h6=>?_)<;>simp at h6
   ·have ht:(s.take (k+1)).all dg=dg s[k]:=by
     rw [←List.take_append_getElem h6,List.all_append,hI];simp
    have hV:=nL s k h6
    generalize val 0 (s.take k)=V at *
    simp only [List.getElem?_eq_getElem h6,↓R1,RR,seval]
    refine ⟨⟨by omega,by omega⟩,fun _=>⟨by omega,by omega⟩,?_⟩
    refine aj (fun h7=>?_) (fun h7=>?_)
    ·simp only [↓R1,RR,seval]
     (refine aq (af ?_))
     (simp only [ar,↓R1,RR,seval])
     have hd0:dg s[k]=false:=by
      simp only [Bool.or_eq_true,decide_eq_true_eq] at h7
      simp only [dg,Bool.and_eq_false_iff,decide_eq_false_iff_not]
      omega
     have hg:de s=false:=by simp only [de,K5 k h6 hd0,Bool.and_false]
     simp only [yq,hg,Bool.false_and,cond_false]
    ·simp only [Bool.or_eq_false_iff,decide_eq_false_iff_not] at h7
     have hd1:dg s[k]=true:=by
      simp only [dg,Bool.and_eq_true,decide_eq_true_eq]
      omega
     have hw:IntKind.u64.wrap (IntKind.u8.wrap ((s[k].toNat:Int) - 48))=((s[k].toNat - 48:Nat):Int):=by rw [wU,wU8];omega
     have hd9:s[k].toNat - 48≤9:=Oz
     generalize s[k].toNat - 48=d at *
     simp only [↓R1,RR,seval]
     refine (I4 (V % 18446744073709551616) 10 (Nat.mod_lt _ OK) OK).to (aa _) ?_
     simp only [List.getElem?_eq_getElem h6,hw,↓R1,RR,seval]
     refine ⟨⟨by omega,by omega⟩,?_⟩
     refine (I5 _ d).to (aa _) ?_
     simp only [K7,step1 V d hd9,↓R1,RR,seval]
     refine ⟨h6,by rw [ht];exact hd1,?_,St.le_refl _⟩
     rw [hV]
     refine ⟨af ?_,ae _,ae _,ae _,ae _,trivial⟩
     simp only [slot,↓R1,RR,seval]
     rw [wX h6 hs]
   ·rw [List.take_of_length_le h6] at hI
    simp only [List.take_of_length_le h6,↓R1,RR,seval]
    (refine aq (af ?_))
    (simp only [ar,↓R1,RR,seval])
    have hg:de s=true:=by simp only [de,hf,hI];rfl
    simp only [yq,hg,Bool.true_and,cond_true]
theorem NB (s:List UInt8) (m:Int) (hs:s.length≤maxLen):Pu Tryz.prog 252 [.str s, .int .u64 m] (.tup (B4 s m)):=by
  refine av Io MM fun σ=>?_
  simp only [Io,↓R1,RR,seval]
  refine (NA s hs).to (aa _) ?_
  cases hg:de s with
  | false =>
    simp only [yq,hg,bne_self_eq_false,Bool.or_self,Bool.or_false,Bool.false_or,beq_self_eq_true,Bool.and_self,Bool.and_true,Bool.true_and,Bool.and_false,Bool.false_and,Int.reduceBEq,Int.reduceBNe,Bool.or_true,Bool.true_or,Int.toNat_zero,↓R1,RR,seval]
    (refine aq (af ?_))
    (simp only [ar,↓R1,RR,seval])
    simp only [B4,hg,cond_false]
  | true =>
    simp only [yq,hg,bne_self_eq_false,Bool.or_self,Bool.or_false,Bool.false_or,beq_self_eq_true,Bool.and_self,Bool.and_true,Bool.true_and,Bool.and_false,Bool.false_and,Int.reduceBEq,Int.reduceBNe,Bool.or_true,Bool.true_or,Int.toNat_zero,↓R1,RR,seval]
    repeat' (first|(with_reducible rw [ah])|(refine b8 (fun hc=>?_) (fun hc=>?_)<;>(try simp only [hc,↓R1,RR,seval]))|((first|refine aj (fun hc=>?_) (fun hc=>?_)|(with_reducible intro β hβ;(try simp only [RB] at hβ);(repeat (obtain ⟨⟨_,_⟩,hβ⟩:=hβ));(try (have hbis:=ag OB hβ;obtain ⟨_,_⟩:=hbis)))|((first|(refine bz (.inr rfl) rfl ?_ ?_ ?_ ?_ ?_ ?_;(first|rfl|exact St.aW _ _ _|(simp only [↓R1,RR,seval]));(first|omega|(exact ao)|(simp only [RZ]));(first|rfl|first|omega|(exact ao)|(simp only [RZ])))|(refine bx rfl ?_ ?_ ?_ ?_ ?_ ?_;(first|rfl|exact St.aW _ _ _|(simp only [↓R1,RR,seval]));(first|omega|(exact ao)|(simp only [RZ]));(first|rfl|first|omega|(exact ao)|(simp only [RZ])))|(refine appV_own ?_ ?_ ?_ ?_;exact aD OW _)|(refine appD_own ?_ ?_ ?_ ?_ ?_;omega;exact aD OW _)|(refine appV_fresh rfl trivial rfl ?_ ?_ ?_ ?_ ?_;(first|rfl|first|omega|(exact ao)|(simp only [RZ]));(first|rfl|first|omega|(exact ao)|(simp only [RZ])))|(refine appD_fresh rfl trivial rfl ?_ ?_ ?_ ?_ ?_ ?_;omega;(first|rfl|first|omega|(exact ao)|(simp only [RZ]));(first|rfl|first|omega|(exact ao)|(simp only [RZ]))));(unfold maxLen;omega);omega))<;>(try simp only [↓R1,RR,seval]))|(with_reducible refine And.intro ?_ ?_;(focus (first|omega|(exact ak))))|(with_reducible apply And.intro))
    all_goals ((refine aq (af ?_));(simp only [ar,↓R1,RR,seval]);simp only [B4,hg,hc,cond_true,cond_false])
end Go.Proofs.YtgephffbfiemeaaGreatDoor
namespace Go.Proofs.YtgephffbfiemeaaGreatDoor
open Go.Abs Go.Lib
set_option linter.all false
set_option maxRecDepth 100000
structure Rd where
 s:List UInt8
 at_:Nat
 e:Int
 fa:Nat
def cRd (r:Rd):List AV:= [.str r.s, .int .i64 r.at_, .int .i64 r.e, .int .i64 r.fa]
structure Rd.Ok (r:Rd):Prop where
 len:r.s.length≤1000000
 at_:r.at_≤r.s.length
 e:0≤r.e∧r.e≤23
 fa:r.fa≤r.s.length
 no:r.e=0→r.fa=0
theorem St.jV {σ:St} {β γ:Nat} {c d:List AV} (h:Apart β γ) (hn:σ.box γ=none):St.le (σ.ad β c) ((σ.ad γ d).ad β c):=by
 rw [St.set_comm σ (Ne.symm h.ne)]
 exact St.aL (St.le_refl _) (St.qS.2 ⟨(Ne.symm h.ne),hn⟩)
theorem Fu {res:List RV} {e1:Exit} {fr:Fr} {σ0 σ:St} {cs:List AV} (β:Nat) (hβ:σ0.box β=none) (he:e1= .ret∨e1= .normal) (hs:aw σ fr res) (hw:eV (res.map (rvV σ fr))= .ptr β 0) (hl:St.le (σ0.ad β cs) σ) :
  fL res (fun r s=>∃ β,σ0.box β=none∧r= .ptr β 0∧s=σ0.ad β cs) e1 fr σ:=aA he hs (af hw) hl ⟨β,hβ,rfl,rfl⟩
theorem _root_.OH {p:Prop} (h:p:=by first|(simp [aw,rvS];done)|(simp only [aw,rvS,↓R1,RR,Nat.reduceEqDiff,Nat.reduceAdd,Nat.reduceLeDiff,Nat.reduceLT];try simp)):p:=h
theorem NC (s:List UInt8):Pu Tryz.prog 135 [.str s] (.agg (cRd ⟨s,0,0,0⟩)):=by
 (refine av HB L2 fun σ=>?_;simp only [HB,↓R1,RR,Nat.reduceEqDiff,Nat.reduceAdd,Nat.reduceLeDiff,Nat.reduceLT])
 repeat' (first|(with_reducible rw [ah])|((first|refine aj (fun hc=>?_) (fun hc=>?_)|(with_reducible intro β hβ;(try simp only [St.aG,St.bC,St.bn,St.bu,St.cS,St.da] at hβ);(repeat (obtain ⟨⟨_,_⟩,hβ⟩:=hβ));(try (have hbis:=ag OB hβ;obtain ⟨_,_⟩:=hbis))))<;>(try simp only [↓R1,RR,Nat.reduceEqDiff,Nat.reduceAdd,Nat.reduceLeDiff,Nat.reduceLT])))
 (refine aq (af ?_) OH)
 (simp only [ar,↓R1,RR,Nat.reduceEqDiff,Nat.reduceAdd,Nat.reduceLeDiff,Nat.reduceLT])
 rfl
theorem I6 (r:Rd) (h:r.Ok):Bx Tryz.prog 189 [.agg (cRd r)] (cRd r):=by
 obtain ⟨s,a,e,f⟩:=r
 obtain ⟨h1,h2,h3,h4,h5⟩:=h
 simp only [cRd] at *
 intro σ
 (refine aT HT Ml ?_;simp only [HT,↓R1,RR,Nat.reduceEqDiff,Nat.reduceAdd,Nat.reduceLeDiff,Nat.reduceLT])
 repeat' (first|((first|refine aj (fun hc=>?_) (fun hc=>?_)|(with_reducible intro β hβ;(try simp only [St.aG,St.bC,St.bn,St.bu,St.cS,St.da] at hβ);(repeat (obtain ⟨⟨_,_⟩,hβ⟩:=hβ));(try (have hbis:=ag OB hβ;obtain ⟨_,_⟩:=hbis))))<;>(try simp only [↓R1,RR,Nat.reduceEqDiff,Nat.reduceAdd,Nat.reduceLeDiff,Nat.reduceLT])))
 all_goals first|(exfalso;simp at hc hc_1;omega)|skip
 all_goals first|(exfalso;simp at *;omega)|skip
 all_goals (refine Fu _ hβ OF OT (by (simp only [ar,↓R1,RR,Nat.reduceEqDiff,Nat.reduceAdd,Nat.reduceLeDiff,Nat.reduceLT])) (St.jV OB OB))
theorem ND (n:Int):Pu Tryz.prog 231 [.int .i64 n] (.bool ((n == 1||n == 2)||n == 4||n == 8)):=by
 (refine av Ia MC fun σ=>?_;simp only [Ia,↓R1,RR,Nat.reduceEqDiff,Nat.reduceAdd,Nat.reduceLeDiff,Nat.reduceLT])
 skip
 all_goals first|(exfalso;simp_all;done)|((refine aq (af ?_));(simp only [ar,↓R1,RR,Nat.reduceEqDiff,Nat.reduceAdd,Nat.reduceLeDiff,Nat.reduceLT]);done)
theorem St.rY {σ:St} {β:Nat} {c:List AV} (h:σ.box β=some c):σ.ad β c=σ:=by
 obtain ⟨b,t,g,l⟩:=σ
 simp only [St.ad,St.mk.injEq,and_true]
 funext j
 simp only [upd]
 split
 ·rename_i e;subst e;exact h.symm
 ·rfl
theorem Fv (σ:St) (β:Nat) (r:Rd) (h:σ.box β=some (cRd r)):AC Tryz.prog 232 [.ptr β 0] σ (fun x s=>x= .bool (r.e == 0)∧s=σ):=by
 simp only [cRd] at h
 (refine aT Ib MD ?_;simp only [Ib,↓R1,RR,Nat.reduceEqDiff,Nat.reduceAdd,Nat.reduceLeDiff,Nat.reduceLT,h])
 skip
 (refine aq (af ?_))
 (simp only [ar,↓R1,RR,Nat.reduceEqDiff,Nat.reduceAdd,Nat.reduceLeDiff,Nat.reduceLT,h])
def dJ (r:Rd) (e:Int) (a:Nat):Rd:=bif r.e == 0 then { r with e:=e,fa:=a } else r
theorem I7 (σ:St) (β:Nat) (r:Rd) (e:Int) (a:Nat) (h:σ.box β=some (cRd r)):AC Tryz.prog 190 [.ptr β 0, .int .i64 e, .int .i64 a] σ (fun x s=>s=σ.ad β (cRd (dJ r e a))):=by
 have hf:=Fv σ β r h
 have hs:=St.rY h
 simp only [cRd] at h
 (refine aT HU Mm ?_;simp only [HU,↓R1,RR,Nat.reduceEqDiff,Nat.reduceAdd,Nat.reduceLeDiff,Nat.reduceLT,h])
 refine AC.mono hf ?_
 rintro _ _ ⟨rfl,rfl⟩
 simp only [↓R1,RR,Nat.reduceEqDiff,Nat.reduceAdd,Nat.reduceLeDiff,Nat.reduceLT,h]
 refine aj (fun hc=>?_) (fun hc=>?_)
 ·simp only [↓R1,RR,Nat.reduceEqDiff,Nat.reduceAdd,Nat.reduceLeDiff,Nat.reduceLT,h]
  skip
  refine aA OF OT (ae _) (St.le_refl _) ?_
  simp only [dJ,hc,cond_true,cRd]
 ·simp only [↓R1,RR,Nat.reduceEqDiff,Nat.reduceAdd,Nat.reduceLeDiff,Nat.reduceLT,h]
  refine aA OF OT (ae _) (St.le_refl _) ?_
  simp only [dJ,hc,cond_false]
  exact hs.symm
theorem NF (s:List UInt8) (hs:s.length≤maxLen):Pu Tryz.prog 234 [.str s] (.int .u64 (s.foldl rF 0#64).toNat):=by
 have hm:=ow
 have hbs:∀ k,k<s.length→List.take 1 (List.drop (k*1) (s.map fun b=>AV.int .u8 b.toNat))= [.int .u8 (s[k]?.getD 0).toNat]:=fun k hk=>by
  rw [Nn (fun b:UInt8=>AV.int .u8 b.toNat) s k hk]
  simp [hk]
 (refine av Ie MF fun σ=>?_;simp only [Ie,↓R1,RR,Nat.reduceEqDiff,Nat.reduceAdd,Nat.reduceLeDiff,Nat.reduceLT])
 refine bq s.length (fun k=> [(3, .int .u64 ((s.take k).foldl rF 0#64).toNat),(7, .sl false s.length (s.map fun b=>AV.int .u8 b.toNat)),(8, .int .i64 s.length),(9, .int .i64 k)]) (fun _=>σ) (fun _=>True) OP (St.le_refl _) trivial (fun k hk _=>?_)
 simp only [I0,↓R1,RR,Nat.reduceEqDiff,Nat.reduceAdd,Nat.reduceLeDiff,Nat.reduceLT]
 refine aj (fun hc=>?_) (fun hc=>?_)
 ·have hlt:k<s.length:=by simpa using hc
  have hfo:=um rF 0#64 s k hlt
  have hak:=Np (s:=s) (k:=k) hlt
  have hgt:=hbs k hlt
  simp only [hgt,↓R1,RR,Nat.reduceEqDiff,Nat.reduceAdd,Nat.reduceLeDiff,Nat.reduceLT]
  repeat' (first|(with_reducible refine And.intro ?_ ?_;(focus (first|omega|(intros;(repeat' (with_reducible apply And.intro))<;>first|omega|(simp only [List.length_append,List.length_cons,List.length_nil];omega)))))|(with_reducible apply And.intro))
  all_goals (try simp only [hgt,↓R1,RR,Nat.reduceEqDiff,Nat.reduceAdd,Nat.reduceLeDiff,Nat.reduceLT])
  ·simp;omega
  ·simp only [aK,slot,ae,hak,KY,hfo,↓R1,RR,Nat.reduceEqDiff,Nat.reduceAdd,Nat.reduceLeDiff,Nat.reduceLT];exact Hl Oz
  ·exact St.le_refl _
 ·have:k=s.length:=by simp at hc;omega
  subst this
  simp only [List.take_length,↓R1,RR,Nat.reduceEqDiff,Nat.reduceAdd,Nat.reduceLeDiff,Nat.reduceLT]
  (refine aq (af ?_))
  (simp only [ar,↓R1,RR,Nat.reduceEqDiff,Nat.reduceAdd,Nat.reduceLeDiff,Nat.reduceLT])
def bR (r:Rd) (n:Nat):Rd:=bif r.e == 0 then (bif decide (r.s.length<r.at_+n) then { r with e:=5,fa:=r.at_ } else { r with at_:=r.at_+n }) else r
def cJ (r:Rd) (n:Nat):List UInt8:=bif r.e == 0 then (bif decide (r.s.length<r.at_+n) then [] else (r.s.drop r.at_).take n) else []
theorem NG (σ:St) (β:Nat) (r:Rd) (n:Nat) (hn:n≤8) (ho:r.Ok) (h:σ.box β=some (cRd r)):AC Tryz.prog 233 [.ptr β 0, .int .i64 (n:Nat)] σ (fun x s=>x= .str (cJ r n)∧s=σ.ad β (cRd (bR r n))):=by
 have h0:=h
 have hsf:=St.rY h
 have hl:=ho.len
 have ha:=ho.at_
 have hn0:decide ((n:Int)<0)=false:=OF
 have hgt:decide (IntKind.i64.wrap ((r.s.length:Int) - r.at_)<(n:Int))=decide (r.s.length<r.at_+n):=by
  rw [wrap64 Oz Oz,Bool.eq_iff_iff];simp;omega
 simp only [cRd] at h
 (refine aT Ic ME ?_;simp only [Ic,↓R1,RR,Nat.reduceEqDiff,Nat.reduceAdd,Nat.reduceLeDiff,Nat.reduceLT,h,hn0,hgt])
 refine aj (fun hc=>?_) (fun hc=>?_)
 ·simp only [↓R1,RR,Nat.reduceEqDiff,Nat.reduceAdd,Nat.reduceLeDiff,Nat.reduceLT,h,hn0,hgt]
  refine AC.mono (I7 σ β r 5 r.at_ h0) ?_
  rintro _ _ rfl
  simp only [↓R1,RR,Nat.reduceEqDiff,Nat.reduceAdd,Nat.reduceLeDiff,Nat.reduceLT,h,hn0,hgt]
  refine AC.mono (Fv _ β (dJ r 5 r.at_) (St.bo _ _ _)) ?_
  rintro _ _ ⟨rfl,rfl⟩
  have hf:((dJ r 5 r.at_).e == 0)=false:=by unfold dJ;cases he:r.e == 0<;>simp [he]
  have ht:bR r n=dJ r 5 r.at_:=by simp only [bR,dJ,hc,cond_true]
  have hs:cJ r n= []:=by simp only [cJ,hc,cond_true];cases r.e == 0<;>rfl
  simp only [hf,↓R1,RR,Nat.reduceEqDiff,Nat.reduceAdd,Nat.reduceLeDiff,Nat.reduceLT,h,hn0,hgt]
  rw [ht,hs]
  refine aA OF OT (ae _) (St.le_refl _) ⟨?_,rfl⟩
  (simp only [ar,↓R1,RR,Nat.reduceEqDiff,Nat.reduceAdd,Nat.reduceLeDiff,Nat.reduceLT,h,hn0,hgt])
 ·simp only [↓R1,RR,Nat.reduceEqDiff,Nat.reduceAdd,Nat.reduceLeDiff,Nat.reduceLT,h,hn0,hgt]
  refine AC.mono (Fv _ β r h0) ?_
  rintro _ _ ⟨rfl,rfl⟩
  simp only [↓R1,RR,Nat.reduceEqDiff,Nat.reduceAdd,Nat.reduceLeDiff,Nat.reduceLT,h,hn0,hgt]
  refine aj (fun hc2=>?_) (fun hc2=>?_)
  ·have he:(r.e == 0)=false:=by simpa using hc2
   have ht:bR r n=r:=by simp only [bR,he,cond_false]
   have hs:cJ r n= []:=by simp only [cJ,he,cond_false]
   simp only [↓R1,RR,Nat.reduceEqDiff,Nat.reduceAdd,Nat.reduceLeDiff,Nat.reduceLT,h,hn0,hgt]
   rw [ht,hs,hsf]
   refine aA OF OT (ae _) (St.le_refl _) ⟨?_,rfl⟩
   (simp only [ar,↓R1,RR,Nat.reduceEqDiff,Nat.reduceAdd,Nat.reduceLeDiff,Nat.reduceLT,h,hn0,hgt])
  ·have he:(r.e == 0)=true:=by simpa using hc2
   have ht:bR r n={ r with at_:=r.at_+n }:=by simp only [bR,he,hc,cond_true,cond_false]
   have hs:cJ r n=(r.s.drop r.at_).take n:=by simp only [cJ,he,hc,cond_true,cond_false]
   have hlt:r.at_+n≤r.s.length:=Pg
   have hw:IntKind.i64.wrap ((r.at_:Int)+n)=((r.at_+n:Nat):Int):=OD
   have hw2:IntKind.i64.wrap (((r.at_+n:Nat):Int) - n)=(r.at_:Int):=OD
   simp only [hw,hw2,↓R1,RR,Nat.reduceEqDiff,Nat.reduceAdd,Nat.reduceLeDiff,Nat.reduceLT,h,hn0,hgt]
   repeat' (first|(with_reducible refine And.intro ?_ ?_;(focus (first|omega|(intros;(repeat' (with_reducible apply And.intro))<;>first|omega|(simp only [List.length_append,List.length_cons,List.length_nil];omega))))))
   rw [ht,hs,Nat.add_sub_cancel_left]
   refine aA OF OT (ae _) (St.le_refl _) ⟨?_,rfl⟩
   (simp only [ar,↓R1,RR,Nat.reduceEqDiff,Nat.reduceAdd,Nat.reduceLeDiff,Nat.reduceLT,h,hn0,hgt])
end Go.Proofs.YtgephffbfiemeaaGreatDoor
namespace Go.Proofs.YtgephffbfiemeaaGreatDoor
open Go.Abs Go.Lib
set_option linter.all false
set_option maxRecDepth 100000
theorem mN {r:Rd} (h:r.Ok) (n:Nat):(bR r n).Ok:=by
  obtain ⟨h1,h2,h3,h4,h5⟩:=h
  unfold bR
  cases he:(r.e == 0) with
  | false=>exact ⟨h1,h2,h3,h4,h5⟩
  | true =>
    cases hc:decide (r.s.length<r.at_+n) with
    | true=>exact ⟨h1,h2,⟨by simp,by simp⟩,h2,fun h=>by simp at h⟩
    | false=>exact ⟨h1,by simpa using hc,h3,h4,h5⟩
theorem B8 {r:Rd} (h:r.Ok) (e:Int) (a:Nat) (he:1≤e∧e≤23) (ha:a≤r.s.length):(dJ r e a).Ok:=by
 obtain ⟨h1,h2,h3,h4,h5⟩:=h
 unfold dJ
 cases (r.e == 0) with
 | false=>exact ⟨h1,h2,h3,h4,h5⟩
 | true=>exact ⟨h1,h2,⟨by simp;omega,by simp;omega⟩,ha,fun h=>by simp at h;omega⟩
theorem yu (r:Rd) (n:Nat):(cJ r n).length≤n:=by
 unfold cJ
 cases (r.e == 0)<;>cases decide (r.s.length<r.at_+n)<;>simp<;>omega
theorem vz (r:Rd) (n:Nat):(bR r n).s=r.s:=by
 unfold bR
 cases (r.e == 0)<;>cases decide (r.s.length<r.at_+n)<;>rfl
def jo (s:List UInt8):BitVec 64:=s.foldl rF 0#64
theorem NH (r:Rd) (n:Nat) (ho:r.Ok) (hn:n=1∨n=8):Pu Tryz.prog 188 [.agg (cRd r), .int .i64 (n:Nat)] (.tup [.agg (cRd (bR r n)), .int .u64 (jo (cJ r n)).toNat]):=by
 have hu:=I6 r ho
 have hz:=ND (n:Int)
 have hz1:(((n:Int) == 1||(n:Int) == 2)||(n:Int) == 4||(n:Int) == 8)=true:=by rcases hn with rfl|rfl<;>rfl
 rw [hz1] at hz
 have hnum:=NF (cJ r n) (by have:=yu r n;unfold maxLen;omega)
 simp only [cRd] at hu
 (refine av HS Mk fun σ=>?_;simp only [HS,↓R1,RR,Nat.reduceEqDiff,Nat.reduceAdd,Nat.reduceLeDiff,Nat.reduceLT])
 simp only [cRd,↓R1,RR,Nat.reduceEqDiff,Nat.reduceAdd,Nat.reduceLeDiff,Nat.reduceLT]
 repeat' (first|(with_reducible rw [ah])|((first|refine aj (fun hc=>?_) (fun hc=>?_)|(with_reducible intro β hβ;(try simp only [St.aG,St.bC,St.bn,St.bu,St.cS,St.da] at hβ);(repeat (obtain ⟨⟨_,_⟩,hβ⟩:=hβ));(try (have hbis:=ag OB hβ;obtain ⟨_,_⟩:=hbis))))<;>(try simp only [↓R1,RR,Nat.reduceEqDiff,Nat.reduceAdd,Nat.reduceLeDiff,Nat.reduceLT]))|((first|refine Pu.to (hz) (aa _) ?_|refine bd (hz) (aa _) ?_);(try simp only [↓R1,RR,Nat.reduceEqDiff,Nat.reduceAdd,Nat.reduceLeDiff,Nat.reduceLT]))|(refine Bx.to (hu) (aa _) ?_;intro β hβ;(try simp only [St.aG,St.bC,St.bn,St.bu,St.cS,St.da] at hβ);(repeat (obtain ⟨⟨_,_⟩,hβ⟩:=hβ));(try (have hbis:=ag OB hβ;obtain ⟨_,_⟩:=hbis));(try simp only [↓R1,RR,Nat.reduceEqDiff,Nat.reduceAdd,Nat.reduceLeDiff,Nat.reduceLT])))
 refine AC.mono (Fv _ β r (St.bo _ _ _)) ?_
 rintro _ _ ⟨rfl,rfl⟩
 simp only [↓R1,RR,Nat.reduceEqDiff,Nat.reduceAdd,Nat.reduceLeDiff,Nat.reduceLT]
 refine aj (fun hc=>?_) (fun hc=>?_)
 ·have he:(r.e == 0)=false:=by simpa using hc
  have ht:bR r n=r:=by simp only [bR,he,cond_false]
  have hs:cJ r n= []:=by simp only [cJ,he,cond_false]
  rw [ht,hs]
  simp only [↓R1,RR,Nat.reduceEqDiff,Nat.reduceAdd,Nat.reduceLeDiff,Nat.reduceLT]
  skip
  (refine aq (af ?_) OH)
  (simp only [ar,↓R1,RR,Nat.reduceEqDiff,Nat.reduceAdd,Nat.reduceLeDiff,Nat.reduceLT])
  rfl
 ·simp only [↓R1,RR,Nat.reduceEqDiff,Nat.reduceAdd,Nat.reduceLeDiff,Nat.reduceLT]
  refine AC.mono (NG _ β r n Oz ho (St.bo _ _ _)) ?_
  rintro _ _ ⟨rfl,rfl⟩
  simp only [cRd,↓R1,RR,Nat.reduceEqDiff,Nat.reduceAdd,Nat.reduceLeDiff,Nat.reduceLT]
  repeat' (first|((first|refine Pu.to (hnum) (aa _) ?_|refine bd (hnum) (aa _) ?_);(try simp only [↓R1,RR,Nat.reduceEqDiff,Nat.reduceAdd,Nat.reduceLeDiff,Nat.reduceLT])))
  (refine aq (af ?_) OH)
  (simp only [ar,↓R1,RR,Nat.reduceEqDiff,Nat.reduceAdd,Nat.reduceLeDiff,Nat.reduceLT])
  rfl
theorem NI (r:Rd) (ho:r.Ok):Pu Tryz.prog 138 [.agg (cRd r), .int .i64 11, .int .i64 8] (.agg (cRd (dJ r 11 (min 8 r.s.length)))):=by
 have hu:=I6 r ho
 have hm:(if (r.s.length:Int)<(if (0:Int)>8 then (0:Int) else 8) then (r.s.length:Int) else (if (0:Int)>8 then (0:Int) else 8))=((min 8 r.s.length:Nat):Int):=by
  rw [if_neg (by decide:¬ (0:Int)>8)];split<;>omega
 simp only [cRd] at hu
 (refine av HE L5 fun σ=>?_;simp only [HE,↓R1,RR,Nat.reduceEqDiff,Nat.reduceAdd,Nat.reduceLeDiff,Nat.reduceLT])
 simp only [cRd,↓R1,RR,Nat.reduceEqDiff,Nat.reduceAdd,Nat.reduceLeDiff,Nat.reduceLT]
 repeat' (first|(with_reducible rw [ah])|((first|refine aj (fun hc=>?_) (fun hc=>?_)|(with_reducible intro β hβ;(try simp only [St.aG,St.bC,St.bn,St.bu,St.cS,St.da] at hβ);(repeat (obtain ⟨⟨_,_⟩,hβ⟩:=hβ));(try (have hbis:=ag OB hβ;obtain ⟨_,_⟩:=hbis))))<;>(try simp only [↓R1,RR,Nat.reduceEqDiff,Nat.reduceAdd,Nat.reduceLeDiff,Nat.reduceLT]))|(refine Bx.to (hu) (aa _) ?_;intro β hβ;(try simp only [St.aG,St.bC,St.bn,St.bu,St.cS,St.da] at hβ);(repeat (obtain ⟨⟨_,_⟩,hβ⟩:=hβ));(try (have hbis:=ag OB hβ;obtain ⟨_,_⟩:=hbis));(try simp only [↓R1,RR,Nat.reduceEqDiff,Nat.reduceAdd,Nat.reduceLeDiff,Nat.reduceLT])))
 ·exfalso;revert hc;decide
 rw [hm]
 refine AC.mono (I7 _ β r 11 (min 8 r.s.length) (St.bo _ _ _)) ?_
 rintro _ _ rfl
 simp only [cRd,↓R1,RR,Nat.reduceEqDiff,Nat.reduceAdd,Nat.reduceLeDiff,Nat.reduceLT]
 (refine aq (af ?_) OH)
 (simp only [ar,↓R1,RR,Nat.reduceEqDiff,Nat.reduceAdd,Nat.reduceLeDiff,Nat.reduceLT])
def ew (r:Rd):Rd:=bif decide (r.at_<r.s.length) then dJ r 4 r.at_ else r
theorem NJ (r:Rd) (ho:r.Ok):Pu Tryz.prog 139 [.agg (cRd r)] (.agg [.int .i64 (ew r).e, .int .i64 (ew r).fa]):=by
 have hu:=I6 r ho
 have hlt:decide ((r.at_:Int)<(r.s.length:Int))=decide (r.at_<r.s.length):=OF
 simp only [cRd] at hu
 (refine av HF L6 fun σ=>?_;simp only [HF,↓R1,RR,Nat.reduceEqDiff,Nat.reduceAdd,Nat.reduceLeDiff,Nat.reduceLT])
 simp only [cRd,↓R1,RR,Nat.reduceEqDiff,Nat.reduceAdd,Nat.reduceLeDiff,Nat.reduceLT]
 repeat' (first|(with_reducible rw [ah])|((first|refine aj (fun hc=>?_) (fun hc=>?_)|(with_reducible intro β hβ;(try simp only [St.aG,St.bC,St.bn,St.bu,St.cS,St.da] at hβ);(repeat (obtain ⟨⟨_,_⟩,hβ⟩:=hβ));(try (have hbis:=ag OB hβ;obtain ⟨_,_⟩:=hbis))))<;>(try simp only [↓R1,RR,Nat.reduceEqDiff,Nat.reduceAdd,Nat.reduceLeDiff,Nat.reduceLT]))|(refine Bx.to (hu) (aa _) ?_;intro β hβ;(try simp only [St.aG,St.bC,St.bn,St.bu,St.cS,St.da] at hβ);(repeat (obtain ⟨⟨_,_⟩,hβ⟩:=hβ));(try (have hbis:=ag OB hβ;obtain ⟨_,_⟩:=hbis));(try simp only [↓R1,RR,Nat.reduceEqDiff,Nat.reduceAdd,Nat.reduceLeDiff,Nat.reduceLT])))
 ·have he:ew r=dJ r 4 r.at_:=by rw [hlt] at hc;simp only [ew,hc,cond_true]
  refine AC.mono (I7 _ β r 4 r.at_ (St.bo _ _ _)) ?_
  rintro _ _ rfl
  rw [he]
  simp only [cRd,↓R1,RR,Nat.reduceEqDiff,Nat.reduceAdd,Nat.reduceLeDiff,Nat.reduceLT]
  (refine aq (af ?_) OH)
  (simp only [ar,↓R1,RR,Nat.reduceEqDiff,Nat.reduceAdd,Nat.reduceLeDiff,Nat.reduceLT])
 ·have he:ew r=r:=by rw [hlt] at hc;simp only [ew,hc,cond_false]
  rw [he]
  (refine aq (af ?_) OH)
  (simp only [ar,↓R1,RR,Nat.reduceEqDiff,Nat.reduceAdd,Nat.reduceLeDiff,Nat.reduceLT])
theorem Fw (σ:St) (β:Nat) (r:Rd) (n:Nat) (l k v:Int) (ho:r.Ok) (hn:n=1∨n=8) (h:σ.box β=some [.str r.s, .int .i64 r.at_, .int .i64 r.e, .int .i64 r.fa, .int .u64 l, .int .i64 k, .int .i64 v]) :
  AC Tryz.prog 136 [.ptr β 0, .int .i64 (n:Nat)] σ (fun x s=>x= .int .u64 (jo (cJ r n)).toNat∧s=σ.ad β [.str (bR r n).s, .int .i64 (bR r n).at_, .int .i64 (bR r n).e, .int .i64 (bR r n).fa, .int .u64 l, .int .i64 k, .int .i64 v]):=by
 have hu:=NH r n ho hn
 have hbi:BoxIs σ β _:=⟨h⟩
 simp only [cRd] at hu
 (refine aT HC L3 ?_;simp only [HC,↓R1,RR,Nat.reduceEqDiff,Nat.reduceAdd,Nat.reduceLeDiff,Nat.reduceLT])
 repeat' (first|(with_reducible rw [ah])|((first|refine aj (fun hc=>?_) (fun hc=>?_)|(with_reducible intro β hβ;(try simp only [St.aG,St.bC,St.bn,St.bu,St.cS,St.da] at hβ);(repeat (obtain ⟨⟨_,_⟩,hβ⟩:=hβ));(try (have hbis:=ag OB hβ;obtain ⟨_,_⟩:=hbis))))<;>(try simp only [↓R1,RR,Nat.reduceEqDiff,Nat.reduceAdd,Nat.reduceLeDiff,Nat.reduceLT]))|((first|refine Pu.to (hu) (aa _) ?_|refine bd (hu) (aa _) ?_);(try simp only [↓R1,RR,Nat.reduceEqDiff,Nat.reduceAdd,Nat.reduceLeDiff,Nat.reduceLT])))
 refine aA OF OT (ae _) (St.jV OB hβ) ⟨?_,rfl⟩
 (simp only [ar,↓R1,RR,Nat.reduceEqDiff,Nat.reduceAdd,Nat.reduceLeDiff,Nat.reduceLT])
end Go.Proofs.YtgephffbfiemeaaGreatDoor
namespace Go.Proofs.YtgephffbfiemeaaGreatDoor
open Go.Abs Go.Lib
set_option linter.all false
set_option maxRecDepth 100000
def rd0 (s:List UInt8):Rd:=⟨s,0,0,0⟩
def rd1 (s:List UInt8):Rd:=bR (rd0 s) 8
def rd2 (s:List UInt8):Rd:=bR (rd1 s) 1
def ej (s:List UInt8):Int:=IntKind.i64.wrap ((jo (cJ (rd1 s) 1)).toNat:Int)
def rd3 (s:List UInt8):Rd:=bif bI (ej s) == 0 then rd2 s else dJ (rd2 s) 11 (min 8 s.length)
def rd4 (s:List UInt8):Rd:=bR (rd3 s) 8
def ly (s:List UInt8):List AV:=bif (ew (rd4 s)).e == 0 then [.int .u64 (jo (cJ (rd0 s) 8)).toNat, .int .i64 (ej s), .int .i64 (IntKind.i64.wrap ((jo (cJ (rd3 s) 8)).toNat:Int))] else [.int .u64 0, .int .i64 0, .int .i64 0]
def lz (s:List UInt8):List AV:=bif (ew (rd4 s)).e == 0 then [.int .i64 0, .int .i64 0] else [.int .i64 (ew (rd4 s)).e, .int .i64 (ew (rd4 s)).fa]
set_option maxHeartbeats 4000000 in
theorem p75 (s:List UInt8) (hs:s.length≤1000):Pu Tryz.prog 75 [.str s] (.tup [.agg (ly s), .agg (lz s)]):=by
  have o0:(rd0 s).Ok:=⟨by simp only [rd0];omega,by simp [rd0],by simp [rd0],by simp [rd0],fun _=>rfl⟩
  have o1:(rd1 s).Ok:=mN o0 8
  have o2:(rd2 s).Ok:=mN o1 1
  have o3:(rd3 s).Ok:=by
    unfold rd3
    cases (bI (ej s) == 0)
    · exact B8 o2 11 _ Oz (by simp only [rd2,rd1,vz,rd0];omega)
    · exact o2
  have o4:(rd4 s).Ok:=mN o3 8
  have hr:=NC s
  have hE:=NJ (rd4 s) o4
  have hF:=NI (rd2 s) o2
  have hC:=KZ (jo (cJ (rd0 s) 8)).toNat (ej s) 0
  have hs2:(rd2 s).s=s:=by simp only [rd2,rd1,vz];rfl
  rw [hs2] at hF
  have hb:(rd3 s=dJ (rd2 s) 11 (min 8 s.length)∧bI (ej s)≠0)∨(rd3 s=rd2 s∧bI (ej s)=0):=by
    unfold rd3
    by_cases h:bI (ej s)=0
    · right;simp [h]
    · left
      have:(bI (ej s) == 0)=false:=Py
      simp [this,h]
  simp only [cRd] at hr hE hF
  (refine av c75 b75 fun σ=>?_;simp only [c75,↓R1,RR,Nat.reduceEqDiff,Nat.reduceAdd,Nat.reduceLeDiff,Nat.reduceLT])
  repeat' (first|(with_reducible rw [ah])|((first|refine aj (fun hc=>?_) (fun hc=>?_)|(with_reducible intro β hβ;(try simp only [St.aG,St.bC,St.bn,St.bu,St.cS,St.da] at hβ);(repeat (obtain ⟨⟨_,_⟩,hβ⟩:=hβ));(try (have hbis:=ag OB hβ;obtain ⟨_,_⟩:=hbis))))<;>(try simp only [↓R1,RR,Nat.reduceEqDiff,Nat.reduceAdd,Nat.reduceLeDiff,Nat.reduceLT]))|((first|refine Pu.to (hr) (aa _) ?_|refine bd (hr) (aa _) ?_);(try simp only [↓R1,RR,Nat.reduceEqDiff,Nat.reduceAdd,Nat.reduceLeDiff,Nat.reduceLT])))
  refine AC.mono (Fw _ β (rd0 s) 8 0 0 0 o0 (.inr rfl) (St.bo _ _ _)) ?_
  rintro _ _ ⟨rfl,rfl⟩
  simp only [↓R1,RR,Nat.reduceEqDiff,Nat.reduceAdd,Nat.reduceLeDiff,Nat.reduceLT]
  rw [show bR (rd0 s) 8=rd1 s from rfl]
  refine AC.mono (Fw _ β (rd1 s) 1 _ 0 0 o1 (.inl rfl) (St.bo _ _ _)) ?_
  rintro _ _ ⟨rfl,rfl⟩
  rw [show bR (rd1 s) 1=rd2 s from rfl]
  simp only [↓R1,RR,Nat.reduceEqDiff,Nat.reduceAdd,Nat.reduceLeDiff,Nat.reduceLT]
  rw [show IntKind.i64.wrap ((jo (cJ (rd1 s) 1)).toNat:Int)=ej s from rfl]
  repeat' (first|((first|refine aj (fun hc=>?_) (fun hc=>?_)|(with_reducible intro β hβ;(try simp only [St.aG,St.bC,St.bn,St.bu,St.cS,St.da] at hβ);(repeat (obtain ⟨⟨_,_⟩,hβ⟩:=hβ));(try (have hbis:=ag OB hβ;obtain ⟨_,_⟩:=hbis))))<;>(try simp only [↓R1,RR,Nat.reduceEqDiff,Nat.reduceAdd,Nat.reduceLeDiff,Nat.reduceLT]))|((first|refine Pu.to (hC) (aa _) ?_|refine bd (hC) (aa _) ?_);(try simp only [↓R1,RR,Nat.reduceEqDiff,Nat.reduceAdd,Nat.reduceLeDiff,Nat.reduceLT])))
  · obtain ⟨h3,_⟩:rd3 s=dJ (rd2 s) 11 (min 8 s.length)∧bI (ej s)≠0:=by
      rcases hb with h|h
      · exact h
      · rw [h.2] at hc;simp at hc
    rw [←h3] at hF
    repeat' (first|((first|refine Pu.to (hF) (aa _) ?_|refine bd (hF) (aa _) ?_);(try simp only [↓R1,RR,Nat.reduceEqDiff,Nat.reduceAdd,Nat.reduceLeDiff,Nat.reduceLT])))
    refine AC.mono (Fw _ β (rd3 s) 8 _ _ _ o3 (.inr rfl) (St.bo _ _ _)) ?_
    rintro _ _ ⟨rfl,rfl⟩
    rw [show bR (rd3 s) 8=rd4 s from rfl]
    simp only [↓R1,RR,Nat.reduceEqDiff,Nat.reduceAdd,Nat.reduceLeDiff,Nat.reduceLT]
    repeat' (first|(with_reducible rw [ah])|((first|refine aj (fun hc=>?_) (fun hc=>?_)|(with_reducible intro β hβ;(try simp only [St.aG,St.bC,St.bn,St.bu,St.cS,St.da] at hβ);(repeat (obtain ⟨⟨_,_⟩,hβ⟩:=hβ));(try (have hbis:=ag OB hβ;obtain ⟨_,_⟩:=hbis))))<;>(try simp only [↓R1,RR,Nat.reduceEqDiff,Nat.reduceAdd,Nat.reduceLeDiff,Nat.reduceLT]))|(with_reducible apply And.intro)|((first|refine Pu.to (hE) (aa _) ?_|refine bd (hE) (aa _) ?_);(try simp only [↓R1,RR,Nat.reduceEqDiff,Nat.reduceAdd,Nat.reduceLeDiff,Nat.reduceLT])))
    all_goals (first
      | (have hz : ((ew   (rd4 s)).e == 0) = false := by simpa [bne] using hc
         simp only [ly,lz,hz,cond_false])
      | (have hz : ((ew   (rd4 s)).e == 0) = true := by simpa [bne] using hc
         simp only [ly,lz,hz,cond_true]))
    all_goals (refine aq (af ?_) OH)
    all_goals (simp only [ar,↓R1,RR,Nat.reduceEqDiff,Nat.reduceAdd,Nat.reduceLeDiff,Nat.reduceLT])
  · obtain ⟨h3,_⟩:rd3 s=rd2 s∧bI (ej s)=0:=by
      rcases hb with h|h
      · exact (h.2 Pg).elim
      · exact h
    rw [←h3]
    refine AC.mono (Fw _ β (rd3 s) 8 _ _ _ o3 (.inr rfl) (St.bo _ _ _)) ?_
    rintro _ _ ⟨rfl,rfl⟩
    rw [show bR (rd3 s) 8=rd4 s from rfl]
    simp only [↓R1,RR,Nat.reduceEqDiff,Nat.reduceAdd,Nat.reduceLeDiff,Nat.reduceLT]
    repeat' (first|(with_reducible rw [ah])|((first|refine aj (fun hc=>?_) (fun hc=>?_)|(with_reducible intro β hβ;(try simp only [St.aG,St.bC,St.bn,St.bu,St.cS,St.da] at hβ);(repeat (obtain ⟨⟨_,_⟩,hβ⟩:=hβ));(try (have hbis:=ag OB hβ;obtain ⟨_,_⟩:=hbis))))<;>(try simp only [↓R1,RR,Nat.reduceEqDiff,Nat.reduceAdd,Nat.reduceLeDiff,Nat.reduceLT]))|(with_reducible apply And.intro)|((first|refine Pu.to (hE) (aa _) ?_|refine bd (hE) (aa _) ?_);(try simp only [↓R1,RR,Nat.reduceEqDiff,Nat.reduceAdd,Nat.reduceLeDiff,Nat.reduceLT])))
    all_goals (first
      | (have hz : ((ew   (rd4 s)).e == 0) = false := by simpa [bne] using hc
         simp only [ly,lz,hz,cond_false])
      | (have hz : ((ew   (rd4 s)).e == 0) = true := by simpa [bne] using hc
         simp only [ly,lz,hz,cond_true]))
    all_goals (refine aq (af ?_) OH)
    all_goals (simp only [ar,↓R1,RR,Nat.reduceEqDiff,Nat.reduceAdd,Nat.reduceLeDiff,Nat.reduceLT])
end Go.Proofs.YtgephffbfiemeaaGreatDoor
namespace Go.Proofs.YtgephffbfiemeaaGreatDoor
open Go.Abs Go.Lib
set_option linter.all false
set_option maxRecDepth 100000
theorem yv (b:UInt8):IntKind.i64.wrap (b.toNat:Int)=(b.toNat:Int):=by
 have:=b.toNat_lt;rw [wrap64 Oz Oz]
def gR (s:List UInt8):List AV:=bif s.length == 17&&decide ((s[8]?.getD 0).toNat<26) then [.int .u64 (jo (s.take 8)).toNat, .int .i64 (s[8]?.getD 0).toNat, .int .i64 (IntKind.i64.wrap ((jo (s.drop 9)).toNat:Int))] else [.int .u64 0, .int .i64 0, .int .i64 0]
def ig (s:List UInt8):List AV :=
 bif decide (s.length<8) then [.int .i64 5, .int .i64 0] else bif decide (s.length<9) then [.int .i64 5, .int .i64 8] else bif decide (26≤(s[8]?.getD 0).toNat) then [.int .i64 11, .int .i64 8] else
 bif decide (s.length<17) then [.int .i64 5, .int .i64 9] else bif decide (17<s.length) then [.int .i64 4, .int .i64 17] else [.int .i64 0, .int .i64 0]
end Go.Proofs.YtgephffbfiemeaaGreatDoor
