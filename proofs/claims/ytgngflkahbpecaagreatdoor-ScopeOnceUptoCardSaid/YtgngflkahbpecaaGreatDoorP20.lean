/- DERIVED: THE SHELF's CONTRACTS AT THIS DUMP, IN PLAIN WORDS (tools/lay-plain.mjs out of 'TryzShelf.lean', which tools/lay-shelf.mjs wrote): THE SAME DECLARATIONS UNDER THE SAME NAMES: 'import', 'namespace', 'open', 'def', 'theorem' AND NOTHING ELSE: no command of the shelf's: FOR A HAND-IN. Each laying: the table of numbers ('.._ren') and one theorem, a field a fact of the dump's own or the kernel's comparison; each contract: ONE APPLICATION. Functions of Go's library, told ahead: what they compute at texts and numbers, by their contracts. The units' table: one entry. Conditions: none beyond those that each theorem names. -/
import Derived.Shelf.Strconv.Atoi
import Derived.Shelf.LaysM
import Derived.Shelf.Strings.Search1
import Derived.Shelf.Strings.Search2
import Derived.Shelf.Strings.Search3
import Derived.Shelf.Strings.Count
import Derived.Shelf.Strings.IndexAny
import Derived.Shelf.Strings.IndexAnyAll
import Derived.Shelf.Strings.Repeat
import Derived.Shelf.Strings.SplitCore
import Derived.Ground.Names2Prog
import Derived.Shelf.Slices.Clone
import Derived.Test.YtgngflkahbpecaaGreatDoorProg
import Derived.Test.YtgngflkahbpecaaGreatDoorP16
import Derived.Test.YtgngflkahbpecaaGreatDoorP19
import Derived.Lib.Bytealg
import Derived.Lib.IndexAny
import Derived.Lib.Atoi
import Derived.Lib.Repeat
import Derived.Lib.Split
import Derived.Lib.ConvBytes
import Derived.Lib.CountLaws
import Derived.Lib.SplitLaws
import Derived.Laws.CopyOwn
import Derived.Shelf.RegionOpen
import Derived.WalkKit
import Derived.Maps.AppendAt
import Derived.Shelf.Abstract
import Derived.OwnWalkIn
import Derived.Maps.RangeWalk
import Derived.RangeFuncNested
namespace Go.Proofs
open Go.Shelf
def Tryz.lays172_ren:Go.Shelf.Ren:=⟨fun|172=>278|244=>296|245=>297|247=>306|279=>307|280=>308|281=>309|282=>310|287=>313|316=>314|171=>316|205=>315|321=>317|322=>318|243=>319|246=>320|283=>321|284=>322|285=>323|286=>324|129=>326|317=>325|318=>327|319=>328|320=>329|337=>330|338=>331|n=>n,fun|9=>9|3=>3|75=>319|76=>320|4=>4|5=>5|167=>343|37=>326|0=>0|85=>344|2=>2|168=>346|53=>286|175=>352|46=>211|210=>355|127=>342|145=>361|143=>359|21=>21|171=>363|173=>366|212=>369|51=>259|20=>20|213=>370|232=>372|233=>373|80=>330|n=>n,fun|15=>3|16=>4|17=>5|18=>6|19=>7|n=>n⟩
theorem Tryz.lays172:Go.Proofs.Lays.n172 Tryz.prog Tryz.lays172_ren:={
 mixed:=by kernel_rfl
 f129:=Tryz.func326.trans (congrArg some (by kernel_rfl))
 f171:=Tryz.func316.trans (congrArg some (by kernel_rfl))
 f172:=Tryz.func278.trans (congrArg some (by kernel_rfl))
 f205:=Tryz.func315.trans (congrArg some (by kernel_rfl))
 f243:=Tryz.func319.trans (congrArg some (by kernel_rfl))
 f244:=Tryz.func296.trans (congrArg some (by kernel_rfl))
 f245:=Tryz.func297.trans (congrArg some (by kernel_rfl))
 f246:=Tryz.func320.trans (congrArg some (by kernel_rfl))
 f247:=Tryz.func306.trans (congrArg some (by kernel_rfl))
 f279:=Tryz.func307.trans (congrArg some (by kernel_rfl))
 f280:=Tryz.func308.trans (congrArg some (by kernel_rfl))
 f281:=Tryz.func309.trans (congrArg some (by kernel_rfl))
 f282:=Tryz.func310.trans (congrArg some (by kernel_rfl))
 f283:=Tryz.func321.trans (congrArg some (by kernel_rfl))
 f284:=Tryz.func322.trans (congrArg some (by kernel_rfl))
 f285:=Tryz.func323.trans (congrArg some (by kernel_rfl))
 f286:=Tryz.func324.trans (congrArg some (by kernel_rfl))
 f287:=Tryz.func313.trans (congrArg some (by kernel_rfl))
 f316:=Tryz.func314.trans (congrArg some (by kernel_rfl))
 f317:=Tryz.func325.trans (congrArg some (by kernel_rfl))
 f318:=Tryz.func327.trans (congrArg some (by kernel_rfl))
 f319:=Tryz.func328.trans (congrArg some (by kernel_rfl))
 f320:=Tryz.func329.trans (congrArg some (by kernel_rfl))
 f321:=Tryz.func317.trans (congrArg some (by kernel_rfl))
 f322:=Tryz.func318.trans (congrArg some (by kernel_rfl))
 f337:=Tryz.func330.trans (congrArg some (by kernel_rfl))
 f338:=Tryz.func331.trans (congrArg some (by kernel_rfl))
 t0:=Tryz.underlying0
 a0:=Tryz.isAgg0
 z0:=Tryz.sizeOf0
 v0:=Tryz.zeroValue0
 t2:=Tryz.underlying2
 a2:=Tryz.isAgg2
 z2:=Tryz.sizeOf2
 v2:=Tryz.zeroValue2
 t3:=Tryz.underlying3
 a3:=Tryz.isAgg3
 z3:=Tryz.sizeOf3
 v3:=Tryz.zeroValue3
 t4:=Tryz.underlying4
 a4:=Tryz.isAgg4
 z4:=Tryz.sizeOf4
 v4:=Tryz.zeroValue4
 t5:=Tryz.underlying5
 a5:=Tryz.isAgg5
 z5:=Tryz.sizeOf5
 v5:=Tryz.zeroValue5
 t9:=Tryz.underlying9
 a9:=Tryz.isAgg9
 z9:=Tryz.sizeOf9
 v9:=Tryz.zeroValue9
 t20:=Tryz.underlying20
 a20:=Tryz.isAgg20
 z20:=Tryz.sizeOf20
 v20:=Tryz.zeroValue20
 t21:=Tryz.underlying21
 a21:=Tryz.isAgg21
 z21:=Tryz.sizeOf21
 v21:=Tryz.zeroValue21
 t37:=Tryz.underlying326
 a37:=Tryz.isAgg326
 z37:=Tryz.sizeOf326
 v37:=Tryz.zeroValue326
 t46:=Tryz.underlying211
 a46:=Tryz.isAgg211
 z46:=Tryz.sizeOf211
 v46:=Tryz.zeroValue211
 t51:=Tryz.underlying259
 a51:=Tryz.isAgg259
 z51:=Tryz.sizeOf259
 v51:=Tryz.zeroValue259
 t53:=Tryz.underlying286
 a53:=Tryz.isAgg286
 z53:=Tryz.sizeOf286
 v53:=Tryz.zeroValue286
 t75:=Tryz.underlying319
 a75:=Tryz.isAgg319
 z75:=Tryz.sizeOf319
 v75:=Tryz.zeroValue319
 t76:=Tryz.underlying320
 a76:=Tryz.isAgg320
 z76:=Tryz.sizeOf320
 v76:=Tryz.zeroValue320
 t85:=Tryz.underlying344
 a85:=Tryz.isAgg344
 z85:=Tryz.sizeOf344
 v85:=Tryz.zeroValue344
 t127:=Tryz.underlying342
 a127:=Tryz.isAgg342
 z127:=Tryz.sizeOf342
 v127:=Tryz.zeroValue342
 t143:=Tryz.underlying359
 a143:=Tryz.isAgg359
 z143:=Tryz.sizeOf359
 v143:=Tryz.zeroValue359
 t145:=Tryz.underlying361
 a145:=Tryz.isAgg361
 z145:=Tryz.sizeOf361
 v145:=Tryz.zeroValue361
 t167:=Tryz.underlying343
 a167:=Tryz.isAgg343
 z167:=Tryz.sizeOf343
 v167:=Tryz.zeroValue343
 t168:=Tryz.underlying346
 a168:=Tryz.isAgg346
 z168:=Tryz.sizeOf346
 v168:=Tryz.zeroValue346
 t171:=Tryz.underlying363
 a171:=Tryz.isAgg363
 z171:=Tryz.sizeOf363
 v171:=Tryz.zeroValue363
 t173:=Tryz.underlying366
 a173:=Tryz.isAgg366
 z173:=Tryz.sizeOf366
 v173:=Tryz.zeroValue366
 t175:=Tryz.underlying352
 a175:=Tryz.isAgg352
 z175:=Tryz.sizeOf352
 v175:=Tryz.zeroValue352
 t210:=Tryz.underlying355
 a210:=Tryz.isAgg355
 z210:=Tryz.sizeOf355
 v210:=Tryz.zeroValue355
 t212:=Tryz.underlying369
 a212:=Tryz.isAgg369
 z212:=Tryz.sizeOf369
 v212:=Tryz.zeroValue369
 t213:=Tryz.underlying370
 a213:=Tryz.isAgg370
 z213:=Tryz.sizeOf370
 t232:=Tryz.underlying372
 a232:=Tryz.isAgg372
 z232:=Tryz.sizeOf372
 v232:=Tryz.zeroValue372
 t233:=Tryz.underlying373
 a233:=Tryz.isAgg373
 z233:=Tryz.sizeOf373
 v233:=Tryz.zeroValue373
 g15:=by kernel_rfl
 g16:=by kernel_rfl
 g17:=by kernel_rfl
 g18:=by kernel_rfl
 g19:=by kernel_rfl}
open Go.RowKit in
theorem Tryz.strconv_Atoi (s:ByteArray) (n:Int) (hl:s.size<=18) (h:Lib.atoi s.data.toList=some n) (w:World):
 Calls Tryz.prog 278 #[.string s] w λ e w'=>e= .returned (.tuple #[.int .i64 n,.nilIface])/\∃t,w'=Lib.bytesWorld w 5 t:=Any.strconv_Atoi Tryz.lays172 s n hl h w
def Tryz.lays217_ren:Go.Shelf.Ren:=⟨fun|217=>175|266=>203|n=>n,fun|9=>9|5=>5|3=>3|n=>n,fun|n=>n⟩
theorem Tryz.lays217:Go.Proofs.Lays.n217 Tryz.prog Tryz.lays217_ren:={
 mixed:=by kernel_rfl
 f217:=Tryz.func175.trans (congrArg some (by kernel_rfl))
 f266:=Tryz.func203.trans (congrArg some (by kernel_rfl))
 t3:=Tryz.underlying3
 a3:=Tryz.isAgg3
 z3:=Tryz.sizeOf3
 v3:=Tryz.zeroValue3
 t5:=Tryz.underlying5
 a5:=Tryz.isAgg5
 z5:=Tryz.sizeOf5
 v5:=Tryz.zeroValue5
 t9:=Tryz.underlying9
 a9:=Tryz.isAgg9
 z9:=Tryz.sizeOf9
 v9:=Tryz.zeroValue9}
open Go.RowKit Go.Lib in
theorem Tryz.stringslite_IndexByte (s:ByteArray) (c:Int) (w:World):
 Calls Tryz.prog 175 #[.string s,.int .u8 c] w λ e w'=>e= .returned (.int .i64 (Lib.indexByte s.data.toList c.toNat.toUInt8))/\w'=w:=Any.stringslite_IndexByte Tryz.lays217 s c w
def Tryz.lays219_ren:Go.Shelf.Ren:=⟨fun|219=>156|217=>175|225=>176|224=>177|267=>178|266=>203|314=>204|n=>n,fun|9=>9|3=>3|4=>4|5=>5|46=>211|146=>260|51=>259|n=>n,fun|1=>0|n=>n⟩
theorem Tryz.lays219:Go.Proofs.Lays.n219 Tryz.prog Tryz.lays219_ren:={
 mixed:=by kernel_rfl
 f217:=Tryz.func175.trans (congrArg some (by kernel_rfl))
 f219:=Tryz.func156.trans (congrArg some (by kernel_rfl))
 f224:=Tryz.func177.trans (congrArg some (by kernel_rfl))
 f225:=Tryz.func176.trans (congrArg some (by kernel_rfl))
 f266:=Tryz.func203.trans (congrArg some (by kernel_rfl))
 f267:=Tryz.func178.trans (congrArg some (by kernel_rfl))
 f314:=Tryz.func204.trans (congrArg some (by kernel_rfl))
 t3:=Tryz.underlying3
 a3:=Tryz.isAgg3
 z3:=Tryz.sizeOf3
 v3:=Tryz.zeroValue3
 t4:=Tryz.underlying4
 a4:=Tryz.isAgg4
 z4:=Tryz.sizeOf4
 v4:=Tryz.zeroValue4
 t5:=Tryz.underlying5
 a5:=Tryz.isAgg5
 z5:=Tryz.sizeOf5
 v5:=Tryz.zeroValue5
 t9:=Tryz.underlying9
 a9:=Tryz.isAgg9
 z9:=Tryz.sizeOf9
 v9:=Tryz.zeroValue9
 t46:=Tryz.underlying211
 a46:=Tryz.isAgg211
 z46:=Tryz.sizeOf211
 v46:=Tryz.zeroValue211
 t51:=Tryz.underlying259
 a51:=Tryz.isAgg259
 z51:=Tryz.sizeOf259
 v51:=Tryz.zeroValue259
 t146:=Tryz.underlying260
 a146:=Tryz.isAgg260
 z146:=Tryz.sizeOf260
 v146:=Tryz.zeroValue260
 g1:=by kernel_rfl}
open Go.RowKit Go.Lib in
theorem Tryz.stringslite_Index_one (s:ByteArray) (c:UInt8) (w:World):
 Calls Tryz.prog 156 #[.string s,.string ⟨#[c]⟩] w λ e w'=>e= .returned (.int .i64 (Lib.indexByte s.data.toList c))/\w'=w:=Any.stringslite_Index_one Tryz.lays219 s c w
def Tryz.lays143_ren:Go.Shelf.Ren:=⟨fun|143=>143|219=>156|217=>175|225=>176|224=>177|267=>178|266=>203|314=>204|n=>n,fun|9=>9|3=>3|4=>4|5=>5|46=>211|146=>260|51=>259|n=>n,fun|1=>0|n=>n⟩
theorem Tryz.lays143:Go.Proofs.Lays.n143 Tryz.prog Tryz.lays143_ren:={
 mixed:=by kernel_rfl
 f143:=Tryz.func143.trans (congrArg some (by kernel_rfl))
 f217:=Tryz.func175.trans (congrArg some (by kernel_rfl))
 f219:=Tryz.func156.trans (congrArg some (by kernel_rfl))
 f224:=Tryz.func177.trans (congrArg some (by kernel_rfl))
 f225:=Tryz.func176.trans (congrArg some (by kernel_rfl))
 f266:=Tryz.func203.trans (congrArg some (by kernel_rfl))
 f267:=Tryz.func178.trans (congrArg some (by kernel_rfl))
 f314:=Tryz.func204.trans (congrArg some (by kernel_rfl))
 t3:=Tryz.underlying3
 a3:=Tryz.isAgg3
 z3:=Tryz.sizeOf3
 v3:=Tryz.zeroValue3
 t4:=Tryz.underlying4
 a4:=Tryz.isAgg4
 z4:=Tryz.sizeOf4
 v4:=Tryz.zeroValue4
 t5:=Tryz.underlying5
 a5:=Tryz.isAgg5
 z5:=Tryz.sizeOf5
 v5:=Tryz.zeroValue5
 t9:=Tryz.underlying9
 a9:=Tryz.isAgg9
 z9:=Tryz.sizeOf9
 v9:=Tryz.zeroValue9
 t46:=Tryz.underlying211
 a46:=Tryz.isAgg211
 z46:=Tryz.sizeOf211
 v46:=Tryz.zeroValue211
 t51:=Tryz.underlying259
 a51:=Tryz.isAgg259
 z51:=Tryz.sizeOf259
 v51:=Tryz.zeroValue259
 t146:=Tryz.underlying260
 a146:=Tryz.isAgg260
 z146:=Tryz.sizeOf260
 v146:=Tryz.zeroValue260
 g1:=by kernel_rfl}
open Go.RowKit Go.Lib in
theorem Tryz.strings_Index_one (s:ByteArray) (c:UInt8) (w:World):
 Calls Tryz.prog 143 #[.string s,.string ⟨#[c]⟩] w λ e w'=>e= .returned (.int .i64 (Lib.indexByte s.data.toList c))/\w'=w:=Any.strings_Index_one Tryz.lays143 s c w
def Tryz.lays138_ren:Go.Shelf.Ren:=⟨fun|138=>237|195=>264|218=>265|143=>143|219=>156|217=>175|225=>176|224=>177|267=>178|266=>203|314=>204|n=>n,fun|9=>9|3=>3|4=>4|5=>5|0=>0|46=>211|146=>260|51=>259|n=>n,fun|1=>0|n=>n⟩
theorem Tryz.lays138:Go.Proofs.Lays.n138 Tryz.prog Tryz.lays138_ren:={
 mixed:=by kernel_rfl
 f138:=Tryz.func237.trans (congrArg some (by kernel_rfl))
 f143:=Tryz.func143.trans (congrArg some (by kernel_rfl))
 f195:=Tryz.func264.trans (congrArg some (by kernel_rfl))
 f217:=Tryz.func175.trans (congrArg some (by kernel_rfl))
 f218:=Tryz.func265.trans (congrArg some (by kernel_rfl))
 f219:=Tryz.func156.trans (congrArg some (by kernel_rfl))
 f224:=Tryz.func177.trans (congrArg some (by kernel_rfl))
 f225:=Tryz.func176.trans (congrArg some (by kernel_rfl))
 f266:=Tryz.func203.trans (congrArg some (by kernel_rfl))
 f267:=Tryz.func178.trans (congrArg some (by kernel_rfl))
 f314:=Tryz.func204.trans (congrArg some (by kernel_rfl))
 t0:=Tryz.underlying0
 a0:=Tryz.isAgg0
 z0:=Tryz.sizeOf0
 v0:=Tryz.zeroValue0
 t3:=Tryz.underlying3
 a3:=Tryz.isAgg3
 z3:=Tryz.sizeOf3
 v3:=Tryz.zeroValue3
 t4:=Tryz.underlying4
 a4:=Tryz.isAgg4
 z4:=Tryz.sizeOf4
 v4:=Tryz.zeroValue4
 t5:=Tryz.underlying5
 a5:=Tryz.isAgg5
 z5:=Tryz.sizeOf5
 v5:=Tryz.zeroValue5
 t9:=Tryz.underlying9
 a9:=Tryz.isAgg9
 z9:=Tryz.sizeOf9
 v9:=Tryz.zeroValue9
 t46:=Tryz.underlying211
 a46:=Tryz.isAgg211
 z46:=Tryz.sizeOf211
 v46:=Tryz.zeroValue211
 t51:=Tryz.underlying259
 a51:=Tryz.isAgg259
 z51:=Tryz.sizeOf259
 v51:=Tryz.zeroValue259
 t146:=Tryz.underlying260
 a146:=Tryz.isAgg260
 z146:=Tryz.sizeOf260
 v146:=Tryz.zeroValue260
 g1:=by kernel_rfl}
open Go.RowKit Go.Lib in
theorem Tryz.strings_Count_one (s:ByteArray) (c:UInt8) (w:World):
 Calls Tryz.prog 237 #[.string s,.string ⟨#[c]⟩] w λ e w'=>e= .returned (.int .i64 (Lib.countByte s.data.toList c))/\w'=w:=Any.strings_Count_one Tryz.lays138 s c w
def Tryz.lays221_ren:Go.Shelf.Ren:=⟨fun|221=>196|268=>236|138=>237|143=>143|195=>264|197=>142|218=>265|219=>156|260=>160|217=>175|225=>176|224=>177|267=>178|266=>203|314=>204|n=>n,fun|9=>9|3=>3|31=>42|4=>4|0=>0|105=>189|21=>21|5=>5|46=>211|119=>235|139=>238|138=>237|146=>260|51=>259|n=>n,fun|1=>0|3=>1|4=>2|n=>n⟩
theorem Tryz.lays221:Go.Proofs.Lays.n221 Tryz.prog Tryz.lays221_ren:={
 mixed:=by kernel_rfl
 f138:=Tryz.func237.trans (congrArg some (by kernel_rfl))
 f143:=Tryz.func143.trans (congrArg some (by kernel_rfl))
 f195:=Tryz.func264.trans (congrArg some (by kernel_rfl))
 f197:=Tryz.func142.trans (congrArg some (by kernel_rfl))
 f217:=Tryz.func175.trans (congrArg some (by kernel_rfl))
 f218:=Tryz.func265.trans (congrArg some (by kernel_rfl))
 f219:=Tryz.func156.trans (congrArg some (by kernel_rfl))
 f221:=Tryz.func196.trans (congrArg some (by kernel_rfl))
 f224:=Tryz.func177.trans (congrArg some (by kernel_rfl))
 f225:=Tryz.func176.trans (congrArg some (by kernel_rfl))
 f260:=Tryz.func160.trans (congrArg some (by kernel_rfl))
 f266:=Tryz.func203.trans (congrArg some (by kernel_rfl))
 f267:=Tryz.func178.trans (congrArg some (by kernel_rfl))
 f268:=Tryz.func236.trans (congrArg some (by kernel_rfl))
 f314:=Tryz.func204.trans (congrArg some (by kernel_rfl))
 t0:=Tryz.underlying0
 a0:=Tryz.isAgg0
 z0:=Tryz.sizeOf0
 v0:=Tryz.zeroValue0
 t3:=Tryz.underlying3
 a3:=Tryz.isAgg3
 z3:=Tryz.sizeOf3
 v3:=Tryz.zeroValue3
 t4:=Tryz.underlying4
 a4:=Tryz.isAgg4
 z4:=Tryz.sizeOf4
 v4:=Tryz.zeroValue4
 t5:=Tryz.underlying5
 a5:=Tryz.isAgg5
 z5:=Tryz.sizeOf5
 v5:=Tryz.zeroValue5
 t9:=Tryz.underlying9
 a9:=Tryz.isAgg9
 z9:=Tryz.sizeOf9
 v9:=Tryz.zeroValue9
 t21:=Tryz.underlying21
 a21:=Tryz.isAgg21
 z21:=Tryz.sizeOf21
 v21:=Tryz.zeroValue21
 t31:=Tryz.underlying42
 a31:=Tryz.isAgg42
 z31:=Tryz.sizeOf42
 v31:=Tryz.zeroValue42
 t46:=Tryz.underlying211
 a46:=Tryz.isAgg211
 z46:=Tryz.sizeOf211
 v46:=Tryz.zeroValue211
 t51:=Tryz.underlying259
 a51:=Tryz.isAgg259
 z51:=Tryz.sizeOf259
 v51:=Tryz.zeroValue259
 t105:=Tryz.underlying189
 a105:=Tryz.isAgg189
 z105:=Tryz.sizeOf189
 v105:=Tryz.zeroValue189
 t119:=Tryz.underlying235
 a119:=Tryz.isAgg235
 z119:=Tryz.sizeOf235
 t138:=Tryz.underlying237
 a138:=Tryz.isAgg237
 z138:=Tryz.sizeOf237
 v138:=Tryz.zeroValue237
 t139:=Tryz.underlying238
 a139:=Tryz.isAgg238
 z139:=Tryz.sizeOf238
 v139:=Tryz.zeroValue238
 t146:=Tryz.underlying260
 a146:=Tryz.isAgg260
 z146:=Tryz.sizeOf260
 v146:=Tryz.zeroValue260
 g1:=by kernel_rfl
 g3:=by kernel_rfl
 g4:=by kernel_rfl}
def Tryz.lays153_ren:Go.Shelf.Ren:=⟨fun|153=>155|152=>171|226=>172|227=>173|228=>174|137=>201|119=>202|224=>177|225=>176|217=>175|266=>203|n=>n,fun|9=>9|3=>3|4=>4|5=>5|21=>21|117=>209|116=>208|0=>0|46=>211|124=>258|n=>n,fun|n=>n⟩
theorem Tryz.lays153:Go.Proofs.Lays.n153 Tryz.prog Tryz.lays153_ren:={
 mixed:=by kernel_rfl
 f119:=Tryz.func202.trans (congrArg some (by kernel_rfl))
 f137:=Tryz.func201.trans (congrArg some (by kernel_rfl))
 f152:=Tryz.func171.trans (congrArg some (by kernel_rfl))
 f153:=Tryz.func155.trans (congrArg some (by kernel_rfl))
 f217:=Tryz.func175.trans (congrArg some (by kernel_rfl))
 f224:=Tryz.func177.trans (congrArg some (by kernel_rfl))
 f225:=Tryz.func176.trans (congrArg some (by kernel_rfl))
 f226:=Tryz.func172.trans (congrArg some (by kernel_rfl))
 f227:=Tryz.func173.trans (congrArg some (by kernel_rfl))
 f228:=Tryz.func174.trans (congrArg some (by kernel_rfl))
 f266:=Tryz.func203.trans (congrArg some (by kernel_rfl))
 t0:=Tryz.underlying0
 a0:=Tryz.isAgg0
 z0:=Tryz.sizeOf0
 v0:=Tryz.zeroValue0
 t3:=Tryz.underlying3
 a3:=Tryz.isAgg3
 z3:=Tryz.sizeOf3
 v3:=Tryz.zeroValue3
 t4:=Tryz.underlying4
 a4:=Tryz.isAgg4
 z4:=Tryz.sizeOf4
 v4:=Tryz.zeroValue4
 t5:=Tryz.underlying5
 a5:=Tryz.isAgg5
 z5:=Tryz.sizeOf5
 v5:=Tryz.zeroValue5
 t9:=Tryz.underlying9
 a9:=Tryz.isAgg9
 z9:=Tryz.sizeOf9
 v9:=Tryz.zeroValue9
 t21:=Tryz.underlying21
 a21:=Tryz.isAgg21
 z21:=Tryz.sizeOf21
 v21:=Tryz.zeroValue21
 t46:=Tryz.underlying211
 a46:=Tryz.isAgg211
 z46:=Tryz.sizeOf211
 v46:=Tryz.zeroValue211
 t116:=Tryz.underlying208
 a116:=Tryz.isAgg208
 z116:=Tryz.sizeOf208
 t117:=Tryz.underlying209
 a117:=Tryz.isAgg209
 z117:=Tryz.sizeOf209
 v117:=Tryz.zeroValue209
 t124:=Tryz.underlying258
 a124:=Tryz.isAgg258
 z124:=Tryz.sizeOf258
 v124:=Tryz.zeroValue258}
open Go.RowKit Go.Lib in
theorem Tryz.strings_IndexAny_short (s chars:ByteArray) (w:World) (h2:2<=chars.size) (h8:s.size<=8) (hascii:∀(j:Nat) b,s.data.toList[j]?=some b->b.toNat<128):
 Calls Tryz.prog 155 #[.string s,.string chars] w λ e w'=>e= .returned (.int .i64 (Lib.indexAny s.data.toList chars.data.toList))/\∃pos,w'=w.iter s pos:=Any.strings_IndexAny_short Tryz.lays153 s chars w h2 h8 hascii
open Go.RowKit Go.Lib in
theorem Tryz.strings_IndexAny_laid (s chars:ByteArray) (w:World) (hs:s.size<4294967281) (hcs:chars.size<4294967281) (has:∀(j:Nat) b,s.data.toList[j]?=some b->b.toNat<128) (hac:∀(j:Nat) b,chars.data.toList[j]?=some b->b.toNat<128):
 Calls Tryz.prog 155 #[.string s,.string chars] w λ e w'=>e= .returned (.int .i64 (Lib.indexAny s.data.toList chars.data.toList))/\Below w.heap.size w w':=Any.strings_IndexAny_laid Tryz.lays153 (by kernel_rfl) s chars w hs hcs has hac
def Tryz.lays105_ren:Go.Shelf.Ren:=⟨fun|105=>255|212=>280|99=>281|165=>282|166=>283|170=>284|169=>285|263=>301|264=>287|206=>293|240=>302|241=>303|276=>311|277=>312|n=>n,fun|9=>9|3=>3|4=>4|20=>20|0=>0|46=>211|109=>322|5=>5|72=>328|76=>320|51=>259|146=>260|53=>286|148=>332|70=>325|37=>326|75=>319|127=>342|164=>349|80=>330|n=>n,fun|n=>n⟩
theorem Tryz.lays105:Go.Proofs.Lays.n105 Tryz.prog Tryz.lays105_ren:={
 mixed:=by kernel_rfl
 f99:=Tryz.func281.trans (congrArg some (by kernel_rfl))
 f105:=Tryz.func255.trans (congrArg some (by kernel_rfl))
 f165:=Tryz.func282.trans (congrArg some (by kernel_rfl))
 f166:=Tryz.func283.trans (congrArg some (by kernel_rfl))
 f169:=Tryz.func285.trans (congrArg some (by kernel_rfl))
 f170:=Tryz.func284.trans (congrArg some (by kernel_rfl))
 f206:=Tryz.func293.trans (congrArg some (by kernel_rfl))
 f212:=Tryz.func280.trans (congrArg some (by kernel_rfl))
 f240:=Tryz.func302.trans (congrArg some (by kernel_rfl))
 f241:=Tryz.func303.trans (congrArg some (by kernel_rfl))
 f263:=Tryz.func301.trans (congrArg some (by kernel_rfl))
 f264:=Tryz.func287.trans (congrArg some (by kernel_rfl))
 f276:=Tryz.func311.trans (congrArg some (by kernel_rfl))
 f277:=Tryz.func312.trans (congrArg some (by kernel_rfl))
 t0:=Tryz.underlying0
 a0:=Tryz.isAgg0
 z0:=Tryz.sizeOf0
 v0:=Tryz.zeroValue0
 t3:=Tryz.underlying3
 a3:=Tryz.isAgg3
 z3:=Tryz.sizeOf3
 v3:=Tryz.zeroValue3
 t4:=Tryz.underlying4
 a4:=Tryz.isAgg4
 z4:=Tryz.sizeOf4
 v4:=Tryz.zeroValue4
 t5:=Tryz.underlying5
 a5:=Tryz.isAgg5
 z5:=Tryz.sizeOf5
 v5:=Tryz.zeroValue5
 t9:=Tryz.underlying9
 a9:=Tryz.isAgg9
 z9:=Tryz.sizeOf9
 v9:=Tryz.zeroValue9
 t20:=Tryz.underlying20
 a20:=Tryz.isAgg20
 z20:=Tryz.sizeOf20
 v20:=Tryz.zeroValue20
 t37:=Tryz.underlying326
 a37:=Tryz.isAgg326
 z37:=Tryz.sizeOf326
 v37:=Tryz.zeroValue326
 t46:=Tryz.underlying211
 a46:=Tryz.isAgg211
 z46:=Tryz.sizeOf211
 v46:=Tryz.zeroValue211
 t51:=Tryz.underlying259
 a51:=Tryz.isAgg259
 z51:=Tryz.sizeOf259
 v51:=Tryz.zeroValue259
 t53:=Tryz.underlying286
 a53:=Tryz.isAgg286
 z53:=Tryz.sizeOf286
 v53:=Tryz.zeroValue286
 t70:=Tryz.underlying325
 a70:=Tryz.isAgg325
 z70:=Tryz.sizeOf325
 v70:=Tryz.zeroValue325
 t72:=Tryz.underlying328
 a72:=Tryz.isAgg328
 z72:=Tryz.sizeOf328
 v72:=Tryz.zeroValue328
 t75:=Tryz.underlying319
 a75:=Tryz.isAgg319
 z75:=Tryz.sizeOf319
 v75:=Tryz.zeroValue319
 t76:=Tryz.underlying320
 a76:=Tryz.isAgg320
 z76:=Tryz.sizeOf320
 v76:=Tryz.zeroValue320
 t109:=Tryz.underlying322
 a109:=Tryz.isAgg322
 z109:=Tryz.sizeOf322
 v109:=Tryz.zeroValue322
 t127:=Tryz.underlying342
 a127:=Tryz.isAgg342
 z127:=Tryz.sizeOf342
 v127:=Tryz.zeroValue342
 t146:=Tryz.underlying260
 a146:=Tryz.isAgg260
 z146:=Tryz.sizeOf260
 v146:=Tryz.zeroValue260
 t148:=Tryz.underlying332
 a148:=Tryz.isAgg332
 z148:=Tryz.sizeOf332
 v148:=Tryz.zeroValue332
 t164:=Tryz.underlying349
 a164:=Tryz.isAgg349
 z164:=Tryz.sizeOf349
 v164:=Tryz.zeroValue349}
theorem Tryz.Builder_Extra_105:Builder.Extra Tryz.prog Tryz.lays105_ren:={
 sizeBuilder:=by kernel_rfl
 liesBuilder:=by kernel_rfl
 t5:=Tryz.underlying5
 a5:=Tryz.isAgg5
 z5:=Tryz.sizeOf5
 v5:=Tryz.zeroValue5
 infoByte:=by kernel_rfl
 cellsByte:=by kernel_rfl
 sizeByte:=by kernel_rfl
 neB5:=by decide}
open Go.RowKit Go.Lib in
theorem Tryz.strings_Repeat (s:ByteArray) (c:Nat) (w:World) (hc:c<=9223372036854775807) (hlen:s.size*c<=140737488355328):
 Calls Tryz.prog 255 #[.string s,.int .i64 c] w λ e w'=>e= .returned (.string ⟨(Lib.repeatL s.data.toList c).toArray⟩)/\Below w.heap.size w w':=Any.strings_Repeat Tryz.lays105 Tryz.Builder_Extra_105 s c w hc hlen
def Tryz.laysNm215_ren:Go.Shelf.Ren:=⟨fun|15=>108|n=>n,fun|22=>88|3=>3|4=>4|n=>n,fun|n=>n⟩
theorem Tryz.laysNm215:Go.Proofs.Lays2.n15 Tryz.prog Tryz.laysNm215_ren:={
 mixed:=by kernel_rfl
 f15:=Tryz.func108.trans (congrArg some (by kernel_rfl))
 t3:=Tryz.underlying3
 a3:=Tryz.isAgg3
 z3:=Tryz.sizeOf3
 v3:=Tryz.zeroValue3
 t4:=Tryz.underlying4
 a4:=Tryz.isAgg4
 z4:=Tryz.sizeOf4
 v4:=Tryz.zeroValue4
 t22:=Tryz.underlying88
 a22:=Tryz.isAgg88
 z22:=Tryz.sizeOf88
 v22:=Tryz.zeroValue88
 i3:=by kernel_rfl}
open Go.RowKit Go.Lib in
theorem Tryz.slices_Clone_int (b off n c:Nat) (zs:List Int) (w:World) (hz:n<=zs.length) (hbig:n*8<=140737488355328) (hc:∀j,j<zs.length->w.cell? ⟨b,off+j,none⟩=some (.int .i64 (zs.getD j 0))):
 Calls Tryz.prog 108 #[.slice (some ⟨b,off,none⟩) n c] w λ e w'=>∃v',e= .returned v'/\w'.ownsRow w.heap.size 3 1 v' n ((zs.take n).map (Value.int .i64))/\v'≠ .slice none 0 0/\Below w.heap.size w w':=Any.slices_Clone_int Tryz.laysNm215 b off n c zs w hz hbig hc
open Go.RowKit Go.Lib in
theorem Tryz.slices_Clone_int_nil (n c:Nat) (w:World):
 Calls Tryz.prog 108 #[.slice none n c] w λ e w'=>e= .returned (.slice none 0 0)/\w'=w:=Any.slices_Clone_int_nil Tryz.laysNm215 n c w
open Go.RowKit Go.Lib in
theorem Tryz.slices_Clone_int_zero (a:Addr) (c:Nat) (w:World):
 Calls Tryz.prog 108 #[.slice (some a) 0 c] w λ e w'=>∃v',e= .returned v'/\w'.ownsRow w.heap.size 3 1 v' 0 []/\v'≠ .slice none 0 0/\Below w.heap.size w w':=Any.slices_Clone_int_zero Tryz.laysNm215 a c w
end Go.Proofs
namespace Go.Ab
open Go
section
variable {T:Tab} {ti:TypeId->Option (TI T.E)} {eqs:TypeId->Bool} {P:Program} {f:FuncId}
def fv {E:Nat->Type}:(t:Ty)->t.den E->Value
 | .int k,n=> .int k n
 | .bool,b=> .bool b
 | .str,s=> .string ⟨s.toArray⟩
 |_,_=>undef
def fvs {E:Nat->Type}:(ts:List Ty)->HL E ts->List Value
 |[],_=>[]
 |t::ts,(x,r)=>fv t x::fvs ts r
theorem Cco {ok:Nat->Prop} {w:World}:∀{t:Ty} {x:t.den T.E} {v:Value},Aga t=true->(Brx T ok w t x v↔v=fv t x)
 | .int k,n,v,_=>by show[v]=[Value.int k n]↔_;simp[fv]
 | .bool,b,v,_=>by show[v]=[Value.bool b]↔_;simp[fv]
 | .str,s,v,_=>by show[v]=[Value.string ⟨s.toArray⟩]↔_;simp[fv]
 | .sl _,_,_,h=>by cases h
 | .nm _,_,_,h=>by cases h
theorem A01 {ok:Nat->Prop} {w:World}:∀{ts:List Ty} {x:HL T.E ts} {vs:List Value} {own:List Nat},ts.all Aga=true->Og T ok w [] ts x vs own->vs=fvs ts x/\own=[]
 |[],_,_,_,_,h=>h
 |t::ts,(x,r),vs,own,hf,h=>by
  obtain⟨v,vr,o1,o2,rfl,rfl,h1,h2⟩:=h
  simp only[List.all_cons,Bool.and_eq_true]at hf
  obtain⟨rfl,rfl⟩:=A01 (ts:=ts) hf.2 h2
  have h1:X4 T ok w 0 t x v o1:=h1
  cases h1 with
  |data h=>rw[(Cco hf.1).1 h];exact⟨rfl,rfl⟩
theorem B5d {ok:Nat->Prop} {w:World}:∀{t:Ty} {x:t.den T.E},Aga t=true->Bv7 T ok w [] t x (fv t x) []
 | .int k,n,_=>⟨[.int k n],.more (λ _ _=>rfl) .nil,rfl⟩
 | .bool,b,_=>⟨[.bool b],.more (λ _ _=>rfl) .nil,rfl⟩
 | .str,s,_=>⟨[.string ⟨s.toArray⟩],.more (λ _ _=>rfl) .nil,rfl⟩
 | .sl _,_,h=>by cases h
 | .nm _,_,h=>by cases h
theorem Bvf {w w':World} (g:U1 w w'):But [] w w':=⟨g.os,g.tape,g.output,g.size,λ b hb _=>g.heap b hb⟩
abbrev Bm2 (P:Program) (f:FuncId):Prop:=∃fn,P.funcs[f]?=some fn/\fn.body.isSome=true/\(fn.name== "runtime.NumGoroutine")=false
theorem Bnb {as:List Ty} {t:Ty} {g:HL T.E as->Option (t.den T.E)} (hf:Bm2 P f) (ha:as.all Aga=true) (ht:Aga t=true)
 (h:∀x z,g x=some z->∀w,Calls P f (fvs as x).toArray w λ e w'=>e= .returned (fv t z)/\U1 w w'):Ub T ti eqs P f (f1 as t g):=by
 refine⟨hf,λ x y hy okp w vs own hargs hnd hown hokp=> ?_⟩
 have hy:Option.map (λ r=>(r,())) (g x)=some y:=hy
 obtain⟨z,hz,rfl⟩:=Option.map_eq_some_iff.1 hy
 obtain⟨rfl,rfl⟩:=A01 ha hargs
 refine(h x z hz w).mono ?_
 rintro e w' ⟨rfl,g⟩
 exact⟨[fv t z],[],rfl,Bvf g,List.nodup_nil,λ _ h=>by simp at h,_,[],[],[],rfl,rfl,B5d ht,rfl,rfl⟩
theorem B4d {as:List Ty} {g:HL T.E as->Option (List (List UInt8))} (hf:Bm2 P f) (ha:as.all Aga=true)
 (h:∀x z,g x=some z->∀w,Calls P f (fvs as x).toArray w λ e w'=>∃(cap:Nat) (cs:Array Value) (et:TypeId),e= .returned (.slice (some ⟨w.heap.size,0,none⟩) z.length cap)/\z.length<=cap/\w'=w.alloc (.cells cs et)/\
  ∀i,i<z.length->cs[i]?=some (.string ⟨(z.getD i []).toArray⟩)):Ub T ti eqs P f (f1 as (.sl .str) g):=by
 refine⟨hf,λ x y hy okp w vs own hargs hnd hown hokp=> ?_⟩
 have hy:Option.map (λ r=>(r,())) (g x)=some y:=hy
 obtain⟨z,hz,rfl⟩:=Option.map_eq_some_iff.1 hy
 obtain⟨rfl,rfl⟩:=A01 ha hargs
 refine(h x z hz w).mono ?_
 rintro e w' ⟨cap,cs,et,rfl,hcap,rfl,hcs⟩
 refine⟨[_],[],rfl,Bvf (U1.alloc _ _),List.nodup_nil,λ _ h=>by simp at h,_,[],[],[],rfl,rfl,⟨[_],.more (λ bx β=> ?_) .nil,rfl⟩,rfl,rfl⟩
 show Bl _ _ (.sl 1 false (z.map λ s=>AV.str s)) [_]
 refine⟨_,cap,by rw[List.length_map],by rw[List.length_map];exact hcap,(λ e=>by cases e),(λ e=>by cases e),λ ad had=> ?_⟩
 cases had
 refine⟨λ _=>rfl, ?_⟩
 have key:∀(l:List (List UInt8)) (o:Nat),(∀i,i<l.length->cs[o+i]?=some (.string ⟨(l.getD i []).toArray⟩))->
  Fl (λ b=>b<(w.alloc (.cells cs et)).heap.size/\(okp b\/w.heap.size<=b\/b∈([]:List Nat))/\b∉([]:List Nat)) (w.alloc (.cells cs et)) 1 (l.map λ s=>AV.str s) w.heap.size o:=by
  intro l
  induction l with
  |nil=>intro o _;exact trivial
  |cons s r ih=>
   intro o hl
   refine⟨⟨[.string ⟨s.toArray⟩],rfl,rfl,⟨by simp,.inr (.inl (Nat.le_refl _)),by simp⟩,λ j v hj=> ?_⟩,ih (o+1) λ i hi=> ?_⟩
   ·cases j with
    |succ j=>simp at hj
    |zero=>
     simp at hj
     subst hj
     have:=hl 0 (by simp)
     simp only[Nat.add_zero,List.getD_cons_zero]at this
     rw[Nat.add_zero,World.cell?_alloc_new]
     exact this
   ·have:=hl (i+1) (by simp;omega)
    rw[show o+1+i=o+(i+1) by omega]
    simpa using this
 exact key z 0 λ i hi=>by rw[Nat.zero_add];exact hcs i hi
end
theorem Bjb (p:Nat->Bool):∀(n i:Nat),fst p (i+1) n=(fst (λ k=>p (k+1)) i n).map (·+1)
 |0,i=>rfl
 |n+1,i=>by
  unfold fst
  rw[Bjb p n (i+1)]
  by_cases h:p (i+1)=true
  ·simp[h]
  ·simp[h]
theorem B33 (q:UInt8->Bool) (x:UInt8) (r:List UInt8):fst (λ k=>q ((x::r).getD k 0)) 0 (x::r).length=if q x then some 0 else(fst (λ k=>q (r.getD k 0)) 0 r.length).map (·+1):=by
 rw[List.length_cons,fst,Bjb]
 by_cases h:q x=true
 ·simp[h]
 ·simp[h]
theorem Bme {q:UInt8->Bool} {F:List UInt8->Int} (h0:F []= -1) (h1:∀x r,F (x::r)=if q x then 0 else if F r== -1 then -1 else F r+1):∀s,F s=Aas (fst (λ k=>q (s.getD k 0)) 0 s.length)
 |[]=>h0
 |x::r=>by
  rw[h1,B33,Bme h0 h1 r]
  by_cases h:q x=true
  ·simp[h,Aas]
  ·simp only[h,Bool.false_eq_true,if_false]
   cases fst (λ k=>q (r.getD k 0)) 0 r.length with
   |none=>rfl
   |some k=>
    have:((k:Int)== -1)=false:=by simp
    simp[Aas,this]
theorem Yq (c:UInt8) (s:List UInt8):Lib.indexByte s c=Aas (fst (λ k=>decide (s.getD k 0=c)) 0 s.length):=by
 refine Bme (q:=λ x=>decide (x=c)) (F:=λ s=>Lib.indexByte s c) rfl (λ x r=> ?_) s
 show Lib.indexByte (x::r) c=_
 rw[Lib.indexByte]
 by_cases h:x=c<;>simp[h]
theorem Bml (t:List UInt8) (s:List UInt8):Lib.indexAny s t=Aas (fst (λ k=>t.contains (s.getD k 0)) 0 s.length):=by
 refine Bme (q:=λ x=>t.contains x) (F:=λ s=>Lib.indexAny s t) rfl (λ x r=> ?_) s
 show Lib.indexAny (x::r) t=_
 rw[Lib.indexAny]
theorem Aml {w w':World} (h:RowKit.Below w.heap.size w w'):U1 w w':=⟨h.os,h.tape,h.output,h.size,h.block⟩
theorem B1s {c:Int} {x:UInt8} (h0:0<=c) (h1:c<256):(x=c.toNat.toUInt8)↔(x.toNat:Int)=c:=by
 have:c.toNat.toUInt8.toNat=c.toNat:=by simp;omega
 constructor
 ·rintro rfl;omega
 ·intro h;apply UInt8.toNat_inj.1;omega
theorem A3x:∀(s acc:List UInt8),Lib.indexByte s 46= -1->B3 acc s=[acc++s]
 |[],acc,_=>by simp[B3]
 |c::r,acc,h=>by
  have hg:=Lib.indexByte_ge r 46
  unfold Lib.indexByte at h
  rw[B3]
  cases hc:c==46 with
  |true=>rw[hc]at h;simp at h
  |false=>
   rw[hc]at h
   by_cases h2:Lib.indexByte r 46= -1
   ·rw[if_neg (by simp),A3x r _ h2];simp
   ·have h3:(Lib.indexByte r 46== -1)=false:=by simpa using h2
    simp only[h3,Bool.false_eq_true,if_false]at h;omega
theorem Bii:∀(s acc:List UInt8) (i:Nat),Lib.indexByte s 46=i->i<s.length/\B3 acc s=(acc++s.take i)::B3 [] (s.drop (i+1))
 |[],acc,i,h=>by simp only[Lib.indexByte]at h;omega
 |c::r,acc,i,h=>by
  have hg:=Lib.indexByte_ge r 46
  unfold Lib.indexByte at h
  rw[B3]
  cases hc:c==46 with
  |true=>
   rw[hc]at h;simp only[if_true]at h
   obtain rfl:i=0:=by omega
   simp
  |false=>
   rw[hc]at h
   by_cases h2:Lib.indexByte r 46= -1
   ·rw[h2]at h;simp only[Bool.false_eq_true,if_false,beq_self_eq_true,if_true]at h;omega
   ·have h3:(Lib.indexByte r 46== -1)=false:=by simpa using h2
    simp only[h3,Bool.false_eq_true,if_false]at h
    obtain⟨j,rfl⟩:∃j,i=j+1:=⟨i-1,by omega⟩
    obtain⟨h4,h5⟩:=Bii r (acc++[c]) j (by omega)
    rw[if_neg (by simp),h5]
    refine⟨by simp;omega, ?_⟩
    simp
theorem At8:∀(k:Nat) (s:List UInt8),s.count 46<=k->Lib.splitK [46] 0 k s=B3 [] s
 |0,s,h=>by
  have hn:Lib.indexByte s 46= -1:=by
   rw[Yq]
   cases hf:fst (λ k=>decide (s.getD k 0=46)) 0 s.length with
   |none=>rfl
   |some k=>
    exfalso
    have key:∀n i,fst (λ k=>decide (s.getD k 0=46)) i n=some k->k<i+n/\s.getD k 0=46:=by
     intro n
     induction n with
     |zero=>intro i h;simp[fst]at h
     |succ n ih=>
      intro i h
      unfold fst at h
      split at h
      ·rename_i hp;cases h;exact⟨by omega,by simpa using hp⟩
      ·have:=ih _ h;exact⟨by omega,this.2⟩
    obtain⟨h1,h2⟩:=key _ _ hf
    have hm:(46:UInt8)∈s:=by
     rw[<-h2,List.getD_eq_getElem?_getD,List.getElem?_eq_getElem (by omega)]
     exact List.getElem_mem _
    have:=List.count_pos_iff.2 hm
    omega
  rw[A3x s [] hn];rfl
 |k+1,s,h=>by
  unfold Lib.splitK
  rw[Lib.index_one]
  by_cases hi:Lib.indexByte s 46= -1
  ·rw[if_pos (by simpa using hi),A3x s [] hi];rfl
  ·have hg:=Lib.indexByte_ge s 46
   obtain⟨i,hi2⟩:∃i:Nat,Lib.indexByte s 46=i:=⟨(Lib.indexByte s 46).toNat,by omega⟩
   obtain⟨h1,h2⟩:=Bii s [] i hi2
   rw[if_neg (by simpa using hi),h2,hi2]
   have hdot:s.getD i 0=46:=by
    have hf:=Yq 46 s
    rw[hi2]at hf
    have key:∀n j k,fst (λ k=>decide (s.getD k 0=46)) j n=some k->s.getD k 0=46:=by
     intro n
     induction n with
     |zero=>intro i k h;simp[fst]at h
     |succ n ih=>
      intro i k h
      unfold fst at h
      split at h
      ·rename_i hp;cases h;simpa using hp
      ·exact ih _ _ h
    cases hq:fst (λ k=>decide (s.getD k 0=46)) 0 s.length with
    |none=>rw[hq]at hf;simp only[Aas]at hf;omega
    |some j=>
     rw[hq]at hf
     simp only[Aas]at hf
     obtain rfl:i=j:=by omega
     exact key _ _ _ hq
   have hc:(s.drop (i+1)).count 46<=k:=by
    have e:s=s.take i++46::s.drop (i+1):=by
     have:=List.drop_eq_getElem_cons h1
     rw[List.getD_eq_getElem?_getD,List.getElem?_eq_getElem h1]at hdot
     simp only[Option.getD_some]at hdot
     rw[hdot]at this
     rw[<-this,List.take_append_drop]
    rw[e,List.count_append,List.count_cons_self]at h
    omega
   simp only[Int.toNat_natCast,Nat.add_zero,List.length_singleton,List.nil_append]
   rw[At8 k _ hc]
section
variable {T:Tab} {ti:TypeId->Option (TI T.E)} {eqs:TypeId->Bool} {P:Program} {f:FuncId}
theorem Brl (hf:Bm2 P f) (h:∀(s:ByteArray) (c:Int) (w:World),Calls P f #[.string s,.int .u8 c] w λ e w'=>e= .returned (.int .i64 (Lib.indexByte s.data.toList c.toNat.toUInt8))/\w'=w):
 Ub T ti eqs P f (f1 [.str,.int .u8] (.int .i64) λ x=>Ji x.1 x.2.1):=
 Bnb hf rfl rfl λ x z hz w=>by
  obtain⟨s,c,u⟩:=x
  obtain⟨hc,hz⟩:=A8 hz
  cases hz
  refine(h ⟨s.toArray⟩ c w).mono ?_
  rintro e w' ⟨rfl,rfl⟩
  refine⟨?_,U1.refl _⟩
  show _=Ending.returned (Value.int .i64 _)
  rw[Yq]
  simp only[B1s hc.1 hc.2]
theorem B43 (hf:Bm2 P f) (h:∀(s:ByteArray) (c:UInt8) (w:World),Calls P f #[.string s,.string ⟨#[c]⟩] w λ e w'=>e= .returned (.int .i64 (Lib.indexByte s.data.toList c))/\w'=w):
 Ub T ti eqs P f (f1 [.str,.str] (.int .i64) λ x=>Qh x.1 x.2.1):=
 Bnb hf rfl rfl λ x z hz w=>by
  obtain⟨s,t,u⟩:=x
  obtain⟨ht,hz⟩:=A8 hz
  cases hz
  match t,ht with
  |[c],_=>
   refine(h ⟨s.toArray⟩ c w).mono ?_
   rintro e w' ⟨rfl,rfl⟩
   refine⟨?_,U1.refl _⟩
   show _=Ending.returned (Value.int .i64 _)
   rw[Yq]
   rfl
theorem Bth (hf:Bm2 P f) (h:∀(s chars:ByteArray) (w:World),s.size<4294967281->chars.size<4294967281->(∀(j:Nat) b,s.data.toList[j]?=some b->b.toNat<128)->(∀(j:Nat) b,chars.data.toList[j]?=some b->b.toNat<128)->
 Calls P f #[.string s,.string chars] w λ e w'=>e= .returned (.int .i64 (Lib.indexAny s.data.toList chars.data.toList))/\RowKit.Below w.heap.size w w'):
 Ub T ti eqs P f (f1 [.str,.str] (.int .i64) λ x=>Tq x.1 x.2.1):=
 Bnb hf rfl rfl λ x z hz w=>by
  obtain⟨s,t,u⟩:=x
  obtain⟨⟨h1,h2,h3,h4⟩,hz⟩:=A8 hz
  cases hz
  refine(h ⟨s.toArray⟩ ⟨t.toArray⟩ w h3 h4 (λ j b hb=>h1 b (List.mem_of_getElem? hb)) (λ j b hb=>h2 b (List.mem_of_getElem? hb))).mono ?_
  rintro e w' ⟨rfl,hb⟩
  refine⟨?_,Aml hb⟩
  show _=Ending.returned (Value.int .i64 _)
  rw[Bml]
theorem Awq (s:List UInt8):∀n,Lib.repeatL s n=(List.replicate n s).flatten
 |0=>rfl
 |n+1=>by rw[Lib.repeatL,Awq s n,List.replicate_succ,List.flatten_cons]
theorem B30 (hf:Bm2 P f) (h:∀(s:ByteArray) (c:Nat) (w:World),c<=9223372036854775807->s.size*c<=140737488355328->
 Calls P f #[.string s,.int .i64 c] w λ e w'=>e= .returned (.string ⟨(Lib.repeatL s.data.toList c).toArray⟩)/\RowKit.Below w.heap.size w w'):
 Ub T ti eqs P f (f1 [.str,.int .i64] .str λ x=>Yz x.1 x.2.1):=
 Bnb hf rfl rfl λ x z hz w=>by
  obtain⟨s,n,u⟩:=x
  obtain⟨⟨h1,h2,h3⟩,hz⟩:=A8 hz
  cases hz
  simp only at h1 h2 h3
  obtain⟨n,rfl⟩:=Int.eq_ofNat_of_zero_le h1
  refine(h ⟨s.toArray⟩ n w (by omega) h2).mono ?_
  rintro e w' ⟨rfl,hb⟩
  refine⟨?_,Aml hb⟩
  show Ending.returned (Value.string _)=Ending.returned (Value.string _)
  rw[Awq];rfl
theorem B9h (s:List UInt8):∀(a:Nat),s.all Uo=true->Lib.decFrom a s=some (Si a s):=by
 induction s with
 |nil=>intro a _;rfl
 |cons c r ih=>
  intro a h
  simp only[List.all_cons,Bool.and_eq_true]at h
  have hd:Lib.digitVal c=some (c.toNat-48):=by
   have h2:=h.1
   simp only[Uo,Bool.and_eq_true,decide_eq_true_eq]at h2
   unfold Lib.digitVal
   rw[if_pos h2]
  have e1:Lib.decFrom a (c::r)=match Lib.digitVal c with|some d=>Lib.decFrom (a*10+d) r|none=>none:=rfl
  have e2:Si a (c::r)=Si (a*10+(c.toNat-48)) r:=rfl
  rw[e1,hd,e2]
  exact ih _ h.2
theorem B6l (s:List UInt8) (hne:s≠[]) (h:s.all Uo=true):Lib.atoi s=some (Si 0 s:Int):=by
 match s,hne,h with
 |c::r,_,h=>
  have hd:=B9h (c::r) 0 h
  simp only[List.all_cons,Bool.and_eq_true,Uo,decide_eq_true_eq]at h
  have h45:(c==45)=false:=by
   have:c≠45:=by rintro rfl;exact absurd h.1.1 (by decide)
   simpa using this
  have h43:(c==43)=false:=by
   have:c≠43:=by rintro rfl;exact absurd h.1.1 (by decide)
   simpa using this
  rw[Lib.atoi,h45,h43]
  simp only[Bool.false_eq_true,if_false,Lib.decNat,List.isEmpty_cons,hd,Option.map_some]
theorem Bta (hf:Bm2 P f) (h:∀(s:ByteArray) (w:World),s.size<4294967281->Calls P f #[.string s,.string ⟨#[46]⟩,.int .i64 0,.int .i64 (-1)] w λ e w'=>∃t,e= .returned (.slice (some ⟨w.heap.size,0,none⟩) (Lib.splitB ⟨#[46]⟩ 0 (Lib.countB s ⟨#[46]⟩) s).length (Lib.countB s ⟨#[46]⟩+1))/\
 w'=w.alloc (.cells (Lib.cellsOf (Lib.splitB ⟨#[46]⟩ 0 (Lib.countB s ⟨#[46]⟩) s) (Lib.countB s ⟨#[46]⟩+1)) t)):
 Ub T ti eqs P f (f1 [.str,.str,.int .i64,.int .i64] (.sl .str) λ x=>Iz x.1 x.2.1 x.2.2.1 x.2.2.2.1):=
 B4d hf rfl λ x z hz w=>by
  obtain⟨s,t,v,n,u⟩:=x
  obtain⟨⟨h1,h2,h3,h4⟩,hz⟩:=A8 hz
  cases hz
  simp only at h1 h2 h3 h4
  subst h1 h2 h3
  refine(h ⟨s.toArray⟩ w h4).mono ?_
  rintro e w' ⟨t,rfl,rfl⟩
  have hsp:(Lib.splitB ⟨#[46]⟩ 0 (Lib.countB ⟨s.toArray⟩ ⟨#[46]⟩) ⟨s.toArray⟩).map (·.data.toList)=B3 [] s:=by
   rw[Lib.splitB_data]
   show Lib.splitK [46] 0 (Lib.count s [46]) s=_
   rw[Lib.count_one]
   exact At8 _ _ (Nat.le_refl _)
  have hlen:(Lib.splitB ⟨#[46]⟩ 0 (Lib.countB ⟨s.toArray⟩ ⟨#[46]⟩) ⟨s.toArray⟩).length=(B3 [] s).length:=by rw[<-hsp,List.length_map]
  have hle:=Lib.splitB_length_le ⟨#[46]⟩ 0 (Lib.countB ⟨s.toArray⟩ ⟨#[46]⟩) ⟨s.toArray⟩
  show∃(cap:Nat) (cs:Array Value) (et:TypeId),_/\(B3 [] s).length<=cap/\_/\∀i,i<(B3 [] s).length->cs[i]?=some (.string ⟨((B3 [] s).getD i []).toArray⟩)
  refine⟨_,_,t,by rw[hlen],by rw[<-hlen];exact hle,rfl,λ i hi=> ?_⟩
  generalize Lib.splitB ⟨#[46]⟩ 0 (Lib.countB ⟨s.toArray⟩ ⟨#[46]⟩) ⟨s.toArray⟩=L at*
  have hi':i<L.length:=by omega
  unfold Lib.cellsOf
  rw[List.getElem?_toArray,List.getElem?_append_left (by simpa using hi'),List.getElem?_map,List.getElem?_eq_getElem hi']
  have:(B3 [] s).getD i []=L[i].data.toList:=by
   rw[<-hsp,List.getD_eq_getElem?_getD,List.getElem?_map,List.getElem?_eq_getElem hi'];rfl
  rw[this]
  rfl
theorem Bj3:∀xs:List Int,(xs.map λ n=>[Value.int .i64 n]).flatten=xs.map (Value.int .i64)
 |[]=>rfl
 |x::r=>by rw[List.map_cons,List.flatten_cons,Bj3 r];rfl
theorem Bj5 {ok:Nat->Prop} {w:World}:∀xs:List Int,Ba (λ (x:Int) (cs:List Value)=>Bl ok w (Ty.av T (.int .i64) x) cs/\cs.length=(Ty.int .i64).sz T) xs (xs.map λ n=>[Value.int .i64 n])
 |[]=> .nil
 |x::r=> .cons ⟨rfl,rfl⟩ (Bj5 r)
theorem B6f {e:TypeId} (he:e≠0) (hf:Bm2 P f) (h0:∀(n c:Nat) (w:World),Calls P f #[.slice none n c] w λ e w'=>e= .returned (.slice none 0 0)/\w'=w)
 (h1:∀(a:Addr) (c:Nat) (w:World),Calls P f #[.slice (some a) 0 c] w λ r w'=>∃v',r= .returned v'/\w'.ownsRow w.heap.size e 1 v' 0 []/\v'≠ .slice none 0 0/\RowKit.Below w.heap.size w w')
 (h2:∀(b off n c:Nat) (zs:List Int) (w:World),n<=zs.length->n*8<=140737488355328->(∀j,j<zs.length->w.cell? ⟨b,off+j,none⟩=some (.int .i64 (zs.getD j 0)))->
  Calls P f #[.slice (some ⟨b,off,none⟩) n c] w λ r w'=>∃v',r= .returned v'/\w'.ownsRow w.heap.size e 1 v' n ((zs.take n).map (Value.int .i64))/\v'≠ .slice none 0 0/\RowKit.Below w.heap.size w w'):
 Ub T ti eqs P f ⟨[.sl (.int .i64)],[.sl (.int .i64)],[],[[(e,0)]],List Int,λ x=>Du x.1,λ r=>(r,())⟩:=by
 refine⟨hf,λ x y hy okp w vs own hargs hnd hown hokp=> ?_⟩
 obtain⟨xs,u⟩:=x
 have hy:Option.map (λ r:List Int=>(r,())) (Du xs)=some y:=hy
 obtain⟨z,hz,rfl⟩:=Option.map_eq_some_iff.1 hy
 obtain⟨hlen,hz⟩:=A8 hz
 cases hz
 obtain⟨v,vr,o1,o2,rfl,rfl,ha,rfl,rfl⟩:=hargs
 have ha:X4 T okp w 0 (.sl (.int .i64)) xs v o1:=ha
 cases ha with
 |data hd=>
 have hd:Bl okp w (.sl 1 false (xs.map λ n=>AV.int .i64 n)) [v]:=hd
 obtain⟨a,cap,hv,hcap,hn,_,hmem⟩:=hd
 rw[List.length_map]at hv hcap
 cases hv
 -- what comes of a row of its own
 have fin:∀(w':World) (v':Value),w'.ownsRow w.heap.size e 1 v' xs.length (xs.map (Value.int .i64))->U1 w w'->
  ∃rs own',Ending.returned v'= .returned (Arb rs)/\But [] w w'/\own'.Nodup/\(∀b∈own',b<w'.heap.size/\(w.heap.size<=b\/b∈([]:List Nat)))/\
   X5 T (λ b=>b<w'.heap.size/\(okp b\/w.heap.size<=b\/b∈([]:List Nat))/\b∉own') w' [[(e,0)]] [.sl (.int .i64)] (xs,()) rs own':=by
  intro w' v' hr hg
  have hb:∀b,v'.ownBlock=some b->w.heap.size<=b/\b<w'.heap.size:=by
   intro b hb
   rcases hr.2 with⟨rfl,_⟩|⟨g,cap,cur,rfl,h3,h4,_⟩
   ·cases hb
   ·cases hb
    refine⟨h3, ?_⟩
    rcases Nat.lt_or_ge g w'.heap.size with h|h
    ·exact h
    ·rw[Array.getElem?_eq_none h]at h4;cases h4
  refine⟨[v'],v'.ownBlock.toList,rfl,Bvf hg, ?_,λ b hbm=> ?_,v',[],v'.ownBlock.toList,[],rfl,by simp,⟨[v'], ?_,rfl⟩,rfl,rfl⟩
  ·cases v'.ownBlock<;>simp
  ·have:=hb b (by simpa using hbm)
   exact⟨this.2,.inl this.1⟩
  ·have:=Dp.arr (T:=T) (ok:=λ b=>b<w'.heap.size/\(okp b\/w.heap.size<=b\/b∈([]:List Nat))/\b∉v'.ownBlock.toList) (w:=w') (e:=e) (os:=[]) (t:= .int .i64) (st:=false) (xs:=xs) (ls:=[]) (v:=v') (vs:=[]) (ow:=[]) he ⟨xs.map λ n=>[.int .i64 n], ?_, ?_⟩ .nil
   ·rw[List.append_nil]at this;exact this
   ·rw[Bj3]
    refine⟨hr.1, ?_⟩
    rcases hr.2 with h|⟨g,cap,cur,q1,q2,q3⟩
    ·exact .inl h
    ·exact .inr ⟨g,cap,cur,q1,Nat.zero_le _,q3⟩
   ·exact Bj5 xs
 match a,hn,hmem with
 |none,hn,_=>
  have:xs.length=0:=by have:=hn rfl;omega
  have hx:xs=[]:=List.eq_nil_of_length_eq_zero this
  subst hx
  refine(h0 _ cap w).mono ?_
  rintro r w' ⟨rfl,rfl⟩
  exact fin w' _ ⟨rfl,.inl ⟨rfl,rfl⟩⟩ (U1.refl _)
 |some ad,_,hmem=>
  by_cases hx:xs=[]
  ·subst hx
   refine(h1 ad cap w).mono ?_
   rintro r w' ⟨v',rfl,hr,_,hb⟩
   exact fin w' v' hr (Aml hb)
  ·obtain⟨hsp,hm⟩:=hmem ad rfl
   have hsp:=hsp (by simpa using hx)
   obtain⟨b,o,sp⟩:=ad
   simp only at hsp hm
   subst hsp
   refine(h2 b o xs.length cap xs w (Nat.le_refl _) hlen (λ j hj=> ?_)).mono ?_
   ·obtain⟨cs,q1,q2,q3⟩:=Fl.get _ _ _ hm j (.int .i64 (xs.getD j 0)) (by rw[List.getElem?_map,List.getElem?_eq_getElem hj,List.getD_eq_getElem?_getD,List.getElem?_eq_getElem hj];rfl)
    have q1:cs=[Value.int .i64 (xs.getD j 0)]:=q1
    subst q1
    have:=q3.2 0 _ rfl
    rw[Nat.mul_one,Nat.add_zero]at this
    exact this
   ·rintro r w' ⟨v',rfl,hr,_,hb⟩
    rw[List.take_length]at hr
    exact fin w' v' hr (Aml hb)
def B7w (E:Nat->Type):FX E:=⟨[.S 0 false,.v .str],[.S 0 false,.v (.int .i64),.S 1 false,.k .nif],Int,λ x=>Apx x.1,λ r=>(r,())⟩
theorem Caa {t:TypeId} (hf:Bm2 P f) (h:∀(s:ByteArray) (n:Int) (w:World),s.size<=18->Lib.atoi s.data.toList=some n->
 Calls P f #[.string s] w λ e w'=>e= .returned (.tuple #[.int .i64 n,.nilIface])/\∃b,w'=Lib.bytesWorld w t b):Ae3 T P f (B7w T.E):=by
 refine⟨hf,λ x z hz args res ha hr C β w vs M hvs=> ?_⟩
 obtain⟨s,u⟩:=x
 obtain⟨⟨h1,h2,h3⟩,hz⟩:=A8 hz
 cases hz
 cases ha
 cases hr
 cases hvs with
 |cons k1 k2=>
 cases k2
 rename_i v
 have k1:v= .string ⟨s.toArray⟩:=k1
 subst k1
 refine(h ⟨s.toArray⟩ _ w h1 (B6l s h2 h3)).mono ?_
 rintro e w' ⟨rfl,b,rfl⟩
 have g:U1 w (Lib.bytesWorld w t b):=⟨rfl,rfl,rfl,by rw[Lib.bytesWorld_size];omega,λ j hj=>Lib.bytesWorld_at_old w t b j hj⟩
 obtain⟨M',_⟩:=Bk.grow (T:=T) M g
 refine⟨β,[.int .i64 (Si 0 s),.nilIface],rfl,M',.cons rfl (.cons rfl .nil),λ _ _=>rfl⟩
end
end Go.Ab
namespace Go.Proofs
open Go Go.RowKit Go.Shelf
attribute [local go_sem] Oper.semAt_some
def utL (l:List Int) (n d:Int):List Value:=(l++List.replicate (7-l.length) 0).map (Value.int .i64)++[.int .i64 n,.int .i64 d]
set_option maxRecDepth 100000 in
set_option maxHeartbeats 4000000 in
theorem ut_in (n d:Int) (l:List Int) (hl:l.length<=7) (ad:Option Addr) (cap:Nat) (w:World) (hs:l≠[]->∃a,ad=some a/\∀j v,(l.map (Value.int .i64))[j]?=some v->w.cell? (a.add j)=some v):
 Calls Go.Proofs.Tryz.prog 259 #[.int .i64 n,.int .i64 d,.slice ad l.length cap] w λ e w'=>e= .returned (.agg (utL l n d).toArray)/\w.grownBy w' none:=by
 refine calls_of_wp (fn:=Tryz.f259) (by kernel_rfl) (c:=(Tryz.f259.body.getD .skip)) (by kernel_rfl) ?_
 have hn:Tryz.f259.ntmps=17:=by kernel_rfl
 simp only[hn,List.size_toArray,List.length_cons,List.length_nil,Nat.reduceAdd,Nat.reduceSub,Array.replicate_succ,Array.replicate_zero,List.push_toArray,List.append_toArray,List.nil_append,List.cons_append]
 unfold Tryz.f259
 simp only[Option.getD_some]
 obtain⟨c0,c1,c2,c3,c4,c5,c6,hL⟩:∃c0 c1 c2 c3 c4 c5 c6,l++List.replicate (7-l.length) 0=[c0,c1,c2,c3,c4,c5,c6]:=by
  have:(l++List.replicate (7-l.length) (0:Int)).length=7:=by simp;omega
  match l++List.replicate (7-l.length) (0:Int),this with
  |[a,b,c,d,e,f,g],_=>exact⟨a,b,c,d,e,f,g,rfl⟩
 have hU:utL l n d=[.int .i64 c0,.int .i64 c1,.int .i64 c2,.int .i64 c3,.int .i64 c4,.int .i64 c5,.int .i64 c6,.int .i64 n,.int .i64 d]:=by unfold utL;rw[hL];rfl
 have key:(Builtin.copy_ #[88,88] 3 #[Value.slice (some {block:=w.heap.size+1,off:=0}) 7 7,Value.slice ad l.length cap]).run Tryz.prog ((w.alloc (Obj.cells #[Value.int IntKind.i64 0,Value.int IntKind.i64 0,Value.int IntKind.i64 0,Value.int IntKind.i64 0,Value.int IntKind.i64 0,Value.int IntKind.i64 0,Value.int IntKind.i64 0,Value.int IntKind.i64 0,Value.int IntKind.i64 0] 198)).alloc (Obj.cells #[Value.int IntKind.i64 0,Value.int IntKind.i64 0,Value.int IntKind.i64 0,Value.int IntKind.i64 0,Value.int IntKind.i64 0,Value.int IntKind.i64 0,Value.int IntKind.i64 0,Value.int IntKind.i64 n,Value.int IntKind.i64 d] 198))= .ok (goInt l.length) ((w.alloc (Obj.cells #[Value.int IntKind.i64 0,Value.int IntKind.i64 0,Value.int IntKind.i64 0,Value.int IntKind.i64 0,Value.int IntKind.i64 0,Value.int IntKind.i64 0,Value.int IntKind.i64 0,Value.int IntKind.i64 0,Value.int IntKind.i64 0] 198)).alloc (.cells #[.int .i64 c0,.int .i64 c1,.int .i64 c2,.int .i64 c3,.int .i64 c4,.int .i64 c5,.int .i64 c6,.int .i64 n,.int .i64 d] 198)):=by
  have hcell:∀(w:World) (o:Obj) (x:Addr) (v:Value),w.cell? x=some v->(w.alloc o).cell? x=some v:=by
   intro w o x v h
   have hb:x.block<w.heap.size:=by
    unfold World.cell? at h
    cases hk:w.heap[x.block]? with
    |none=>simp[hk]at h
    |some o=>exact(Array.getElem?_eq_some_iff.1 hk).1
   exact(World.cell?_of_block (Below.heap_alloc w o x.block hb)).trans h
  have hrow:∀(w:World) (A:Obj) (cs cs':Array Value) (t:TypeId),((w.alloc A).alloc (.cells cs t (0,0))).setRow (w.heap.size+1) cs'=(w.alloc A).alloc (.cells cs' t (0,0)):=by
   intro w A cs cs' t
   unfold World.setRow World.alloc
   congr 1
   apply Array.ext'
   have hm:∀(l:List Obj) (a b:Obj) (f:Obj->Obj),(l++[a,b]).modify (l.length+1) f=l++[a,f b]:=by
    intro l a b f
    induction l with
    |nil=>rfl
    |cons x l ih=>simpa using ih
   have q:=hm w.heap.toList A (.cells cs t (0,0))
   rw[Array.length_toList]at q
   simp[Array.toList_modify]
   exact q _
  by_cases h0:l=[]
  ·subst h0
   simp only[List.length_nil,Nat.sub_zero,List.nil_append]at hL
   cases hL
   exact run_copy_none _ 88 88 3 3 _ _ 7 7 0 cap (by kernel_rfl) (by kernel_rfl) rfl
  ·obtain⟨a,rfl,hsrc⟩:=hs h0
   have q:=run_copy_row (P:=Tryz.prog) ((w.alloc (Obj.cells #[Value.int IntKind.i64 0,Value.int IntKind.i64 0,Value.int IntKind.i64 0,Value.int IntKind.i64 0,Value.int IntKind.i64 0,Value.int IntKind.i64 0,Value.int IntKind.i64 0,Value.int IntKind.i64 0,Value.int IntKind.i64 0] 198)).alloc (Obj.cells #[Value.int IntKind.i64 0,Value.int IntKind.i64 0,Value.int IntKind.i64 0,Value.int IntKind.i64 0,Value.int IntKind.i64 0,Value.int IntKind.i64 0,Value.int IntKind.i64 0,Value.int IntKind.i64 n,Value.int IntKind.i64 d] 198)) 88 88 3 3 (w.heap.size+1) 0 7 7 a l.length cap _ 198 (l.map (Value.int .i64)) (by kernel_rfl) (by kernel_rfl) (by have:=Go.heap_alloc_new (w.alloc (Obj.cells #[Value.int IntKind.i64 0,Value.int IntKind.i64 0,Value.int IntKind.i64 0,Value.int IntKind.i64 0,Value.int IntKind.i64 0,Value.int IntKind.i64 0,Value.int IntKind.i64 0,Value.int IntKind.i64 0,Value.int IntKind.i64 0] 198)) (Obj.cells #[Value.int IntKind.i64 0,Value.int IntKind.i64 0,Value.int IntKind.i64 0,Value.int IntKind.i64 0,Value.int IntKind.i64 0,Value.int IntKind.i64 0,Value.int IntKind.i64 0,Value.int IntKind.i64 n,Value.int IntKind.i64 d] 198);rwa [World.size_alloc]at this) (by rw[List.length_map];exact(Nat.min_eq_left hl).symm) (λ j v hv=>hcell _ _ _ _ (hcell _ _ _ _ (hsrc j v hv))) (by simp;omega) (by simp[Value.oneCell'])
   rw[q,hrow,List.length_map]
   refine congrArg (λ z=>Result.ok (goInt l.length) ((w.alloc (Obj.cells #[Value.int IntKind.i64 0,Value.int IntKind.i64 0,Value.int IntKind.i64 0,Value.int IntKind.i64 0,Value.int IntKind.i64 0,Value.int IntKind.i64 0,Value.int IntKind.i64 0,Value.int IntKind.i64 0,Value.int IntKind.i64 0] 198)).alloc (.cells z 198))) ?_
   clear q hsrc hs hU hn hcell hrow
   rcases l with _|⟨x0,_|⟨x1,_|⟨x2,_|⟨x3,_|⟨x4,_|⟨x5,_|⟨x6,_|⟨x7,r⟩⟩⟩⟩⟩⟩⟩⟩
   case nil=>exact absurd rfl h0
   case cons.cons.cons.cons.cons.cons.cons.cons=>simp at hl
   all_goals (simp[List.replicate_succ]at hL;simp[hL]<;>omega)
 rw[hU]
 go_wp2
 refine⟨rfl,_, ?_,rfl, ?_⟩
 ·exact results_cell_row rfl _ _ w.heap.size 198 _ (0,0) (Tryz.prog.underlying 198|>.getD .bool) rfl ((Below.heap_alloc _ _ _ (by simp)).trans (Go.heap_alloc_new _ _)) (by kernel_rfl) (by kernel_rfl) (by kernel_rfl)
 ·exact(World.grownBy_alloc _ _ none).trans (World.grownBy_alloc _ _ none)
end Go.Proofs
