/-
  DERIVED: THE SHELF's CONTRACTS AT THIS DUMP, IN PLAIN WORDS (tools/lay-plain.mjs out of 'GreatShelf.lean', which tools/lay-shelf.mjs wrote): THE SAME DECLARATIONS UNDER THE SAME NAMES: 'import', 'namespace', 'open', 'def', 'theorem' AND NOTHING ELSE: no command of the shelf's: FOR A HAND-IN. Each laying: the table of numbers ('.._ren') and one theorem, a field a fact of the dump's own or the kernel's comparison;each contract: ONE APPLICATION.
-/
import Derived.Shelf.Strings.Builder1
import Derived.Shelf.Strings.Trim
import Derived.Shelf.Small.Utf8
import Derived.Shelf.Small.Strs
import Derived.Shelf.Strconv.Atoi
import Derived.Shelf.Strconv.Itoa0
import Derived.Shelf.Strconv.Itoa1
import Derived.Shelf.LaysM
import Derived.Shelf.Strconv.Itoa2
import Derived.Shelf.Strconv.Itoa3
import Derived.Shelf.Strconv.AtoiErrFast
import Derived.Shelf.Strconv.ParseIntEmpty
import Derived.Shelf.Strconv.AtoiFail
import Derived.Shelf.Strconv.Clone
import Derived.Shelf.Strconv.SyntaxError
import Derived.Shelf.LaysC
import Derived.Shelf.Strconv.ToError
import Derived.Shelf.Strconv.Lower
import Derived.Shelf.Strconv.ParseUint10
import Derived.Shelf.Strconv.ParseUint10Empty
import Derived.Shelf.Strconv.ParseUint10Any
import Derived.Shelf.Strconv.ParseInt10
import Derived.Shelf.Strconv.AtoiLong
import Derived.Shelf.Strconv.AtoiInnerAll
import Derived.Shelf.Strconv.RangeError
import Derived.Shelf.Strconv.ToErrorRange
import Derived.Shelf.Strconv.AtoiAll
import Derived.Shelf.Strconv.ErrVarAll
import Derived.Shelf.Strings.Search1
import Derived.Shelf.Strings.Search2
import Derived.Shelf.Strings.Search3
import Derived.Shelf.Strings.Shaped
import Derived.Shelf.Strings.Prefix
import Derived.Shelf.Strings.Fields
import Derived.Shelf.Unicode.Latin
import Derived.Shelf.Strings.Runes
import Derived.Shelf.Strings.IndexAny
import Derived.Shelf.Strings.AsciiSet
import Derived.Shelf.Strings.IndexAnyAll
import Derived.Shelf.Bits.Mul64
import Derived.Shelf.Unicode.DecodeSlow
import Derived.Shelf.Unicode.DecodeAny
import Derived.Shelf.Unicode.Is16White
import Derived.Shelf.Unicode.IsSpaceAny
import Derived.Shelf.Unicode.DecodeLast
import Derived.Shelf.Unicode.Is16WhiteD
import Derived.Shelf.Unicode.IsSpaceAnyD
import Derived.Shelf.Strings.FieldsAny
import Derived.Shelf.Strings.FieldsFuncAny
import Derived.Shelf.Unicode.Is16Any
import Derived.Shelf.Unicode.Is32Any
import Derived.Shelf.Unicode.ExclAny
import Derived.Shelf.Strings.FieldsFuncGrows
import Derived.Shelf.Slices.Turned
import Derived.Ground.Names2Prog
import Derived.Shelf.Slices.Clone
import Derived.Shelf.Bytes.SlSearch0
import Derived.Ground.SlgnProg
import Derived.Shelf.SlicesE.Clone
import Derived.Shelf.Bytes.SlEqualAll
import Derived.Shelf.Bytes.Small
import Derived.Test.YtohfclafhegadaaGreatDoorProg
namespace Go.Proofs
open Go.Shelf
def Tryz.lays137_ren:Go.Shelf.Ren:=⟨fun|137=>227|217=>249|266=>260|n=>n, fun|9=>9|5=>5|3=>3|n=>n, fun|n=>n⟩
theorem Tryz.lays137:Go.Proofs.Lays.n137 Tryz.prog Tryz.lays137_ren:={
  mixed:=by kernel_rfl
  f137:=Tryz.func227.trans (congrArg some (by kernel_rfl))
  f217:=Tryz.func249.trans (congrArg some (by kernel_rfl))
  f266:=Tryz.func260.trans (congrArg some (by kernel_rfl))
  t3:=Tryz.underlying3
  a3:=Tryz.isAgg3
  z3:=Tryz.sizeOf3
  v3:=Tryz.zeroValue3
  t5:=Tryz.underlying5
  a5:=Tryz.isAgg5
  z5:=Tryz.sizeOf5
  v5:=Tryz.zeroValue5
  t9:=Tryz.underlying9
  a9:=Tryz.isAgg9
  z9:=Tryz.sizeOf9
  v9:=Tryz.zeroValue9 }
open Go.RowKit in
theorem Tryz.strings_IndexByte(s:ByteArray)(c:Int)(w:World):
    Calls Tryz.prog 227 #[.string s, .int .u8 c] w λe w'=>e=.returned (.int .i64 (Lib.indexByte s.data.toList c.toNat.toUInt8))/\w'=w:=Any.strings_IndexByte Tryz.lays137 s c w
def Tryz.laysM171_ren:Go.Shelf.Ren:=⟨fun|171=>64|243=>130|246=>176|283=>212|284=>213|285=>214|286=>215|129=>241|317=>240|318=>242|319=>243|320=>244|337=>254|338=>255|n=>n, fun|3=>3|9=>9|2=>2|4=>4|171=>246|0=>0|53=>174|37=>32|5=>5|173=>249|212=>282|51=>197|20=>20|213=>283|46=>116|232=>299|233=>300|n=>n, fun|17=>9|18=>12|19=>13|n=>n⟩
theorem Tryz.laysM171:Go.Proofs.LaysM.n171 Tryz.prog Tryz.laysM171_ren:={
  mixed:=by kernel_rfl
  f129:=Tryz.func241.trans (congrArg some (by kernel_rfl))
  f171:=Tryz.func64.trans (congrArg some (by kernel_rfl))
  f243:=Tryz.func130.trans (congrArg some (by kernel_rfl))
  f246:=Tryz.func176.trans (congrArg some (by kernel_rfl))
  f283:=Tryz.func212.trans (congrArg some (by kernel_rfl))
  f284:=Tryz.func213.trans (congrArg some (by kernel_rfl))
  f285:=Tryz.func214.trans (congrArg some (by kernel_rfl))
  f286:=Tryz.func215.trans (congrArg some (by kernel_rfl))
  f317:=Tryz.func240.trans (congrArg some (by kernel_rfl))
  f318:=Tryz.func242.trans (congrArg some (by kernel_rfl))
  f319:=Tryz.func243.trans (congrArg some (by kernel_rfl))
  f320:=Tryz.func244.trans (congrArg some (by kernel_rfl))
  f337:=Tryz.func254.trans (congrArg some (by kernel_rfl))
  f338:=Tryz.func255.trans (congrArg some (by kernel_rfl))
  t0:=Tryz.underlying0
  a0:=Tryz.isAgg0
  z0:=Tryz.sizeOf0
  v0:=Tryz.zeroValue0
  t2:=Tryz.underlying2
  a2:=Tryz.isAgg2
  z2:=Tryz.sizeOf2
  v2:=Tryz.zeroValue2
  t3:=Tryz.underlying3
  a3:=Tryz.isAgg3
  z3:=Tryz.sizeOf3
  v3:=Tryz.zeroValue3
  t4:=Tryz.underlying4
  a4:=Tryz.isAgg4
  z4:=Tryz.sizeOf4
  v4:=Tryz.zeroValue4
  t5:=Tryz.underlying5
  a5:=Tryz.isAgg5
  z5:=Tryz.sizeOf5
  v5:=Tryz.zeroValue5
  t9:=Tryz.underlying9
  a9:=Tryz.isAgg9
  z9:=Tryz.sizeOf9
  v9:=Tryz.zeroValue9
  t20:=Tryz.underlying20
  a20:=Tryz.isAgg20
  z20:=Tryz.sizeOf20
  v20:=Tryz.zeroValue20
  t37:=Tryz.underlying32
  a37:=Tryz.isAgg32
  z37:=Tryz.sizeOf32
  v37:=Tryz.zeroValue32
  t46:=Tryz.underlying116
  a46:=Tryz.isAgg116
  z46:=Tryz.sizeOf116
  v46:=Tryz.zeroValue116
  t51:=Tryz.underlying197
  a51:=Tryz.isAgg197
  z51:=Tryz.sizeOf197
  v51:=Tryz.zeroValue197
  t53:=Tryz.underlying174
  a53:=Tryz.isAgg174
  z53:=Tryz.sizeOf174
  v53:=Tryz.zeroValue174
  t171:=Tryz.underlying246
  a171:=Tryz.isAgg246
  z171:=Tryz.sizeOf246
  v171:=Tryz.zeroValue246
  t173:=Tryz.underlying249
  a173:=Tryz.isAgg249
  z173:=Tryz.sizeOf249
  v173:=Tryz.zeroValue249
  t212:=Tryz.underlying282
  a212:=Tryz.isAgg282
  z212:=Tryz.sizeOf282
  v212:=Tryz.zeroValue282
  t213:=Tryz.underlying283
  a213:=Tryz.isAgg283
  z213:=Tryz.sizeOf283
  t232:=Tryz.underlying299
  a232:=Tryz.isAgg299
  z232:=Tryz.sizeOf299
  v232:=Tryz.zeroValue299
  t233:=Tryz.underlying300
  a233:=Tryz.isAgg300
  z233:=Tryz.sizeOf300
  v233:=Tryz.zeroValue300
  g17:=by kernel_rfl
  g18:=by kernel_rfl
  g19:=by kernel_rfl
  i0:=by kernel_rfl
  i2:=by kernel_rfl
  i3:=by kernel_rfl
  i4:=by kernel_rfl
  i5:=by kernel_rfl
  i9:=by kernel_rfl
  i20:=by kernel_rfl
  i37:=by kernel_rfl
  i46:=by kernel_rfl
  i51:=by kernel_rfl
  i53:=by kernel_rfl
  i171:=by kernel_rfl
  i173:=by kernel_rfl
  i212:=by kernel_rfl
  i232:=by kernel_rfl
  i233:=by kernel_rfl
  m17:=by kernel_rfl
  m18:=by kernel_rfl
  m19:=by kernel_rfl }
open Go.RowKit Go.Sort Go.Lib in
theorem Tryz.strconv_Itoa (n : Int) (h0 : -9223372036854775808 <= n) (h1 : n <= 9223372036854775807) (w : World) (htab : Lib.TabIs Tryz.prog w "internal/strconv.uint64pow10" .u64 Lib.pow10Tab) :
    Calls Tryz.prog 64 #[.int .i64 n] w λe w'=>e=.returned (.string ⟨(Lib.itoa n).toArray⟩)/\∃k os, w'=grow (w.drewN k) os:=Any.strconv_Itoa Tryz.laysM171 n h0 h1 w htab
def Tryz.laysC172_ren:Go.Shelf.Ren:=⟨fun|172=>114|244=>165|245=>166|247=>200|279=>201|280=>202|281=>203|282=>204|287=>233|316=>234|171=>64|205=>235|321=>252|322=>253|243=>130|246=>176|283=>212|284=>213|285=>214|286=>215|129=>241|317=>240|318=>242|319=>243|320=>244|337=>254|338=>255|n=>n, fun|9=>9|3=>3|75=>139|76=>140|4=>4|5=>5|167=>235|37=>32|0=>0|85=>236|2=>2|168=>238|53=>174|175=>273|46=>116|210=>276|127=>160|145=>292|143=>290|21=>21|171=>246|173=>249|212=>282|51=>197|20=>20|213=>283|232=>299|233=>300|80=>92|n=>n, fun|15=>5|16=>6|17=>9|18=>12|19=>13|n=>n⟩
theorem Tryz.laysC172:Go.Proofs.LaysC.n172 Tryz.prog Tryz.laysC172_ren:={
  mixed:=by kernel_rfl
  f129:=Tryz.func241.trans (congrArg some (by kernel_rfl))
  f171:=Tryz.func64.trans (congrArg some (by kernel_rfl))
  f172:=Tryz.func114.trans (congrArg some (by kernel_rfl))
  f205:=Tryz.func235.trans (congrArg some (by kernel_rfl))
  f243:=Tryz.func130.trans (congrArg some (by kernel_rfl))
  f244:=Tryz.func165.trans (congrArg some (by kernel_rfl))
  f245:=Tryz.func166.trans (congrArg some (by kernel_rfl))
  f246:=Tryz.func176.trans (congrArg some (by kernel_rfl))
  f247:=Tryz.func200.trans (congrArg some (by kernel_rfl))
  f279:=Tryz.func201.trans (congrArg some (by kernel_rfl))
  f280:=Tryz.func202.trans (congrArg some (by kernel_rfl))
  f281:=Tryz.func203.trans (congrArg some (by kernel_rfl))
  f282:=Tryz.func204.trans (congrArg some (by kernel_rfl))
  f283:=Tryz.func212.trans (congrArg some (by kernel_rfl))
  f284:=Tryz.func213.trans (congrArg some (by kernel_rfl))
  f285:=Tryz.func214.trans (congrArg some (by kernel_rfl))
  f286:=Tryz.func215.trans (congrArg some (by kernel_rfl))
  f287:=Tryz.func233.trans (congrArg some (by kernel_rfl))
  f316:=Tryz.func234.trans (congrArg some (by kernel_rfl))
  f317:=Tryz.func240.trans (congrArg some (by kernel_rfl))
  f318:=Tryz.func242.trans (congrArg some (by kernel_rfl))
  f319:=Tryz.func243.trans (congrArg some (by kernel_rfl))
  f320:=Tryz.func244.trans (congrArg some (by kernel_rfl))
  f321:=Tryz.func252.trans (congrArg some (by kernel_rfl))
  f322:=Tryz.func253.trans (congrArg some (by kernel_rfl))
  f337:=Tryz.func254.trans (congrArg some (by kernel_rfl))
  f338:=Tryz.func255.trans (congrArg some (by kernel_rfl))
  t0:=Tryz.underlying0
  a0:=Tryz.isAgg0
  z0:=Tryz.sizeOf0
  v0:=Tryz.zeroValue0
  t2:=Tryz.underlying2
  a2:=Tryz.isAgg2
  z2:=Tryz.sizeOf2
  v2:=Tryz.zeroValue2
  t3:=Tryz.underlying3
  a3:=Tryz.isAgg3
  z3:=Tryz.sizeOf3
  v3:=Tryz.zeroValue3
  t4:=Tryz.underlying4
  a4:=Tryz.isAgg4
  z4:=Tryz.sizeOf4
  v4:=Tryz.zeroValue4
  t5:=Tryz.underlying5
  a5:=Tryz.isAgg5
  z5:=Tryz.sizeOf5
  v5:=Tryz.zeroValue5
  t9:=Tryz.underlying9
  a9:=Tryz.isAgg9
  z9:=Tryz.sizeOf9
  v9:=Tryz.zeroValue9
  t20:=Tryz.underlying20
  a20:=Tryz.isAgg20
  z20:=Tryz.sizeOf20
  v20:=Tryz.zeroValue20
  t21:=Tryz.underlying21
  a21:=Tryz.isAgg21
  z21:=Tryz.sizeOf21
  v21:=Tryz.zeroValue21
  t37:=Tryz.underlying32
  a37:=Tryz.isAgg32
  z37:=Tryz.sizeOf32
  v37:=Tryz.zeroValue32
  t46:=Tryz.underlying116
  a46:=Tryz.isAgg116
  z46:=Tryz.sizeOf116
  v46:=Tryz.zeroValue116
  t51:=Tryz.underlying197
  a51:=Tryz.isAgg197
  z51:=Tryz.sizeOf197
  v51:=Tryz.zeroValue197
  t53:=Tryz.underlying174
  a53:=Tryz.isAgg174
  z53:=Tryz.sizeOf174
  v53:=Tryz.zeroValue174
  t75:=Tryz.underlying139
  a75:=Tryz.isAgg139
  z75:=Tryz.sizeOf139
  v75:=Tryz.zeroValue139
  t76:=Tryz.underlying140
  a76:=Tryz.isAgg140
  z76:=Tryz.sizeOf140
  v76:=Tryz.zeroValue140
  t85:=Tryz.underlying236
  a85:=Tryz.isAgg236
  z85:=Tryz.sizeOf236
  v85:=Tryz.zeroValue236
  t127:=Tryz.underlying160
  a127:=Tryz.isAgg160
  z127:=Tryz.sizeOf160
  v127:=Tryz.zeroValue160
  t143:=Tryz.underlying290
  a143:=Tryz.isAgg290
  z143:=Tryz.sizeOf290
  v143:=Tryz.zeroValue290
  t145:=Tryz.underlying292
  a145:=Tryz.isAgg292
  z145:=Tryz.sizeOf292
  v145:=Tryz.zeroValue292
  t167:=Tryz.underlying235
  a167:=Tryz.isAgg235
  z167:=Tryz.sizeOf235
  v167:=Tryz.zeroValue235
  t168:=Tryz.underlying238
  a168:=Tryz.isAgg238
  z168:=Tryz.sizeOf238
  v168:=Tryz.zeroValue238
  t171:=Tryz.underlying246
  a171:=Tryz.isAgg246
  z171:=Tryz.sizeOf246
  v171:=Tryz.zeroValue246
  t173:=Tryz.underlying249
  a173:=Tryz.isAgg249
  z173:=Tryz.sizeOf249
  v173:=Tryz.zeroValue249
  t175:=Tryz.underlying273
  a175:=Tryz.isAgg273
  z175:=Tryz.sizeOf273
  v175:=Tryz.zeroValue273
  t210:=Tryz.underlying276
  a210:=Tryz.isAgg276
  z210:=Tryz.sizeOf276
  v210:=Tryz.zeroValue276
  t212:=Tryz.underlying282
  a212:=Tryz.isAgg282
  z212:=Tryz.sizeOf282
  v212:=Tryz.zeroValue282
  t213:=Tryz.underlying283
  a213:=Tryz.isAgg283
  z213:=Tryz.sizeOf283
  t232:=Tryz.underlying299
  a232:=Tryz.isAgg299
  z232:=Tryz.sizeOf299
  v232:=Tryz.zeroValue299
  t233:=Tryz.underlying300
  a233:=Tryz.isAgg300
  z233:=Tryz.sizeOf300
  v233:=Tryz.zeroValue300
  g15:=by kernel_rfl
  g16:=by kernel_rfl
  g17:=by kernel_rfl
  g18:=by kernel_rfl
  g19:=by kernel_rfl
  t80:=Tryz.underlying92
  a80:=Tryz.isAgg92
  z80:=Tryz.sizeOf92
  v80:=Tryz.zeroValue92
  i0:=by kernel_rfl
  i2:=by kernel_rfl
  i3:=by kernel_rfl
  i4:=by kernel_rfl
  i5:=by kernel_rfl
  i9:=by kernel_rfl
  i20:=by kernel_rfl
  i21:=by kernel_rfl
  i37:=by kernel_rfl
  i46:=by kernel_rfl
  i51:=by kernel_rfl
  i53:=by kernel_rfl
  i75:=by kernel_rfl
  i76:=by kernel_rfl
  i80:=by kernel_rfl
  i85:=by kernel_rfl
  i127:=by kernel_rfl
  i143:=by kernel_rfl
  i145:=by kernel_rfl
  i167:=by kernel_rfl
  i168:=by kernel_rfl
  i171:=by kernel_rfl
  i173:=by kernel_rfl
  i175:=by kernel_rfl
  i210:=by kernel_rfl
  i212:=by kernel_rfl
  i232:=by kernel_rfl
  i233:=by kernel_rfl
  m15:=by kernel_rfl
  m16:=by kernel_rfl
  m17:=by kernel_rfl
  m18:=by kernel_rfl
  m19:=by kernel_rfl
  c0:=by kernel_rfl
  c2:=by kernel_rfl
  c3:=by kernel_rfl
  c4:=by kernel_rfl
  c5:=by kernel_rfl
  c9:=by kernel_rfl
  c20:=by kernel_rfl
  c21:=by kernel_rfl
  c37:=by kernel_rfl
  c46:=by kernel_rfl
  c51:=by kernel_rfl
  c53:=by kernel_rfl
  c75:=by kernel_rfl
  c76:=by kernel_rfl
  c80:=by kernel_rfl
  c85:=by kernel_rfl
  c127:=by kernel_rfl
  c143:=by kernel_rfl
  c145:=by kernel_rfl
  c167:=by kernel_rfl
  c168:=by kernel_rfl
  c171:=by kernel_rfl
  c173:=by kernel_rfl
  c175:=by kernel_rfl
  c210:=by kernel_rfl
  c212:=by kernel_rfl
  c213:=by kernel_rfl
  c232:=by kernel_rfl
  c233:=by kernel_rfl }
open Go.RowKit in
theorem Tryz.strconv_Atoi_ok(s:ByteArray)(hmax:s.size<=9223372036854775806)(v:Int)(h:Lib.atoiAll s.data.toList=.ok v)(w:World):
    Calls Tryz.prog 114 #[.string s] w λe w'=>e=.returned (.tuple #[.int .i64 v, .nilIface])/\(w'=w\/∃t, w'=Lib.bytesWorld w 5 t):=Any.strconv_Atoi_ok Tryz.laysC172 s hmax v h w
open Go.RowKit in
theorem Tryz.strconv_Atoi_range(s:ByteArray)(hlim:s.size<=281474976710656)(h:Lib.atoiAll s.data.toList=.range)(ev:Value)(w:World)(hv:w.cell? ⟨6, 0, none⟩=some ev)(hev:ev=.nilIface\/∃te pe, ev=.iface te pe):
    Calls Tryz.prog 114 #[.string s] w λe w'=>∃N, e=.returned (.tuple #[.int .i64 (Lib.atoiSat s.data.toList), .iface 238 (.pointer (some ⟨N, 0, none⟩))])/\w.heap.size<=N/\w'.heap[N]?=some (.cells #[.string ⟨#[65, 116, 111, 105]⟩, .string s, ev] 276 (0, 0))/\Below w.heap.size w w':=Any.strconv_Atoi_range Tryz.laysC172 s hlim h ev w hv hev
def Tryz.lays144_ren:Go.Shelf.Ren:=⟨fun|144=>232|143=>251|219=>261|217=>249|225=>238|224=>237|267=>264|266=>260|314=>265|n=>n, fun|9=>9|4=>4|3=>3|5=>5|46=>116|146=>258|51=>197|n=>n, fun|1=>11|n=>n⟩
theorem Tryz.lays144:Go.Proofs.Lays.n144 Tryz.prog Tryz.lays144_ren:={
  mixed:=by kernel_rfl
  f143:=Tryz.func251.trans (congrArg some (by kernel_rfl))
  f144:=Tryz.func232.trans (congrArg some (by kernel_rfl))
  f217:=Tryz.func249.trans (congrArg some (by kernel_rfl))
  f219:=Tryz.func261.trans (congrArg some (by kernel_rfl))
  f224:=Tryz.func237.trans (congrArg some (by kernel_rfl))
  f225:=Tryz.func238.trans (congrArg some (by kernel_rfl))
  f266:=Tryz.func260.trans (congrArg some (by kernel_rfl))
  f267:=Tryz.func264.trans (congrArg some (by kernel_rfl))
  f314:=Tryz.func265.trans (congrArg some (by kernel_rfl))
  t3:=Tryz.underlying3
  a3:=Tryz.isAgg3
  z3:=Tryz.sizeOf3
  v3:=Tryz.zeroValue3
  t4:=Tryz.underlying4
  a4:=Tryz.isAgg4
  z4:=Tryz.sizeOf4
  v4:=Tryz.zeroValue4
  t5:=Tryz.underlying5
  a5:=Tryz.isAgg5
  z5:=Tryz.sizeOf5
  v5:=Tryz.zeroValue5
  t9:=Tryz.underlying9
  a9:=Tryz.isAgg9
  z9:=Tryz.sizeOf9
  v9:=Tryz.zeroValue9
  t46:=Tryz.underlying116
  a46:=Tryz.isAgg116
  z46:=Tryz.sizeOf116
  v46:=Tryz.zeroValue116
  t51:=Tryz.underlying197
  a51:=Tryz.isAgg197
  z51:=Tryz.sizeOf197
  v51:=Tryz.zeroValue197
  t146:=Tryz.underlying258
  a146:=Tryz.isAgg258
  z146:=Tryz.sizeOf258
  v146:=Tryz.zeroValue258
  g1:=by kernel_rfl }
open Go.RowKit Go.Lib in
theorem Tryz.strings_Contains(s sub:ByteArray)(m:Int)(w:World)(hs:s.size<4294967281)(hm:w.cell? ⟨11, 0, none⟩=some (.int .i64 m)):
    Calls Tryz.prog 232 #[.string s, .string sub] w λe w'=>e=.returned (.bool (Lib.contains s.data.toList sub.data.toList))/\w'=w:=Any.strings_Contains Tryz.lays144 s sub m w hs hm
def Tryz.laysM143_ren:Go.Shelf.Ren:=⟨fun|143=>251|219=>261|217=>249|225=>238|224=>237|267=>264|266=>260|314=>265|n=>n, fun|9=>9|3=>3|4=>4|5=>5|46=>116|146=>258|51=>197|n=>n, fun|1=>11|n=>n⟩
theorem Tryz.laysM143:Go.Proofs.LaysM.n143 Tryz.prog Tryz.laysM143_ren:={
  mixed:=by kernel_rfl
  f143:=Tryz.func251.trans (congrArg some (by kernel_rfl))
  f217:=Tryz.func249.trans (congrArg some (by kernel_rfl))
  f219:=Tryz.func261.trans (congrArg some (by kernel_rfl))
  f224:=Tryz.func237.trans (congrArg some (by kernel_rfl))
  f225:=Tryz.func238.trans (congrArg some (by kernel_rfl))
  f266:=Tryz.func260.trans (congrArg some (by kernel_rfl))
  f267:=Tryz.func264.trans (congrArg some (by kernel_rfl))
  f314:=Tryz.func265.trans (congrArg some (by kernel_rfl))
  t3:=Tryz.underlying3
  a3:=Tryz.isAgg3
  z3:=Tryz.sizeOf3
  v3:=Tryz.zeroValue3
  t4:=Tryz.underlying4
  a4:=Tryz.isAgg4
  z4:=Tryz.sizeOf4
  v4:=Tryz.zeroValue4
  t5:=Tryz.underlying5
  a5:=Tryz.isAgg5
  z5:=Tryz.sizeOf5
  v5:=Tryz.zeroValue5
  t9:=Tryz.underlying9
  a9:=Tryz.isAgg9
  z9:=Tryz.sizeOf9
  v9:=Tryz.zeroValue9
  t46:=Tryz.underlying116
  a46:=Tryz.isAgg116
  z46:=Tryz.sizeOf116
  v46:=Tryz.zeroValue116
  t51:=Tryz.underlying197
  a51:=Tryz.isAgg197
  z51:=Tryz.sizeOf197
  v51:=Tryz.zeroValue197
  t146:=Tryz.underlying258
  a146:=Tryz.isAgg258
  z146:=Tryz.sizeOf258
  v146:=Tryz.zeroValue258
  g1:=by kernel_rfl
  i3:=by kernel_rfl
  i4:=by kernel_rfl
  i5:=by kernel_rfl
  i9:=by kernel_rfl
  i46:=by kernel_rfl
  i51:=by kernel_rfl
  i146:=by kernel_rfl
  m1:=by kernel_rfl
  s1_3:=λw h=>Go.Proofs.cell_of_shapedOpen_int (zero:=#[.int .i64 0]) (t:=3) h (of_decide_eq_true (by kernel_rfl)) (by kernel_rfl) rfl (by kernel_rfl) (by kernel_rfl) Tryz.underlying3 }
def Tryz.lays152_ren:Go.Shelf.Ren:=⟨fun|152=>205|137=>227|119=>236|224=>237|225=>238|217=>249|266=>260|n=>n, fun|9=>9|21=>21|3=>3|4=>4|5=>5|0=>0|46=>116|n=>n, fun|n=>n⟩
theorem Tryz.lays152:Go.Proofs.Lays.n152 Tryz.prog Tryz.lays152_ren:={
  mixed:=by kernel_rfl
  f119:=Tryz.func236.trans (congrArg some (by kernel_rfl))
  f137:=Tryz.func227.trans (congrArg some (by kernel_rfl))
  f152:=Tryz.func205.trans (congrArg some (by kernel_rfl))
  f217:=Tryz.func249.trans (congrArg some (by kernel_rfl))
  f224:=Tryz.func237.trans (congrArg some (by kernel_rfl))
  f225:=Tryz.func238.trans (congrArg some (by kernel_rfl))
  f266:=Tryz.func260.trans (congrArg some (by kernel_rfl))
  t0:=Tryz.underlying0
  a0:=Tryz.isAgg0
  z0:=Tryz.sizeOf0
  v0:=Tryz.zeroValue0
  t3:=Tryz.underlying3
  a3:=Tryz.isAgg3
  z3:=Tryz.sizeOf3
  v3:=Tryz.zeroValue3
  t4:=Tryz.underlying4
  a4:=Tryz.isAgg4
  z4:=Tryz.sizeOf4
  v4:=Tryz.zeroValue4
  t5:=Tryz.underlying5
  a5:=Tryz.isAgg5
  z5:=Tryz.sizeOf5
  v5:=Tryz.zeroValue5
  t9:=Tryz.underlying9
  a9:=Tryz.isAgg9
  z9:=Tryz.sizeOf9
  v9:=Tryz.zeroValue9
  t21:=Tryz.underlying21
  a21:=Tryz.isAgg21
  z21:=Tryz.sizeOf21
  v21:=Tryz.zeroValue21
  t46:=Tryz.underlying116
  a46:=Tryz.isAgg116
  z46:=Tryz.sizeOf116
  v46:=Tryz.zeroValue116 }
open Go.RowKit Go.Lib in
theorem Tryz.strings_IndexRune_ascii(s:ByteArray)(r:Int)(w:World)(h0:0<=r)(h1:r<128):
    Calls Tryz.prog 205 #[.string s, .int .i32 r] w λe w'=>e=.returned (.int .i64 (Lib.indexByte s.data.toList r.toNat.toUInt8))/\w'=w:=Any.strings_IndexRune_ascii Tryz.lays152 s r w h0 h1
def Tryz.lays151_ren:Go.Shelf.Ren:=⟨fun|151=>170|152=>205|137=>227|119=>236|224=>237|225=>238|217=>249|266=>260|n=>n, fun|9=>9|21=>21|4=>4|3=>3|5=>5|0=>0|46=>116|n=>n, fun|n=>n⟩
theorem Tryz.lays151:Go.Proofs.Lays.n151 Tryz.prog Tryz.lays151_ren:={
  mixed:=by kernel_rfl
  f119:=Tryz.func236.trans (congrArg some (by kernel_rfl))
  f137:=Tryz.func227.trans (congrArg some (by kernel_rfl))
  f151:=Tryz.func170.trans (congrArg some (by kernel_rfl))
  f152:=Tryz.func205.trans (congrArg some (by kernel_rfl))
  f217:=Tryz.func249.trans (congrArg some (by kernel_rfl))
  f224:=Tryz.func237.trans (congrArg some (by kernel_rfl))
  f225:=Tryz.func238.trans (congrArg some (by kernel_rfl))
  f266:=Tryz.func260.trans (congrArg some (by kernel_rfl))
  t0:=Tryz.underlying0
  a0:=Tryz.isAgg0
  z0:=Tryz.sizeOf0
  v0:=Tryz.zeroValue0
  t3:=Tryz.underlying3
  a3:=Tryz.isAgg3
  z3:=Tryz.sizeOf3
  v3:=Tryz.zeroValue3
  t4:=Tryz.underlying4
  a4:=Tryz.isAgg4
  z4:=Tryz.sizeOf4
  v4:=Tryz.zeroValue4
  t5:=Tryz.underlying5
  a5:=Tryz.isAgg5
  z5:=Tryz.sizeOf5
  v5:=Tryz.zeroValue5
  t9:=Tryz.underlying9
  a9:=Tryz.isAgg9
  z9:=Tryz.sizeOf9
  v9:=Tryz.zeroValue9
  t21:=Tryz.underlying21
  a21:=Tryz.isAgg21
  z21:=Tryz.sizeOf21
  v21:=Tryz.zeroValue21
  t46:=Tryz.underlying116
  a46:=Tryz.isAgg116
  z46:=Tryz.sizeOf116
  v46:=Tryz.zeroValue116 }
open Go.RowKit Go.Lib in
theorem Tryz.strings_ContainsRune_ascii(s:ByteArray)(r:Int)(w:World)(h0:0<=r)(h1:r<128):
    Calls Tryz.prog 170 #[.string s, .int .i32 r] w λe w'=>e=.returned (.bool (decide (0<=Lib.indexByte s.data.toList r.toNat.toUInt8)))/\w'=w:=Any.strings_ContainsRune_ascii Tryz.lays151 s r w h0 h1
end Go.Proofs

