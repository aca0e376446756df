/-
  DERIVED: THE SHELF's CONTRACTS AT THIS DUMP, IN PLAIN WORDS (tools/lay-plain.mjs out of 'GreatShelf.lean', which tools/lay-shelf.mjs wrote): THE SAME DECLARATIONS UNDER THE SAME NAMES: 'import', 'namespace', 'open', 'def', 'theorem' AND NOTHING ELSE: no command of the shelf's: FOR A HAND-IN. Each laying: the table of numbers ('.._ren') and one theorem, a field a fact of the dump's own or the kernel's comparison;each contract: ONE APPLICATION.
-/
import Derived.Shelf.Strings.Builder1
import Derived.Shelf.Strings.Trim
import Derived.Shelf.Small.Utf8
import Derived.Shelf.Small.Strs
import Derived.Shelf.Strconv.Atoi
import Derived.Shelf.Strconv.Itoa0
import Derived.Shelf.Strconv.Itoa1
import Derived.Shelf.LaysM
import Derived.Shelf.Strconv.Itoa2
import Derived.Shelf.Strconv.Itoa3
import Derived.Shelf.Strconv.AtoiErrFast
import Derived.Shelf.Strconv.ParseIntEmpty
import Derived.Shelf.Strconv.AtoiFail
import Derived.Shelf.Strconv.Clone
import Derived.Shelf.Strconv.SyntaxError
import Derived.Shelf.LaysC
import Derived.Shelf.Strconv.ToError
import Derived.Shelf.Strconv.Lower
import Derived.Shelf.Strconv.ParseUint10
import Derived.Shelf.Strconv.ParseUint10Empty
import Derived.Shelf.Strconv.ParseUint10Any
import Derived.Shelf.Strconv.ParseInt10
import Derived.Shelf.Strconv.AtoiLong
import Derived.Shelf.Strconv.AtoiInnerAll
import Derived.Shelf.Strconv.RangeError
import Derived.Shelf.Strconv.ToErrorRange
import Derived.Shelf.Strconv.AtoiAll
import Derived.Shelf.Strconv.ErrVarAll
import Derived.Shelf.Strings.Search1
import Derived.Shelf.Strings.Search2
import Derived.Shelf.Strings.Search3
import Derived.Shelf.Strings.Shaped
import Derived.Shelf.Strings.Prefix
import Derived.Shelf.Strings.Fields
import Derived.Shelf.Unicode.Latin
import Derived.Shelf.Strings.Runes
import Derived.Shelf.Strings.IndexAny
import Derived.Shelf.Strings.AsciiSet
import Derived.Shelf.Strings.IndexAnyAll
import Derived.Shelf.Bits.Mul64
import Derived.Shelf.Unicode.DecodeSlow
import Derived.Shelf.Unicode.DecodeAny
import Derived.Shelf.Unicode.Is16White
import Derived.Shelf.Unicode.IsSpaceAny
import Derived.Shelf.Unicode.DecodeLast
import Derived.Shelf.Unicode.Is16WhiteD
import Derived.Shelf.Unicode.IsSpaceAnyD
import Derived.Shelf.Strings.FieldsAny
import Derived.Shelf.Strings.FieldsFuncAny
import Derived.Shelf.Unicode.Is16Any
import Derived.Shelf.Unicode.Is32Any
import Derived.Shelf.Unicode.ExclAny
import Derived.Shelf.Strings.FieldsFuncGrows
import Derived.Shelf.Slices.Turned
import Derived.Ground.Names2Prog
import Derived.Shelf.Slices.Clone
import Derived.Shelf.Bytes.SlSearch0
import Derived.Ground.SlgnProg
import Derived.Shelf.SlicesE.Clone
import Derived.Shelf.Bytes.SlEqualAll
import Derived.Shelf.Bytes.Small
import Derived.Test.YtohfclafhegadaaGreatDoorProg
namespace Go.Proofs
open Go.Shelf
def Tryz.lays137_ren:Go.Shelf.Ren:=⟨fun|137=>227|217=>249|266=>260|n=>n, fun|9=>9|5=>5|3=>3|n=>n, fun|n=>n⟩
theorem Tryz.lays137:Go.Proofs.Lays.n137 Tryz.prog Tryz.lays137_ren:={
  mixed:=by kernel_rfl
  f137:=Tryz.func227.trans (congrArg some (by kernel_rfl))
  f217:=Tryz.func249.trans (congrArg some (by kernel_rfl))
  f266:=Tryz.func260.trans (congrArg some (by kernel_rfl))
  t3:=Tryz.underlying3
  a3:=Tryz.isAgg3
  z3:=Tryz.sizeOf3
  v3:=Tryz.zeroValue3
  t5:=Tryz.underlying5
  a5:=Tryz.isAgg5
  z5:=Tryz.sizeOf5
  v5:=Tryz.zeroValue5
  t9:=Tryz.underlying9
  a9:=Tryz.isAgg9
  z9:=Tryz.sizeOf9
  v9:=Tryz.zeroValue9 }
open Go.RowKit in
theorem Tryz.strings_IndexByte(s:ByteArray)(c:Int)(w:World):
    Calls Tryz.prog 227 #[.string s, .int .u8 c] w λe w'=>e=.returned (.int .i64 (Lib.indexByte s.data.toList c.toNat.toUInt8))/\w'=w:=Any.strings_IndexByte Tryz.lays137 s c w
def Tryz.laysM171_ren:Go.Shelf.Ren:=⟨fun|171=>64|243=>130|246=>176|283=>212|284=>213|285=>214|286=>215|129=>241|317=>240|318=>242|319=>243|320=>244|337=>254|338=>255|n=>n, fun|3=>3|9=>9|2=>2|4=>4|171=>246|0=>0|53=>174|37=>32|5=>5|173=>249|212=>282|51=>197|20=>20|213=>283|46=>116|232=>299|233=>300|n=>n, fun|17=>9|18=>12|19=>13|n=>n⟩
theorem Tryz.laysM171:Go.Proofs.LaysM.n171 Tryz.prog Tryz.laysM171_ren:={
  mixed:=by kernel_rfl
  f129:=Tryz.func241.trans (congrArg some (by kernel_rfl))
  f171:=Tryz.func64.trans (congrArg some (by kernel_rfl))
  f243:=Tryz.func130.trans (congrArg some (by kernel_rfl))
  f246:=Tryz.func176.trans (congrArg some (by kernel_rfl))
  f283:=Tryz.func212.trans (congrArg some (by kernel_rfl))
  f284:=Tryz.func213.trans (congrArg some (by kernel_rfl))
  f285:=Tryz.func214.trans (congrArg some (by kernel_rfl))
  f286:=Tryz.func215.trans (congrArg some (by kernel_rfl))
  f317:=Tryz.func240.trans (congrArg some (by kernel_rfl))
  f318:=Tryz.func242.trans (congrArg some (by kernel_rfl))
  f319:=Tryz.func243.trans (congrArg some (by kernel_rfl))
  f320:=Tryz.func244.trans (congrArg some (by kernel_rfl))
  f337:=Tryz.func254.trans (congrArg some (by kernel_rfl))
  f338:=Tryz.func255.trans (congrArg some (by kernel_rfl))
  t0:=Tryz.underlying0
  a0:=Tryz.isAgg0
  z0:=Tryz.sizeOf0
  v0:=Tryz.zeroValue0
  t2:=Tryz.underlying2
  a2:=Tryz.isAgg2
  z2:=Tryz.sizeOf2
  v2:=Tryz.zeroValue2
  t3:=Tryz.underlying3
  a3:=Tryz.isAgg3
  z3:=Tryz.sizeOf3
  v3:=Tryz.zeroValue3
  t4:=Tryz.underlying4
  a4:=Tryz.isAgg4
  z4:=Tryz.sizeOf4
  v4:=Tryz.zeroValue4
  t5:=Tryz.underlying5
  a5:=Tryz.isAgg5
  z5:=Tryz.sizeOf5
  v5:=Tryz.zeroValue5
  t9:=Tryz.underlying9
  a9:=Tryz.isAgg9
  z9:=Tryz.sizeOf9
  v9:=Tryz.zeroValue9
  t20:=Tryz.underlying20
  a20:=Tryz.isAgg20
  z20:=Tryz.sizeOf20
  v20:=Tryz.zeroValue20
  t37:=Tryz.underlying32
  a37:=Tryz.isAgg32
  z37:=Tryz.sizeOf32
  v37:=Tryz.zeroValue32
  t46:=Tryz.underlying116
  a46:=Tryz.isAgg116
  z46:=Tryz.sizeOf116
  v46:=Tryz.zeroValue116
  t51:=Tryz.underlying197
  a51:=Tryz.isAgg197
  z51:=Tryz.sizeOf197
  v51:=Tryz.zeroValue197
  t53:=Tryz.underlying174
  a53:=Tryz.isAgg174
  z53:=Tryz.sizeOf174
  v53:=Tryz.zeroValue174
  t171:=Tryz.underlying246
  a171:=Tryz.isAgg246
  z171:=Tryz.sizeOf246
  v171:=Tryz.zeroValue246
  t173:=Tryz.underlying249
  a173:=Tryz.isAgg249
  z173:=Tryz.sizeOf249
  v173:=Tryz.zeroValue249
  t212:=Tryz.underlying282
  a212:=Tryz.isAgg282
  z212:=Tryz.sizeOf282
  v212:=Tryz.zeroValue282
  t213:=Tryz.underlying283
  a213:=Tryz.isAgg283
  z213:=Tryz.sizeOf283
  t232:=Tryz.underlying299
  a232:=Tryz.isAgg299
  z232:=Tryz.sizeOf299
  v232:=Tryz.zeroValue299
  t233:=Tryz.underlying300
  a233:=Tryz.isAgg300
  z233:=Tryz.sizeOf300
  v233:=Tryz.zeroValue300
  g17:=by kernel_rfl
  g18:=by kernel_rfl
  g19:=by kernel_rfl
  i0:=by kernel_rfl
  i2:=by kernel_rfl
  i3:=by kernel_rfl
  i4:=by kernel_rfl
  i5:=by kernel_rfl
  i9:=by kernel_rfl
  i20:=by kernel_rfl
  i37:=by kernel_rfl
  i46:=by kernel_rfl
  i51:=by kernel_rfl
  i53:=by kernel_rfl
  i171:=by kernel_rfl
  i173:=by kernel_rfl
  i212:=by kernel_rfl
  i232:=by kernel_rfl
  i233:=by kernel_rfl
  m17:=by kernel_rfl
  m18:=by kernel_rfl
  m19:=by kernel_rfl }
open Go.RowKit Go.Sort Go.Lib in
theorem Tryz.strconv_Itoa (n : Int) (h0 : -9223372036854775808 <= n) (h1 : n <= 9223372036854775807) (w : World) (htab : Lib.TabIs Tryz.prog w "internal/strconv.uint64pow10" .u64 Lib.pow10Tab) :
    Calls Tryz.prog 64 #[.int .i64 n] w λe w'=>e=.returned (.string ⟨(Lib.itoa n).toArray⟩)/\∃k os, w'=grow (w.drewN k) os:=Any.strconv_Itoa Tryz.laysM171 n h0 h1 w htab
def Tryz.lays144_ren:Go.Shelf.Ren:=⟨fun|144=>232|143=>251|219=>261|217=>249|225=>238|224=>237|267=>264|266=>260|314=>265|n=>n, fun|9=>9|4=>4|3=>3|5=>5|46=>116|146=>258|51=>197|n=>n, fun|1=>11|n=>n⟩
theorem Tryz.lays144:Go.Proofs.Lays.n144 Tryz.prog Tryz.lays144_ren:={
  mixed:=by kernel_rfl
  f143:=Tryz.func251.trans (congrArg some (by kernel_rfl))
  f144:=Tryz.func232.trans (congrArg some (by kernel_rfl))
  f217:=Tryz.func249.trans (congrArg some (by kernel_rfl))
  f219:=Tryz.func261.trans (congrArg some (by kernel_rfl))
  f224:=Tryz.func237.trans (congrArg some (by kernel_rfl))
  f225:=Tryz.func238.trans (congrArg some (by kernel_rfl))
  f266:=Tryz.func260.trans (congrArg some (by kernel_rfl))
  f267:=Tryz.func264.trans (congrArg some (by kernel_rfl))
  f314:=Tryz.func265.trans (congrArg some (by kernel_rfl))
  t3:=Tryz.underlying3
  a3:=Tryz.isAgg3
  z3:=Tryz.sizeOf3
  v3:=Tryz.zeroValue3
  t4:=Tryz.underlying4
  a4:=Tryz.isAgg4
  z4:=Tryz.sizeOf4
  v4:=Tryz.zeroValue4
  t5:=Tryz.underlying5
  a5:=Tryz.isAgg5
  z5:=Tryz.sizeOf5
  v5:=Tryz.zeroValue5
  t9:=Tryz.underlying9
  a9:=Tryz.isAgg9
  z9:=Tryz.sizeOf9
  v9:=Tryz.zeroValue9
  t46:=Tryz.underlying116
  a46:=Tryz.isAgg116
  z46:=Tryz.sizeOf116
  v46:=Tryz.zeroValue116
  t51:=Tryz.underlying197
  a51:=Tryz.isAgg197
  z51:=Tryz.sizeOf197
  v51:=Tryz.zeroValue197
  t146:=Tryz.underlying258
  a146:=Tryz.isAgg258
  z146:=Tryz.sizeOf258
  v146:=Tryz.zeroValue258
  g1:=by kernel_rfl }
open Go.RowKit Go.Lib in
theorem Tryz.strings_Contains(s sub:ByteArray)(m:Int)(w:World)(hs:s.size<4294967281)(hm:w.cell? ⟨11, 0, none⟩=some (.int .i64 m)):
    Calls Tryz.prog 232 #[.string s, .string sub] w λe w'=>e=.returned (.bool (Lib.contains s.data.toList sub.data.toList))/\w'=w:=Any.strings_Contains Tryz.lays144 s sub m w hs hm
def Tryz.laysM143_ren:Go.Shelf.Ren:=⟨fun|143=>251|219=>261|217=>249|225=>238|224=>237|267=>264|266=>260|314=>265|n=>n, fun|9=>9|3=>3|4=>4|5=>5|46=>116|146=>258|51=>197|n=>n, fun|1=>11|n=>n⟩
theorem Tryz.laysM143:Go.Proofs.LaysM.n143 Tryz.prog Tryz.laysM143_ren:={
  mixed:=by kernel_rfl
  f143:=Tryz.func251.trans (congrArg some (by kernel_rfl))
  f217:=Tryz.func249.trans (congrArg some (by kernel_rfl))
  f219:=Tryz.func261.trans (congrArg some (by kernel_rfl))
  f224:=Tryz.func237.trans (congrArg some (by kernel_rfl))
  f225:=Tryz.func238.trans (congrArg some (by kernel_rfl))
  f266:=Tryz.func260.trans (congrArg some (by kernel_rfl))
  f267:=Tryz.func264.trans (congrArg some (by kernel_rfl))
  f314:=Tryz.func265.trans (congrArg some (by kernel_rfl))
  t3:=Tryz.underlying3
  a3:=Tryz.isAgg3
  z3:=Tryz.sizeOf3
  v3:=Tryz.zeroValue3
  t4:=Tryz.underlying4
  a4:=Tryz.isAgg4
  z4:=Tryz.sizeOf4
  v4:=Tryz.zeroValue4
  t5:=Tryz.underlying5
  a5:=Tryz.isAgg5
  z5:=Tryz.sizeOf5
  v5:=Tryz.zeroValue5
  t9:=Tryz.underlying9
  a9:=Tryz.isAgg9
  z9:=Tryz.sizeOf9
  v9:=Tryz.zeroValue9
  t46:=Tryz.underlying116
  a46:=Tryz.isAgg116
  z46:=Tryz.sizeOf116
  v46:=Tryz.zeroValue116
  t51:=Tryz.underlying197
  a51:=Tryz.isAgg197
  z51:=Tryz.sizeOf197
  v51:=Tryz.zeroValue197
  t146:=Tryz.underlying258
  a146:=Tryz.isAgg258
  z146:=Tryz.sizeOf258
  v146:=Tryz.zeroValue258
  g1:=by kernel_rfl
  i3:=by kernel_rfl
  i4:=by kernel_rfl
  i5:=by kernel_rfl
  i9:=by kernel_rfl
  i46:=by kernel_rfl
  i51:=by kernel_rfl
  i146:=by kernel_rfl
  m1:=by kernel_rfl
  s1_3:=λw h=>Go.Proofs.cell_of_shapedOpen_int (zero:=#[.int .i64 0]) (t:=3) h (of_decide_eq_true (by kernel_rfl)) (by kernel_rfl) rfl (by kernel_rfl) (by kernel_rfl) Tryz.underlying3 }
def Tryz.lays212_ren:Go.Shelf.Ren:=⟨fun|212=>188|263=>225|264=>226|n=>n, fun|46=>116|51=>197|146=>258|53=>174|148=>260|n=>n, fun|n=>n⟩
theorem Tryz.lays212:Go.Proofs.Lays.n212 Tryz.prog Tryz.lays212_ren:={
  mixed:=by kernel_rfl
  f212:=Tryz.func188.trans (congrArg some (by kernel_rfl))
  f263:=Tryz.func225.trans (congrArg some (by kernel_rfl))
  f264:=Tryz.func226.trans (congrArg some (by kernel_rfl))
  t46:=Tryz.underlying116
  a46:=Tryz.isAgg116
  z46:=Tryz.sizeOf116
  v46:=Tryz.zeroValue116
  t51:=Tryz.underlying197
  a51:=Tryz.isAgg197
  z51:=Tryz.sizeOf197
  v51:=Tryz.zeroValue197
  t53:=Tryz.underlying174
  a53:=Tryz.isAgg174
  z53:=Tryz.sizeOf174
  v53:=Tryz.zeroValue174
  t146:=Tryz.underlying258
  a146:=Tryz.isAgg258
  z146:=Tryz.sizeOf258
  v146:=Tryz.zeroValue258
  t148:=Tryz.underlying260
  a148:=Tryz.isAgg260
  z148:=Tryz.sizeOf260
  v148:=Tryz.zeroValue260 }
open Go.RowKit Go.Lib in
theorem Tryz.bits_Mul(x y:Nat)(hx:x<18446744073709551616)(hy:y<18446744073709551616)(w:World):
    Calls Tryz.prog 188 #[.int .u64 x, .int .u64 y] w λe w'=>e=.returned (.tuple #[.int .u64 ((x*y/18446744073709551616:Nat):Int), .int .u64 ((x*y%18446744073709551616:Nat):Int)])/\w'=w:=Any.bits_Mul Tryz.lays212 x y hx hy w
end Go.Proofs

