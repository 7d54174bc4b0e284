/-
  DERIVED: THE SHELF's CONTRACTS AT THIS DUMP, IN PLAIN WORDS (tools/lay-plain.mjs out of 'YtnfgjdbajefoiaaGreatDoorShelf.lean', which tools/lay-shelf.mjs wrote): THE SAME DECLARATIONS UNDER THE SAME NAMES: 'import', 'namespace', 'open', 'def', 'theorem' AND NOTHING ELSE: no command of the shelf's: FOR A HAND-IN. Each laying: the table of numbers ('.._ren') and one theorem, a field a fact of the dump's own or the kernel's comparison; each contract: ONE APPLICATION.
-/
import Derived.Shelf.Strings.Builder1
import Derived.Shelf.Strings.Trim
import Derived.Shelf.Small.Utf8
import Derived.Shelf.Small.Strs
import Derived.Shelf.Small.Wraps
import Derived.Shelf.Strings.BuilderF
import Derived.Shelf.Strings.BuilderK
import Derived.Shelf.Strconv.Atoi
import Derived.Shelf.Strconv.Itoa0
import Derived.Shelf.Strconv.Itoa1
import Derived.Shelf.LaysM
import Derived.Shelf.Strconv.Itoa2
import Derived.Shelf.Strconv.Itoa3
import Derived.Shelf.Strconv.AtoiErrFast
import Derived.Shelf.Strconv.ParseIntEmpty
import Derived.Shelf.Strconv.AtoiFail
import Derived.Shelf.Strconv.Clone
import Derived.Shelf.Strconv.SyntaxError
import Derived.Shelf.LaysC
import Derived.Shelf.Strconv.ToError
import Derived.Shelf.Strconv.Lower
import Derived.Shelf.Strconv.ParseUint10
import Derived.Shelf.Strconv.ParseUint10Empty
import Derived.Shelf.Strconv.ParseUint10Any
import Derived.Shelf.Strconv.ParseInt10
import Derived.Shelf.Strconv.AtoiLong
import Derived.Shelf.Strconv.AtoiInnerAll
import Derived.Shelf.Strconv.RangeError
import Derived.Shelf.Strconv.ToErrorRange
import Derived.Shelf.Strconv.AtoiAll
import Derived.Shelf.Strings.Search1
import Derived.Shelf.Strings.Search2
import Derived.Shelf.Strings.Search3
import Derived.Shelf.Strings.Cut
import Derived.Shelf.Strings.Shaped
import Derived.Shelf.Strings.Prefix
import Derived.Shelf.Strings.Runes
import Derived.Shelf.Strings.AsciiSet
import Derived.Shelf.Unicode.DecodeSlow
import Derived.Shelf.Unicode.DecodeAny
import Derived.Shelf.Strings.BuilderCap
import Derived.Test.YtnfgjdbajefoiaaGreatDoorProg
namespace Go.Proofs
open Go.Shelf
def Tryz.lays169_ren:Go.Shelf.Ren:=⟨fun | 169=>61 | n=>n,fun | 70=>83 | 9=>9 | 0=>0 | 72=>85 | 37=>28 | 127=>101 | 3=>3 | 5=>5 | n=>n,fun | n=>n⟩
theorem Tryz.lays169:Go.Proofs.Lays.n169 Tryz.prog Tryz.lays169_ren:={
  mixed:=by kernel_rfl
  f169:=Tryz.func61.trans (congrArg some (by kernel_rfl))
  t0:=Tryz.underlying0
  a0:=Tryz.isAgg0
  z0:=Tryz.sizeOf0
  v0:=Tryz.zeroValue0
  t3:=Tryz.underlying3
  a3:=Tryz.isAgg3
  z3:=Tryz.sizeOf3
  v3:=Tryz.zeroValue3
  t9:=Tryz.underlying9
  a9:=Tryz.isAgg9
  z9:=Tryz.sizeOf9
  v9:=Tryz.zeroValue9
  t37:=Tryz.underlying28
  a37:=Tryz.isAgg28
  z37:=Tryz.sizeOf28
  v37:=Tryz.zeroValue28
  t70:=Tryz.underlying83
  a70:=Tryz.isAgg83
  z70:=Tryz.sizeOf83
  v70:=Tryz.zeroValue83
  t72:=Tryz.underlying85
  a72:=Tryz.isAgg85
  z72:=Tryz.sizeOf85
  v72:=Tryz.zeroValue85
  t127:=Tryz.underlying101
  a127:=Tryz.isAgg101
  z127:=Tryz.sizeOf101
  v127:=Tryz.zeroValue101 }
def Tryz.lays161_ren:Go.Shelf.Ren:=⟨fun | 161=>39 | 231=>55 | 227=>56 | 233=>57 | 235=>58 | 228=>72 | 197=>73 | 151=>74 | 260=>92 | 152=>93 | 137=>21 | 119=>99 | 224=>76 | 225=>75 | 217=>34 | 266=>53 | n=>n,fun | 9=>9 | 4=>4 | 3=>3 | 5=>5 | 117=>79 | 116=>78 | 0=>0 | 124=>82 | 105=>96 | 21=>21 | 119=>114 | 46=>100 | 139=>117 | 138=>116 | n=>n,fun | 3=>1 | 4=>2 | n=>n⟩
theorem Tryz.lays161:Go.Proofs.Lays.n161 Tryz.prog Tryz.lays161_ren:={
  mixed:=by kernel_rfl
  f119:=Tryz.func99.trans (congrArg some (by kernel_rfl))
  f137:=Tryz.func21.trans (congrArg some (by kernel_rfl))
  f151:=Tryz.func74.trans (congrArg some (by kernel_rfl))
  f152:=Tryz.func93.trans (congrArg some (by kernel_rfl))
  f161:=Tryz.func39.trans (congrArg some (by kernel_rfl))
  f197:=Tryz.func73.trans (congrArg some (by kernel_rfl))
  f217:=Tryz.func34.trans (congrArg some (by kernel_rfl))
  f224:=Tryz.func76.trans (congrArg some (by kernel_rfl))
  f225:=Tryz.func75.trans (congrArg some (by kernel_rfl))
  f227:=Tryz.func56.trans (congrArg some (by kernel_rfl))
  f228:=Tryz.func72.trans (congrArg some (by kernel_rfl))
  f231:=Tryz.func55.trans (congrArg some (by kernel_rfl))
  f233:=Tryz.func57.trans (congrArg some (by kernel_rfl))
  f235:=Tryz.func58.trans (congrArg some (by kernel_rfl))
  f260:=Tryz.func92.trans (congrArg some (by kernel_rfl))
  f266:=Tryz.func53.trans (congrArg some (by kernel_rfl))
  t0:=Tryz.underlying0
  a0:=Tryz.isAgg0
  z0:=Tryz.sizeOf0
  v0:=Tryz.zeroValue0
  t3:=Tryz.underlying3
  a3:=Tryz.isAgg3
  z3:=Tryz.sizeOf3
  v3:=Tryz.zeroValue3
  t4:=Tryz.underlying4
  a4:=Tryz.isAgg4
  z4:=Tryz.sizeOf4
  v4:=Tryz.zeroValue4
  t5:=Tryz.underlying5
  a5:=Tryz.isAgg5
  z5:=Tryz.sizeOf5
  v5:=Tryz.zeroValue5
  t9:=Tryz.underlying9
  a9:=Tryz.isAgg9
  z9:=Tryz.sizeOf9
  v9:=Tryz.zeroValue9
  t21:=Tryz.underlying21
  a21:=Tryz.isAgg21
  z21:=Tryz.sizeOf21
  v21:=Tryz.zeroValue21
  t46:=Tryz.underlying100
  a46:=Tryz.isAgg100
  z46:=Tryz.sizeOf100
  v46:=Tryz.zeroValue100
  t105:=Tryz.underlying96
  a105:=Tryz.isAgg96
  z105:=Tryz.sizeOf96
  v105:=Tryz.zeroValue96
  t116:=Tryz.underlying78
  a116:=Tryz.isAgg78
  z116:=Tryz.sizeOf78
  t117:=Tryz.underlying79
  a117:=Tryz.isAgg79
  z117:=Tryz.sizeOf79
  v117:=Tryz.zeroValue79
  t119:=Tryz.underlying114
  a119:=Tryz.isAgg114
  z119:=Tryz.sizeOf114
  t124:=Tryz.underlying82
  a124:=Tryz.isAgg82
  z124:=Tryz.sizeOf82
  v124:=Tryz.zeroValue82
  t138:=Tryz.underlying116
  a138:=Tryz.isAgg116
  z138:=Tryz.sizeOf116
  v138:=Tryz.zeroValue116
  t139:=Tryz.underlying117
  a139:=Tryz.isAgg117
  z139:=Tryz.sizeOf117
  v139:=Tryz.zeroValue117
  g3:=by kernel_rfl
  g4:=by kernel_rfl }
def Tryz.lays160_ren:Go.Shelf.Ren:=⟨fun | 160=>105 | 232=>108 | 231=>55 | 227=>56 | 234=>109 | 233=>57 | 236=>110 | 235=>58 | 228=>72 | 271=>116 | 151=>74 | 197=>73 | 120=>121 | 152=>93 | 260=>92 | 137=>21 | 119=>99 | 224=>76 | 225=>75 | 217=>34 | 266=>53 | n=>n,fun | 9=>9 | 4=>4 | 3=>3 | 5=>5 | 117=>79 | 116=>78 | 0=>0 | 124=>82 | 21=>21 | 105=>96 | 46=>100 | 119=>114 | 139=>117 | 138=>116 | n=>n,fun | 3=>1 | 4=>2 | n=>n⟩
theorem Tryz.lays160:Go.Proofs.Lays.n160 Tryz.prog Tryz.lays160_ren:={
  mixed:=by kernel_rfl
  f119:=Tryz.func99.trans (congrArg some (by kernel_rfl))
  f120:=Tryz.func121.trans (congrArg some (by kernel_rfl))
  f137:=Tryz.func21.trans (congrArg some (by kernel_rfl))
  f151:=Tryz.func74.trans (congrArg some (by kernel_rfl))
  f152:=Tryz.func93.trans (congrArg some (by kernel_rfl))
  f160:=Tryz.func105.trans (congrArg some (by kernel_rfl))
  f197:=Tryz.func73.trans (congrArg some (by kernel_rfl))
  f217:=Tryz.func34.trans (congrArg some (by kernel_rfl))
  f224:=Tryz.func76.trans (congrArg some (by kernel_rfl))
  f225:=Tryz.func75.trans (congrArg some (by kernel_rfl))
  f227:=Tryz.func56.trans (congrArg some (by kernel_rfl))
  f228:=Tryz.func72.trans (congrArg some (by kernel_rfl))
  f231:=Tryz.func55.trans (congrArg some (by kernel_rfl))
  f232:=Tryz.func108.trans (congrArg some (by kernel_rfl))
  f233:=Tryz.func57.trans (congrArg some (by kernel_rfl))
  f234:=Tryz.func109.trans (congrArg some (by kernel_rfl))
  f235:=Tryz.func58.trans (congrArg some (by kernel_rfl))
  f236:=Tryz.func110.trans (congrArg some (by kernel_rfl))
  f260:=Tryz.func92.trans (congrArg some (by kernel_rfl))
  f266:=Tryz.func53.trans (congrArg some (by kernel_rfl))
  f271:=Tryz.func116.trans (congrArg some (by kernel_rfl))
  t0:=Tryz.underlying0
  a0:=Tryz.isAgg0
  z0:=Tryz.sizeOf0
  v0:=Tryz.zeroValue0
  t3:=Tryz.underlying3
  a3:=Tryz.isAgg3
  z3:=Tryz.sizeOf3
  v3:=Tryz.zeroValue3
  t4:=Tryz.underlying4
  a4:=Tryz.isAgg4
  z4:=Tryz.sizeOf4
  v4:=Tryz.zeroValue4
  t5:=Tryz.underlying5
  a5:=Tryz.isAgg5
  z5:=Tryz.sizeOf5
  v5:=Tryz.zeroValue5
  t9:=Tryz.underlying9
  a9:=Tryz.isAgg9
  z9:=Tryz.sizeOf9
  v9:=Tryz.zeroValue9
  t21:=Tryz.underlying21
  a21:=Tryz.isAgg21
  z21:=Tryz.sizeOf21
  v21:=Tryz.zeroValue21
  t46:=Tryz.underlying100
  a46:=Tryz.isAgg100
  z46:=Tryz.sizeOf100
  v46:=Tryz.zeroValue100
  t105:=Tryz.underlying96
  a105:=Tryz.isAgg96
  z105:=Tryz.sizeOf96
  v105:=Tryz.zeroValue96
  t116:=Tryz.underlying78
  a116:=Tryz.isAgg78
  z116:=Tryz.sizeOf78
  t117:=Tryz.underlying79
  a117:=Tryz.isAgg79
  z117:=Tryz.sizeOf79
  v117:=Tryz.zeroValue79
  t119:=Tryz.underlying114
  a119:=Tryz.isAgg114
  z119:=Tryz.sizeOf114
  t124:=Tryz.underlying82
  a124:=Tryz.isAgg82
  z124:=Tryz.sizeOf82
  v124:=Tryz.zeroValue82
  t138:=Tryz.underlying116
  a138:=Tryz.isAgg116
  z138:=Tryz.sizeOf116
  v138:=Tryz.zeroValue116
  t139:=Tryz.underlying117
  a139:=Tryz.isAgg117
  z139:=Tryz.sizeOf117
  v139:=Tryz.zeroValue117
  g3:=by kernel_rfl
  g4:=by kernel_rfl }
def Tryz.lays137_ren:Go.Shelf.Ren:=⟨fun | 137=>21 | 217=>34 | 266=>53 | n=>n,fun | 9=>9 | 5=>5 | 3=>3 | n=>n,fun | n=>n⟩
theorem Tryz.lays137:Go.Proofs.Lays.n137 Tryz.prog Tryz.lays137_ren:={
  mixed:=by kernel_rfl
  f137:=Tryz.func21.trans (congrArg some (by kernel_rfl))
  f217:=Tryz.func34.trans (congrArg some (by kernel_rfl))
  f266:=Tryz.func53.trans (congrArg some (by kernel_rfl))
  t3:=Tryz.underlying3
  a3:=Tryz.isAgg3
  z3:=Tryz.sizeOf3
  v3:=Tryz.zeroValue3
  t5:=Tryz.underlying5
  a5:=Tryz.isAgg5
  z5:=Tryz.sizeOf5
  v5:=Tryz.zeroValue5
  t9:=Tryz.underlying9
  a9:=Tryz.isAgg9
  z9:=Tryz.sizeOf9
  v9:=Tryz.zeroValue9 }
def Tryz.laysC172_ren:Go.Shelf.Ren:=⟨fun | 172=>104 | 244=>106 | 245=>107 | 247=>111 | 279=>112 | 280=>113 | 281=>114 | 282=>115 | 287=>117 | 316=>118 | 171=>120 | 205=>119 | 321=>122 | 322=>123 | 243=>124 | 246=>125 | 283=>126 | 284=>127 | 285=>128 | 286=>129 | 129=>131 | 317=>130 | 318=>132 | 319=>133 | 320=>134 | 337=>135 | 338=>136 | n=>n,fun | 9=>9 | 3=>3 | 75=>88 | 76=>124 | 4=>4 | 5=>5 | 167=>127 | 37=>28 | 0=>0 | 85=>128 | 2=>2 | 168=>130 | 53=>133 | 175=>134 | 46=>100 | 210=>137 | 127=>101 | 145=>143 | 143=>141 | 21=>21 | 171=>145 | 173=>148 | 212=>151 | 51=>108 | 20=>20 | 213=>152 | 232=>156 | 233=>157 | 80=>86 | n=>n,fun | 15=>3 | 16=>4 | 17=>5 | 18=>6 | 19=>7 | n=>n⟩
theorem Tryz.laysC172:Go.Proofs.LaysC.n172 Tryz.prog Tryz.laysC172_ren:={
  mixed:=by kernel_rfl
  f129:=Tryz.func131.trans (congrArg some (by kernel_rfl))
  f171:=Tryz.func120.trans (congrArg some (by kernel_rfl))
  f172:=Tryz.func104.trans (congrArg some (by kernel_rfl))
  f205:=Tryz.func119.trans (congrArg some (by kernel_rfl))
  f243:=Tryz.func124.trans (congrArg some (by kernel_rfl))
  f244:=Tryz.func106.trans (congrArg some (by kernel_rfl))
  f245:=Tryz.func107.trans (congrArg some (by kernel_rfl))
  f246:=Tryz.func125.trans (congrArg some (by kernel_rfl))
  f247:=Tryz.func111.trans (congrArg some (by kernel_rfl))
  f279:=Tryz.func112.trans (congrArg some (by kernel_rfl))
  f280:=Tryz.func113.trans (congrArg some (by kernel_rfl))
  f281:=Tryz.func114.trans (congrArg some (by kernel_rfl))
  f282:=Tryz.func115.trans (congrArg some (by kernel_rfl))
  f283:=Tryz.func126.trans (congrArg some (by kernel_rfl))
  f284:=Tryz.func127.trans (congrArg some (by kernel_rfl))
  f285:=Tryz.func128.trans (congrArg some (by kernel_rfl))
  f286:=Tryz.func129.trans (congrArg some (by kernel_rfl))
  f287:=Tryz.func117.trans (congrArg some (by kernel_rfl))
  f316:=Tryz.func118.trans (congrArg some (by kernel_rfl))
  f317:=Tryz.func130.trans (congrArg some (by kernel_rfl))
  f318:=Tryz.func132.trans (congrArg some (by kernel_rfl))
  f319:=Tryz.func133.trans (congrArg some (by kernel_rfl))
  f320:=Tryz.func134.trans (congrArg some (by kernel_rfl))
  f321:=Tryz.func122.trans (congrArg some (by kernel_rfl))
  f322:=Tryz.func123.trans (congrArg some (by kernel_rfl))
  f337:=Tryz.func135.trans (congrArg some (by kernel_rfl))
  f338:=Tryz.func136.trans (congrArg some (by kernel_rfl))
  t0:=Tryz.underlying0
  a0:=Tryz.isAgg0
  z0:=Tryz.sizeOf0
  v0:=Tryz.zeroValue0
  t2:=Tryz.underlying2
  a2:=Tryz.isAgg2
  z2:=Tryz.sizeOf2
  v2:=Tryz.zeroValue2
  t3:=Tryz.underlying3
  a3:=Tryz.isAgg3
  z3:=Tryz.sizeOf3
  v3:=Tryz.zeroValue3
  t4:=Tryz.underlying4
  a4:=Tryz.isAgg4
  z4:=Tryz.sizeOf4
  v4:=Tryz.zeroValue4
  t5:=Tryz.underlying5
  a5:=Tryz.isAgg5
  z5:=Tryz.sizeOf5
  v5:=Tryz.zeroValue5
  t9:=Tryz.underlying9
  a9:=Tryz.isAgg9
  z9:=Tryz.sizeOf9
  v9:=Tryz.zeroValue9
  t20:=Tryz.underlying20
  a20:=Tryz.isAgg20
  z20:=Tryz.sizeOf20
  v20:=Tryz.zeroValue20
  t21:=Tryz.underlying21
  a21:=Tryz.isAgg21
  z21:=Tryz.sizeOf21
  v21:=Tryz.zeroValue21
  t37:=Tryz.underlying28
  a37:=Tryz.isAgg28
  z37:=Tryz.sizeOf28
  v37:=Tryz.zeroValue28
  t46:=Tryz.underlying100
  a46:=Tryz.isAgg100
  z46:=Tryz.sizeOf100
  v46:=Tryz.zeroValue100
  t51:=Tryz.underlying108
  a51:=Tryz.isAgg108
  z51:=Tryz.sizeOf108
  v51:=Tryz.zeroValue108
  t53:=Tryz.underlying133
  a53:=Tryz.isAgg133
  z53:=Tryz.sizeOf133
  v53:=Tryz.zeroValue133
  t75:=Tryz.underlying88
  a75:=Tryz.isAgg88
  z75:=Tryz.sizeOf88
  v75:=Tryz.zeroValue88
  t76:=Tryz.underlying124
  a76:=Tryz.isAgg124
  z76:=Tryz.sizeOf124
  v76:=Tryz.zeroValue124
  t85:=Tryz.underlying128
  a85:=Tryz.isAgg128
  z85:=Tryz.sizeOf128
  v85:=Tryz.zeroValue128
  t127:=Tryz.underlying101
  a127:=Tryz.isAgg101
  z127:=Tryz.sizeOf101
  v127:=Tryz.zeroValue101
  t143:=Tryz.underlying141
  a143:=Tryz.isAgg141
  z143:=Tryz.sizeOf141
  v143:=Tryz.zeroValue141
  t145:=Tryz.underlying143
  a145:=Tryz.isAgg143
  z145:=Tryz.sizeOf143
  v145:=Tryz.zeroValue143
  t167:=Tryz.underlying127
  a167:=Tryz.isAgg127
  z167:=Tryz.sizeOf127
  v167:=Tryz.zeroValue127
  t168:=Tryz.underlying130
  a168:=Tryz.isAgg130
  z168:=Tryz.sizeOf130
  v168:=Tryz.zeroValue130
  t171:=Tryz.underlying145
  a171:=Tryz.isAgg145
  z171:=Tryz.sizeOf145
  v171:=Tryz.zeroValue145
  t173:=Tryz.underlying148
  a173:=Tryz.isAgg148
  z173:=Tryz.sizeOf148
  v173:=Tryz.zeroValue148
  t175:=Tryz.underlying134
  a175:=Tryz.isAgg134
  z175:=Tryz.sizeOf134
  v175:=Tryz.zeroValue134
  t210:=Tryz.underlying137
  a210:=Tryz.isAgg137
  z210:=Tryz.sizeOf137
  v210:=Tryz.zeroValue137
  t212:=Tryz.underlying151
  a212:=Tryz.isAgg151
  z212:=Tryz.sizeOf151
  v212:=Tryz.zeroValue151
  t213:=Tryz.underlying152
  a213:=Tryz.isAgg152
  z213:=Tryz.sizeOf152
  t232:=Tryz.underlying156
  a232:=Tryz.isAgg156
  z232:=Tryz.sizeOf156
  v232:=Tryz.zeroValue156
  t233:=Tryz.underlying157
  a233:=Tryz.isAgg157
  z233:=Tryz.sizeOf157
  v233:=Tryz.zeroValue157
  g15:=by kernel_rfl
  g16:=by kernel_rfl
  g17:=by kernel_rfl
  g18:=by kernel_rfl
  g19:=by kernel_rfl
  t80:=Tryz.underlying86
  a80:=Tryz.isAgg86
  z80:=Tryz.sizeOf86
  v80:=Tryz.zeroValue86
  i0:=by kernel_rfl
  i2:=by kernel_rfl
  i3:=by kernel_rfl
  i4:=by kernel_rfl
  i5:=by kernel_rfl
  i9:=by kernel_rfl
  i20:=by kernel_rfl
  i21:=by kernel_rfl
  i37:=by kernel_rfl
  i46:=by kernel_rfl
  i51:=by kernel_rfl
  i53:=by kernel_rfl
  i75:=by kernel_rfl
  i76:=by kernel_rfl
  i80:=by kernel_rfl
  i85:=by kernel_rfl
  i127:=by kernel_rfl
  i143:=by kernel_rfl
  i145:=by kernel_rfl
  i167:=by kernel_rfl
  i168:=by kernel_rfl
  i171:=by kernel_rfl
  i173:=by kernel_rfl
  i175:=by kernel_rfl
  i210:=by kernel_rfl
  i212:=by kernel_rfl
  i232:=by kernel_rfl
  i233:=by kernel_rfl
  m15:=by kernel_rfl
  m16:=by kernel_rfl
  m17:=by kernel_rfl
  m18:=by kernel_rfl
  m19:=by kernel_rfl
  c0:=by kernel_rfl
  c2:=by kernel_rfl
  c3:=by kernel_rfl
  c4:=by kernel_rfl
  c5:=by kernel_rfl
  c9:=by kernel_rfl
  c20:=by kernel_rfl
  c21:=by kernel_rfl
  c37:=by kernel_rfl
  c46:=by kernel_rfl
  c51:=by kernel_rfl
  c53:=by kernel_rfl
  c75:=by kernel_rfl
  c76:=by kernel_rfl
  c80:=by kernel_rfl
  c85:=by kernel_rfl
  c127:=by kernel_rfl
  c143:=by kernel_rfl
  c145:=by kernel_rfl
  c167:=by kernel_rfl
  c168:=by kernel_rfl
  c171:=by kernel_rfl
  c173:=by kernel_rfl
  c175:=by kernel_rfl
  c210:=by kernel_rfl
  c212:=by kernel_rfl
  c213:=by kernel_rfl
  c232:=by kernel_rfl
  c233:=by kernel_rfl }
def Tryz.lays143_ren:Go.Shelf.Ren:=⟨fun | 143=>41 | 219=>60 | 217=>34 | 225=>75 | 224=>76 | 267=>77 | 266=>53 | 314=>94 | n=>n,fun | 9=>9 | 3=>3 | 4=>4 | 5=>5 | 46=>100 | 146=>109 | 51=>108 | n=>n,fun | 1=>0 | n=>n⟩
theorem Tryz.lays143:Go.Proofs.Lays.n143 Tryz.prog Tryz.lays143_ren:={
  mixed:=by kernel_rfl
  f143:=Tryz.func41.trans (congrArg some (by kernel_rfl))
  f217:=Tryz.func34.trans (congrArg some (by kernel_rfl))
  f219:=Tryz.func60.trans (congrArg some (by kernel_rfl))
  f224:=Tryz.func76.trans (congrArg some (by kernel_rfl))
  f225:=Tryz.func75.trans (congrArg some (by kernel_rfl))
  f266:=Tryz.func53.trans (congrArg some (by kernel_rfl))
  f267:=Tryz.func77.trans (congrArg some (by kernel_rfl))
  f314:=Tryz.func94.trans (congrArg some (by kernel_rfl))
  t3:=Tryz.underlying3
  a3:=Tryz.isAgg3
  z3:=Tryz.sizeOf3
  v3:=Tryz.zeroValue3
  t4:=Tryz.underlying4
  a4:=Tryz.isAgg4
  z4:=Tryz.sizeOf4
  v4:=Tryz.zeroValue4
  t5:=Tryz.underlying5
  a5:=Tryz.isAgg5
  z5:=Tryz.sizeOf5
  v5:=Tryz.zeroValue5
  t9:=Tryz.underlying9
  a9:=Tryz.isAgg9
  z9:=Tryz.sizeOf9
  v9:=Tryz.zeroValue9
  t46:=Tryz.underlying100
  a46:=Tryz.isAgg100
  z46:=Tryz.sizeOf100
  v46:=Tryz.zeroValue100
  t51:=Tryz.underlying108
  a51:=Tryz.isAgg108
  z51:=Tryz.sizeOf108
  v51:=Tryz.zeroValue108
  t146:=Tryz.underlying109
  a146:=Tryz.isAgg109
  z146:=Tryz.sizeOf109
  v146:=Tryz.zeroValue109
  g1:=by kernel_rfl }
def Tryz.lays145_ren:Go.Shelf.Ren:=⟨fun | 145=>101 | 220=>103 | 219=>60 | 217=>34 | 225=>75 | 224=>76 | 267=>77 | 266=>53 | 314=>94 | n=>n,fun | 9=>9 | 4=>4 | 59=>121 | 3=>3 | 5=>5 | 46=>100 | 146=>109 | 51=>108 | n=>n,fun | 1=>0 | n=>n⟩
theorem Tryz.lays145:Go.Proofs.Lays.n145 Tryz.prog Tryz.lays145_ren:={
  mixed:=by kernel_rfl
  f145:=Tryz.func101.trans (congrArg some (by kernel_rfl))
  f217:=Tryz.func34.trans (congrArg some (by kernel_rfl))
  f219:=Tryz.func60.trans (congrArg some (by kernel_rfl))
  f220:=Tryz.func103.trans (congrArg some (by kernel_rfl))
  f224:=Tryz.func76.trans (congrArg some (by kernel_rfl))
  f225:=Tryz.func75.trans (congrArg some (by kernel_rfl))
  f266:=Tryz.func53.trans (congrArg some (by kernel_rfl))
  f267:=Tryz.func77.trans (congrArg some (by kernel_rfl))
  f314:=Tryz.func94.trans (congrArg some (by kernel_rfl))
  t3:=Tryz.underlying3
  a3:=Tryz.isAgg3
  z3:=Tryz.sizeOf3
  v3:=Tryz.zeroValue3
  t4:=Tryz.underlying4
  a4:=Tryz.isAgg4
  z4:=Tryz.sizeOf4
  v4:=Tryz.zeroValue4
  t5:=Tryz.underlying5
  a5:=Tryz.isAgg5
  z5:=Tryz.sizeOf5
  v5:=Tryz.zeroValue5
  t9:=Tryz.underlying9
  a9:=Tryz.isAgg9
  z9:=Tryz.sizeOf9
  v9:=Tryz.zeroValue9
  t46:=Tryz.underlying100
  a46:=Tryz.isAgg100
  z46:=Tryz.sizeOf100
  v46:=Tryz.zeroValue100
  t51:=Tryz.underlying108
  a51:=Tryz.isAgg108
  z51:=Tryz.sizeOf108
  v51:=Tryz.zeroValue108
  t59:=Tryz.underlying121
  a59:=Tryz.isAgg121
  z59:=Tryz.sizeOf121
  v59:=Tryz.zeroValue121
  t146:=Tryz.underlying109
  a146:=Tryz.isAgg109
  z146:=Tryz.sizeOf109
  v146:=Tryz.zeroValue109
  g1:=by kernel_rfl }
end Go.Proofs
