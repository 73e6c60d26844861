/- Names of files: the contracts of the library, laid at this program. Condition: as each theorem says. -/
import Derived.Test.YticjodhkmidljaaGreatDoorRows
import Derived.WalkKit
import Derived.ProofKit
import Derived.Below
import Derived.Lib.Hide
import Derived.Lib.LaidTab
import Derived.Shelf.Strings.Repeat
import Derived.Shelf.Strconv.Itoa4
import Derived.Shelf.Pu.ErrVarParseUint
import Derived.Shelf.Strconv.ToError
import Derived.Lib.AppendIntMem
import Derived.Lib.TrailingZeros
import Derived.BigCall
import Derived.Test.YticjodhkmidljaaGreatDoorZKeepNil3
import Derived.Maps.OwnSet
import Derived.Maps.OwnOps
import Derived.Test.YticjodhkmidljaaGreatDoorZKeepNil1
import Derived.Maps.Views
import Derived.Deep.MidRow
import Derived.Laws.EntriesVeiled
namespace Go.Proofs.YticjodhkmidljaaGreatDoor
open Go.RowKit Go.Shelf
def nmRen:Go.Shelf.Ren:=⟨(fun | 99=>119 | 105=>97 | 129=>112 | 165=>120 | 166=>121 | 169=>123 | 170=>122 | 171=>98 | 205=>185 | 206=>149 | 212=>118 | 240=>150 | 241=>151 | 243=>124 | 245=>138 | 246=>152 | 263=>147 | 264=>148 | 276=>177 | 277=>178 | 279=>169 | 280=>170 | 281=>171 | 282=>172 | 283=>143 | 284=>144 | 285=>145 | 286=>146 | 316=>184 | 317=>173 | 318=>174 | 319=>175 | 320=>176 | 337=>186 | 338=>187 | n=>n),(fun | 0=>0 | 2=>2 | 3=>3 | 4=>4 | 5=>5 | 9=>9 | 20=>20 | 37=>121 | 46=>156 | 51=>203 | 53=>22 | 70=>188 | 72=>190 | 75=>171 | 76=>192 | 80=>77 | 109=>185 | 127=>218 | 143=>253 | 145=>255 | 146=>214 | 148=>216 | 164=>240 | 167=>230 | 168=>232 | 171=>210 | 173=>212 | 210=>250 | 212=>237 | 213=>238 | 232=>256 | 233=>257 | n=>n),(fun | 15=>1 | 16=>2 | 17=>0 | 18=>4 | 19=>5 | n=>n)⟩
theorem lay_rep:Lays.n105 Tryz.prog nmRen :=
  { mixed:=by kernel_rfl,
    f99:=Tryz.func119.trans (congrArg some (by kernel_rfl)),
    f105:=Tryz.func97.trans (congrArg some (by kernel_rfl)),
    f165:=Tryz.func120.trans (congrArg some (by kernel_rfl)),
    f166:=Tryz.func121.trans (congrArg some (by kernel_rfl)),
    f169:=Tryz.func123.trans (congrArg some (by kernel_rfl)),
    f170:=Tryz.func122.trans (congrArg some (by kernel_rfl)),
    f206:=Tryz.func149.trans (congrArg some (by kernel_rfl)),
    f212:=Tryz.func118.trans (congrArg some (by kernel_rfl)),
    f240:=Tryz.func150.trans (congrArg some (by kernel_rfl)),
    f241:=Tryz.func151.trans (congrArg some (by kernel_rfl)),
    f263:=Tryz.func147.trans (congrArg some (by kernel_rfl)),
    f264:=Tryz.func148.trans (congrArg some (by kernel_rfl)),
    f276:=Tryz.func177.trans (congrArg some (by kernel_rfl)),
    f277:=Tryz.func178.trans (congrArg some (by kernel_rfl)),
    t0:=Tryz.underlying0,
    a0:=Tryz.isAgg0,
    z0:=Tryz.sizeOf0,
    v0:=Tryz.zeroValue0,
    t3:=Tryz.underlying3,
    a3:=Tryz.isAgg3,
    z3:=Tryz.sizeOf3,
    v3:=Tryz.zeroValue3,
    t4:=Tryz.underlying4,
    a4:=Tryz.isAgg4,
    z4:=Tryz.sizeOf4,
    v4:=Tryz.zeroValue4,
    t5:=Tryz.underlying5,
    a5:=Tryz.isAgg5,
    z5:=Tryz.sizeOf5,
    v5:=Tryz.zeroValue5,
    t9:=Tryz.underlying9,
    a9:=Tryz.isAgg9,
    z9:=Tryz.sizeOf9,
    v9:=Tryz.zeroValue9,
    t20:=Tryz.underlying20,
    a20:=Tryz.isAgg20,
    z20:=Tryz.sizeOf20,
    v20:=Tryz.zeroValue20,
    t37:=Tryz.underlying121,
    a37:=Tryz.isAgg121,
    z37:=Tryz.sizeOf121,
    v37:=Tryz.zeroValue121,
    t46:=Tryz.underlying156,
    a46:=Tryz.isAgg156,
    z46:=Tryz.sizeOf156,
    v46:=Tryz.zeroValue156,
    t51:=Tryz.underlying203,
    a51:=Tryz.isAgg203,
    z51:=Tryz.sizeOf203,
    v51:=Tryz.zeroValue203,
    t53:=Tryz.underlying22,
    a53:=Tryz.isAgg22,
    z53:=Tryz.sizeOf22,
    v53:=Tryz.zeroValue22,
    t70:=Tryz.underlying188,
    a70:=Tryz.isAgg188,
    z70:=Tryz.sizeOf188,
    v70:=Tryz.zeroValue188,
    t72:=Tryz.underlying190,
    a72:=Tryz.isAgg190,
    z72:=Tryz.sizeOf190,
    v72:=Tryz.zeroValue190,
    t75:=Tryz.underlying171,
    a75:=Tryz.isAgg171,
    z75:=Tryz.sizeOf171,
    v75:=Tryz.zeroValue171,
    t76:=Tryz.underlying192,
    a76:=Tryz.isAgg192,
    z76:=Tryz.sizeOf192,
    v76:=Tryz.zeroValue192,
    t109:=Tryz.underlying185,
    a109:=Tryz.isAgg185,
    z109:=Tryz.sizeOf185,
    v109:=Tryz.zeroValue185,
    t127:=Tryz.underlying218,
    a127:=Tryz.isAgg218,
    z127:=Tryz.sizeOf218,
    v127:=Tryz.zeroValue218,
    t146:=Tryz.underlying214,
    a146:=Tryz.isAgg214,
    z146:=Tryz.sizeOf214,
    v146:=Tryz.zeroValue214,
    t148:=Tryz.underlying216,
    a148:=Tryz.isAgg216,
    z148:=Tryz.sizeOf216,
    v148:=Tryz.zeroValue216,
    t164:=Tryz.underlying240,
    a164:=Tryz.isAgg240,
    z164:=Tryz.sizeOf240,
    v164:=Tryz.zeroValue240 }
theorem lay_itoa:LaysM.n171 Tryz.prog nmRen :=
  { mixed:=by kernel_rfl,
    f129:=Tryz.func112.trans (congrArg some (by kernel_rfl)),
    f171:=Tryz.func98.trans (congrArg some (by kernel_rfl)),
    f243:=Tryz.func124.trans (congrArg some (by kernel_rfl)),
    f246:=Tryz.func152.trans (congrArg some (by kernel_rfl)),
    f283:=Tryz.func143.trans (congrArg some (by kernel_rfl)),
    f284:=Tryz.func144.trans (congrArg some (by kernel_rfl)),
    f285:=Tryz.func145.trans (congrArg some (by kernel_rfl)),
    f286:=Tryz.func146.trans (congrArg some (by kernel_rfl)),
    f317:=Tryz.func173.trans (congrArg some (by kernel_rfl)),
    f318:=Tryz.func174.trans (congrArg some (by kernel_rfl)),
    f319:=Tryz.func175.trans (congrArg some (by kernel_rfl)),
    f320:=Tryz.func176.trans (congrArg some (by kernel_rfl)),
    f337:=Tryz.func186.trans (congrArg some (by kernel_rfl)),
    f338:=Tryz.func187.trans (congrArg some (by kernel_rfl)),
    t0:=Tryz.underlying0,
    a0:=Tryz.isAgg0,
    z0:=Tryz.sizeOf0,
    v0:=Tryz.zeroValue0,
    t2:=Tryz.underlying2,
    a2:=Tryz.isAgg2,
    z2:=Tryz.sizeOf2,
    v2:=Tryz.zeroValue2,
    t3:=Tryz.underlying3,
    a3:=Tryz.isAgg3,
    z3:=Tryz.sizeOf3,
    v3:=Tryz.zeroValue3,
    t4:=Tryz.underlying4,
    a4:=Tryz.isAgg4,
    z4:=Tryz.sizeOf4,
    v4:=Tryz.zeroValue4,
    t5:=Tryz.underlying5,
    a5:=Tryz.isAgg5,
    z5:=Tryz.sizeOf5,
    v5:=Tryz.zeroValue5,
    t9:=Tryz.underlying9,
    a9:=Tryz.isAgg9,
    z9:=Tryz.sizeOf9,
    v9:=Tryz.zeroValue9,
    t20:=Tryz.underlying20,
    a20:=Tryz.isAgg20,
    z20:=Tryz.sizeOf20,
    v20:=Tryz.zeroValue20,
    t37:=Tryz.underlying121,
    a37:=Tryz.isAgg121,
    z37:=Tryz.sizeOf121,
    v37:=Tryz.zeroValue121,
    t46:=Tryz.underlying156,
    a46:=Tryz.isAgg156,
    z46:=Tryz.sizeOf156,
    v46:=Tryz.zeroValue156,
    t51:=Tryz.underlying203,
    a51:=Tryz.isAgg203,
    z51:=Tryz.sizeOf203,
    v51:=Tryz.zeroValue203,
    t53:=Tryz.underlying22,
    a53:=Tryz.isAgg22,
    z53:=Tryz.sizeOf22,
    v53:=Tryz.zeroValue22,
    t171:=Tryz.underlying210,
    a171:=Tryz.isAgg210,
    z171:=Tryz.sizeOf210,
    v171:=Tryz.zeroValue210,
    t173:=Tryz.underlying212,
    a173:=Tryz.isAgg212,
    z173:=Tryz.sizeOf212,
    v173:=Tryz.zeroValue212,
    t212:=Tryz.underlying237,
    a212:=Tryz.isAgg237,
    z212:=Tryz.sizeOf237,
    v212:=Tryz.zeroValue237,
    t213:=Tryz.underlying238,
    a213:=Tryz.isAgg238,
    z213:=Tryz.sizeOf238,
    t232:=Tryz.underlying256,
    a232:=Tryz.isAgg256,
    z232:=Tryz.sizeOf256,
    v232:=Tryz.zeroValue256,
    t233:=Tryz.underlying257,
    a233:=Tryz.isAgg257,
    z233:=Tryz.sizeOf257,
    v233:=Tryz.zeroValue257,
    g17:=by kernel_rfl,
    g18:=by kernel_rfl,
    g19:=by kernel_rfl,
    i0:=by kernel_rfl,
    i2:=by kernel_rfl,
    i3:=by kernel_rfl,
    i4:=by kernel_rfl,
    i5:=by kernel_rfl,
    i9:=by kernel_rfl,
    i20:=by kernel_rfl,
    i37:=by kernel_rfl,
    i46:=by kernel_rfl,
    i51:=by kernel_rfl,
    i53:=by kernel_rfl,
    i171:=by kernel_rfl,
    i173:=by kernel_rfl,
    i212:=by kernel_rfl,
    i232:=by kernel_rfl,
    i233:=by kernel_rfl,
    m17:=by kernel_rfl,
    m18:=by kernel_rfl,
    m19:=by kernel_rfl }
theorem lay_toerr:LaysC.n245 Tryz.prog nmRen :=
  { mixed:=by kernel_rfl,
    f129:=Tryz.func112.trans (congrArg some (by kernel_rfl)),
    f171:=Tryz.func98.trans (congrArg some (by kernel_rfl)),
    f205:=Tryz.func185.trans (congrArg some (by kernel_rfl)),
    f243:=Tryz.func124.trans (congrArg some (by kernel_rfl)),
    f245:=Tryz.func138.trans (congrArg some (by kernel_rfl)),
    f246:=Tryz.func152.trans (congrArg some (by kernel_rfl)),
    f279:=Tryz.func169.trans (congrArg some (by kernel_rfl)),
    f280:=Tryz.func170.trans (congrArg some (by kernel_rfl)),
    f281:=Tryz.func171.trans (congrArg some (by kernel_rfl)),
    f282:=Tryz.func172.trans (congrArg some (by kernel_rfl)),
    f283:=Tryz.func143.trans (congrArg some (by kernel_rfl)),
    f284:=Tryz.func144.trans (congrArg some (by kernel_rfl)),
    f285:=Tryz.func145.trans (congrArg some (by kernel_rfl)),
    f286:=Tryz.func146.trans (congrArg some (by kernel_rfl)),
    f316:=Tryz.func184.trans (congrArg some (by kernel_rfl)),
    f317:=Tryz.func173.trans (congrArg some (by kernel_rfl)),
    f318:=Tryz.func174.trans (congrArg some (by kernel_rfl)),
    f319:=Tryz.func175.trans (congrArg some (by kernel_rfl)),
    f320:=Tryz.func176.trans (congrArg some (by kernel_rfl)),
    f337:=Tryz.func186.trans (congrArg some (by kernel_rfl)),
    f338:=Tryz.func187.trans (congrArg some (by kernel_rfl)),
    t0:=Tryz.underlying0,
    a0:=Tryz.isAgg0,
    z0:=Tryz.sizeOf0,
    v0:=Tryz.zeroValue0,
    t2:=Tryz.underlying2,
    a2:=Tryz.isAgg2,
    z2:=Tryz.sizeOf2,
    v2:=Tryz.zeroValue2,
    t3:=Tryz.underlying3,
    a3:=Tryz.isAgg3,
    z3:=Tryz.sizeOf3,
    v3:=Tryz.zeroValue3,
    t4:=Tryz.underlying4,
    a4:=Tryz.isAgg4,
    z4:=Tryz.sizeOf4,
    v4:=Tryz.zeroValue4,
    t5:=Tryz.underlying5,
    a5:=Tryz.isAgg5,
    z5:=Tryz.sizeOf5,
    v5:=Tryz.zeroValue5,
    t9:=Tryz.underlying9,
    a9:=Tryz.isAgg9,
    z9:=Tryz.sizeOf9,
    v9:=Tryz.zeroValue9,
    t20:=Tryz.underlying20,
    a20:=Tryz.isAgg20,
    z20:=Tryz.sizeOf20,
    v20:=Tryz.zeroValue20,
    t37:=Tryz.underlying121,
    a37:=Tryz.isAgg121,
    z37:=Tryz.sizeOf121,
    v37:=Tryz.zeroValue121,
    t46:=Tryz.underlying156,
    a46:=Tryz.isAgg156,
    z46:=Tryz.sizeOf156,
    v46:=Tryz.zeroValue156,
    t51:=Tryz.underlying203,
    a51:=Tryz.isAgg203,
    z51:=Tryz.sizeOf203,
    v51:=Tryz.zeroValue203,
    t53:=Tryz.underlying22,
    a53:=Tryz.isAgg22,
    z53:=Tryz.sizeOf22,
    v53:=Tryz.zeroValue22,
    t75:=Tryz.underlying171,
    a75:=Tryz.isAgg171,
    z75:=Tryz.sizeOf171,
    v75:=Tryz.zeroValue171,
    t127:=Tryz.underlying218,
    a127:=Tryz.isAgg218,
    z127:=Tryz.sizeOf218,
    v127:=Tryz.zeroValue218,
    t143:=Tryz.underlying253,
    a143:=Tryz.isAgg253,
    z143:=Tryz.sizeOf253,
    v143:=Tryz.zeroValue253,
    t145:=Tryz.underlying255,
    a145:=Tryz.isAgg255,
    z145:=Tryz.sizeOf255,
    v145:=Tryz.zeroValue255,
    t167:=Tryz.underlying230,
    a167:=Tryz.isAgg230,
    z167:=Tryz.sizeOf230,
    v167:=Tryz.zeroValue230,
    t168:=Tryz.underlying232,
    a168:=Tryz.isAgg232,
    z168:=Tryz.sizeOf232,
    v168:=Tryz.zeroValue232,
    t171:=Tryz.underlying210,
    a171:=Tryz.isAgg210,
    z171:=Tryz.sizeOf210,
    v171:=Tryz.zeroValue210,
    t173:=Tryz.underlying212,
    a173:=Tryz.isAgg212,
    z173:=Tryz.sizeOf212,
    v173:=Tryz.zeroValue212,
    t210:=Tryz.underlying250,
    a210:=Tryz.isAgg250,
    z210:=Tryz.sizeOf250,
    v210:=Tryz.zeroValue250,
    t212:=Tryz.underlying237,
    a212:=Tryz.isAgg237,
    z212:=Tryz.sizeOf237,
    v212:=Tryz.zeroValue237,
    t213:=Tryz.underlying238,
    a213:=Tryz.isAgg238,
    z213:=Tryz.sizeOf238,
    t232:=Tryz.underlying256,
    a232:=Tryz.isAgg256,
    z232:=Tryz.sizeOf256,
    v232:=Tryz.zeroValue256,
    t233:=Tryz.underlying257,
    a233:=Tryz.isAgg257,
    z233:=Tryz.sizeOf257,
    v233:=Tryz.zeroValue257,
    g15:=by kernel_rfl,
    g16:=by kernel_rfl,
    g17:=by kernel_rfl,
    g18:=by kernel_rfl,
    g19:=by kernel_rfl,
    t80:=Tryz.underlying77,
    a80:=Tryz.isAgg77,
    z80:=Tryz.sizeOf77,
    v80:=Tryz.zeroValue77,
    i0:=by kernel_rfl,
    i2:=by kernel_rfl,
    i3:=by kernel_rfl,
    i4:=by kernel_rfl,
    i5:=by kernel_rfl,
    i9:=by kernel_rfl,
    i20:=by kernel_rfl,
    i37:=by kernel_rfl,
    i46:=by kernel_rfl,
    i51:=by kernel_rfl,
    i53:=by kernel_rfl,
    i75:=by kernel_rfl,
    i80:=by kernel_rfl,
    i127:=by kernel_rfl,
    i143:=by kernel_rfl,
    i145:=by kernel_rfl,
    i167:=by kernel_rfl,
    i168:=by kernel_rfl,
    i171:=by kernel_rfl,
    i173:=by kernel_rfl,
    i210:=by kernel_rfl,
    i212:=by kernel_rfl,
    i232:=by kernel_rfl,
    i233:=by kernel_rfl,
    m15:=by kernel_rfl,
    m16:=by kernel_rfl,
    m17:=by kernel_rfl,
    m18:=by kernel_rfl,
    m19:=by kernel_rfl,
    c0:=by kernel_rfl,
    c2:=by kernel_rfl,
    c3:=by kernel_rfl,
    c4:=by kernel_rfl,
    c5:=by kernel_rfl,
    c9:=by kernel_rfl,
    c20:=by kernel_rfl,
    c37:=by kernel_rfl,
    c46:=by kernel_rfl,
    c51:=by kernel_rfl,
    c53:=by kernel_rfl,
    c75:=by kernel_rfl,
    c80:=by kernel_rfl,
    c127:=by kernel_rfl,
    c143:=by kernel_rfl,
    c145:=by kernel_rfl,
    c167:=by kernel_rfl,
    c168:=by kernel_rfl,
    c171:=by kernel_rfl,
    c173:=by kernel_rfl,
    c210:=by kernel_rfl,
    c212:=by kernel_rfl,
    c213:=by kernel_rfl,
    c232:=by kernel_rfl,
    c233:=by kernel_rfl }
def puRen:Go.Shelf.Ren:=⟨(fun | 14=>105 | 16=>137 | 17=>138 | 19=>167 | 20=>168 | 21=>169 | 22=>170 | 23=>171 | 24=>172 | 25=>184 | 26=>185 | 27=>98 | 28=>124 | 29=>152 | 30=>143 | 31=>144 | 32=>145 | 33=>146 | 34=>173 | 35=>112 | 36=>174 | 37=>175 | 38=>176 | 39=>186 | 40=>187 | n=>n),(fun | 0=>0 | 2=>2 | 3=>3 | 4=>4 | 5=>5 | 9=>9 | 20=>20 | 21=>21 | 22=>22 | 24=>171 | 25=>172 | 34=>230 | 36=>156 | 37=>121 | 39=>232 | 44=>250 | 47=>218 | 48=>253 | 50=>255 | 52=>210 | 55=>212 | 59=>237 | 60=>203 | 61=>238 | 65=>256 | 66=>257 | 67=>77 | n=>n),(fun | 0=>1 | 1=>2 | 2=>0 | 3=>4 | 4=>5 | n=>n)⟩
theorem lay_puint:LaysPu.n14 Tryz.prog puRen :=
  { mixed:=by kernel_rfl,
    f14:=Tryz.func105.trans (congrArg some (by kernel_rfl)),
    f16:=Tryz.func137.trans (congrArg some (by kernel_rfl)),
    f17:=Tryz.func138.trans (congrArg some (by kernel_rfl)),
    f19:=Tryz.func167.trans (congrArg some (by kernel_rfl)),
    f20:=Tryz.func168.trans (congrArg some (by kernel_rfl)),
    f21:=Tryz.func169.trans (congrArg some (by kernel_rfl)),
    f22:=Tryz.func170.trans (congrArg some (by kernel_rfl)),
    f23:=Tryz.func171.trans (congrArg some (by kernel_rfl)),
    f24:=Tryz.func172.trans (congrArg some (by kernel_rfl)),
    f25:=Tryz.func184.trans (congrArg some (by kernel_rfl)),
    f26:=Tryz.func185.trans (congrArg some (by kernel_rfl)),
    f27:=Tryz.func98.trans (congrArg some (by kernel_rfl)),
    f28:=Tryz.func124.trans (congrArg some (by kernel_rfl)),
    f29:=Tryz.func152.trans (congrArg some (by kernel_rfl)),
    f30:=Tryz.func143.trans (congrArg some (by kernel_rfl)),
    f31:=Tryz.func144.trans (congrArg some (by kernel_rfl)),
    f32:=Tryz.func145.trans (congrArg some (by kernel_rfl)),
    f33:=Tryz.func146.trans (congrArg some (by kernel_rfl)),
    f34:=Tryz.func173.trans (congrArg some (by kernel_rfl)),
    f35:=Tryz.func112.trans (congrArg some (by kernel_rfl)),
    f36:=Tryz.func174.trans (congrArg some (by kernel_rfl)),
    f37:=Tryz.func175.trans (congrArg some (by kernel_rfl)),
    f38:=Tryz.func176.trans (congrArg some (by kernel_rfl)),
    f39:=Tryz.func186.trans (congrArg some (by kernel_rfl)),
    f40:=Tryz.func187.trans (congrArg some (by kernel_rfl)),
    t0:=Tryz.underlying0,
    a0:=Tryz.isAgg0,
    z0:=Tryz.sizeOf0,
    v0:=Tryz.zeroValue0,
    i0:=by kernel_rfl,
    t2:=Tryz.underlying2,
    a2:=Tryz.isAgg2,
    z2:=Tryz.sizeOf2,
    v2:=Tryz.zeroValue2,
    i2:=by kernel_rfl,
    t3:=Tryz.underlying3,
    a3:=Tryz.isAgg3,
    z3:=Tryz.sizeOf3,
    v3:=Tryz.zeroValue3,
    i3:=by kernel_rfl,
    t4:=Tryz.underlying4,
    a4:=Tryz.isAgg4,
    z4:=Tryz.sizeOf4,
    v4:=Tryz.zeroValue4,
    i4:=by kernel_rfl,
    t5:=Tryz.underlying5,
    a5:=Tryz.isAgg5,
    z5:=Tryz.sizeOf5,
    v5:=Tryz.zeroValue5,
    i5:=by kernel_rfl,
    t9:=Tryz.underlying9,
    a9:=Tryz.isAgg9,
    z9:=Tryz.sizeOf9,
    v9:=Tryz.zeroValue9,
    i9:=by kernel_rfl,
    t20:=Tryz.underlying20,
    a20:=Tryz.isAgg20,
    z20:=Tryz.sizeOf20,
    v20:=Tryz.zeroValue20,
    i20:=by kernel_rfl,
    t21:=Tryz.underlying21,
    a21:=Tryz.isAgg21,
    z21:=Tryz.sizeOf21,
    v21:=Tryz.zeroValue21,
    i21:=by kernel_rfl,
    t22:=Tryz.underlying22,
    a22:=Tryz.isAgg22,
    z22:=Tryz.sizeOf22,
    v22:=Tryz.zeroValue22,
    i22:=by kernel_rfl,
    t24:=Tryz.underlying171,
    a24:=Tryz.isAgg171,
    z24:=Tryz.sizeOf171,
    v24:=Tryz.zeroValue171,
    i24:=by kernel_rfl,
    t25:=Tryz.underlying172,
    a25:=Tryz.isAgg172,
    z25:=Tryz.sizeOf172,
    v25:=Tryz.zeroValue172,
    i25:=by kernel_rfl,
    t34:=Tryz.underlying230,
    a34:=Tryz.isAgg230,
    z34:=Tryz.sizeOf230,
    v34:=Tryz.zeroValue230,
    i34:=by kernel_rfl,
    c34:=by kernel_rfl,
    t36:=Tryz.underlying156,
    a36:=Tryz.isAgg156,
    z36:=Tryz.sizeOf156,
    v36:=Tryz.zeroValue156,
    i36:=by kernel_rfl,
    t37:=Tryz.underlying121,
    a37:=Tryz.isAgg121,
    z37:=Tryz.sizeOf121,
    v37:=Tryz.zeroValue121,
    i37:=by kernel_rfl,
    t39:=Tryz.underlying232,
    a39:=Tryz.isAgg232,
    z39:=Tryz.sizeOf232,
    v39:=Tryz.zeroValue232,
    i39:=by kernel_rfl,
    t44:=Tryz.underlying250,
    a44:=Tryz.isAgg250,
    z44:=Tryz.sizeOf250,
    v44:=Tryz.zeroValue250,
    i44:=by kernel_rfl,
    t47:=Tryz.underlying218,
    a47:=Tryz.isAgg218,
    z47:=Tryz.sizeOf218,
    v47:=Tryz.zeroValue218,
    i47:=by kernel_rfl,
    t48:=Tryz.underlying253,
    a48:=Tryz.isAgg253,
    z48:=Tryz.sizeOf253,
    v48:=Tryz.zeroValue253,
    i48:=by kernel_rfl,
    t50:=Tryz.underlying255,
    a50:=Tryz.isAgg255,
    z50:=Tryz.sizeOf255,
    v50:=Tryz.zeroValue255,
    i50:=by kernel_rfl,
    t52:=Tryz.underlying210,
    a52:=Tryz.isAgg210,
    z52:=Tryz.sizeOf210,
    v52:=Tryz.zeroValue210,
    i52:=by kernel_rfl,
    t55:=Tryz.underlying212,
    a55:=Tryz.isAgg212,
    z55:=Tryz.sizeOf212,
    v55:=Tryz.zeroValue212,
    i55:=by kernel_rfl,
    t59:=Tryz.underlying237,
    a59:=Tryz.isAgg237,
    z59:=Tryz.sizeOf237,
    v59:=Tryz.zeroValue237,
    i59:=by kernel_rfl,
    t60:=Tryz.underlying203,
    a60:=Tryz.isAgg203,
    z60:=Tryz.sizeOf203,
    v60:=Tryz.zeroValue203,
    i60:=by kernel_rfl,
    t61:=Tryz.underlying238,
    a61:=Tryz.isAgg238,
    z61:=Tryz.sizeOf238,
    t65:=Tryz.underlying256,
    a65:=Tryz.isAgg256,
    z65:=Tryz.sizeOf256,
    v65:=Tryz.zeroValue256,
    i65:=by kernel_rfl,
    t66:=Tryz.underlying257,
    a66:=Tryz.isAgg257,
    z66:=Tryz.sizeOf257,
    v66:=Tryz.zeroValue257,
    i66:=by kernel_rfl,
    t67:=Tryz.underlying77,
    a67:=Tryz.isAgg77,
    z67:=Tryz.sizeOf77,
    v67:=Tryz.zeroValue77,
    i67:=by kernel_rfl,
    g0:=by kernel_rfl,
    m0:=by kernel_rfl,
    g1:=by kernel_rfl,
    m1:=by kernel_rfl,
    g2:=by kernel_rfl,
    m2:=by kernel_rfl,
    g3:=by kernel_rfl,
    m3:=by kernel_rfl,
    g4:=by kernel_rfl,
    m4:=by kernel_rfl }
theorem lay_ex:Builder.Extra Tryz.prog nmRen :=
  { sizeBuilder:=by kernel_rfl,liesBuilder:=by kernel_rfl,t5:=by kernel_rfl,a5:=fun _=>by kernel_rfl,z5:=fun _=>by kernel_rfl,v5:=fun _=>by kernel_rfl,infoByte:=by kernel_rfl,cellsByte:=by kernel_rfl,sizeByte:=by kernel_rfl,neB5:=by decide }
end Go.Proofs.YticjodhkmidljaaGreatDoor
namespace Go.Proofs.YticjodhkmidljaaGreatDoor
open Go.RowKit Go.Shelf
/-- The library's table of trailing zeros lies in its variable. -/
def Tab (w:World):Prop:=∀ k,k<64→w.cell? ⟨5,k,none⟩=some (.int .u8 ((Lib.deBruijn64tab.getD k 0:Nat):Int))
/-- The library's variables. -/
structure PV (w:World):Prop where
  tab : Lib.TabIs Tryz.prog w "internal/strconv.uint64pow10" .u64 Lib.pow10Tab
  syn : ∃ tp p, w.var? Tryz.prog "strconv.ErrSyntax" = some #[.iface tp p]
  rng : ∃ tp p, w.var? Tryz.prog "strconv.ErrRange" = some #[.iface tp p]
  tz:Tab w
theorem var_below {w w':World} {n:String} {cs:Array Value} (hb:Below w.heap.size w w') (h:w.var? Tryz.prog n=some cs):w'.var? Tryz.prog n=some cs:=by
  unfold World.var? at h ⊢
  cases hg:Tryz.prog.globalNamed n with
  | none=>rw [hg] at h;cases h
  | some g =>
    rw [hg] at h
    simp only [Option.bind_some] at h ⊢
    cases hk:w.heap[g]? with
    | none=>rw [hk] at h;cases h
    | some o=>rw [hb.block g (Array.getElem?_eq_some_iff.1 hk).1];exact h
theorem cell_lt {w:World} {b o:Nat} {v:Value} (h:w.cell? ⟨b,o,none⟩=some v):b<w.heap.size:=by
  by_cases hb:b<w.heap.size
  · exact hb
  · unfold World.cell? at h
    rw [Array.getElem?_eq_none (by simpa using hb)] at h
    cases h
theorem PV.below {w w':World} (h:PV w) (hb:Below w.heap.size w w'):PV w':=by
  obtain ⟨t1,p1,h1⟩:=h.syn
  obtain ⟨t2,p2,h2⟩:=h.rng
  exact ⟨var_below hb h.tab,⟨t1,p1,var_below hb h1⟩,⟨t2,p2,var_below hb h2⟩,fun k hk=>(World.cell?_of_block (hb.block _ (cell_lt (h.tz k hk)))).trans (h.tz k hk)⟩
/-- .. whatever is done from block B on. -/
def PVB (B:Nat) (w:World):Prop:=∀ y,Below B w y→PV y
theorem PVB.of {w:World} (h:PV w):PVB w.heap.size w:=fun _ hb=>h.below hb
theorem PVB.on {B:Nat} {w w':World} (h:PVB B w) (hb:Below B w w'):PVB B w':=fun _ h2=>h _ (hb.trans h2)
theorem PVB.here {B:Nat} {w:World} (h:PVB B w):PV w:=h w (Below.refl _ _)
theorem grow_below (w:World) (k:Nat) (os:Array Obj):Below w.heap.size w (Sort.grow (w.drewN k) os) :=
  ⟨rfl,rfl,rfl,by simp [Sort.grow],fun i hi=>by
    show (w.heap++os)[i]?=w.heap[i]?
    exact Array.getElem?_append_left hi⟩
theorem itoa_any (n:Int) (h0 : -9223372036854775808≤n) (h1:n≤9223372036854775807) (w:World) (hv:PV w) :
    Calls Tryz.prog 98 #[.int .i64 n] w fun e w'=>e=.returned (.string ⟨(Lib.itoa n).toArray⟩)∧Below w.heap.size w w' :=
  (Any.strconv_Itoa lay_itoa n h0 h1 w hv.tab).mono fun _ _ ⟨he,k,os,hw⟩=>⟨he,by rw [hw];exact grow_below w k os⟩
/-- What ParseUint tells: a number, or an error. -/
def UintR (R:Option Nat) (w:World) (e:Ending) (w':World):Prop:=Below w.heap.size w w'∧match R with
  | some v=>e=.returned (.tuple #[.int .u64 (v:Int),.nilIface])
  | none=>∃ (x:Nat) (t:TypeId) (p:Value),x<18446744073709551616∧e=.returned (.tuple #[.int .u64 (x:Int),.iface t p])
def okOf {α:Type}:Lib.NumEnd α→Option α
  | .ok v=>some v
  | _=>none
theorem puint_any (s:ByteArray) (hs:s.size≤281474976710656) (w:World) (hv:PV w) :
    Calls Tryz.prog 105 #[.string s,.int .i64 10,.int .i64 32] w (UintR (okOf (Lib.parseUintB 32 s.data.toList)) w):=by
  rcases h:Lib.parseUintB 32 s.data.toList with u | _ | _
  · skip
    refine (Any.strconv_ParseUint_10_at32_ok lay_puint s (by omega) u h w).mono ?_
    rintro e w' ⟨rfl,hw⟩
    refine ⟨?_,rfl⟩
    rcases hw with rfl | rfl
    · exact Below.refl _ _
    · exact Lib.bytesWorld_below _ _ _
  · skip
    obtain ⟨tp,p,hv1⟩:=hv.syn
    refine (Any.strconv_ParseUint_10_at32_syntax_var lay_puint s hs h tp p w hv1).mono ?_
    rintro e w' ⟨N,rfl, -, -, hb⟩
    exact ⟨hb,0,_,_,by decide,rfl⟩
  · skip
    obtain ⟨tp,p,hv1⟩:=hv.rng
    refine (Any.strconv_ParseUint_10_at32_range_var lay_puint s hs h tp p w hv1).mono ?_
    rintro e w' ⟨N,rfl, -, -, hb⟩
    exact ⟨hb,4294967295,_,_,by decide,rfl⟩
theorem rep_any (s:ByteArray) (c:Nat) (w:World) (hc:c≤1000) (hs:s.size≤1000) :
    Calls Tryz.prog 97 #[.string s,.int .i64 (c:Int)] w fun e w'=>e=.returned (.string ⟨(Lib.repeatL s.data.toList c).toArray⟩)∧Below w.heap.size w w' :=
  Any.strings_Repeat lay_rep lay_ex s c w (by omega) (by
    have:=Nat.mul_le_mul hs hc
    omega)
end Go.Proofs.YticjodhkmidljaaGreatDoor
namespace Go.Proofs.YticjodhkmidljaaGreatDoor
/-- A file. -/
structure FilV where
  nm:Bs
  by_:Bs
  sy:Nat
  deriving DecidableEq
/-- A disk: its files rise by their names; fuse none: it has none. -/
structure DskV where
  fs:List FilV
  room:Nat
  fuse:Option Nat
  dead:Bool
def findF (nm:Bs) (l:List FilV):Option FilV:=l.find? (fun f=>decide (f.nm=nm))
def putF (f:FilV):List FilV→List FilV
  | []=>[f]
  | g::r=>if g.nm=f.nm then f::r else if f.nm<g.nm then f::g::r else g::putF f r
def delF (nm:Bs) (l:List FilV):List FilV:=l.filter (fun f=>decide (f.nm≠nm))
def Rise (l:List FilV):Prop:=l.Pairwise (fun f g=>f.nm<g.nm)
def fuseI:Option Nat→Int
  | none => -1
  | some n=>(n:Int)
def DskV.sum (D:DskV):Nat:=D.room+(D.fs.map (fun f=>f.by_.length)).sum
def dsk0:DskV:=⟨[],4194304,none,false⟩
/-- Bytes are written behind a file: the first k of them are there behind it. -/
def DskV.more (D:DskV) (f:FilV) (s:Bs):DskV:={ D with fs:=putF { f with by_:=f.by_++s } D.fs,room:=D.room - s.length }
def appD (D:DskV) (nm s:Bs):DskV × Nat :=
  if D.dead then (D,8) else if nm.length=0∨24<nm.length then (D,2)
  else if D.room<s.length∨((findF nm D.fs).isNone=true∧1000≤D.fs.length) then (D,7)
  else match D.fuse with
    | some k=>if k<s.length then ({ D.more ((findF nm D.fs).getD ⟨nm,[],0⟩) (s.take k) with fuse:=none,dead:=true },9)
      else ({ D.more ((findF nm D.fs).getD ⟨nm,[],0⟩) s with fuse:=some (k - s.length) },0)
    | none=>(D.more ((findF nm D.fs).getD ⟨nm,[],0⟩) s,0)
def withD (D:DskV) (nm:Bs) (act:FilV→DskV × Nat):DskV × Nat:=if D.dead then (D,8) else match findF nm D.fs with
  | some f=>act f
  | none=>(D,11)
def syncD (D:DskV) (nm:Bs):DskV × Nat:=withD D nm fun f=>({ D with fs:=putF { f with sy:=f.by_.length } D.fs },0)
def cutD (D:DskV) (nm:Bs) (n:Int):DskV × Nat:=withD D nm fun f=>if n<(f.sy:Int)∨(f.by_.length:Int)<n then (D,2) else
  ({ D with fs:=putF { f with by_:=f.by_.take n.toNat } D.fs,room:=D.room+(f.by_.length - n.toNat) },0)
def remD (D:DskV) (nm:Bs):DskV × Nat:=withD D nm fun f=>({ D with fs:=delF nm D.fs,room:=D.room+f.by_.length },0)
theorem put_find {f:FilV}:∀ {l:List FilV},findF f.nm (putF f l)=some f
  | []=>by simp [putF,findF]
  | g::r=>by
    unfold putF
    split
    · simp [findF]
    · next h =>
      split
      · simp [findF]
      · have ih:=put_find (f:=f) (l:=r)
        unfold findF at ih ⊢
        rw [List.find?_cons_of_neg (by simpa using h)]
        exact ih
theorem put_other {f:FilV} {nm:Bs} (hn:nm≠f.nm):∀ {l:List FilV},findF nm (putF f l)=findF nm l
  | []=>by simp [putF,findF,Ne.symm hn]
  | g::r=>by
    unfold putF
    split
    · next h =>
      unfold findF
      rw [List.find?_cons_of_neg (by simpa using Ne.symm hn),List.find?_cons_of_neg (by rw [h];simpa using Ne.symm hn)]
    · split
      · unfold findF
        rw [List.find?_cons_of_neg (by simpa using Ne.symm hn)]
      · have ih:=put_other hn (l:=r)
        unfold findF at ih ⊢
        by_cases hg:g.nm=nm
        · rw [List.find?_cons_of_pos (by simpa using hg),List.find?_cons_of_pos (by simpa using hg)]
        · rw [List.find?_cons_of_neg (by simpa using hg),List.find?_cons_of_neg (by simpa using hg),ih]
theorem del_find {nm:Bs} {l:List FilV}:findF nm (delF nm l)=none:=by
  unfold findF delF
  rw [List.find?_eq_none]
  intro f hf
  have:=(List.mem_filter.1 hf).2
  simpa using this
theorem del_other {nm q:Bs} (hn:q≠nm):∀ {l:List FilV},findF q (delF nm l)=findF q l
  | []=>rfl
  | g::r=>by
    have ih:=del_other hn (l:=r)
    unfold findF delF at ih ⊢
    by_cases hg:g.nm=nm
    · rw [List.filter_cons_of_neg (by simpa using hg),List.find?_cons_of_neg (by rw [hg];simpa using Ne.symm hn),ih]
    · rw [List.filter_cons_of_pos (by simpa using hg)]
      by_cases hq:g.nm=q
      · rw [List.find?_cons_of_pos (by simpa using hq),List.find?_cons_of_pos (by simpa using hq)]
      · rw [List.find?_cons_of_neg (by simpa using hq),List.find?_cons_of_neg (by simpa using hq),ih]
theorem find_nm {nm:Bs} {l:List FilV} {f:FilV} (h:findF nm l=some f):f.nm=nm∧f ∈ l:=⟨by simpa using List.find?_some h,List.mem_of_find?_eq_some h⟩
theorem bs_tri (a b:Bs):a<b∨a=b∨b<a:=by
  by_cases h1:a<b
  · exact .inl h1
  · by_cases h2:b<a
    · exact .inr (.inr h2)
    · exact .inr (.inl (List.le_antisymm (List.not_lt.1 h2) (List.not_lt.1 h1)))
theorem put_mem {f g:FilV}:∀ {l:List FilV},g ∈ putF f l→g=f∨g ∈ l
  | [],h=>.inl (List.mem_singleton.1 h)
  | x::r,h=>by
    unfold putF at h
    split at h
    · rcases List.mem_cons.1 h with h | h
      · exact .inl h
      · exact .inr (List.mem_cons_of_mem _ h)
    · split at h
      · rcases List.mem_cons.1 h with h | h
        · exact .inl h
        · exact .inr h
      · rcases List.mem_cons.1 h with h | h
        · exact .inr (by rw [h];exact List.mem_cons_self ..)
        · rcases put_mem h with h | h
          · exact .inl h
          · exact .inr (List.mem_cons_of_mem _ h)
theorem put_rise {f:FilV}:∀ {l:List FilV},Rise l→Rise (putF f l)
  | [],_=>List.pairwise_singleton _ _
  | g::r,h=>by
    obtain ⟨h1,h2⟩:=List.pairwise_cons.1 h
    unfold putF
    split
    · next e=>exact List.pairwise_cons.2 ⟨fun x hx=>by rw [← e];exact h1 x hx,h2⟩
    · next e =>
      split
      · next hl =>
        refine List.pairwise_cons.2 ⟨fun x hx=>?_,h⟩
        rcases List.mem_cons.1 hx with rfl | hx
        · exact hl
        · exact List.lt_trans hl (h1 x hx)
      · next hl =>
        refine List.pairwise_cons.2 ⟨fun x hx=>?_,put_rise h2⟩
        rcases put_mem hx with rfl | hx
        · rcases bs_tri g.nm x.nm with q | q | q
          · exact q
          · exact (e q).elim
          · exact (hl q).elim
        · exact h1 x hx
theorem del_rise {nm:Bs} {l:List FilV} (h:Rise l):Rise (delF nm l):=h.filter _
def totF (l:List FilV):Nat:=(l.map (fun f=>f.by_.length)).sum
theorem tot_cons (f:FilV) (l:List FilV):totF (f::l)=f.by_.length+totF l:=by simp [totF]
theorem rise_gt {f g:FilV} {l:List FilV} (h:Rise (g::l)) (hl:f.nm<g.nm):findF f.nm (g::l)=none:=by
  obtain ⟨h1,_⟩:=List.pairwise_cons.1 h
  unfold findF
  rw [List.find?_eq_none]
  intro x hx q
  have q:x.nm=f.nm:=by simpa using q
  rcases List.mem_cons.1 hx with rfl | hx
  · rw [q] at hl;exact List.lt_irrefl _ hl
  · have:=h1 x hx
    rw [q] at this
    exact List.lt_irrefl _ (List.lt_trans hl this)
theorem put_new {f:FilV}:∀ {l:List FilV},Rise l→findF f.nm l=none→totF (putF f l)=totF l+f.by_.length∧(putF f l).length=l.length+1
  | [],_,_=>by simp [putF,totF]
  | g::r,h,hn=>by
    have hg:g.nm≠f.nm:=by
      intro e
      unfold findF at hn
      rw [List.find?_cons_of_pos (by simpa using e)] at hn
      cases hn
    have hr:findF f.nm r=none:=by
      unfold findF at hn ⊢
      rwa [List.find?_cons_of_neg (by simpa using hg)] at hn
    unfold putF
    rw [if_neg hg]
    split
    · rw [tot_cons f]
      exact ⟨by omega,rfl⟩
    · obtain ⟨h1,h2⟩:=put_new (List.pairwise_cons.1 h).2 hr
      rw [tot_cons,tot_cons,h1]
      exact ⟨by omega,by simp [h2]⟩
theorem put_old {f g:FilV}:∀ {l:List FilV},Rise l→findF f.nm l=some g→totF (putF f l)+g.by_.length=totF l+f.by_.length∧(putF f l).length=l.length
  | x::r,h,hn=>by
    by_cases hx:x.nm=f.nm
    · have e:x=g:=by
        unfold findF at hn
        rw [List.find?_cons_of_pos (by simpa using hx)] at hn
        exact Option.some.inj hn
      unfold putF
      rw [if_pos hx,tot_cons,tot_cons,e]
      exact ⟨by omega,rfl⟩
    · have hr:findF f.nm r=some g:=by
        unfold findF at hn ⊢
        rwa [List.find?_cons_of_neg (by simpa using hx)] at hn
      have hl : ¬ f.nm<x.nm:=fun hl=>by rw [rise_gt h hl] at hn;cases hn
      unfold putF
      rw [if_neg hx,if_neg hl]
      obtain ⟨h1,h2⟩:=put_old (List.pairwise_cons.1 h).2 hr
      rw [tot_cons,tot_cons]
      exact ⟨by omega,by simp [h2]⟩
end Go.Proofs.YticjodhkmidljaaGreatDoor
namespace Go.Proofs.YticjodhkmidljaaGreatDoor
open Go.RowKit
open Go.Maps (Keyed)
open Go.ChangeMaps Go.MapKept
/-- How a value reads: as itself. -/
def Rv (v:Value):Option (DataW Value × List MemPlace):=some (.held v,[])
/-- Block b is a map of at most n entries that holds what M tells. -/
def MpAt (P:Program) (k:TypeId) (w:World) (b n:Nat) (M:Lit→Option Value):Prop :=
  ∃ D:DataW Value,w.ownsMap P k Rv b n D∧∀ l,WideAt.IsKeyLit l→Maps.has D l=(M l).isSome∧∀ v,M l=some v→∀ z,D.atKey l z=.held v
def mpPut (M:Lit→Option Value) (k:Lit) (v:Value):Lit→Option Value:=fun l=>if l.sameKey k then some v else M l
def mpDel (M:Lit→Option Value) (k:Lit):Lit→Option Value:=fun l=>if l.sameKey k then none else M l
section
variable {P : Program} {k : TypeId} {w w' : World} {b n : Nat} {M : Lit → Option Value}
theorem MpAt.lt (h:MpAt P k w b n M):b<w.heap.size:=by obtain ⟨_,h,_⟩:=h;exact h.lt
theorem MpAt.below (h:MpAt P k w b n M) (hb:Below w.heap.size w w'):MpAt P k w' b n M:=by
  obtain ⟨D,⟨es,clock,hg,r⟩,hM⟩:=h
  exact ⟨D,⟨es,clock,(hb.block b (Array.getElem?_eq_some_iff.1 hg).1).trans hg,r⟩,hM⟩
theorem MpAt.stay (h:MpAt P k w b n M) (hb:w'.heap[b]?=w.heap[b]?):MpAt P k w' b n M:=by
  obtain ⟨D,⟨es,clock,hg,r⟩,hM⟩:=h
  exact ⟨D,⟨es,clock,hb.trans hg,r⟩,hM⟩
theorem MpAt.mono (h:MpAt P k w b n M) {m:Nat} (hm:n≤m):MpAt P k w b m M:=by obtain ⟨D,h,hM⟩:=h;exact ⟨D,h.mono hm,hM⟩
theorem mp_new (P:Program) (k:TypeId) (w:World):MpAt P k (w.alloc (.map #[] 0)) w.heap.size 0 (fun _=>none) :=
  ⟨.map [],World.ownsMap_made w P k Rv,fun l _=>⟨rfl,fun v h=>by cases h⟩⟩
theorem mp_at (_h:MpAt P k w b n M) {l:Lit} (_hl:WideAt.IsKeyLit l) {v:Value} {ps:List MemPlace} {z:Value} {D:DataW Value} (hD:Maps.has D l=(M l).isSome∧∀ v,M l=some v→∀ z,D.atKey l z=.held v) (hv:Rv v=some (D.atKey l (.held z),ps)):v=(M l).getD z:=by
  have e:DataW.held v=D.atKey l (.held z):=congrArg Prod.fst (Option.some.inj hv)
  cases hm:M l with
  | none =>
    rw [hm] at hD
    rw [Maps.atKey_of_not_has hD.1] at e
    cases e
    rfl
  | some u =>
    rw [hD.2 u hm] at e
    cases e
    rfl
/-- 'm[k]'. -/
theorem MpAt.look {t e:TypeId} (h:MpAt P k w b n M) (K:Keyed P k) (ht:P.underlying t=some (.map k e)) {z:Value} (hz:(zeroValue e).run P w=.ok z w) {key:Value} {kl:Lit} (hkey:keyOf P k key=some kl) :
    (Instr.lookup t (.map (some b)) key false).run P w=.ok ((M kl).getD z) w:=by
  have h2:=h
  obtain ⟨D,ho,hM⟩:=h
  obtain ⟨v,ps,hrun,hv⟩:=ho.lookup K ht hz (zd:=.held z) (zp:=[]) rfl hkey
  rw [hrun,mp_at h2 (K.key hkey) (hM _ (K.key hkey)) hv]
/-- 'v, ok := m[k]'. -/
theorem MpAt.look_ok {t e:TypeId} (h:MpAt P k w b n M) (K:Keyed P k) (ht:P.underlying t=some (.map k e)) {z:Value} (hz:(zeroValue e).run P w=.ok z w) {key:Value} {kl:Lit} (hkey:keyOf P k key=some kl) :
    (Instr.lookup t (.map (some b)) key true).run P w=.ok (.tuple #[(M kl).getD z,.bool (M kl).isSome]) w:=by
  have h2:=h
  obtain ⟨D,ho,hM⟩:=h
  obtain ⟨v,ps,hrun,hv⟩:=ho.look_ok K ht hz (zd:=.held z) (zp:=[]) rfl hkey
  rw [hrun,mp_at h2 (K.key hkey) (hM _ (K.key hkey)) hv,(hM _ (K.key hkey)).1]
/-- 'm[k] = v'. -/
theorem MpAt.store {t e:TypeId} (h:MpAt P k w b n M) (K:Keyed P k) (ht:P.underlying t=some (.map k e)) (hn:n<maxLen) {key val:Value} {kl:Lit} (hkey:keyOf P k key=some kl) :
    ∃ w',(Instr.mapUpdate t (.map (some b)) key val).run P w=.ok () w'∧MpAt P k w' b (n+1) (mpPut M kl val)∧w.mapTurned w' b:=by
  obtain ⟨D,ho,hM⟩:=h
  obtain ⟨w',hrun,ho',ht'⟩:=ho.store K ht hn (d:=.held val) (ps:=[]) hkey rfl
  refine ⟨w',hrun,⟨_,ho',fun l hl=>?_⟩,ht'⟩
  unfold mpPut
  by_cases he:l=kl
  · subst he
    rw [if_pos (WideAt.sameKey_self hl)]
    exact ⟨Maps.has_put_same ho.isMap hl _,fun v hv z=>by cases hv;exact Maps.atKey_put_same ho.isMap hl _ _⟩
  · rw [if_neg (fun q=>he (WideAt.sameKey_eq q))]
    refine ⟨(Maps.has_put_other he _).trans (hM l hl).1,fun v hv z=>(Maps.atKey_put_other he _ _).trans ((hM l hl).2 v hv z)⟩
theorem turned_block {w w':World} {b:Nat} (h:w.mapTurned w' b) {g:Nat} (hg:g≠b):w'.heap[g]?=w.heap[g]?:=by
  obtain ⟨es,clock,es',clock',hb,rfl⟩:=h
  exact heap_setBlock_other hb _ hg
end
section
variable {P : Program} {w : World} {ops : Array Oper} {rest : List Oper} {o : Oper} {a : Act} {Q : Exit → Act → World → Prop} {k : TypeId} {b n : Nat} {M : Lit → Option Value}
theorem wpList_look_mp (hg:o.guard=none) (m x:Operand) (t e:TypeId) (hop:o.op=Op.lookup t m x false) (K:Keyed P k) (ht:P.underlying t=some (.map k e)) {z:Value} (hz:∀ w,(zeroValue e).run P w=.ok z w)
    (hm:a.eval m=.map (some b)) (h:MpAt P k w b n M) (key:Value) (kl:Lit) (hx:a.eval x=key) (hkey:keyOf P k key=some kl)
    (hK:wpList P ops Q rest (a.put o.dst ((M kl).getD z)) w):wpList P ops Q (o::rest) a w:=by
  refine wpList_plain hg fun K' hK'=>?_
  unfold Oper.wp
  simp [execOp,hop,hm,hx,h.look K ht (hz w) hkey,Result.andThen]
  exact hK' _ _ hK
theorem wpList_lookok_mp (hg:o.guard=none) (m x:Operand) (t e:TypeId) (hop:o.op=Op.lookup t m x true) (K:Keyed P k) (ht:P.underlying t=some (.map k e)) {z:Value} (hz:∀ w,(zeroValue e).run P w=.ok z w)
    (hm:a.eval m=.map (some b)) (h:MpAt P k w b n M) (key:Value) (kl:Lit) (hx:a.eval x=key) (hkey:keyOf P k key=some kl)
    (hK:wpList P ops Q rest (a.put o.dst (.tuple #[(M kl).getD z,.bool (M kl).isSome])) w):wpList P ops Q (o::rest) a w:=by
  refine wpList_plain hg fun K' hK'=>?_
  unfold Oper.wp
  simp [execOp,hop,hm,hx,h.look_ok K ht (hz w) hkey,Result.andThen]
  exact hK' _ _ hK
end
end Go.Proofs.YticjodhkmidljaaGreatDoor
namespace Go.Proofs.YticjodhkmidljaaGreatDoor
open Go.RowKit
open Go.Maps (Keyed)
open Go.ChangeMaps Go.MapKept
/-- Block b is a map of s keys that holds what M tells; at most n were there at once. -/
def MpS (P:Program) (k:TypeId) (w:World) (b n s:Nat) (M:Lit→Option Value):Prop :=
  ∃ D:DataW Value,w.ownsMap P k Rv b n D∧(∀ l,WideAt.IsKeyLit l→Maps.has D l=(M l).isSome∧∀ v,M l=some v→∀ z,D.atKey l z=.held v)∧Maps.size D=s
section
variable {P : Program} {k : TypeId} {w w' : World} {b n s : Nat} {M : Lit → Option Value}
theorem MpS.at_ (h:MpS P k w b n s M):MpAt P k w b n M:=by obtain ⟨D,h1,h2,_⟩:=h;exact ⟨D,h1,h2⟩
theorem MpS.lt (h:MpS P k w b n s M):b<w.heap.size:=h.at_.lt
theorem MpS.stay (h:MpS P k w b n s M) (hb:w'.heap[b]?=w.heap[b]?):MpS P k w' b n s M:=by
  obtain ⟨D,⟨es,clock,hg,r⟩,hM⟩:=h
  exact ⟨D,⟨es,clock,hb.trans hg,r⟩,hM⟩
theorem MpS.congr (h:MpS P k w b n s M) {M':Lit→Option Value} {s':Nat} (hM:∀ l,WideAt.IsKeyLit l→M l=M' l) (hs:s=s'):MpS P k w b n s' M':=by
  obtain ⟨D,h1,h2,h3⟩:=h
  exact ⟨D,h1,fun l hl=>by rw [← hM l hl];exact h2 l hl,h3.trans hs⟩
theorem mps_new (P:Program) (k:TypeId) (w:World):MpS P k (w.alloc (.map #[] 0)) w.heap.size 0 0 (fun _=>none) :=
  ⟨.map [],World.ownsMap_made w P k Rv,fun l _=>⟨rfl,fun v h=>by cases h⟩,rfl⟩
theorem MpS.len {t e:TypeId} (h:MpS P k w b n s M) (ht:P.underlying t=some (.map k e)) (ty:TypeId):(Builtin.len_ #[t] ty #[.map (some b)]).run P w=.ok (.int .i64 (s:Int)) w:=by
  obtain ⟨D,h1,_,h3⟩:=h
  rw [h1.len ht ty,h3]
theorem MpS.store {t e:TypeId} (h:MpS P k w b n s M) (K:Keyed P k) (ht:P.underlying t=some (.map k e)) (hn:n<maxLen) {key val:Value} {kl:Lit} (hkey:keyOf P k key=some kl) :
    ∃ w',(Instr.mapUpdate t (.map (some b)) key val).run P w=.ok () w'∧MpS P k w' b (n+1) (if (M kl).isSome then s else s+1) (mpPut M kl val)∧w.mapTurned w' b:=by
  obtain ⟨D,ho,hM,hs⟩:=h
  obtain ⟨w',hrun,ho',ht'⟩:=ho.store K ht hn (d:=.held val) (ps:=[]) hkey rfl
  refine ⟨w',hrun,⟨_,ho',fun l hl=>?_,?_⟩,ht'⟩
  · unfold mpPut
    by_cases he:l=kl
    · subst he
      rw [if_pos (WideAt.sameKey_self hl)]
      exact ⟨Maps.has_put_same ho.isMap hl _,fun v hv z=>by cases hv;exact Maps.atKey_put_same ho.isMap hl _ _⟩
    · rw [if_neg (fun q=>he (WideAt.sameKey_eq q))]
      refine ⟨(Maps.has_put_other he _).trans (hM l hl).1,fun v hv z=>(Maps.atKey_put_other he _ _).trans ((hM l hl).2 v hv z)⟩
  · rw [Maps.size_put (ho.tidy K),hs,(hM kl (K.key hkey)).1]
theorem MpS.drop {t e:TypeId} (h:MpS P k w b n s M) (K:Keyed P k) (ht:P.underlying t=some (.map k e)) {key:Value} {kl:Lit} (hkey:keyOf P k key=some kl) (ty:TypeId) :
    ∃ w',(Builtin.delete_ #[t,k] ty #[.map (some b),key]).run P w=.ok (.tuple #[]) w'∧MpS P k w' b n (if (M kl).isSome then s - 1 else s) (mpDel M kl)∧w.mapTurned w' b:=by
  obtain ⟨D,ho,hM,hs⟩:=h
  obtain ⟨w',hrun,ho',ht'⟩:=ho.drop K ht hkey ty
  refine ⟨w',hrun,⟨_,ho',fun l hl=>?_,?_⟩,ht'⟩
  · unfold mpDel
    by_cases he:l=kl
    · subst he
      rw [if_pos (WideAt.sameKey_self hl)]
      exact ⟨Maps.has_del_same,fun v hv=>by cases hv⟩
    · rw [if_neg (fun q=>he (WideAt.sameKey_eq q))]
      exact ⟨(Maps.has_del_other he).trans (hM l hl).1,fun v hv z=>(Maps.atKey_del_other he _).trans ((hM l hl).2 v hv z)⟩
  · have h2:=Maps.size_del (ho.tidy K) (k:=kl)
    rw [(hM kl (K.key hkey)).1,hs] at h2
    cases hk:(M kl).isSome with
    | true=>rw [hk] at h2;simp only [if_true] at h2 ⊢; omega
    | false=>rw [hk] at h2;simp only [Bool.false_eq_true,if_false] at h2 ⊢; omega
end
end Go.Proofs.YticjodhkmidljaaGreatDoor
namespace Go.Proofs.YticjodhkmidljaaGreatDoor
open Go.RowKit
theorem st_eq {g:Nat}:∀ (vs:List Value) (i:Nat) (y:World),y.setCells g i vs=rowSt y g i vs
  | [],_,_=>rfl
  | _::r,i,_=>st_eq r (i+1) _
theorem range_row {y:World} {g:Nat} {cs:List Value} {t:TypeId} (h:y.heap[g]?=some (.cells cs.toArray t (0,0))):y.rangeAt g 0 cs:=fun j v hv=>by
  rw [Nat.zero_add]
  simp only [World.cell?,h]
  simpa using hv
theorem there_row {y:World} {g:Nat} {cs:List Value} {t:TypeId} (h:y.heap[g]?=some (.cells cs.toArray t (0,0))):y.there g 0 cs.length:=fun j hj=>⟨by
  rw [Nat.zero_add]
  simp only [World.cell?,h]
  simp [hj],by
  rw [Nat.zero_add]
  unfold World.frozen?
  rw [h]
  rfl⟩
/-- A whole variable is loaded. -/
theorem row_loadAt {P:Program} {y:World} {g:Nat} {cs:List Value} {t:TypeId} {d:TypeDesc} (h:y.heap[g]?=some (.cells cs.toArray t (0,0))) (hu:P.underlying t=some d) (hd:d.isRow=true) (hs:(P.info? t).map (·.size)=some cs.length) :
    (Instr.loadAt t (.pointer (some ⟨g,0,none⟩))).run P y=.ok (.agg cs.toArray) y:=run_loadAt_mid y g 0 t cs d (range_row h) hu hd hs
/-- A load, as an operation of a region, by what is loaded. -/
theorem exec_load {P:Program} {ρ:Operand→Value} {o:Oper} {t:TypeId} {a:Operand} (h:o.op=.load t a) {p:Value} (ha:ρ a=p) {y:World} {V:Value} (hr:(Instr.loadAt t p).run P y=.ok V y):(execOp ρ o).run P y=.ok (.value V) y:=by
  simp only [execOp,h,ha,Sem.run_bind,hr,Result.andThen_ok,Sem.run_pure]
/-- A new variable, and what is stored into it. -/
theorem box_row (y:World) (cs0 cs:List Value) (t:TypeId) (hl:cs0.length=cs.length):((y.alloc (.cells cs0.toArray t)).setCells y.heap.size 0 cs).heap[y.heap.size]?=some (.cells cs.toArray t (0,0)):=by
  rw [st_eq]
  exact rowSt_row cs [] cs0 _ (heap_alloc_new _ _) hl
theorem box_below (y:World) (cs0 cs:List Value) (t:TypeId):Below y.heap.size y ((y.alloc (.cells cs0.toArray t)).setCells y.heap.size 0 cs):=by
  rw [st_eq]
  exact rowSt_below (Nat.le_refl _) cs 0 _ ((Below.refl _ _).alloc (Nat.le_refl _) _)
theorem box_size (y:World) (cs0 cs:List Value) (t:TypeId):y.heap.size<((y.alloc (.cells cs0.toArray t)).setCells y.heap.size 0 cs).heap.size:=by
  rw [st_eq]
  have:=(rowSt_below (Nat.zero_le _) cs 0 _ (Below.refl 0 (y.alloc (.cells cs0.toArray t))) (g:=y.heap.size)).size
  rw [World.size_alloc] at this
  exact this
end Go.Proofs.YticjodhkmidljaaGreatDoor
namespace Go.Proofs.YticjodhkmidljaaGreatDoor
open Go.RowKit
open Go.Maps (Keyed)
open Go.ChangeMaps Go.MapKept
theorem lawSt:Keyed Tryz.prog 9:=Maps.string_keyed Tryz.underlying9
/-- What the directory holds. -/
def dirM (C:Bs→Nat) (fs:List FilV):Lit→Option Value
  | .string nm=>(findF nm fs).map (fun f=>.pointer (some ⟨C f.nm,0,none⟩))
  | _=>none
def dskC (b:Nat) (D:DskV):Array Value:=#[.map (some b),.int .i64 (D.room:Int),.int .i64 (fuseI D.fuse),.bool D.dead]
def filC (f:FilV):Array Value:=#[.string ⟨f.by_.toArray⟩,.int .i64 (f.sy:Int)]
/-- A disk at block p, its directory at block b, its files at the blocks that C tells; L: all its blocks. -/
structure DskAt (w:World) (p b n:Nat) (C:Bs→Nat) (L:List Nat) (D:DskV):Prop where
  d:w.heap[p]?=some (.cells (dskC b D) 86 (0,0))
  m:MpS Tryz.prog 9 w b n D.fs.length (dirM C D.fs)
  c:∀ f ∈ D.fs,w.heap[C f.nm]?=some (.cells (filC f) 93 (0,0))
  inj:∀ f ∈ D.fs,∀ g ∈ D.fs,C f.nm=C g.nm→f.nm=g.nm
  pb:p ∈ L∧b ∈ L∧p≠b
  cl:∀ f ∈ D.fs,C f.nm ∈ L∧C f.nm≠p∧C f.nm≠b
  ris:Rise D.fs
  syn:∀ f ∈ D.fs,f.sy≤f.by_.length
  sum:D.room+totF D.fs≤4194304
  fz:∀ k,D.fuse=some k→k≤9223372036854775807
/-- Nothing but the blocks of L, and new ones, has turned. -/
structure Turns (L:List Nat) (w w':World):Prop where
  os:w'.os=w.os
  tape:w'.tape=w.tape
  out:w'.output=w.output
  size:w.heap.size≤w'.heap.size
  block:∀ g,g<w.heap.size→g ∉ L→w'.heap[g]?=w.heap[g]?
theorem Turns.refl (L:List Nat) (w:World):Turns L w w:=⟨rfl,rfl,rfl,Nat.le_refl _,fun _ _ _=>rfl⟩
theorem Turns.trans {L:List Nat} {a b c:World} (h:Turns L a b) (k:Turns L b c):Turns L a c:=⟨k.os.trans h.os,k.tape.trans h.tape,k.out.trans h.out,Nat.le_trans h.size k.size,fun g hg hl=>(k.block g (Nat.lt_of_lt_of_le hg h.size) hl).trans (h.block g hg hl)⟩
theorem Turns.of {L:List Nat} {w y:World} (h:Below w.heap.size w y):Turns L w y:=⟨h.os,h.tape,h.output,h.size,fun g hg _=>h.block g hg⟩
theorem Turns.wide {L L':List Nat} {a b:World} (h:Turns L a b) (hl:∀ g,g ∈ L→g ∈ L'):Turns L' a b:=⟨h.os,h.tape,h.out,h.size,fun g hg hn=>h.block g hg (fun q=>hn (hl g q))⟩
theorem Turns.below {L:List Nat} {w0 w w':World} {B:Nat} (h:Turns L w w') (h0:Below B w0 w) (hB:B≤w.heap.size) (hL:∀ g ∈ L,B≤g):Below B w0 w':=h0.trans ⟨h.os,h.tape,h.out,h.size,fun g hg=>h.block g (by omega) (fun q=>by have:=hL g q;omega)⟩
theorem DskAt.keep {w w':World} {p b n:Nat} {C:Bs→Nat} {L:List Nat} {D:DskV} (h:DskAt w p b n C L D) (hk:∀ g ∈ L,w'.heap[g]?=w.heap[g]?):DskAt w' p b n C L D :=
  ⟨(hk p h.pb.1).trans h.d,h.m.stay (hk b h.pb.2.1),fun f hf=>(hk _ (h.cl f hf).1).trans (h.c f hf),h.inj,h.pb,h.cl,h.ris,h.syn,h.sum,h.fz⟩
theorem DskAt.lt {w:World} {p b n:Nat} {C:Bs→Nat} {L:List Nat} {D:DskV} (h:DskAt w p b n C L D):p<w.heap.size:=(Array.getElem?_eq_some_iff.1 h.d).1
theorem DskAt.cells {w:World} {p b n:Nat} {C:Bs→Nat} {L:List Nat} {D:DskV} (h:DskAt w p b n C L D):w.cell? ⟨p,0,none⟩=some (.map (some b))∧w.cell? ⟨p,1,none⟩=some (.int .i64 (D.room:Int))∧w.cell? ⟨p,2,none⟩=some (.int .i64 (fuseI D.fuse))∧w.cell? ⟨p,3,none⟩=some (.bool D.dead) :=
  ⟨cell_of_row _ _ _ _ _ _ h.d,cell_of_row _ _ _ _ _ _ h.d,cell_of_row _ _ _ _ _ _ h.d,cell_of_row _ _ _ _ _ _ h.d⟩
theorem thaw0 {w:World} {p:Nat} {cs:Array Value} {t:TypeId} (j:Nat) (h:w.heap[p]?=some (.cells cs t (0,0))):w.frozen? ⟨p,j,none⟩=false:=by
  unfold World.frozen?
  rw [h]
  simp
set_option maxRecDepth 100000 in
theorem new_any (w:World):Calls Tryz.prog 17 #[] w fun e w'=>∃ C L,e=.returned (.pointer (some ⟨w.heap.size+1,0,none⟩))∧DskAt w' (w.heap.size+1) w.heap.size 0 C L dsk0∧Below w.heap.size w w'∧∀ g ∈ L,w.heap.size≤g:=by
  have hmm:=@run_makeMap Tryz.prog
  go_enter Tryz.func17,Tryz.ntmps17
  go_wp2
  go_ret
  refine ⟨fun _=>0,[w.heap.size+1,w.heap.size],rfl,⟨?_,?_,fun f hf=>(by cases hf),fun f hf=>(by cases hf),⟨by simp,by simp,by omega⟩,fun f hf=>(by cases hf),List.Pairwise.nil,fun f hf=>(by cases hf),by decide,fun k hk=>(by cases hk)⟩,((Below.refl _ w).alloc (Nat.le_refl _) _).alloc (by simp) _,fun g hg=>by simp at hg;omega⟩
  · have h:=heap_alloc_new (w.alloc (.map #[] 0)) (.cells #[.map (some w.heap.size),.int .i64 4194304,.int .i64 (-1),.bool false] 86)
    rw [show (w.alloc (.map #[] 0)).heap.size=w.heap.size+1 by simp] at h
    exact h
  · refine ((mps_new Tryz.prog 9 w).congr (fun l _=>?_) rfl).stay (heap_alloc_old _ _ (by simp))
    unfold dirM
    split <;> rfl
set_option maxRecDepth 100000 in
theorem dead_any {p b n:Nat} {C:Bs→Nat} {L:List Nat} {D:DskV} (w:World) (h:DskAt w p b n C L D):Calls Tryz.prog 20 #[.pointer (some ⟨p,0,none⟩)] w fun e w'=>e=.returned (.bool D.dead)∧w=w':=by
  obtain ⟨c0,c1,c2,c3⟩:=h.cells
  go_enter Tryz.func20,Tryz.ntmps20
  go_wp2
  go_ret
  exact ⟨rfl,rfl⟩
set_option maxRecDepth 100000 in
theorem powered_dead {p b n:Nat} {C:Bs→Nat} {L:List Nat} {D:DskV} (w:World) (h:DskAt w p b n C L D) (hd:D.dead=true) (f:FuncId) (cap:Array Value):Calls Tryz.prog 38 #[.pointer (some ⟨p,0,none⟩),.func (.func f) #[] cap] w fun e w'=>e=.returned (.int .i64 8)∧w=w':=by
  obtain ⟨c0,c1,c2,c3⟩:=h.cells
  rw [hd] at c3
  go_enter Tryz.func38,Tryz.ntmps38
  go_wp2
  go_ret
  exact ⟨rfl,rfl⟩
set_option maxRecDepth 100000 in
theorem powered_any {p b n:Nat} {C:Bs→Nat} {L:List Nat} {D:DskV} (w:World) (h:DskAt w p b n C L D) (hd:D.dead=false) (f:FuncId) (hE:∀ (xs:Array Value) (y:World),(callFunc f xs).run Tryz.prog y=.ok (.enter f xs) y) (cap:Array Value) {R:Int→World→Prop} (hf:Calls Tryz.prog f cap w fun e w'=>∃ k,e=.returned (.int .i64 k)∧R k w') :
    Calls Tryz.prog 38 #[.pointer (some ⟨p,0,none⟩),.func (.func f) #[] cap] w fun e w'=>∃ k,e=.returned (.int .i64 k)∧R k w':=by
  obtain ⟨c0,c1,c2,c3⟩:=h.cells
  rw [hd] at c3
  have HF:=Lib.hid hf
  clear hf
  go_enter Tryz.func38,Tryz.ntmps38
  go_upto_region 5 with fail
  go_wp2_with fail
  refine HF.out.mono ?_
  rintro e w' ⟨k,rfl,hr⟩
  have HR:=Lib.hid hr
  clear hr
  go_wp2
  go_ret
  exact ⟨k,rfl,HR.out⟩
end Go.Proofs.YticjodhkmidljaaGreatDoor
