/- A part of the proof: TryzShelf. -/
import Derived.Shelf.Strings.Trim
import Derived.Shelf.Small.Utf8
import Derived.Shelf.Small.Bits
import Derived.Shelf.Small.Strs
import Derived.Shelf.Strconv.Itoa0
import Derived.Shelf.Strings.Search1
import Derived.Shelf.Sort.Plain
import Derived.Shelf.Strings.Prefix
import Derived.Shelf.Strings.Fields
import Derived.Shelf.Unicode.Latin
import Derived.Shelf.Strings.Runes
import Derived.Shelf.Strings.AsciiSet
import Derived.Shelf.Bits.Mul64
import Derived.Shelf.Unicode.DecodeSlow
import Derived.Shelf.Unicode.Is16White
import Derived.Shelf.Unicode.IsSpaceAny
import Derived.Shelf.Unicode.Is16WhiteD
import Derived.Shelf.Unicode.IsSpaceAnyD
import Derived.Shelf.Unicode.Is16Any
import Derived.Shelf.Unicode.Is32Any
import Derived.Shelf.Unicode.ExclAny
import Derived.Shelf.Slices.In.SortNone
import Derived.Test.YtaenfjplagiioaaGreatDoorProg
noncomputable section
set_option linter.all false
namespace Go.Proofs
open Go.Shelf
section
def Tryz.lays160_ren:Go.Shelf.Ren:=⟨fun | 160=>127 | 232=>134 | 231=>133 | 227=>135 | 234=>137 | 233=>136 | 236=>139 | 235=>138 | 228=>146 | 271=>149 | 151=>148 | 197=>147 | 120=>154 | 152=>153 | 260=>152 | 137=>128 | 119=>157 | 224=>158 | 225=>159 | 217=>140 | 266=>150 | n=>n,fun | 9=>9 | 4=>4 | 3=>3 | 5=>5 | 117=>177 | 116=>176 | 0=>0 | 124=>180 | 21=>21 | 105=>185 | 46=>110 | 119=>183 | 139=>207 | 138=>206 | n=>n,fun | 3=>3 | 4=>4 | n=>n⟩
theorem Tryz.lays160:Go.Proofs.Lays.n160 Tryz.prog Tryz.lays160_ren:={
 mixed:=by kernel_rfl
 f119:=Tryz.func157.trans (congrArg some (by kernel_rfl))
 f120:=Tryz.func154.trans (congrArg some (by kernel_rfl))
 f137:=Tryz.func128.trans (congrArg some (by kernel_rfl))
 f151:=Tryz.func148.trans (congrArg some (by kernel_rfl))
 f152:=Tryz.func153.trans (congrArg some (by kernel_rfl))
 f160:=Tryz.func127.trans (congrArg some (by kernel_rfl))
 f197:=Tryz.func147.trans (congrArg some (by kernel_rfl))
 f217:=Tryz.func140.trans (congrArg some (by kernel_rfl))
 f224:=Tryz.func158.trans (congrArg some (by kernel_rfl))
 f225:=Tryz.func159.trans (congrArg some (by kernel_rfl))
 f227:=Tryz.func135.trans (congrArg some (by kernel_rfl))
 f228:=Tryz.func146.trans (congrArg some (by kernel_rfl))
 f231:=Tryz.func133.trans (congrArg some (by kernel_rfl))
 f232:=Tryz.func134.trans (congrArg some (by kernel_rfl))
 f233:=Tryz.func136.trans (congrArg some (by kernel_rfl))
 f234:=Tryz.func137.trans (congrArg some (by kernel_rfl))
 f235:=Tryz.func138.trans (congrArg some (by kernel_rfl))
 f236:=Tryz.func139.trans (congrArg some (by kernel_rfl))
 f260:=Tryz.func152.trans (congrArg some (by kernel_rfl))
 f266:=Tryz.func150.trans (congrArg some (by kernel_rfl))
 f271:=Tryz.func149.trans (congrArg some (by kernel_rfl))
 t0:=Tryz.underlying0
 a0:=Tryz.isAgg0
 z0:=Tryz.sizeOf0
 v0:=Tryz.zeroValue0
 t3:=Tryz.underlying3
 a3:=Tryz.isAgg3
 z3:=Tryz.sizeOf3
 v3:=Tryz.zeroValue3
 t4:=Tryz.underlying4
 a4:=Tryz.isAgg4
 z4:=Tryz.sizeOf4
 v4:=Tryz.zeroValue4
 t5:=Tryz.underlying5
 a5:=Tryz.isAgg5
 z5:=Tryz.sizeOf5
 v5:=Tryz.zeroValue5
 t9:=Tryz.underlying9
 a9:=Tryz.isAgg9
 z9:=Tryz.sizeOf9
 v9:=Tryz.zeroValue9
 t21:=Tryz.underlying21
 a21:=Tryz.isAgg21
 z21:=Tryz.sizeOf21
 v21:=Tryz.zeroValue21
 t46:=Tryz.underlying110
 a46:=Tryz.isAgg110
 z46:=Tryz.sizeOf110
 v46:=Tryz.zeroValue110
 t105:=Tryz.underlying185
 a105:=Tryz.isAgg185
 z105:=Tryz.sizeOf185
 v105:=Tryz.zeroValue185
 t116:=Tryz.underlying176
 a116:=Tryz.isAgg176
 z116:=Tryz.sizeOf176
 t117:=Tryz.underlying177
 a117:=Tryz.isAgg177
 z117:=Tryz.sizeOf177
 v117:=Tryz.zeroValue177
 t119:=Tryz.underlying183
 a119:=Tryz.isAgg183
 z119:=Tryz.sizeOf183
 t124:=Tryz.underlying180
 a124:=Tryz.isAgg180
 z124:=Tryz.sizeOf180
 v124:=Tryz.zeroValue180
 t138:=Tryz.underlying206
 a138:=Tryz.isAgg206
 z138:=Tryz.sizeOf206
 v138:=Tryz.zeroValue206
 t139:=Tryz.underlying207
 a139:=Tryz.isAgg207
 z139:=Tryz.sizeOf207
 v139:=Tryz.zeroValue207
 g3:=by kernel_rfl
 g4:=by kernel_rfl }
def Tryz.lays137_ren:Go.Shelf.Ren:=⟨fun | 137=>128 | 217=>140 | 266=>150 | n=>n,fun | 9=>9 | 5=>5 | 3=>3 | n=>n,fun | n=>n⟩
theorem Tryz.lays137:Go.Proofs.Lays.n137 Tryz.prog Tryz.lays137_ren:={
 mixed:=by kernel_rfl
 f137:=Tryz.func128.trans (congrArg some (by kernel_rfl))
 f217:=Tryz.func140.trans (congrArg some (by kernel_rfl))
 f266:=Tryz.func150.trans (congrArg some (by kernel_rfl))
 t3:=Tryz.underlying3
 a3:=Tryz.isAgg3
 z3:=Tryz.sizeOf3
 v3:=Tryz.zeroValue3
 t5:=Tryz.underlying5
 a5:=Tryz.isAgg5
 z5:=Tryz.sizeOf5
 v5:=Tryz.zeroValue5
 t9:=Tryz.underlying9
 a9:=Tryz.isAgg9
 z9:=Tryz.sizeOf9
 v9:=Tryz.zeroValue9 }
open Go.RowKit in
theorem Tryz.strings_IndexByte (s:ByteArray) (c:Int) (w:World) :
  Calls Tryz.prog 128 #[.string s,.int .u8 c] w fun e w'=>e=.returned (.int .i64 (Lib.indexByte s.data.toList c.toNat.toUInt8))∧w'=w:=Any.strings_IndexByte Tryz.lays137 s c w
def Tryz.lays190_ren:Go.Shelf.Ren:=⟨fun | 190=>39 | 125=>67 | 258=>66 | 128=>98 | 129=>99 | 302=>89 | 303=>90 | 304=>91 | 305=>92 | 306=>93 | 307=>94 | 308=>95 | 309=>96 | 310=>97 | 333=>108 | 329=>109 | 330=>110 | 334=>111 | 335=>112 | 336=>113 | 344=>125 | n=>n,fun | 31=>31 | 9=>9 | 3=>3 | 46=>110 | 0=>0 | 51=>148 | 53=>150 | 4=>4 | 183=>140 | 182=>139 | 131=>145 | 5=>5 | 218=>159 | 222=>122 | 228=>166 | 229=>167 | n=>n,fun | n=>n⟩
theorem Tryz.lays190:Go.Proofs.Lays.n190 Tryz.prog Tryz.lays190_ren:={
 mixed:=by kernel_rfl
 f125:=Tryz.func67.trans (congrArg some (by kernel_rfl))
 f128:=Tryz.func98.trans (congrArg some (by kernel_rfl))
 f129:=Tryz.func99.trans (congrArg some (by kernel_rfl))
 f190:=Tryz.func39.trans (congrArg some (by kernel_rfl))
 f258:=Tryz.func66.trans (congrArg some (by kernel_rfl))
 f302:=Tryz.func89.trans (congrArg some (by kernel_rfl))
 f303:=Tryz.func90.trans (congrArg some (by kernel_rfl))
 f304:=Tryz.func91.trans (congrArg some (by kernel_rfl))
 f305:=Tryz.func92.trans (congrArg some (by kernel_rfl))
 f306:=Tryz.func93.trans (congrArg some (by kernel_rfl))
 f307:=Tryz.func94.trans (congrArg some (by kernel_rfl))
 f308:=Tryz.func95.trans (congrArg some (by kernel_rfl))
 f309:=Tryz.func96.trans (congrArg some (by kernel_rfl))
 f310:=Tryz.func97.trans (congrArg some (by kernel_rfl))
 f329:=Tryz.func109.trans (congrArg some (by kernel_rfl))
 f330:=Tryz.func110.trans (congrArg some (by kernel_rfl))
 f333:=Tryz.func108.trans (congrArg some (by kernel_rfl))
 f334:=Tryz.func111.trans (congrArg some (by kernel_rfl))
 f335:=Tryz.func112.trans (congrArg some (by kernel_rfl))
 f336:=Tryz.func113.trans (congrArg some (by kernel_rfl))
 f344:=Tryz.func125.trans (congrArg some (by kernel_rfl))
 t0:=Tryz.underlying0
 a0:=Tryz.isAgg0
 z0:=Tryz.sizeOf0
 v0:=Tryz.zeroValue0
 t3:=Tryz.underlying3
 a3:=Tryz.isAgg3
 z3:=Tryz.sizeOf3
 v3:=Tryz.zeroValue3
 t4:=Tryz.underlying4
 a4:=Tryz.isAgg4
 z4:=Tryz.sizeOf4
 v4:=Tryz.zeroValue4
 t5:=Tryz.underlying5
 a5:=Tryz.isAgg5
 z5:=Tryz.sizeOf5
 v5:=Tryz.zeroValue5
 t9:=Tryz.underlying9
 a9:=Tryz.isAgg9
 z9:=Tryz.sizeOf9
 v9:=Tryz.zeroValue9
 t31:=Tryz.underlying31
 a31:=Tryz.isAgg31
 z31:=Tryz.sizeOf31
 v31:=Tryz.zeroValue31
 t46:=Tryz.underlying110
 a46:=Tryz.isAgg110
 z46:=Tryz.sizeOf110
 v46:=Tryz.zeroValue110
 t51:=Tryz.underlying148
 a51:=Tryz.isAgg148
 z51:=Tryz.sizeOf148
 v51:=Tryz.zeroValue148
 t53:=Tryz.underlying150
 a53:=Tryz.isAgg150
 z53:=Tryz.sizeOf150
 v53:=Tryz.zeroValue150
 t131:=Tryz.underlying145
 a131:=Tryz.isAgg145
 z131:=Tryz.sizeOf145
 v131:=Tryz.zeroValue145
 t182:=Tryz.underlying139
 a182:=Tryz.isAgg139
 z182:=Tryz.sizeOf139
 v182:=Tryz.zeroValue139
 t183:=Tryz.underlying140
 a183:=Tryz.isAgg140
 z183:=Tryz.sizeOf140
 v183:=Tryz.zeroValue140
 t218:=Tryz.underlying159
 a218:=Tryz.isAgg159
 z218:=Tryz.sizeOf159
 v218:=Tryz.zeroValue159
 t222:=Tryz.underlying122
 a222:=Tryz.isAgg122
 z222:=Tryz.sizeOf122
 v222:=Tryz.zeroValue122
 t228:=Tryz.underlying166
 a228:=Tryz.isAgg166
 z228:=Tryz.sizeOf166
 v228:=Tryz.zeroValue166
 t229:=Tryz.underlying167
 a229:=Tryz.isAgg167
 z229:=Tryz.sizeOf167
 v229:=Tryz.zeroValue167 }
open Go.Sort Go.RowKit in
theorem Tryz.slices_Sort_string (blk off cap:Nat) (ss:List (List UInt8)) (w:World) (hH:Holds encStr w blk off ss.toArray) (hblk:blk<w.heap.size) (hsz:ss.length<4611686018427387904) :
  Calls Tryz.prog 39 #[.slice (some ⟨blk,off,none⟩) ss.length cap] w fun e w' =>
   e=.returned (.tuple #[])∧∃ n os,w'=grow (putRow encStr (Sort.ahead w n) blk off (ss.mergeSort fun x y=>decide (x≤y)).toArray) os:=Any.slices_Sort_string Tryz.lays190 blk off cap ss w hH hblk hsz
def Tryz.lays101_ren:Go.Shelf.Ren:=⟨fun | 101=>126 | 208=>132 | 206=>145 | n=>n,fun | 9=>9 | 4=>4 | 3=>3 | n=>n,fun | n=>n⟩
theorem Tryz.lays101:Go.Proofs.Lays.n101 Tryz.prog Tryz.lays101_ren:={
 mixed:=by kernel_rfl
 f101:=Tryz.func126.trans (congrArg some (by kernel_rfl))
 f206:=Tryz.func145.trans (congrArg some (by kernel_rfl))
 f208:=Tryz.func132.trans (congrArg some (by kernel_rfl))
 t3:=Tryz.underlying3
 a3:=Tryz.isAgg3
 z3:=Tryz.sizeOf3
 v3:=Tryz.zeroValue3
 t4:=Tryz.underlying4
 a4:=Tryz.isAgg4
 z4:=Tryz.sizeOf4
 v4:=Tryz.zeroValue4
 t9:=Tryz.underlying9
 a9:=Tryz.isAgg9
 z9:=Tryz.sizeOf9
 v9:=Tryz.zeroValue9 }
open Go.RowKit Go.Lib in
theorem Tryz.strings_TrimPrefix (s p:ByteArray) (w:World) :
  Calls Tryz.prog 126 #[.string s,.string p] w fun e w'=>e=.returned (.string ⟨(Lib.trimPrefix s.data.toList p.data.toList).toArray⟩)∧w'=w:=Any.strings_TrimPrefix Tryz.lays101 s p w
def Tryz.lays157_ren:Go.Shelf.Ren:=⟨fun | 157=>131 | 229=>143 | 199=>144 | 261=>151 | 311=>155 | 312=>156 | n=>n,fun | 9=>9 | 31=>31 | 3=>3 | 5=>5 | 4=>4 | 119=>183 | 0=>0 | 40=>164 | 152=>188 | 21=>21 | 154=>190 | 51=>148 | 141=>192 | 196=>197 | 193=>194 | 198=>200 | 49=>198 | 194=>195 | 201=>203 | 226=>210 | 46=>110 | 227=>211 | n=>n,fun | 0=>0 | 6=>1 | n=>n⟩
theorem Tryz.lays157:Go.Proofs.Lays.n157 Tryz.prog Tryz.lays157_ren:={
 mixed:=by kernel_rfl
 f157:=Tryz.func131.trans (congrArg some (by kernel_rfl))
 f199:=Tryz.func144.trans (congrArg some (by kernel_rfl))
 f229:=Tryz.func143.trans (congrArg some (by kernel_rfl))
 f261:=Tryz.func151.trans (congrArg some (by kernel_rfl))
 f311:=Tryz.func155.trans (congrArg some (by kernel_rfl))
 f312:=Tryz.func156.trans (congrArg some (by kernel_rfl))
 t0:=Tryz.underlying0
 a0:=Tryz.isAgg0
 z0:=Tryz.sizeOf0
 v0:=Tryz.zeroValue0
 t3:=Tryz.underlying3
 a3:=Tryz.isAgg3
 z3:=Tryz.sizeOf3
 v3:=Tryz.zeroValue3
 t4:=Tryz.underlying4
 a4:=Tryz.isAgg4
 z4:=Tryz.sizeOf4
 v4:=Tryz.zeroValue4
 t5:=Tryz.underlying5
 a5:=Tryz.isAgg5
 z5:=Tryz.sizeOf5
 v5:=Tryz.zeroValue5
 t9:=Tryz.underlying9
 a9:=Tryz.isAgg9
 z9:=Tryz.sizeOf9
 v9:=Tryz.zeroValue9
 t21:=Tryz.underlying21
 a21:=Tryz.isAgg21
 z21:=Tryz.sizeOf21
 v21:=Tryz.zeroValue21
 t31:=Tryz.underlying31
 a31:=Tryz.isAgg31
 z31:=Tryz.sizeOf31
 v31:=Tryz.zeroValue31
 t40:=Tryz.underlying164
 a40:=Tryz.isAgg164
 z40:=Tryz.sizeOf164
 v40:=Tryz.zeroValue164
 t46:=Tryz.underlying110
 a46:=Tryz.isAgg110
 z46:=Tryz.sizeOf110
 v46:=Tryz.zeroValue110
 t49:=Tryz.underlying198
 a49:=Tryz.isAgg198
 z49:=Tryz.sizeOf198
 v49:=Tryz.zeroValue198
 t51:=Tryz.underlying148
 a51:=Tryz.isAgg148
 z51:=Tryz.sizeOf148
 v51:=Tryz.zeroValue148
 t119:=Tryz.underlying183
 a119:=Tryz.isAgg183
 z119:=Tryz.sizeOf183
 t141:=Tryz.underlying192
 a141:=Tryz.isAgg192
 z141:=Tryz.sizeOf192
 v141:=Tryz.zeroValue192
 t152:=Tryz.underlying188
 a152:=Tryz.isAgg188
 z152:=Tryz.sizeOf188
 v152:=Tryz.zeroValue188
 t154:=Tryz.underlying190
 a154:=Tryz.isAgg190
 z154:=Tryz.sizeOf190
 v154:=Tryz.zeroValue190
 t193:=Tryz.underlying194
 a193:=Tryz.isAgg194
 z193:=Tryz.sizeOf194
 v193:=Tryz.zeroValue194
 t194:=Tryz.underlying195
 a194:=Tryz.isAgg195
 z194:=Tryz.sizeOf195
 v194:=Tryz.zeroValue195
 t196:=Tryz.underlying197
 a196:=Tryz.isAgg197
 z196:=Tryz.sizeOf197
 v196:=Tryz.zeroValue197
 t198:=Tryz.underlying200
 a198:=Tryz.isAgg200
 z198:=Tryz.sizeOf200
 v198:=Tryz.zeroValue200
 t201:=Tryz.underlying203
 a201:=Tryz.isAgg203
 z201:=Tryz.sizeOf203
 v201:=Tryz.zeroValue203
 t226:=Tryz.underlying210
 a226:=Tryz.isAgg210
 z226:=Tryz.sizeOf210
 v226:=Tryz.zeroValue210
 t227:=Tryz.underlying211
 a227:=Tryz.isAgg211
 z227:=Tryz.sizeOf211
 v227:=Tryz.zeroValue211
 g0:=by kernel_rfl
 g6:=by kernel_rfl }
open Go.RowKit Go.Lib in
theorem Tryz.strings_Fields (s : ByteArray) (w : World) (hs : s.size < 4294967281) (hascii : ∀ (j : Nat) b, s.data.toList[j]? = some b → b.toNat < 128) (htab : Lib.TabIs Tryz.prog w "strings.asciiSpace" .u8 Lib.asciiSpaceTab) :
  Calls Tryz.prog 131 #[.string s] w fun e w' =>
   e=.returned (.slice (some ⟨w.heap.size,0,none⟩) (Lib.fields s.data.toList).length (Lib.fields s.data.toList).length)∧w'=w.alloc (.cells ((Lib.fields s.data.toList).map fun l=>Value.string ⟨l.toArray⟩).toArray 9):=Any.strings_Fields Tryz.lays157 (by kernel_rfl) (by kernel_rfl) s w hs hascii htab
open Go.RowKit Go.Sort in
theorem Tryz.slices_Sort_string_none (p:Option Addr) (cap:Nat) (w:World) :
  Calls Tryz.prog 39 #[.slice p 0 cap] w fun e w'=>e=.returned (.tuple #[])∧w'=w:=Any.slices_Sort_string_none Tryz.lays190 p cap w
end
end Go.Proofs
end
