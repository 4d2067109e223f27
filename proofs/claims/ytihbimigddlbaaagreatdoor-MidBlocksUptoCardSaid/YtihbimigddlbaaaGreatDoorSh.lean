/- A part of the proof: TryzShelf. -/
import Derived.Shelf.Strings.Builder1
import Derived.Shelf.Strings.Trim
import Derived.Shelf.Small.Utf8
import Derived.Shelf.Small.Bits
import Derived.Shelf.Small.Strs
import Derived.Shelf.Utf8.RuneCount
import Derived.Shelf.Strconv.Itoa0
import Derived.Shelf.Strconv.Itoa1
import Derived.Shelf.LaysM
import Derived.Shelf.Strconv.Itoa2
import Derived.Shelf.Strconv.Itoa3
import Derived.Shelf.Strings.Search1
import Derived.Shelf.Strings.Search2
import Derived.Shelf.Strings.Search3
import Derived.Shelf.Strings.Count
import Derived.Shelf.Strings.Shaped
import Derived.Shelf.Sort.Plain
import Derived.Shelf.Strings.Prefix
import Derived.Shelf.Strings.Fields
import Derived.Shelf.Unicode.Latin
import Derived.Shelf.Strings.Runes
import Derived.Shelf.Strings.AsciiSet
import Derived.Shelf.Bits.Mul64
import Derived.Shelf.Unicode.DecodeSlow
import Derived.Shelf.Unicode.DecodeAny
import Derived.Shelf.Unicode.Is16White
import Derived.Shelf.Unicode.IsSpaceAny
import Derived.Shelf.Unicode.DecodeLast
import Derived.Shelf.Unicode.Is16Any
import Derived.Shelf.Unicode.Is32Any
import Derived.Shelf.Unicode.ExclAny
import Derived.Ground.Names2Prog
import Derived.Shelf.Slices.Clone
import Derived.Shelf.Slices.CompactS
import Derived.Shelf.Slices.SearchI
import Derived.Shelf.Slices.Cells
import Derived.Shelf.Slices.In.SortNone
import Derived.Ground.SlgnProg
import Derived.Shelf.SlicesE.Clone
import Derived.Test.YtihbimigddlbaaaGreatDoorProg
noncomputable section
set_option linter.all false
namespace Go.Proofs
open Go.Shelf
section
def Tryz.lays160_ren:Go.Shelf.Ren:=⟨fun | 160=>219 | 232=>247 | 231=>246 | 227=>248 | 234=>250 | 233=>249 | 236=>252 | 235=>251 | 228=>284 | 271=>287 | 151=>286 | 197=>285 | 120=>330 | 152=>329 | 260=>328 | 137=>220 | 119=>348 | 224=>349 | 225=>350 | 217=>253 | 266=>288 | n=>n,fun | 9=>9 | 4=>4 | 3=>3 | 5=>5 | 117=>300 | 116=>299 | 0=>0 | 124=>303 | 21=>21 | 105=>332 | 46=>147 | 119=>305 | 139=>411 | 138=>410 | n=>n,fun | 3=>3 | 4=>4 | n=>n⟩
theorem Tryz.lays160:Go.Proofs.Lays.n160 Tryz.prog Tryz.lays160_ren:={
 mixed:=by kernel_rfl
 f119:=Tryz.func348.trans (congrArg some (by kernel_rfl))
 f120:=Tryz.func330.trans (congrArg some (by kernel_rfl))
 f137:=Tryz.func220.trans (congrArg some (by kernel_rfl))
 f151:=Tryz.func286.trans (congrArg some (by kernel_rfl))
 f152:=Tryz.func329.trans (congrArg some (by kernel_rfl))
 f160:=Tryz.func219.trans (congrArg some (by kernel_rfl))
 f197:=Tryz.func285.trans (congrArg some (by kernel_rfl))
 f217:=Tryz.func253.trans (congrArg some (by kernel_rfl))
 f224:=Tryz.func349.trans (congrArg some (by kernel_rfl))
 f225:=Tryz.func350.trans (congrArg some (by kernel_rfl))
 f227:=Tryz.func248.trans (congrArg some (by kernel_rfl))
 f228:=Tryz.func284.trans (congrArg some (by kernel_rfl))
 f231:=Tryz.func246.trans (congrArg some (by kernel_rfl))
 f232:=Tryz.func247.trans (congrArg some (by kernel_rfl))
 f233:=Tryz.func249.trans (congrArg some (by kernel_rfl))
 f234:=Tryz.func250.trans (congrArg some (by kernel_rfl))
 f235:=Tryz.func251.trans (congrArg some (by kernel_rfl))
 f236:=Tryz.func252.trans (congrArg some (by kernel_rfl))
 f260:=Tryz.func328.trans (congrArg some (by kernel_rfl))
 f266:=Tryz.func288.trans (congrArg some (by kernel_rfl))
 f271:=Tryz.func287.trans (congrArg some (by kernel_rfl))
 t0:=Tryz.underlying0
 a0:=Tryz.isAgg0
 z0:=Tryz.sizeOf0
 v0:=Tryz.zeroValue0
 t3:=Tryz.underlying3
 a3:=Tryz.isAgg3
 z3:=Tryz.sizeOf3
 v3:=Tryz.zeroValue3
 t4:=Tryz.underlying4
 a4:=Tryz.isAgg4
 z4:=Tryz.sizeOf4
 v4:=Tryz.zeroValue4
 t5:=Tryz.underlying5
 a5:=Tryz.isAgg5
 z5:=Tryz.sizeOf5
 v5:=Tryz.zeroValue5
 t9:=Tryz.underlying9
 a9:=Tryz.isAgg9
 z9:=Tryz.sizeOf9
 v9:=Tryz.zeroValue9
 t21:=Tryz.underlying21
 a21:=Tryz.isAgg21
 z21:=Tryz.sizeOf21
 v21:=Tryz.zeroValue21
 t46:=Tryz.underlying147
 a46:=Tryz.isAgg147
 z46:=Tryz.sizeOf147
 v46:=Tryz.zeroValue147
 t105:=Tryz.underlying332
 a105:=Tryz.isAgg332
 z105:=Tryz.sizeOf332
 v105:=Tryz.zeroValue332
 t116:=Tryz.underlying299
 a116:=Tryz.isAgg299
 z116:=Tryz.sizeOf299
 t117:=Tryz.underlying300
 a117:=Tryz.isAgg300
 z117:=Tryz.sizeOf300
 v117:=Tryz.zeroValue300
 t119:=Tryz.underlying305
 a119:=Tryz.isAgg305
 z119:=Tryz.sizeOf305
 t124:=Tryz.underlying303
 a124:=Tryz.isAgg303
 z124:=Tryz.sizeOf303
 v124:=Tryz.zeroValue303
 t138:=Tryz.underlying410
 a138:=Tryz.isAgg410
 z138:=Tryz.sizeOf410
 v138:=Tryz.zeroValue410
 t139:=Tryz.underlying411
 a139:=Tryz.isAgg411
 z139:=Tryz.sizeOf411
 v139:=Tryz.zeroValue411
 g3:=by kernel_rfl
 g4:=by kernel_rfl }
def Tryz.lays137_ren:Go.Shelf.Ren:=⟨fun | 137=>220 | 217=>253 | 266=>288 | n=>n,fun | 9=>9 | 5=>5 | 3=>3 | n=>n,fun | n=>n⟩
theorem Tryz.lays137:Go.Proofs.Lays.n137 Tryz.prog Tryz.lays137_ren:={
 mixed:=by kernel_rfl
 f137:=Tryz.func220.trans (congrArg some (by kernel_rfl))
 f217:=Tryz.func253.trans (congrArg some (by kernel_rfl))
 f266:=Tryz.func288.trans (congrArg some (by kernel_rfl))
 t3:=Tryz.underlying3
 a3:=Tryz.isAgg3
 z3:=Tryz.sizeOf3
 v3:=Tryz.zeroValue3
 t5:=Tryz.underlying5
 a5:=Tryz.isAgg5
 z5:=Tryz.sizeOf5
 v5:=Tryz.zeroValue5
 t9:=Tryz.underlying9
 a9:=Tryz.isAgg9
 z9:=Tryz.sizeOf9
 v9:=Tryz.zeroValue9 }
open Go.RowKit in
theorem Tryz.strings_IndexByte (s:ByteArray) (c:Int) (w:World) :
  Calls Tryz.prog 220 #[.string s,.int .u8 c] w fun e w'=>e=.returned (.int .i64 (Lib.indexByte s.data.toList c.toNat.toUInt8))∧w'=w:=Any.strings_IndexByte Tryz.lays137 s c w
def Tryz.lays101_ren:Go.Shelf.Ren:=⟨fun | 101=>218 | 208=>245 | 206=>283 | n=>n,fun | 9=>9 | 4=>4 | 3=>3 | n=>n,fun | n=>n⟩
theorem Tryz.lays101:Go.Proofs.Lays.n101 Tryz.prog Tryz.lays101_ren:={
 mixed:=by kernel_rfl
 f101:=Tryz.func218.trans (congrArg some (by kernel_rfl))
 f206:=Tryz.func283.trans (congrArg some (by kernel_rfl))
 f208:=Tryz.func245.trans (congrArg some (by kernel_rfl))
 t3:=Tryz.underlying3
 a3:=Tryz.isAgg3
 z3:=Tryz.sizeOf3
 v3:=Tryz.zeroValue3
 t4:=Tryz.underlying4
 a4:=Tryz.isAgg4
 z4:=Tryz.sizeOf4
 v4:=Tryz.zeroValue4
 t9:=Tryz.underlying9
 a9:=Tryz.isAgg9
 z9:=Tryz.sizeOf9
 v9:=Tryz.zeroValue9 }
open Go.RowKit Go.Lib in
theorem Tryz.strings_TrimPrefix (s p:ByteArray) (w:World) :
  Calls Tryz.prog 218 #[.string s,.string p] w fun e w'=>e=.returned (.string ⟨(Lib.trimPrefix s.data.toList p.data.toList).toArray⟩)∧w'=w:=Any.strings_TrimPrefix Tryz.lays101 s p w
def Tryz.lays157_ren:Go.Shelf.Ren:=⟨fun | 157=>222 | 229=>255 | 199=>256 | 261=>289 | 311=>331 | 312=>332 | n=>n,fun | 9=>9 | 31=>50 | 3=>3 | 5=>5 | 4=>4 | 119=>305 | 0=>0 | 40=>228 | 152=>335 | 21=>21 | 154=>337 | 51=>191 | 141=>339 | 196=>387 | 193=>384 | 198=>390 | 49=>388 | 194=>385 | 201=>393 | 226=>412 | 46=>147 | 227=>413 | n=>n,fun | 0=>0 | 6=>1 | n=>n⟩
theorem Tryz.lays157:Go.Proofs.Lays.n157 Tryz.prog Tryz.lays157_ren:={
 mixed:=by kernel_rfl
 f157:=Tryz.func222.trans (congrArg some (by kernel_rfl))
 f199:=Tryz.func256.trans (congrArg some (by kernel_rfl))
 f229:=Tryz.func255.trans (congrArg some (by kernel_rfl))
 f261:=Tryz.func289.trans (congrArg some (by kernel_rfl))
 f311:=Tryz.func331.trans (congrArg some (by kernel_rfl))
 f312:=Tryz.func332.trans (congrArg some (by kernel_rfl))
 t0:=Tryz.underlying0
 a0:=Tryz.isAgg0
 z0:=Tryz.sizeOf0
 v0:=Tryz.zeroValue0
 t3:=Tryz.underlying3
 a3:=Tryz.isAgg3
 z3:=Tryz.sizeOf3
 v3:=Tryz.zeroValue3
 t4:=Tryz.underlying4
 a4:=Tryz.isAgg4
 z4:=Tryz.sizeOf4
 v4:=Tryz.zeroValue4
 t5:=Tryz.underlying5
 a5:=Tryz.isAgg5
 z5:=Tryz.sizeOf5
 v5:=Tryz.zeroValue5
 t9:=Tryz.underlying9
 a9:=Tryz.isAgg9
 z9:=Tryz.sizeOf9
 v9:=Tryz.zeroValue9
 t21:=Tryz.underlying21
 a21:=Tryz.isAgg21
 z21:=Tryz.sizeOf21
 v21:=Tryz.zeroValue21
 t31:=Tryz.underlying50
 a31:=Tryz.isAgg50
 z31:=Tryz.sizeOf50
 v31:=Tryz.zeroValue50
 t40:=Tryz.underlying228
 a40:=Tryz.isAgg228
 z40:=Tryz.sizeOf228
 v40:=Tryz.zeroValue228
 t46:=Tryz.underlying147
 a46:=Tryz.isAgg147
 z46:=Tryz.sizeOf147
 v46:=Tryz.zeroValue147
 t49:=Tryz.underlying388
 a49:=Tryz.isAgg388
 z49:=Tryz.sizeOf388
 v49:=Tryz.zeroValue388
 t51:=Tryz.underlying191
 a51:=Tryz.isAgg191
 z51:=Tryz.sizeOf191
 v51:=Tryz.zeroValue191
 t119:=Tryz.underlying305
 a119:=Tryz.isAgg305
 z119:=Tryz.sizeOf305
 t141:=Tryz.underlying339
 a141:=Tryz.isAgg339
 z141:=Tryz.sizeOf339
 v141:=Tryz.zeroValue339
 t152:=Tryz.underlying335
 a152:=Tryz.isAgg335
 z152:=Tryz.sizeOf335
 v152:=Tryz.zeroValue335
 t154:=Tryz.underlying337
 a154:=Tryz.isAgg337
 z154:=Tryz.sizeOf337
 v154:=Tryz.zeroValue337
 t193:=Tryz.underlying384
 a193:=Tryz.isAgg384
 z193:=Tryz.sizeOf384
 v193:=Tryz.zeroValue384
 t194:=Tryz.underlying385
 a194:=Tryz.isAgg385
 z194:=Tryz.sizeOf385
 v194:=Tryz.zeroValue385
 t196:=Tryz.underlying387
 a196:=Tryz.isAgg387
 z196:=Tryz.sizeOf387
 v196:=Tryz.zeroValue387
 t198:=Tryz.underlying390
 a198:=Tryz.isAgg390
 z198:=Tryz.sizeOf390
 v198:=Tryz.zeroValue390
 t201:=Tryz.underlying393
 a201:=Tryz.isAgg393
 z201:=Tryz.sizeOf393
 v201:=Tryz.zeroValue393
 t226:=Tryz.underlying412
 a226:=Tryz.isAgg412
 z226:=Tryz.sizeOf412
 v226:=Tryz.zeroValue412
 t227:=Tryz.underlying413
 a227:=Tryz.isAgg413
 z227:=Tryz.sizeOf413
 v227:=Tryz.zeroValue413
 g0:=by kernel_rfl
 g6:=by kernel_rfl }
open Go.RowKit Go.Lib in
theorem Tryz.strings_Fields (s : ByteArray) (w : World) (hs : s.size < 4294967281) (hascii : ∀ (j : Nat) b, s.data.toList[j]? = some b → b.toNat < 128) (htab : Lib.TabIs Tryz.prog w "strings.asciiSpace" .u8 Lib.asciiSpaceTab) :
  Calls Tryz.prog 222 #[.string s] w fun e w' =>
   e=.returned (.slice (some ⟨w.heap.size,0,none⟩) (Lib.fields s.data.toList).length (Lib.fields s.data.toList).length)∧w'=w.alloc (.cells ((Lib.fields s.data.toList).map fun l=>Value.string ⟨l.toArray⟩).toArray 9):=Any.strings_Fields Tryz.lays157 (by kernel_rfl) (by kernel_rfl) s w hs hascii htab
end
end Go.Proofs
end
