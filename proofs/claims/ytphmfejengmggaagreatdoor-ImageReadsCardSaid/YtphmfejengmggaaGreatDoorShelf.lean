/-
  DERIVED: THE SHELF's CONTRACTS AT THIS DUMP, IN PLAIN WORDS (tools/lay-plain.mjs out of 'TryzShelf.lean', which tools/lay-shelf.mjs wrote): THE SAME DECLARATIONS UNDER THE SAME NAMES: 'import', 'namespace', 'open', 'def', 'theorem' AND NOTHING ELSE: no command of the shelf's: FOR A HAND-IN. Each laying: the table of numbers ('.._ren') and one theorem, a field a fact of the dump's own or the kernel's comparison; each contract: ONE APPLICATION.
-/
import Derived.Shelf.Strings.Builder1
import Derived.Shelf.Strings.Trim
import Derived.Shelf.Small.Utf8
import Derived.Shelf.Small.Bits
import Derived.Shelf.Small.Strs
import Derived.Shelf.Small.Wraps
import Derived.Shelf.Strings.BuilderF
import Derived.Shelf.Strings.BuilderK
import Derived.Shelf.Utf8.RuneCount
import Derived.Shelf.Strconv.Atoi
import Derived.Shelf.Strconv.Itoa0
import Derived.Shelf.Strconv.Itoa1
import Derived.Shelf.LaysM
import Derived.Shelf.Strconv.Itoa2
import Derived.Shelf.Strconv.Itoa3
import Derived.Shelf.Strconv.AtoiErrFast
import Derived.Shelf.Strconv.ParseIntEmpty
import Derived.Shelf.Strconv.AtoiFail
import Derived.Shelf.Strconv.Clone
import Derived.Shelf.Strconv.SyntaxError
import Derived.Shelf.LaysC
import Derived.Shelf.Strconv.ToError
import Derived.Shelf.Strconv.Lower
import Derived.Shelf.Strconv.ParseUint10
import Derived.Shelf.Strconv.ParseUint10Empty
import Derived.Shelf.Strconv.ParseUint10Any
import Derived.Shelf.Strconv.ParseInt10
import Derived.Shelf.Strconv.AtoiLong
import Derived.Shelf.Strconv.AtoiInnerAll
import Derived.Shelf.Strconv.RangeError
import Derived.Shelf.Strconv.ToErrorRange
import Derived.Shelf.Strconv.AtoiAll
import Derived.Shelf.Strconv.ParseUintEmpty
import Derived.Shelf.Strconv.ParseUint10b64
import Derived.Shelf.Strconv.ParseUint10b32
import Derived.Shelf.Strconv.ParseUint10b16
import Derived.Shelf.Strconv.ParseUint10b8
import Derived.Shelf.Strconv.ParseUint10At
import Derived.Shelf.Strconv.ParseInt10At64
import Derived.Shelf.Strconv.ParseInt10At32
import Derived.Shelf.Strconv.ParseInt10At16
import Derived.Shelf.Strconv.ParseInt10At8
import Derived.Shelf.Strconv.ParseInt10All
import Derived.Shelf.Strings.Search1
import Derived.Shelf.Strings.Search2
import Derived.Shelf.Strings.Search3
import Derived.Shelf.Strings.Cut
import Derived.Shelf.Strings.Count
import Derived.Shelf.Strings.Shaped
import Derived.Shelf.Sort.Plain
import Derived.Shelf.Strings.Prefix
import Derived.Shelf.Strings.Split
import Derived.Shelf.Strings.SplitShaped
import Derived.Shelf.Unicode.Decode
import Derived.Shelf.Strings.Runes
import Derived.Shelf.Strings.RuneCount
import Derived.Shelf.Strings.AsciiSet
import Derived.Shelf.Strings.Explode
import Derived.Shelf.Unicode.DecodeSlow
import Derived.Shelf.Unicode.DecodeAny
import Derived.Shelf.Unicode.DecodeLast
import Derived.Shelf.Strings.BuilderCap
import Derived.Shelf.Slices.Turned
import Derived.Shelf.Slices.Equal
import Derived.Shelf.Slices.CompactS
import Derived.Ground.Names2Prog
import Derived.Shelf.Slices.SearchI
import Derived.Shelf.Slices.Cells
import Derived.Shelf.Slices.In.SortNone
import Derived.Shelf.Slices.Empties2
import Derived.Test.YtphmfejengmggaaGreatDoorProg
namespace Go.Proofs
open Go.Shelf
def Tryz.lays160_ren : Go.Shelf.Ren := ⟨fun | 160 => 69 | 232 => 174 | 231 => 173 | 227 => 175 | 234 => 177 | 233 => 176 | 236 => 179 | 235 => 178 | 228 => 244 | 271 => 247 | 151 => 246 | 197 => 245 | 120 => 309 | 152 => 308 | 260 => 307 | 137 => 63 | 119 => 337 | 224 => 299 | 225 => 298 | 217 => 168 | 266 => 237 | n => n, fun | 9 => 9 | 4 => 4 | 3 => 3 | 5 => 5 | 117 => 288 | 116 => 287 | 0 => 0 | 124 => 291 | 21 => 21 | 105 => 351 | 46 => 338 | 119 => 408 | 139 => 411 | 138 => 410 | n => n, fun | 3 => 5 | 4 => 6 | n => n⟩
theorem Tryz.lays160 : Go.Proofs.Lays.n160 Tryz.prog Tryz.lays160_ren := {
  mixed := by kernel_rfl
  f119 := Tryz.func337.trans (congrArg some (by kernel_rfl))
  f120 := Tryz.func309.trans (congrArg some (by kernel_rfl))
  f137 := Tryz.func63.trans (congrArg some (by kernel_rfl))
  f151 := Tryz.func246.trans (congrArg some (by kernel_rfl))
  f152 := Tryz.func308.trans (congrArg some (by kernel_rfl))
  f160 := Tryz.func69.trans (congrArg some (by kernel_rfl))
  f197 := Tryz.func245.trans (congrArg some (by kernel_rfl))
  f217 := Tryz.func168.trans (congrArg some (by kernel_rfl))
  f224 := Tryz.func299.trans (congrArg some (by kernel_rfl))
  f225 := Tryz.func298.trans (congrArg some (by kernel_rfl))
  f227 := Tryz.func175.trans (congrArg some (by kernel_rfl))
  f228 := Tryz.func244.trans (congrArg some (by kernel_rfl))
  f231 := Tryz.func173.trans (congrArg some (by kernel_rfl))
  f232 := Tryz.func174.trans (congrArg some (by kernel_rfl))
  f233 := Tryz.func176.trans (congrArg some (by kernel_rfl))
  f234 := Tryz.func177.trans (congrArg some (by kernel_rfl))
  f235 := Tryz.func178.trans (congrArg some (by kernel_rfl))
  f236 := Tryz.func179.trans (congrArg some (by kernel_rfl))
  f260 := Tryz.func307.trans (congrArg some (by kernel_rfl))
  f266 := Tryz.func237.trans (congrArg some (by kernel_rfl))
  f271 := Tryz.func247.trans (congrArg some (by kernel_rfl))
  t0 := Tryz.underlying0
  a0 := Tryz.isAgg0
  z0 := Tryz.sizeOf0
  v0 := Tryz.zeroValue0
  t3 := Tryz.underlying3
  a3 := Tryz.isAgg3
  z3 := Tryz.sizeOf3
  v3 := Tryz.zeroValue3
  t4 := Tryz.underlying4
  a4 := Tryz.isAgg4
  z4 := Tryz.sizeOf4
  v4 := Tryz.zeroValue4
  t5 := Tryz.underlying5
  a5 := Tryz.isAgg5
  z5 := Tryz.sizeOf5
  v5 := Tryz.zeroValue5
  t9 := Tryz.underlying9
  a9 := Tryz.isAgg9
  z9 := Tryz.sizeOf9
  v9 := Tryz.zeroValue9
  t21 := Tryz.underlying21
  a21 := Tryz.isAgg21
  z21 := Tryz.sizeOf21
  v21 := Tryz.zeroValue21
  t46 := Tryz.underlying338
  a46 := Tryz.isAgg338
  z46 := Tryz.sizeOf338
  v46 := Tryz.zeroValue338
  t105 := Tryz.underlying351
  a105 := Tryz.isAgg351
  z105 := Tryz.sizeOf351
  v105 := Tryz.zeroValue351
  t116 := Tryz.underlying287
  a116 := Tryz.isAgg287
  z116 := Tryz.sizeOf287
  t117 := Tryz.underlying288
  a117 := Tryz.isAgg288
  z117 := Tryz.sizeOf288
  v117 := Tryz.zeroValue288
  t119 := Tryz.underlying408
  a119 := Tryz.isAgg408
  z119 := Tryz.sizeOf408
  t124 := Tryz.underlying291
  a124 := Tryz.isAgg291
  z124 := Tryz.sizeOf291
  v124 := Tryz.zeroValue291
  t138 := Tryz.underlying410
  a138 := Tryz.isAgg410
  z138 := Tryz.sizeOf410
  v138 := Tryz.zeroValue410
  t139 := Tryz.underlying411
  a139 := Tryz.isAgg411
  z139 := Tryz.sizeOf411
  v139 := Tryz.zeroValue411
  g3 := by kernel_rfl
  g4 := by kernel_rfl }
def Tryz.lays137_ren : Go.Shelf.Ren := ⟨fun | 137 => 63 | 217 => 168 | 266 => 237 | n => n, fun | 9 => 9 | 5 => 5 | 3 => 3 | n => n, fun | n => n⟩
theorem Tryz.lays137 : Go.Proofs.Lays.n137 Tryz.prog Tryz.lays137_ren := {
  mixed := by kernel_rfl
  f137 := Tryz.func63.trans (congrArg some (by kernel_rfl))
  f217 := Tryz.func168.trans (congrArg some (by kernel_rfl))
  f266 := Tryz.func237.trans (congrArg some (by kernel_rfl))
  t3 := Tryz.underlying3
  a3 := Tryz.isAgg3
  z3 := Tryz.sizeOf3
  v3 := Tryz.zeroValue3
  t5 := Tryz.underlying5
  a5 := Tryz.isAgg5
  z5 := Tryz.sizeOf5
  v5 := Tryz.zeroValue5
  t9 := Tryz.underlying9
  a9 := Tryz.isAgg9
  z9 := Tryz.sizeOf9
  v9 := Tryz.zeroValue9 }
open Go.RowKit in
theorem Tryz.strings_IndexByte (s : ByteArray) (c : Int) (w : World) :
    Calls Tryz.prog 63 #[.string s, .int .u8 c] w fun e w' => e = .returned (.int .i64 (Lib.indexByte s.data.toList c.toNat.toUInt8)) ∧ w' = w := Any.strings_IndexByte Tryz.lays137 s c w
def Tryz.laysC172_ren : Go.Shelf.Ren := ⟨fun | 172 => 68 | 244 => 171 | 245 => 172 | 247 => 239 | 279 => 240 | 280 => 241 | 281 => 242 | 282 => 243 | 287 => 304 | 316 => 305 | 171 => 229 | 205 => 306 | 321 => 335 | 322 => 336 | 243 => 297 | 246 => 333 | 283 => 348 | 284 => 349 | 285 => 350 | 286 => 351 | 129 => 293 | 317 => 357 | 318 => 358 | 319 => 359 | 320 => 360 | 337 => 362 | 338 => 363 | n => n, fun | 9 => 9 | 3 => 3 | 75 => 151 | 76 => 152 | 4 => 4 | 5 => 5 | 167 => 345 | 37 => 158 | 0 => 0 | 85 => 346 | 2 => 2 | 168 => 348 | 53 => 379 | 175 => 382 | 46 => 338 | 210 => 386 | 127 => 292 | 145 => 407 | 143 => 405 | 21 => 21 | 171 => 421 | 173 => 423 | 212 => 426 | 51 => 377 | 20 => 20 | 213 => 427 | 232 => 428 | 233 => 429 | 80 => 165 | n => n, fun | 15 => 3 | 16 => 4 | 17 => 7 | 18 => 8 | 19 => 9 | n => n⟩
theorem Tryz.laysC172 : Go.Proofs.LaysC.n172 Tryz.prog Tryz.laysC172_ren := {
  mixed := by kernel_rfl
  f129 := Tryz.func293.trans (congrArg some (by kernel_rfl))
  f171 := Tryz.func229.trans (congrArg some (by kernel_rfl))
  f172 := Tryz.func68.trans (congrArg some (by kernel_rfl))
  f205 := Tryz.func306.trans (congrArg some (by kernel_rfl))
  f243 := Tryz.func297.trans (congrArg some (by kernel_rfl))
  f244 := Tryz.func171.trans (congrArg some (by kernel_rfl))
  f245 := Tryz.func172.trans (congrArg some (by kernel_rfl))
  f246 := Tryz.func333.trans (congrArg some (by kernel_rfl))
  f247 := Tryz.func239.trans (congrArg some (by kernel_rfl))
  f279 := Tryz.func240.trans (congrArg some (by kernel_rfl))
  f280 := Tryz.func241.trans (congrArg some (by kernel_rfl))
  f281 := Tryz.func242.trans (congrArg some (by kernel_rfl))
  f282 := Tryz.func243.trans (congrArg some (by kernel_rfl))
  f283 := Tryz.func348.trans (congrArg some (by kernel_rfl))
  f284 := Tryz.func349.trans (congrArg some (by kernel_rfl))
  f285 := Tryz.func350.trans (congrArg some (by kernel_rfl))
  f286 := Tryz.func351.trans (congrArg some (by kernel_rfl))
  f287 := Tryz.func304.trans (congrArg some (by kernel_rfl))
  f316 := Tryz.func305.trans (congrArg some (by kernel_rfl))
  f317 := Tryz.func357.trans (congrArg some (by kernel_rfl))
  f318 := Tryz.func358.trans (congrArg some (by kernel_rfl))
  f319 := Tryz.func359.trans (congrArg some (by kernel_rfl))
  f320 := Tryz.func360.trans (congrArg some (by kernel_rfl))
  f321 := Tryz.func335.trans (congrArg some (by kernel_rfl))
  f322 := Tryz.func336.trans (congrArg some (by kernel_rfl))
  f337 := Tryz.func362.trans (congrArg some (by kernel_rfl))
  f338 := Tryz.func363.trans (congrArg some (by kernel_rfl))
  t0 := Tryz.underlying0
  a0 := Tryz.isAgg0
  z0 := Tryz.sizeOf0
  v0 := Tryz.zeroValue0
  t2 := Tryz.underlying2
  a2 := Tryz.isAgg2
  z2 := Tryz.sizeOf2
  v2 := Tryz.zeroValue2
  t3 := Tryz.underlying3
  a3 := Tryz.isAgg3
  z3 := Tryz.sizeOf3
  v3 := Tryz.zeroValue3
  t4 := Tryz.underlying4
  a4 := Tryz.isAgg4
  z4 := Tryz.sizeOf4
  v4 := Tryz.zeroValue4
  t5 := Tryz.underlying5
  a5 := Tryz.isAgg5
  z5 := Tryz.sizeOf5
  v5 := Tryz.zeroValue5
  t9 := Tryz.underlying9
  a9 := Tryz.isAgg9
  z9 := Tryz.sizeOf9
  v9 := Tryz.zeroValue9
  t20 := Tryz.underlying20
  a20 := Tryz.isAgg20
  z20 := Tryz.sizeOf20
  v20 := Tryz.zeroValue20
  t21 := Tryz.underlying21
  a21 := Tryz.isAgg21
  z21 := Tryz.sizeOf21
  v21 := Tryz.zeroValue21
  t37 := Tryz.underlying158
  a37 := Tryz.isAgg158
  z37 := Tryz.sizeOf158
  v37 := Tryz.zeroValue158
  t46 := Tryz.underlying338
  a46 := Tryz.isAgg338
  z46 := Tryz.sizeOf338
  v46 := Tryz.zeroValue338
  t51 := Tryz.underlying377
  a51 := Tryz.isAgg377
  z51 := Tryz.sizeOf377
  v51 := Tryz.zeroValue377
  t53 := Tryz.underlying379
  a53 := Tryz.isAgg379
  z53 := Tryz.sizeOf379
  v53 := Tryz.zeroValue379
  t75 := Tryz.underlying151
  a75 := Tryz.isAgg151
  z75 := Tryz.sizeOf151
  v75 := Tryz.zeroValue151
  t76 := Tryz.underlying152
  a76 := Tryz.isAgg152
  z76 := Tryz.sizeOf152
  v76 := Tryz.zeroValue152
  t85 := Tryz.underlying346
  a85 := Tryz.isAgg346
  z85 := Tryz.sizeOf346
  v85 := Tryz.zeroValue346
  t127 := Tryz.underlying292
  a127 := Tryz.isAgg292
  z127 := Tryz.sizeOf292
  v127 := Tryz.zeroValue292
  t143 := Tryz.underlying405
  a143 := Tryz.isAgg405
  z143 := Tryz.sizeOf405
  v143 := Tryz.zeroValue405
  t145 := Tryz.underlying407
  a145 := Tryz.isAgg407
  z145 := Tryz.sizeOf407
  v145 := Tryz.zeroValue407
  t167 := Tryz.underlying345
  a167 := Tryz.isAgg345
  z167 := Tryz.sizeOf345
  v167 := Tryz.zeroValue345
  t168 := Tryz.underlying348
  a168 := Tryz.isAgg348
  z168 := Tryz.sizeOf348
  v168 := Tryz.zeroValue348
  t171 := Tryz.underlying421
  a171 := Tryz.isAgg421
  z171 := Tryz.sizeOf421
  v171 := Tryz.zeroValue421
  t173 := Tryz.underlying423
  a173 := Tryz.isAgg423
  z173 := Tryz.sizeOf423
  v173 := Tryz.zeroValue423
  t175 := Tryz.underlying382
  a175 := Tryz.isAgg382
  z175 := Tryz.sizeOf382
  v175 := Tryz.zeroValue382
  t210 := Tryz.underlying386
  a210 := Tryz.isAgg386
  z210 := Tryz.sizeOf386
  v210 := Tryz.zeroValue386
  t212 := Tryz.underlying426
  a212 := Tryz.isAgg426
  z212 := Tryz.sizeOf426
  v212 := Tryz.zeroValue426
  t213 := Tryz.underlying427
  a213 := Tryz.isAgg427
  z213 := Tryz.sizeOf427
  t232 := Tryz.underlying428
  a232 := Tryz.isAgg428
  z232 := Tryz.sizeOf428
  v232 := Tryz.zeroValue428
  t233 := Tryz.underlying429
  a233 := Tryz.isAgg429
  z233 := Tryz.sizeOf429
  v233 := Tryz.zeroValue429
  g15 := by kernel_rfl
  g16 := by kernel_rfl
  g17 := by kernel_rfl
  g18 := by kernel_rfl
  g19 := by kernel_rfl
  t80 := Tryz.underlying165
  a80 := Tryz.isAgg165
  z80 := Tryz.sizeOf165
  v80 := Tryz.zeroValue165
  i0 := by kernel_rfl
  i2 := by kernel_rfl
  i3 := by kernel_rfl
  i4 := by kernel_rfl
  i5 := by kernel_rfl
  i9 := by kernel_rfl
  i20 := by kernel_rfl
  i21 := by kernel_rfl
  i37 := by kernel_rfl
  i46 := by kernel_rfl
  i51 := by kernel_rfl
  i53 := by kernel_rfl
  i75 := by kernel_rfl
  i76 := by kernel_rfl
  i80 := by kernel_rfl
  i85 := by kernel_rfl
  i127 := by kernel_rfl
  i143 := by kernel_rfl
  i145 := by kernel_rfl
  i167 := by kernel_rfl
  i168 := by kernel_rfl
  i171 := by kernel_rfl
  i173 := by kernel_rfl
  i175 := by kernel_rfl
  i210 := by kernel_rfl
  i212 := by kernel_rfl
  i232 := by kernel_rfl
  i233 := by kernel_rfl
  m15 := by kernel_rfl
  m16 := by kernel_rfl
  m17 := by kernel_rfl
  m18 := by kernel_rfl
  m19 := by kernel_rfl
  c0 := by kernel_rfl
  c2 := by kernel_rfl
  c3 := by kernel_rfl
  c4 := by kernel_rfl
  c5 := by kernel_rfl
  c9 := by kernel_rfl
  c20 := by kernel_rfl
  c21 := by kernel_rfl
  c37 := by kernel_rfl
  c46 := by kernel_rfl
  c51 := by kernel_rfl
  c53 := by kernel_rfl
  c75 := by kernel_rfl
  c76 := by kernel_rfl
  c80 := by kernel_rfl
  c85 := by kernel_rfl
  c127 := by kernel_rfl
  c143 := by kernel_rfl
  c145 := by kernel_rfl
  c167 := by kernel_rfl
  c168 := by kernel_rfl
  c171 := by kernel_rfl
  c173 := by kernel_rfl
  c175 := by kernel_rfl
  c210 := by kernel_rfl
  c212 := by kernel_rfl
  c213 := by kernel_rfl
  c232 := by kernel_rfl
  c233 := by kernel_rfl }
open Go.RowKit in
theorem Tryz.strconv_Atoi_ok (s : ByteArray) (hmax : s.size ≤ 9223372036854775806) (v : Int) (h : Lib.atoiAll s.data.toList = .ok v) (w : World) :
    Calls Tryz.prog 68 #[.string s] w fun e w' => e = .returned (.tuple #[.int .i64 v, .nilIface]) ∧ (w' = w ∨ ∃ t, w' = Lib.bytesWorld w 5 t) := Any.strconv_Atoi_ok Tryz.laysC172 s hmax v h w
def Tryz.lays145_ren : Go.Shelf.Ren := ⟨fun | 145 => 60 | 220 => 165 | 219 => 233 | 217 => 168 | 225 => 298 | 224 => 299 | 267 => 300 | 266 => 237 | 314 => 334 | n => n, fun | 9 => 9 | 4 => 4 | 59 => 143 | 3 => 3 | 5 => 5 | 46 => 338 | 146 => 402 | 51 => 377 | n => n, fun | 1 => 2 | n => n⟩
theorem Tryz.lays145 : Go.Proofs.Lays.n145 Tryz.prog Tryz.lays145_ren := {
  mixed := by kernel_rfl
  f145 := Tryz.func60.trans (congrArg some (by kernel_rfl))
  f217 := Tryz.func168.trans (congrArg some (by kernel_rfl))
  f219 := Tryz.func233.trans (congrArg some (by kernel_rfl))
  f220 := Tryz.func165.trans (congrArg some (by kernel_rfl))
  f224 := Tryz.func299.trans (congrArg some (by kernel_rfl))
  f225 := Tryz.func298.trans (congrArg some (by kernel_rfl))
  f266 := Tryz.func237.trans (congrArg some (by kernel_rfl))
  f267 := Tryz.func300.trans (congrArg some (by kernel_rfl))
  f314 := Tryz.func334.trans (congrArg some (by kernel_rfl))
  t3 := Tryz.underlying3
  a3 := Tryz.isAgg3
  z3 := Tryz.sizeOf3
  v3 := Tryz.zeroValue3
  t4 := Tryz.underlying4
  a4 := Tryz.isAgg4
  z4 := Tryz.sizeOf4
  v4 := Tryz.zeroValue4
  t5 := Tryz.underlying5
  a5 := Tryz.isAgg5
  z5 := Tryz.sizeOf5
  v5 := Tryz.zeroValue5
  t9 := Tryz.underlying9
  a9 := Tryz.isAgg9
  z9 := Tryz.sizeOf9
  v9 := Tryz.zeroValue9
  t46 := Tryz.underlying338
  a46 := Tryz.isAgg338
  z46 := Tryz.sizeOf338
  v46 := Tryz.zeroValue338
  t51 := Tryz.underlying377
  a51 := Tryz.isAgg377
  z51 := Tryz.sizeOf377
  v51 := Tryz.zeroValue377
  t59 := Tryz.underlying143
  a59 := Tryz.isAgg143
  z59 := Tryz.sizeOf143
  v59 := Tryz.zeroValue143
  t146 := Tryz.underlying402
  a146 := Tryz.isAgg402
  z146 := Tryz.sizeOf402
  v146 := Tryz.zeroValue402
  g1 := by kernel_rfl }
open Go.RowKit Go.Lib in
theorem Tryz.strings_Cut (s sep : ByteArray) (m : Int) (w : World) (hs : s.size < 4294967281) (hm : w.cell? ⟨2, 0, none⟩ = some (.int .i64 m)) :
    Calls Tryz.prog 60 #[.string s, .string sep] w fun e w' => e = .returned (.tuple #[.string ⟨(Lib.cut s.data.toList sep.data.toList).1.toArray⟩, .string ⟨(Lib.cut s.data.toList sep.data.toList).2.1.toArray⟩, .bool (Lib.cut s.data.toList sep.data.toList).2.2]) ∧ ∃ n, w' = w.drewN n := Any.strings_Cut Tryz.lays145 s sep m w hs hm
def Tryz.lays101_ren : Go.Shelf.Ren := ⟨fun | 101 => 170 | 208 => 238 | 206 => 303 | n => n, fun | 9 => 9 | 4 => 4 | 3 => 3 | n => n, fun | n => n⟩
theorem Tryz.lays101 : Go.Proofs.Lays.n101 Tryz.prog Tryz.lays101_ren := {
  mixed := by kernel_rfl
  f101 := Tryz.func170.trans (congrArg some (by kernel_rfl))
  f206 := Tryz.func303.trans (congrArg some (by kernel_rfl))
  f208 := Tryz.func238.trans (congrArg some (by kernel_rfl))
  t3 := Tryz.underlying3
  a3 := Tryz.isAgg3
  z3 := Tryz.sizeOf3
  v3 := Tryz.zeroValue3
  t4 := Tryz.underlying4
  a4 := Tryz.isAgg4
  z4 := Tryz.sizeOf4
  v4 := Tryz.zeroValue4
  t9 := Tryz.underlying9
  a9 := Tryz.isAgg9
  z9 := Tryz.sizeOf9
  v9 := Tryz.zeroValue9 }
open Go.RowKit Go.Lib in
theorem Tryz.strings_TrimPrefix (s p : ByteArray) (w : World) :
    Calls Tryz.prog 170 #[.string s, .string p] w fun e w' => e = .returned (.string ⟨(Lib.trimPrefix s.data.toList p.data.toList).toArray⟩) ∧ w' = w := Any.strings_TrimPrefix Tryz.lays101 s p w
def Tryz.lays146_ren : Go.Shelf.Ren := ⟨fun | 146 => 61 | 221 => 166 | 268 => 234 | 138 => 235 | 143 => 236 | 195 => 301 | 197 => 245 | 218 => 302 | 219 => 233 | 260 => 307 | 217 => 168 | 225 => 298 | 224 => 299 | 267 => 300 | 266 => 237 | 314 => 334 | n => n, fun | 9 => 9 | 31 => 23 | 3 => 3 | 4 => 4 | 0 => 0 | 105 => 351 | 21 => 21 | 5 => 5 | 46 => 338 | 119 => 408 | 139 => 411 | 138 => 410 | 146 => 402 | 51 => 377 | n => n, fun | 1 => 2 | 3 => 5 | 4 => 6 | n => n⟩
theorem Tryz.lays146 : Go.Proofs.Lays.n146 Tryz.prog Tryz.lays146_ren := {
  mixed := by kernel_rfl
  f138 := Tryz.func235.trans (congrArg some (by kernel_rfl))
  f143 := Tryz.func236.trans (congrArg some (by kernel_rfl))
  f146 := Tryz.func61.trans (congrArg some (by kernel_rfl))
  f195 := Tryz.func301.trans (congrArg some (by kernel_rfl))
  f197 := Tryz.func245.trans (congrArg some (by kernel_rfl))
  f217 := Tryz.func168.trans (congrArg some (by kernel_rfl))
  f218 := Tryz.func302.trans (congrArg some (by kernel_rfl))
  f219 := Tryz.func233.trans (congrArg some (by kernel_rfl))
  f221 := Tryz.func166.trans (congrArg some (by kernel_rfl))
  f224 := Tryz.func299.trans (congrArg some (by kernel_rfl))
  f225 := Tryz.func298.trans (congrArg some (by kernel_rfl))
  f260 := Tryz.func307.trans (congrArg some (by kernel_rfl))
  f266 := Tryz.func237.trans (congrArg some (by kernel_rfl))
  f267 := Tryz.func300.trans (congrArg some (by kernel_rfl))
  f268 := Tryz.func234.trans (congrArg some (by kernel_rfl))
  f314 := Tryz.func334.trans (congrArg some (by kernel_rfl))
  t0 := Tryz.underlying0
  a0 := Tryz.isAgg0
  z0 := Tryz.sizeOf0
  v0 := Tryz.zeroValue0
  t3 := Tryz.underlying3
  a3 := Tryz.isAgg3
  z3 := Tryz.sizeOf3
  v3 := Tryz.zeroValue3
  t4 := Tryz.underlying4
  a4 := Tryz.isAgg4
  z4 := Tryz.sizeOf4
  v4 := Tryz.zeroValue4
  t5 := Tryz.underlying5
  a5 := Tryz.isAgg5
  z5 := Tryz.sizeOf5
  v5 := Tryz.zeroValue5
  t9 := Tryz.underlying9
  a9 := Tryz.isAgg9
  z9 := Tryz.sizeOf9
  v9 := Tryz.zeroValue9
  t21 := Tryz.underlying21
  a21 := Tryz.isAgg21
  z21 := Tryz.sizeOf21
  v21 := Tryz.zeroValue21
  t31 := Tryz.underlying23
  a31 := Tryz.isAgg23
  z31 := Tryz.sizeOf23
  v31 := Tryz.zeroValue23
  t46 := Tryz.underlying338
  a46 := Tryz.isAgg338
  z46 := Tryz.sizeOf338
  v46 := Tryz.zeroValue338
  t51 := Tryz.underlying377
  a51 := Tryz.isAgg377
  z51 := Tryz.sizeOf377
  v51 := Tryz.zeroValue377
  t105 := Tryz.underlying351
  a105 := Tryz.isAgg351
  z105 := Tryz.sizeOf351
  v105 := Tryz.zeroValue351
  t119 := Tryz.underlying408
  a119 := Tryz.isAgg408
  z119 := Tryz.sizeOf408
  t138 := Tryz.underlying410
  a138 := Tryz.isAgg410
  z138 := Tryz.sizeOf410
  v138 := Tryz.zeroValue410
  t139 := Tryz.underlying411
  a139 := Tryz.isAgg411
  z139 := Tryz.sizeOf411
  v139 := Tryz.zeroValue411
  t146 := Tryz.underlying402
  a146 := Tryz.isAgg402
  z146 := Tryz.sizeOf402
  v146 := Tryz.zeroValue402
  g1 := by kernel_rfl
  g3 := by kernel_rfl
  g4 := by kernel_rfl }
open Go.RowKit Go.Lib in
theorem Tryz.strings_Split (s sep : ByteArray) (m : Int) (w : World) (hs : s.size < 4294967281) (hm : w.cell? ⟨2, 0, none⟩ = some (.int .i64 m)) (h1 : 1 ≤ sep.size) :
    Calls Tryz.prog 61 #[.string s, .string sep] w fun e w' =>
      e = .returned (.slice (some ⟨w.heap.size, 0, none⟩) (Lib.countB s sep + 1) (Lib.countB s sep + 1)) ∧ w' = w.alloc (.cells ((Lib.splitB sep 0 (Lib.countB s sep) s).map Value.string).toArray 9) := Any.strings_Split Tryz.lays146 (by kernel_rfl) s sep m w hs hm h1
def Tryz.laysM146_ren : Go.Shelf.Ren := ⟨fun | 146 => 61 | 221 => 166 | 268 => 234 | 138 => 235 | 143 => 236 | 195 => 301 | 197 => 245 | 218 => 302 | 219 => 233 | 260 => 307 | 217 => 168 | 225 => 298 | 224 => 299 | 267 => 300 | 266 => 237 | 314 => 334 | n => n, fun | 9 => 9 | 31 => 23 | 3 => 3 | 4 => 4 | 0 => 0 | 105 => 351 | 21 => 21 | 5 => 5 | 46 => 338 | 119 => 408 | 139 => 411 | 138 => 410 | 146 => 402 | 51 => 377 | n => n, fun | 1 => 2 | 3 => 5 | 4 => 6 | n => n⟩
theorem Tryz.laysM146 : Go.Proofs.LaysM.n146 Tryz.prog Tryz.laysM146_ren := {
  mixed := by kernel_rfl
  f138 := Tryz.func235.trans (congrArg some (by kernel_rfl))
  f143 := Tryz.func236.trans (congrArg some (by kernel_rfl))
  f146 := Tryz.func61.trans (congrArg some (by kernel_rfl))
  f195 := Tryz.func301.trans (congrArg some (by kernel_rfl))
  f197 := Tryz.func245.trans (congrArg some (by kernel_rfl))
  f217 := Tryz.func168.trans (congrArg some (by kernel_rfl))
  f218 := Tryz.func302.trans (congrArg some (by kernel_rfl))
  f219 := Tryz.func233.trans (congrArg some (by kernel_rfl))
  f221 := Tryz.func166.trans (congrArg some (by kernel_rfl))
  f224 := Tryz.func299.trans (congrArg some (by kernel_rfl))
  f225 := Tryz.func298.trans (congrArg some (by kernel_rfl))
  f260 := Tryz.func307.trans (congrArg some (by kernel_rfl))
  f266 := Tryz.func237.trans (congrArg some (by kernel_rfl))
  f267 := Tryz.func300.trans (congrArg some (by kernel_rfl))
  f268 := Tryz.func234.trans (congrArg some (by kernel_rfl))
  f314 := Tryz.func334.trans (congrArg some (by kernel_rfl))
  t0 := Tryz.underlying0
  a0 := Tryz.isAgg0
  z0 := Tryz.sizeOf0
  v0 := Tryz.zeroValue0
  t3 := Tryz.underlying3
  a3 := Tryz.isAgg3
  z3 := Tryz.sizeOf3
  v3 := Tryz.zeroValue3
  t4 := Tryz.underlying4
  a4 := Tryz.isAgg4
  z4 := Tryz.sizeOf4
  v4 := Tryz.zeroValue4
  t5 := Tryz.underlying5
  a5 := Tryz.isAgg5
  z5 := Tryz.sizeOf5
  v5 := Tryz.zeroValue5
  t9 := Tryz.underlying9
  a9 := Tryz.isAgg9
  z9 := Tryz.sizeOf9
  v9 := Tryz.zeroValue9
  t21 := Tryz.underlying21
  a21 := Tryz.isAgg21
  z21 := Tryz.sizeOf21
  v21 := Tryz.zeroValue21
  t31 := Tryz.underlying23
  a31 := Tryz.isAgg23
  z31 := Tryz.sizeOf23
  v31 := Tryz.zeroValue23
  t46 := Tryz.underlying338
  a46 := Tryz.isAgg338
  z46 := Tryz.sizeOf338
  v46 := Tryz.zeroValue338
  t51 := Tryz.underlying377
  a51 := Tryz.isAgg377
  z51 := Tryz.sizeOf377
  v51 := Tryz.zeroValue377
  t105 := Tryz.underlying351
  a105 := Tryz.isAgg351
  z105 := Tryz.sizeOf351
  v105 := Tryz.zeroValue351
  t119 := Tryz.underlying408
  a119 := Tryz.isAgg408
  z119 := Tryz.sizeOf408
  t138 := Tryz.underlying410
  a138 := Tryz.isAgg410
  z138 := Tryz.sizeOf410
  v138 := Tryz.zeroValue410
  t139 := Tryz.underlying411
  a139 := Tryz.isAgg411
  z139 := Tryz.sizeOf411
  v139 := Tryz.zeroValue411
  t146 := Tryz.underlying402
  a146 := Tryz.isAgg402
  z146 := Tryz.sizeOf402
  v146 := Tryz.zeroValue402
  g1 := by kernel_rfl
  g3 := by kernel_rfl
  g4 := by kernel_rfl
  i0 := by kernel_rfl
  i3 := by kernel_rfl
  i4 := by kernel_rfl
  i5 := by kernel_rfl
  i9 := by kernel_rfl
  i21 := by kernel_rfl
  i31 := by kernel_rfl
  i46 := by kernel_rfl
  i51 := by kernel_rfl
  i105 := by kernel_rfl
  i138 := by kernel_rfl
  i139 := by kernel_rfl
  i146 := by kernel_rfl
  m1 := by kernel_rfl
  s1_3 := fun w h => Go.Proofs.cell_of_shapedOpen_int (zero := #[.int .i64 0]) (t := 3) h (of_decide_eq_true (by kernel_rfl)) (by kernel_rfl) rfl (by kernel_rfl) (by kernel_rfl) Tryz.underlying3
  m3 := by kernel_rfl
  m4 := by kernel_rfl }
end Go.Proofs
