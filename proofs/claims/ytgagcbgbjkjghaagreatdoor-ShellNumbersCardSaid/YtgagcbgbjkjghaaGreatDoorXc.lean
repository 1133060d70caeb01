/- Lemmas and walks: DERIVED: THE SHELF's CONTRACTS AT THIS DUMP, IN PLAIN WORDS (tools/lay-plain.mjs out of 'TryzShelf.lean', which tools/lay-shelf.mjs wrote): THE SAME DECLARATIONS UNDER THE SAME NAMES: 'import', 'namespace', 'open', 'def', 'theorem' AND NOTHING ELSE: no command of the shelf's: FOR A HAND-IN. Each laying: the table of numbers ('.._ren') and one theorem, a field a fact of the dump's own or the kernel's comparison; each contract: ONE APPLICATION. The variables that the walks lean on, and the library's numerals and words. Walks of small functions: digits, words. Walks: bytes as hex digits. Walks: bytes as hex digits. Walks: a text as a block's bytes. Walks: the reference's cut into words. Walks: the program's text of an op. Walks: the program's text of a write. The plain functions of reading ops. No program in this text. Walks: the reader of words. Walks: the reader's numbers and bytes. Walks: the reader's bytes. Walks: which word an op begins with. The library's cut at blanks is the words. -/
import Derived.Shelf.Strings.Builder1
import Derived.Shelf.Strings.Builder2
import Derived.Shelf.Strings.OnBuilder
import Derived.Shelf.Strings.Trim
import Derived.Shelf.Small.Utf8
import Derived.Shelf.Small.Bits
import Derived.Shelf.Small.Strs
import Derived.Shelf.Small.Wraps
import Derived.Shelf.Strings.BuilderF
import Derived.Shelf.Strconv.Atoi
import Derived.Shelf.Strconv.Itoa0
import Derived.Shelf.Strconv.Itoa1
import Derived.Shelf.LaysM
import Derived.Shelf.Strconv.Itoa2
import Derived.Shelf.Strconv.Itoa3
import Derived.Shelf.Strconv.AtoiErrFast
import Derived.Shelf.Strconv.ParseIntEmpty
import Derived.Shelf.Strconv.AtoiFail
import Derived.Shelf.Strconv.Clone
import Derived.Shelf.Strconv.SyntaxError
import Derived.Shelf.LaysC
import Derived.Shelf.Strconv.ToError
import Derived.Shelf.Strconv.Lower
import Derived.Shelf.Strconv.ParseUint10
import Derived.Shelf.Strconv.ParseUint10Empty
import Derived.Shelf.Strconv.ParseUint10Any
import Derived.Shelf.Strconv.ParseInt10
import Derived.Shelf.Strconv.AtoiLong
import Derived.Shelf.Strconv.AtoiInnerAll
import Derived.Shelf.Strconv.RangeError
import Derived.Shelf.Strconv.ToErrorRange
import Derived.Shelf.Strconv.AtoiAll
import Derived.Shelf.Strconv.ErrVarAll
import Derived.Shelf.Strings.Search1
import Derived.Shelf.Strings.Search2
import Derived.Shelf.Strings.Search3
import Derived.Shelf.Strings.Cut
import Derived.Shelf.Strings.Count
import Derived.Shelf.Strings.Shaped
import Derived.Shelf.Strings.Prefix
import Derived.Shelf.Strings.Split
import Derived.Shelf.Strings.SplitShaped
import Derived.Shelf.Strings.Runes
import Derived.Shelf.Strings.AsciiSet
import Derived.Shelf.Bits.Mul64
import Derived.Shelf.Strings.Repeat
import Derived.Shelf.Unicode.DecodeSlow
import Derived.Ground.SlgfProg
import Derived.Shelf.SlicesE.IndexFunc
import Derived.Test.YtgagcbgbjkjghaaGreatDoorProg
import Derived.Shelf.SlSorted.Search
import Derived.Lib.SmallJoins
import Derived.WalkKit
import Derived.WalkSpells
import Derived.WalkLawsBesides
import Derived.Deep.RegionLaw
import Derived.Lib.Hide
import Derived.BigRegion
import Derived.BigQuiet
import Derived.IntWalk
import Derived.WalkSmall
import Derived.Deep.QuietTactic
import Derived.Deep.RegionHeld3
import Derived.Test.YtgagcbgbjkjghaaGreatDoorXa
import Derived.Test.YtgagcbgbjkjghaaGreatDoorXb
namespace Go.Proofs
open Go.Shelf
def Tryz.lays156_ren : Go.Shelf.Ren := ⟨fun | 156 => 34 | 165 => 79 | 166 => 80 | 169 => 81 | 240 => 148 | 241 => 149 | 276 => 212 | 277 => 213 | n => n, fun | 31 => 27 | 9 => 9 | 3 => 3 | 4 => 4 | 0 => 0 | 20 => 20 | 72 => 148 | 76 => 123 | 70 => 146 | 37 => 23 | 75 => 122 | 127 => 217 | 164 => 290 | 5 => 5 | 80 => 149 | n => n, fun | n => n⟩
theorem Tryz.lays156 : Go.Proofs.Lays.n156 Tryz.prog Tryz.lays156_ren := {
  mixed := by kernel_rfl
  f156 := Tryz.func34.trans (congrArg some (by kernel_rfl))
  f165 := Tryz.func79.trans (congrArg some (by kernel_rfl))
  f166 := Tryz.func80.trans (congrArg some (by kernel_rfl))
  f169 := Tryz.func81.trans (congrArg some (by kernel_rfl))
  f240 := Tryz.func148.trans (congrArg some (by kernel_rfl))
  f241 := Tryz.func149.trans (congrArg some (by kernel_rfl))
  f276 := Tryz.func212.trans (congrArg some (by kernel_rfl))
  f277 := Tryz.func213.trans (congrArg some (by kernel_rfl))
  t0 := Tryz.underlying0
  a0 := Tryz.isAgg0
  z0 := Tryz.sizeOf0
  v0 := Tryz.zeroValue0
  t3 := Tryz.underlying3
  a3 := Tryz.isAgg3
  z3 := Tryz.sizeOf3
  v3 := Tryz.zeroValue3
  t4 := Tryz.underlying4
  a4 := Tryz.isAgg4
  z4 := Tryz.sizeOf4
  v4 := Tryz.zeroValue4
  t9 := Tryz.underlying9
  a9 := Tryz.isAgg9
  z9 := Tryz.sizeOf9
  v9 := Tryz.zeroValue9
  t20 := Tryz.underlying20
  a20 := Tryz.isAgg20
  z20 := Tryz.sizeOf20
  v20 := Tryz.zeroValue20
  t31 := Tryz.underlying27
  a31 := Tryz.isAgg27
  z31 := Tryz.sizeOf27
  v31 := Tryz.zeroValue27
  t37 := Tryz.underlying23
  a37 := Tryz.isAgg23
  z37 := Tryz.sizeOf23
  v37 := Tryz.zeroValue23
  t70 := Tryz.underlying146
  a70 := Tryz.isAgg146
  z70 := Tryz.sizeOf146
  v70 := Tryz.zeroValue146
  t72 := Tryz.underlying148
  a72 := Tryz.isAgg148
  z72 := Tryz.sizeOf148
  v72 := Tryz.zeroValue148
  t75 := Tryz.underlying122
  a75 := Tryz.isAgg122
  z75 := Tryz.sizeOf122
  v75 := Tryz.zeroValue122
  t76 := Tryz.underlying123
  a76 := Tryz.isAgg123
  z76 := Tryz.sizeOf123
  v76 := Tryz.zeroValue123
  t127 := Tryz.underlying217
  a127 := Tryz.isAgg217
  z127 := Tryz.sizeOf217
  v127 := Tryz.zeroValue217
  t164 := Tryz.underlying290
  a164 := Tryz.isAgg290
  z164 := Tryz.sizeOf290
  v164 := Tryz.zeroValue290 }
theorem Tryz.Builder_Extra_156 : Builder.Extra Tryz.prog Tryz.lays156_ren := {
  sizeBuilder := by kernel_rfl
  liesBuilder := by kernel_rfl
  t5 := Tryz.underlying5
  a5 := Tryz.isAgg5
  z5 := Tryz.sizeOf5
  v5 := Tryz.zeroValue5
  infoByte := by kernel_rfl
  cellsByte := by kernel_rfl
  sizeByte := by kernel_rfl
  neB5 := by decide }
open Go.RowKit in
/-- strings.Join: "Join concatenates the elements of its first argument to create a single string. The separator string sep is placed between elements in the resulting string.": HOWEVER MANY ELEMENTS. Below the heap's end the world is as it was. (LAID: no walk: one application.) -/
theorem Tryz.strings_Join (bk o c : Nat) (xs : List ByteArray) (sep : ByteArray) (w : World) (hcells : ∀ (j : Nat) x, xs[j]? = some x → w.cell? ⟨bk, o + j, none⟩ = some (.string x)) (hbk : bk < w.heap.size) (hN : xs.length ≤ 140737488355328) (hcap : xs.length ≤ c) (hlen : (Lib.join (xs.map (·.data.toList)) sep.data.toList).length ≤ 140737488355328) :
    Calls Tryz.prog 34 #[.slice (some ⟨bk, o, none⟩) xs.length c, .string sep] w fun e w' => e = .returned (.string ⟨(Lib.join (xs.map (·.data.toList)) sep.data.toList).toArray⟩) ∧ Below w.heap.size w w' := Any.strings_Join Tryz.lays156 Tryz.Builder_Extra_156 bk o c xs sep w hcells hbk hN hcap hlen
def Tryz.lays137_ren : Go.Shelf.Ren := ⟨fun | 137 => 224 | 217 => 105 | 266 => 171 | n => n, fun | 9 => 9 | 5 => 5 | 3 => 3 | n => n, fun | n => n⟩
theorem Tryz.lays137 : Go.Proofs.Lays.n137 Tryz.prog Tryz.lays137_ren := {
  mixed := by kernel_rfl
  f137 := Tryz.func224.trans (congrArg some (by kernel_rfl))
  f217 := Tryz.func105.trans (congrArg some (by kernel_rfl))
  f266 := Tryz.func171.trans (congrArg some (by kernel_rfl))
  t3 := Tryz.underlying3
  a3 := Tryz.isAgg3
  z3 := Tryz.sizeOf3
  v3 := Tryz.zeroValue3
  t5 := Tryz.underlying5
  a5 := Tryz.isAgg5
  z5 := Tryz.sizeOf5
  v5 := Tryz.zeroValue5
  t9 := Tryz.underlying9
  a9 := Tryz.isAgg9
  z9 := Tryz.sizeOf9
  v9 := Tryz.zeroValue9 }
open Go.RowKit in
/-- strings.IndexByte: "IndexByte returns the index of the first instance of c in s, or -1 if c is not present in s.": IT RETURNS 'Lib.indexByte s c'; the world is as it was. (LAID: no walk: one application.) -/
theorem Tryz.strings_IndexByte (s : ByteArray) (c : Int) (w : World) :
    Calls Tryz.prog 224 #[.string s, .int .u8 c] w fun e w' => e = .returned (.int .i64 (Lib.indexByte s.data.toList c.toNat.toUInt8)) ∧ w' = w := Any.strings_IndexByte Tryz.lays137 s c w
def Tryz.lays103_ren : Go.Shelf.Ren := ⟨fun | 103 => 24 | 210 => 51 | 206 => 109 | n => n, fun | 9 => 9 | 4 => 4 | 24 => 67 | 3 => 3 | n => n, fun | n => n⟩
theorem Tryz.lays103 : Go.Proofs.Lays.n103 Tryz.prog Tryz.lays103_ren := {
  mixed := by kernel_rfl
  f103 := Tryz.func24.trans (congrArg some (by kernel_rfl))
  f206 := Tryz.func109.trans (congrArg some (by kernel_rfl))
  f210 := Tryz.func51.trans (congrArg some (by kernel_rfl))
  t3 := Tryz.underlying3
  a3 := Tryz.isAgg3
  z3 := Tryz.sizeOf3
  v3 := Tryz.zeroValue3
  t4 := Tryz.underlying4
  a4 := Tryz.isAgg4
  z4 := Tryz.sizeOf4
  v4 := Tryz.zeroValue4
  t9 := Tryz.underlying9
  a9 := Tryz.isAgg9
  z9 := Tryz.sizeOf9
  v9 := Tryz.zeroValue9
  t24 := Tryz.underlying67
  a24 := Tryz.isAgg67
  z24 := Tryz.sizeOf67
  v24 := Tryz.zeroValue67 }
open Go.RowKit in
/-- strings.CutPrefix: "CutPrefix returns s without the provided leading prefix string and reports whether it found the prefix. If s doesn't start with prefix, CutPrefix returns s, false. If prefix is the empty string, CutPrefix returns s, true.": IT RETURNS '(Lib.trimPrefix s p, Lib.hasPrefix s p)'; the world is as it was. (LAID: no walk: one application.) -/
theorem Tryz.strings_CutPrefix (s p : ByteArray) (w : World) :
    Calls Tryz.prog 24 #[.string s, .string p] w fun e w' => e = .returned (.tuple #[.string ⟨(Lib.trimPrefix s.data.toList p.data.toList).toArray⟩, .bool (Lib.hasPrefix s.data.toList p.data.toList)]) ∧ w' = w := Any.strings_CutPrefix Tryz.lays103 s p w
def Tryz.laysM171_ren : Go.Shelf.Ren := ⟨fun | 171 => 57 | 243 => 122 | 246 => 181 | 283 => 229 | 284 => 230 | 285 => 231 | 286 => 232 | 129 => 292 | 317 => 295 | 318 => 296 | 319 => 297 | 320 => 298 | 337 => 328 | 338 => 329 | n => n, fun | 3 => 3 | 9 => 9 | 2 => 2 | 4 => 4 | 171 => 308 | 0 => 0 | 53 => 48 | 37 => 23 | 5 => 5 | 173 => 311 | 212 => 380 | 51 => 158 | 20 => 20 | 213 => 381 | 46 => 50 | 232 => 426 | 233 => 427 | n => n, fun | 17 => 6 | 18 => 7 | 19 => 8 | n => n⟩
theorem Tryz.laysM171 : Go.Proofs.LaysM.n171 Tryz.prog Tryz.laysM171_ren := {
  mixed := by kernel_rfl
  f129 := Tryz.func292.trans (congrArg some (by kernel_rfl))
  f171 := Tryz.func57.trans (congrArg some (by kernel_rfl))
  f243 := Tryz.func122.trans (congrArg some (by kernel_rfl))
  f246 := Tryz.func181.trans (congrArg some (by kernel_rfl))
  f283 := Tryz.func229.trans (congrArg some (by kernel_rfl))
  f284 := Tryz.func230.trans (congrArg some (by kernel_rfl))
  f285 := Tryz.func231.trans (congrArg some (by kernel_rfl))
  f286 := Tryz.func232.trans (congrArg some (by kernel_rfl))
  f317 := Tryz.func295.trans (congrArg some (by kernel_rfl))
  f318 := Tryz.func296.trans (congrArg some (by kernel_rfl))
  f319 := Tryz.func297.trans (congrArg some (by kernel_rfl))
  f320 := Tryz.func298.trans (congrArg some (by kernel_rfl))
  f337 := Tryz.func328.trans (congrArg some (by kernel_rfl))
  f338 := Tryz.func329.trans (congrArg some (by kernel_rfl))
  t0 := Tryz.underlying0
  a0 := Tryz.isAgg0
  z0 := Tryz.sizeOf0
  v0 := Tryz.zeroValue0
  t2 := Tryz.underlying2
  a2 := Tryz.isAgg2
  z2 := Tryz.sizeOf2
  v2 := Tryz.zeroValue2
  t3 := Tryz.underlying3
  a3 := Tryz.isAgg3
  z3 := Tryz.sizeOf3
  v3 := Tryz.zeroValue3
  t4 := Tryz.underlying4
  a4 := Tryz.isAgg4
  z4 := Tryz.sizeOf4
  v4 := Tryz.zeroValue4
  t5 := Tryz.underlying5
  a5 := Tryz.isAgg5
  z5 := Tryz.sizeOf5
  v5 := Tryz.zeroValue5
  t9 := Tryz.underlying9
  a9 := Tryz.isAgg9
  z9 := Tryz.sizeOf9
  v9 := Tryz.zeroValue9
  t20 := Tryz.underlying20
  a20 := Tryz.isAgg20
  z20 := Tryz.sizeOf20
  v20 := Tryz.zeroValue20
  t37 := Tryz.underlying23
  a37 := Tryz.isAgg23
  z37 := Tryz.sizeOf23
  v37 := Tryz.zeroValue23
  t46 := Tryz.underlying50
  a46 := Tryz.isAgg50
  z46 := Tryz.sizeOf50
  v46 := Tryz.zeroValue50
  t51 := Tryz.underlying158
  a51 := Tryz.isAgg158
  z51 := Tryz.sizeOf158
  v51 := Tryz.zeroValue158
  t53 := Tryz.underlying48
  a53 := Tryz.isAgg48
  z53 := Tryz.sizeOf48
  v53 := Tryz.zeroValue48
  t171 := Tryz.underlying308
  a171 := Tryz.isAgg308
  z171 := Tryz.sizeOf308
  v171 := Tryz.zeroValue308
  t173 := Tryz.underlying311
  a173 := Tryz.isAgg311
  z173 := Tryz.sizeOf311
  v173 := Tryz.zeroValue311
  t212 := Tryz.underlying380
  a212 := Tryz.isAgg380
  z212 := Tryz.sizeOf380
  v212 := Tryz.zeroValue380
  t213 := Tryz.underlying381
  a213 := Tryz.isAgg381
  z213 := Tryz.sizeOf381
  t232 := Tryz.underlying426
  a232 := Tryz.isAgg426
  z232 := Tryz.sizeOf426
  v232 := Tryz.zeroValue426
  t233 := Tryz.underlying427
  a233 := Tryz.isAgg427
  z233 := Tryz.sizeOf427
  v233 := Tryz.zeroValue427
  g17 := by kernel_rfl
  g18 := by kernel_rfl
  g19 := by kernel_rfl
  i0 := by kernel_rfl
  i2 := by kernel_rfl
  i3 := by kernel_rfl
  i4 := by kernel_rfl
  i5 := by kernel_rfl
  i9 := by kernel_rfl
  i20 := by kernel_rfl
  i37 := by kernel_rfl
  i46 := by kernel_rfl
  i51 := by kernel_rfl
  i53 := by kernel_rfl
  i171 := by kernel_rfl
  i173 := by kernel_rfl
  i212 := by kernel_rfl
  i232 := by kernel_rfl
  i233 := by kernel_rfl
  m17 := by kernel_rfl
  m18 := by kernel_rfl
  m19 := by kernel_rfl }
open Go.RowKit Go.Sort Go.Lib in
/-- strconv.Itoa: "Itoa is equivalent to FormatInt(int64(i), 10).": i's DECIMAL NUMERAL ('Lib.itoa': a '-' where i is negative, then the digits), FOR EVERY int. The world behind the call: the world before it, new blocks behind the heap (the library's 'var a [24]byte'), draws. (LAID: no walk: one application.) -/
theorem Tryz.strconv_Itoa (n : Int) (h0 : -9223372036854775808 ≤ n) (h1 : n ≤ 9223372036854775807) (w : World) (htab : Lib.TabIs Tryz.prog w "internal/strconv.uint64pow10" .u64 Lib.pow10Tab) :
    Calls Tryz.prog 57 #[.int .i64 n] w fun e w' => e = .returned (.string ⟨(Lib.itoa n).toArray⟩) ∧ ∃ k os, w' = grow (w.drewN k) os := Any.strconv_Itoa Tryz.laysM171 n h0 h1 w htab
def Tryz.laysC172_ren : Go.Shelf.Ren := ⟨fun | 172 => 56 | 244 => 120 | 245 => 121 | 247 => 176 | 279 => 177 | 280 => 178 | 281 => 179 | 282 => 180 | 287 => 226 | 316 => 227 | 171 => 57 | 205 => 228 | 321 => 293 | 322 => 294 | 243 => 122 | 246 => 181 | 283 => 229 | 284 => 230 | 285 => 231 | 286 => 232 | 129 => 292 | 317 => 295 | 318 => 296 | 319 => 297 | 320 => 298 | 337 => 328 | 338 => 329 | n => n, fun | 9 => 9 | 3 => 3 | 75 => 122 | 76 => 123 | 4 => 4 | 5 => 5 | 167 => 252 | 37 => 23 | 0 => 0 | 85 => 253 | 2 => 2 | 168 => 255 | 53 => 48 | 175 => 303 | 46 => 50 | 210 => 306 | 127 => 217 | 145 => 378 | 143 => 376 | 21 => 21 | 171 => 308 | 173 => 311 | 212 => 380 | 51 => 158 | 20 => 20 | 213 => 381 | 232 => 426 | 233 => 427 | 80 => 149 | n => n, fun | 15 => 2 | 16 => 3 | 17 => 6 | 18 => 7 | 19 => 8 | n => n⟩
theorem Tryz.laysC172 : Go.Proofs.LaysC.n172 Tryz.prog Tryz.laysC172_ren := {
  mixed := by kernel_rfl
  f129 := Tryz.func292.trans (congrArg some (by kernel_rfl))
  f171 := Tryz.func57.trans (congrArg some (by kernel_rfl))
  f172 := Tryz.func56.trans (congrArg some (by kernel_rfl))
  f205 := Tryz.func228.trans (congrArg some (by kernel_rfl))
  f243 := Tryz.func122.trans (congrArg some (by kernel_rfl))
  f244 := Tryz.func120.trans (congrArg some (by kernel_rfl))
  f245 := Tryz.func121.trans (congrArg some (by kernel_rfl))
  f246 := Tryz.func181.trans (congrArg some (by kernel_rfl))
  f247 := Tryz.func176.trans (congrArg some (by kernel_rfl))
  f279 := Tryz.func177.trans (congrArg some (by kernel_rfl))
  f280 := Tryz.func178.trans (congrArg some (by kernel_rfl))
  f281 := Tryz.func179.trans (congrArg some (by kernel_rfl))
  f282 := Tryz.func180.trans (congrArg some (by kernel_rfl))
  f283 := Tryz.func229.trans (congrArg some (by kernel_rfl))
  f284 := Tryz.func230.trans (congrArg some (by kernel_rfl))
  f285 := Tryz.func231.trans (congrArg some (by kernel_rfl))
  f286 := Tryz.func232.trans (congrArg some (by kernel_rfl))
  f287 := Tryz.func226.trans (congrArg some (by kernel_rfl))
  f316 := Tryz.func227.trans (congrArg some (by kernel_rfl))
  f317 := Tryz.func295.trans (congrArg some (by kernel_rfl))
  f318 := Tryz.func296.trans (congrArg some (by kernel_rfl))
  f319 := Tryz.func297.trans (congrArg some (by kernel_rfl))
  f320 := Tryz.func298.trans (congrArg some (by kernel_rfl))
  f321 := Tryz.func293.trans (congrArg some (by kernel_rfl))
  f322 := Tryz.func294.trans (congrArg some (by kernel_rfl))
  f337 := Tryz.func328.trans (congrArg some (by kernel_rfl))
  f338 := Tryz.func329.trans (congrArg some (by kernel_rfl))
  t0 := Tryz.underlying0
  a0 := Tryz.isAgg0
  z0 := Tryz.sizeOf0
  v0 := Tryz.zeroValue0
  t2 := Tryz.underlying2
  a2 := Tryz.isAgg2
  z2 := Tryz.sizeOf2
  v2 := Tryz.zeroValue2
  t3 := Tryz.underlying3
  a3 := Tryz.isAgg3
  z3 := Tryz.sizeOf3
  v3 := Tryz.zeroValue3
  t4 := Tryz.underlying4
  a4 := Tryz.isAgg4
  z4 := Tryz.sizeOf4
  v4 := Tryz.zeroValue4
  t5 := Tryz.underlying5
  a5 := Tryz.isAgg5
  z5 := Tryz.sizeOf5
  v5 := Tryz.zeroValue5
  t9 := Tryz.underlying9
  a9 := Tryz.isAgg9
  z9 := Tryz.sizeOf9
  v9 := Tryz.zeroValue9
  t20 := Tryz.underlying20
  a20 := Tryz.isAgg20
  z20 := Tryz.sizeOf20
  v20 := Tryz.zeroValue20
  t21 := Tryz.underlying21
  a21 := Tryz.isAgg21
  z21 := Tryz.sizeOf21
  v21 := Tryz.zeroValue21
  t37 := Tryz.underlying23
  a37 := Tryz.isAgg23
  z37 := Tryz.sizeOf23
  v37 := Tryz.zeroValue23
  t46 := Tryz.underlying50
  a46 := Tryz.isAgg50
  z46 := Tryz.sizeOf50
  v46 := Tryz.zeroValue50
  t51 := Tryz.underlying158
  a51 := Tryz.isAgg158
  z51 := Tryz.sizeOf158
  v51 := Tryz.zeroValue158
  t53 := Tryz.underlying48
  a53 := Tryz.isAgg48
  z53 := Tryz.sizeOf48
  v53 := Tryz.zeroValue48
  t75 := Tryz.underlying122
  a75 := Tryz.isAgg122
  z75 := Tryz.sizeOf122
  v75 := Tryz.zeroValue122
  t76 := Tryz.underlying123
  a76 := Tryz.isAgg123
  z76 := Tryz.sizeOf123
  v76 := Tryz.zeroValue123
  t85 := Tryz.underlying253
  a85 := Tryz.isAgg253
  z85 := Tryz.sizeOf253
  v85 := Tryz.zeroValue253
  t127 := Tryz.underlying217
  a127 := Tryz.isAgg217
  z127 := Tryz.sizeOf217
  v127 := Tryz.zeroValue217
  t143 := Tryz.underlying376
  a143 := Tryz.isAgg376
  z143 := Tryz.sizeOf376
  v143 := Tryz.zeroValue376
  t145 := Tryz.underlying378
  a145 := Tryz.isAgg378
  z145 := Tryz.sizeOf378
  v145 := Tryz.zeroValue378
  t167 := Tryz.underlying252
  a167 := Tryz.isAgg252
  z167 := Tryz.sizeOf252
  v167 := Tryz.zeroValue252
  t168 := Tryz.underlying255
  a168 := Tryz.isAgg255
  z168 := Tryz.sizeOf255
  v168 := Tryz.zeroValue255
  t171 := Tryz.underlying308
  a171 := Tryz.isAgg308
  z171 := Tryz.sizeOf308
  v171 := Tryz.zeroValue308
  t173 := Tryz.underlying311
  a173 := Tryz.isAgg311
  z173 := Tryz.sizeOf311
  v173 := Tryz.zeroValue311
  t175 := Tryz.underlying303
  a175 := Tryz.isAgg303
  z175 := Tryz.sizeOf303
  v175 := Tryz.zeroValue303
  t210 := Tryz.underlying306
  a210 := Tryz.isAgg306
  z210 := Tryz.sizeOf306
  v210 := Tryz.zeroValue306
  t212 := Tryz.underlying380
  a212 := Tryz.isAgg380
  z212 := Tryz.sizeOf380
  v212 := Tryz.zeroValue380
  t213 := Tryz.underlying381
  a213 := Tryz.isAgg381
  z213 := Tryz.sizeOf381
  t232 := Tryz.underlying426
  a232 := Tryz.isAgg426
  z232 := Tryz.sizeOf426
  v232 := Tryz.zeroValue426
  t233 := Tryz.underlying427
  a233 := Tryz.isAgg427
  z233 := Tryz.sizeOf427
  v233 := Tryz.zeroValue427
  g15 := by kernel_rfl
  g16 := by kernel_rfl
  g17 := by kernel_rfl
  g18 := by kernel_rfl
  g19 := by kernel_rfl
  t80 := Tryz.underlying149
  a80 := Tryz.isAgg149
  z80 := Tryz.sizeOf149
  v80 := Tryz.zeroValue149
  i0 := by kernel_rfl
  i2 := by kernel_rfl
  i3 := by kernel_rfl
  i4 := by kernel_rfl
  i5 := by kernel_rfl
  i9 := by kernel_rfl
  i20 := by kernel_rfl
  i21 := by kernel_rfl
  i37 := by kernel_rfl
  i46 := by kernel_rfl
  i51 := by kernel_rfl
  i53 := by kernel_rfl
  i75 := by kernel_rfl
  i76 := by kernel_rfl
  i80 := by kernel_rfl
  i85 := by kernel_rfl
  i127 := by kernel_rfl
  i143 := by kernel_rfl
  i145 := by kernel_rfl
  i167 := by kernel_rfl
  i168 := by kernel_rfl
  i171 := by kernel_rfl
  i173 := by kernel_rfl
  i175 := by kernel_rfl
  i210 := by kernel_rfl
  i212 := by kernel_rfl
  i232 := by kernel_rfl
  i233 := by kernel_rfl
  m15 := by kernel_rfl
  m16 := by kernel_rfl
  m17 := by kernel_rfl
  m18 := by kernel_rfl
  m19 := by kernel_rfl
  c0 := by kernel_rfl
  c2 := by kernel_rfl
  c3 := by kernel_rfl
  c4 := by kernel_rfl
  c5 := by kernel_rfl
  c9 := by kernel_rfl
  c20 := by kernel_rfl
  c21 := by kernel_rfl
  c37 := by kernel_rfl
  c46 := by kernel_rfl
  c51 := by kernel_rfl
  c53 := by kernel_rfl
  c75 := by kernel_rfl
  c76 := by kernel_rfl
  c80 := by kernel_rfl
  c85 := by kernel_rfl
  c127 := by kernel_rfl
  c143 := by kernel_rfl
  c145 := by kernel_rfl
  c167 := by kernel_rfl
  c168 := by kernel_rfl
  c171 := by kernel_rfl
  c173 := by kernel_rfl
  c175 := by kernel_rfl
  c210 := by kernel_rfl
  c212 := by kernel_rfl
  c213 := by kernel_rfl
  c232 := by kernel_rfl
  c233 := by kernel_rfl }
open Go.RowKit in
/-- strconv.Atoi, AT EVERY STRING THAT SPELLS AN int ('Lib.atoiAll .. = .ok v'; of whatever length: leading zeros count): v, AND NO ERROR. The world: as it was, or with the one new row that '[]byte(..)' lays. (LAID: no walk: one application.) -/
theorem Tryz.strconv_Atoi_ok (s : ByteArray) (hmax : s.size ≤ 9223372036854775806) (v : Int) (h : Lib.atoiAll s.data.toList = .ok v) (w : World) :
    Calls Tryz.prog 56 #[.string s] w fun e w' => e = .returned (.tuple #[.int .i64 v, .nilIface]) ∧ (w' = w ∨ ∃ t, w' = Lib.bytesWorld w 5 t) := Any.strconv_Atoi_ok Tryz.laysC172 s hmax v h w
open Go.RowKit in
theorem Tryz.strconv_Atoi_bad_var (s : ByteArray) (hlim : s.size ≤ 281474976710656) (h : Lib.atoiAll s.data.toList = Lib.atoiAll []) (tp : TypeId) (p : Value) (w : World) (hvar : w.var? Tryz.prog "strconv.ErrSyntax" = some #[.iface tp p]) :
    Calls Tryz.prog 56 #[.string s] w fun e w' => ∃ N, e = .returned (.tuple #[.int .i64 0, .iface 255 (.pointer (some ⟨N, 0, none⟩))]) ∧ w.heap.size ≤ N ∧ w'.heap[N]? = some (.cells #[.string ⟨#[65, 116, 111, 105]⟩, .string s, .iface tp p] 306 (0, 0)) ∧ Below w.heap.size w w' := Any.strconv_Atoi_syntax_var Tryz.laysC172 s hlim h tp p w hvar
open Go.RowKit in
theorem Tryz.strconv_Atoi_range_var (s : ByteArray) (hlim : s.size ≤ 281474976710656) (h : Lib.atoiAll s.data.toList = .range) (tp : TypeId) (p : Value) (w : World) (hvar : w.var? Tryz.prog "strconv.ErrRange" = some #[.iface tp p]) :
    Calls Tryz.prog 56 #[.string s] w fun e w' => ∃ N, e = .returned (.tuple #[.int .i64 (Lib.atoiSat s.data.toList), .iface 255 (.pointer (some ⟨N, 0, none⟩))]) ∧ w.heap.size ≤ N ∧ w'.heap[N]? = some (.cells #[.string ⟨#[65, 116, 111, 105]⟩, .string s, .iface tp p] 306 (0, 0)) ∧ Below w.heap.size w w' := Any.strconv_Atoi_range_var Tryz.laysC172 s hlim h tp p w hvar
def Tryz.lays145_ren : Go.Shelf.Ren := ⟨fun | 145 => 14 | 220 => 23 | 219 => 50 | 217 => 105 | 225 => 106 | 224 => 107 | 267 => 108 | 266 => 171 | 314 => 172 | n => n, fun | 9 => 9 | 4 => 4 | 59 => 44 | 3 => 3 | 5 => 5 | 46 => 50 | 146 => 245 | 51 => 158 | n => n, fun | 1 => 0 | n => n⟩
theorem Tryz.lays145 : Go.Proofs.Lays.n145 Tryz.prog Tryz.lays145_ren := {
  mixed := by kernel_rfl
  f145 := Tryz.func14.trans (congrArg some (by kernel_rfl))
  f217 := Tryz.func105.trans (congrArg some (by kernel_rfl))
  f219 := Tryz.func50.trans (congrArg some (by kernel_rfl))
  f220 := Tryz.func23.trans (congrArg some (by kernel_rfl))
  f224 := Tryz.func107.trans (congrArg some (by kernel_rfl))
  f225 := Tryz.func106.trans (congrArg some (by kernel_rfl))
  f266 := Tryz.func171.trans (congrArg some (by kernel_rfl))
  f267 := Tryz.func108.trans (congrArg some (by kernel_rfl))
  f314 := Tryz.func172.trans (congrArg some (by kernel_rfl))
  t3 := Tryz.underlying3
  a3 := Tryz.isAgg3
  z3 := Tryz.sizeOf3
  v3 := Tryz.zeroValue3
  t4 := Tryz.underlying4
  a4 := Tryz.isAgg4
  z4 := Tryz.sizeOf4
  v4 := Tryz.zeroValue4
  t5 := Tryz.underlying5
  a5 := Tryz.isAgg5
  z5 := Tryz.sizeOf5
  v5 := Tryz.zeroValue5
  t9 := Tryz.underlying9
  a9 := Tryz.isAgg9
  z9 := Tryz.sizeOf9
  v9 := Tryz.zeroValue9
  t46 := Tryz.underlying50
  a46 := Tryz.isAgg50
  z46 := Tryz.sizeOf50
  v46 := Tryz.zeroValue50
  t51 := Tryz.underlying158
  a51 := Tryz.isAgg158
  z51 := Tryz.sizeOf158
  v51 := Tryz.zeroValue158
  t59 := Tryz.underlying44
  a59 := Tryz.isAgg44
  z59 := Tryz.sizeOf44
  v59 := Tryz.zeroValue44
  t146 := Tryz.underlying245
  a146 := Tryz.isAgg245
  z146 := Tryz.sizeOf245
  v146 := Tryz.zeroValue245
  g1 := by kernel_rfl }
open Go.RowKit Go.Lib in
/-- strings.Cut: "Cut slices s around the first instance of sep, returning the text before and after sep. The found result reports whether sep appears in s. If sep does not appear in s, cut returns s, "", false.": IT RETURNS 'Lib.cut s sep'; the world is as it was but for the count of draws. (LAID: no walk: one application.) -/
theorem Tryz.strings_Cut (s sep : ByteArray) (m : Int) (w : World) (hs : s.size < 4294967281) (hm : w.cell? ⟨0, 0, none⟩ = some (.int .i64 m)) :
    Calls Tryz.prog 14 #[.string s, .string sep] w fun e w' => e = .returned (.tuple #[.string ⟨(Lib.cut s.data.toList sep.data.toList).1.toArray⟩, .string ⟨(Lib.cut s.data.toList sep.data.toList).2.1.toArray⟩, .bool (Lib.cut s.data.toList sep.data.toList).2.2]) ∧ ∃ n, w' = w.drewN n := Any.strings_Cut Tryz.lays145 s sep m w hs hm
def Tryz.lays138_ren : Go.Shelf.Ren := ⟨fun | 138 => 13 | 195 => 20 | 218 => 21 | 143 => 22 | 219 => 50 | 217 => 105 | 225 => 106 | 224 => 107 | 267 => 108 | 266 => 171 | 314 => 172 | n => n, fun | 9 => 9 | 3 => 3 | 4 => 4 | 5 => 5 | 0 => 0 | 46 => 50 | 146 => 245 | 51 => 158 | n => n, fun | 1 => 0 | n => n⟩
theorem Tryz.lays138 : Go.Proofs.Lays.n138 Tryz.prog Tryz.lays138_ren := {
  mixed := by kernel_rfl
  f138 := Tryz.func13.trans (congrArg some (by kernel_rfl))
  f143 := Tryz.func22.trans (congrArg some (by kernel_rfl))
  f195 := Tryz.func20.trans (congrArg some (by kernel_rfl))
  f217 := Tryz.func105.trans (congrArg some (by kernel_rfl))
  f218 := Tryz.func21.trans (congrArg some (by kernel_rfl))
  f219 := Tryz.func50.trans (congrArg some (by kernel_rfl))
  f224 := Tryz.func107.trans (congrArg some (by kernel_rfl))
  f225 := Tryz.func106.trans (congrArg some (by kernel_rfl))
  f266 := Tryz.func171.trans (congrArg some (by kernel_rfl))
  f267 := Tryz.func108.trans (congrArg some (by kernel_rfl))
  f314 := Tryz.func172.trans (congrArg some (by kernel_rfl))
  t0 := Tryz.underlying0
  a0 := Tryz.isAgg0
  z0 := Tryz.sizeOf0
  v0 := Tryz.zeroValue0
  t3 := Tryz.underlying3
  a3 := Tryz.isAgg3
  z3 := Tryz.sizeOf3
  v3 := Tryz.zeroValue3
  t4 := Tryz.underlying4
  a4 := Tryz.isAgg4
  z4 := Tryz.sizeOf4
  v4 := Tryz.zeroValue4
  t5 := Tryz.underlying5
  a5 := Tryz.isAgg5
  z5 := Tryz.sizeOf5
  v5 := Tryz.zeroValue5
  t9 := Tryz.underlying9
  a9 := Tryz.isAgg9
  z9 := Tryz.sizeOf9
  v9 := Tryz.zeroValue9
  t46 := Tryz.underlying50
  a46 := Tryz.isAgg50
  z46 := Tryz.sizeOf50
  v46 := Tryz.zeroValue50
  t51 := Tryz.underlying158
  a51 := Tryz.isAgg158
  z51 := Tryz.sizeOf158
  v51 := Tryz.zeroValue158
  t146 := Tryz.underlying245
  a146 := Tryz.isAgg245
  z146 := Tryz.sizeOf245
  v146 := Tryz.zeroValue245
  g1 := by kernel_rfl }
open Go.RowKit Go.Lib in
/-- strings.Count AT A substr OF ONE BYTE ('hp'): "Count counts the number of non-overlapping instances of substr in s.": IT RETURNS 'Lib.countByte s (that byte)'; the world is as it was. ✋ NO CONTRACT HERE YET at an empty substr (utf8.RuneCountInString) or at a longer one (a loop over strings.Index). (LAID: no walk: one application.) -/
theorem Tryz.strings_Count_one (s : ByteArray) (c : UInt8) (w : World) :
    Calls Tryz.prog 13 #[.string s, .string ⟨#[c]⟩] w fun e w' => e = .returned (.int .i64 (Lib.countByte s.data.toList c)) ∧ w' = w := Any.strings_Count_one Tryz.lays138 s c w
def Tryz.laysM143_ren : Go.Shelf.Ren := ⟨fun | 143 => 22 | 219 => 50 | 217 => 105 | 225 => 106 | 224 => 107 | 267 => 108 | 266 => 171 | 314 => 172 | n => n, fun | 9 => 9 | 3 => 3 | 4 => 4 | 5 => 5 | 46 => 50 | 146 => 245 | 51 => 158 | n => n, fun | 1 => 0 | n => n⟩
theorem Tryz.laysM143 : Go.Proofs.LaysM.n143 Tryz.prog Tryz.laysM143_ren := {
  mixed := by kernel_rfl
  f143 := Tryz.func22.trans (congrArg some (by kernel_rfl))
  f217 := Tryz.func105.trans (congrArg some (by kernel_rfl))
  f219 := Tryz.func50.trans (congrArg some (by kernel_rfl))
  f224 := Tryz.func107.trans (congrArg some (by kernel_rfl))
  f225 := Tryz.func106.trans (congrArg some (by kernel_rfl))
  f266 := Tryz.func171.trans (congrArg some (by kernel_rfl))
  f267 := Tryz.func108.trans (congrArg some (by kernel_rfl))
  f314 := Tryz.func172.trans (congrArg some (by kernel_rfl))
  t3 := Tryz.underlying3
  a3 := Tryz.isAgg3
  z3 := Tryz.sizeOf3
  v3 := Tryz.zeroValue3
  t4 := Tryz.underlying4
  a4 := Tryz.isAgg4
  z4 := Tryz.sizeOf4
  v4 := Tryz.zeroValue4
  t5 := Tryz.underlying5
  a5 := Tryz.isAgg5
  z5 := Tryz.sizeOf5
  v5 := Tryz.zeroValue5
  t9 := Tryz.underlying9
  a9 := Tryz.isAgg9
  z9 := Tryz.sizeOf9
  v9 := Tryz.zeroValue9
  t46 := Tryz.underlying50
  a46 := Tryz.isAgg50
  z46 := Tryz.sizeOf50
  v46 := Tryz.zeroValue50
  t51 := Tryz.underlying158
  a51 := Tryz.isAgg158
  z51 := Tryz.sizeOf158
  v51 := Tryz.zeroValue158
  t146 := Tryz.underlying245
  a146 := Tryz.isAgg245
  z146 := Tryz.sizeOf245
  v146 := Tryz.zeroValue245
  g1 := by kernel_rfl
  i3 := by kernel_rfl
  i4 := by kernel_rfl
  i5 := by kernel_rfl
  i9 := by kernel_rfl
  i46 := by kernel_rfl
  i51 := by kernel_rfl
  i146 := by kernel_rfl
  m1 := by kernel_rfl
  s1_3 := fun w h => Go.Proofs.cell_of_shapedOpen_int (zero := #[.int .i64 0]) (t := 3) h (of_decide_eq_true (by kernel_rfl)) (by kernel_rfl) rfl (by kernel_rfl) (by kernel_rfl) Tryz.underlying3 }
def Tryz.lays146_ren : Go.Shelf.Ren := ⟨fun | 146 => 26 | 221 => 55 | 268 => 119 | 138 => 13 | 143 => 22 | 195 => 20 | 197 => 175 | 218 => 21 | 219 => 50 | 260 => 225 | 217 => 105 | 225 => 106 | 224 => 107 | 267 => 108 | 266 => 171 | 314 => 172 | n => n, fun | 9 => 9 | 31 => 27 | 3 => 3 | 4 => 4 | 0 => 0 | 105 => 250 | 21 => 21 | 5 => 5 | 46 => 50 | 119 => 371 | 139 => 374 | 138 => 373 | 146 => 245 | 51 => 158 | n => n, fun | 1 => 0 | 3 => 4 | 4 => 5 | n => n⟩
theorem Tryz.lays146 : Go.Proofs.Lays.n146 Tryz.prog Tryz.lays146_ren := {
  mixed := by kernel_rfl
  f138 := Tryz.func13.trans (congrArg some (by kernel_rfl))
  f143 := Tryz.func22.trans (congrArg some (by kernel_rfl))
  f146 := Tryz.func26.trans (congrArg some (by kernel_rfl))
  f195 := Tryz.func20.trans (congrArg some (by kernel_rfl))
  f197 := Tryz.func175.trans (congrArg some (by kernel_rfl))
  f217 := Tryz.func105.trans (congrArg some (by kernel_rfl))
  f218 := Tryz.func21.trans (congrArg some (by kernel_rfl))
  f219 := Tryz.func50.trans (congrArg some (by kernel_rfl))
  f221 := Tryz.func55.trans (congrArg some (by kernel_rfl))
  f224 := Tryz.func107.trans (congrArg some (by kernel_rfl))
  f225 := Tryz.func106.trans (congrArg some (by kernel_rfl))
  f260 := Tryz.func225.trans (congrArg some (by kernel_rfl))
  f266 := Tryz.func171.trans (congrArg some (by kernel_rfl))
  f267 := Tryz.func108.trans (congrArg some (by kernel_rfl))
  f268 := Tryz.func119.trans (congrArg some (by kernel_rfl))
  f314 := Tryz.func172.trans (congrArg some (by kernel_rfl))
  t0 := Tryz.underlying0
  a0 := Tryz.isAgg0
  z0 := Tryz.sizeOf0
  v0 := Tryz.zeroValue0
  t3 := Tryz.underlying3
  a3 := Tryz.isAgg3
  z3 := Tryz.sizeOf3
  v3 := Tryz.zeroValue3
  t4 := Tryz.underlying4
  a4 := Tryz.isAgg4
  z4 := Tryz.sizeOf4
  v4 := Tryz.zeroValue4
  t5 := Tryz.underlying5
  a5 := Tryz.isAgg5
  z5 := Tryz.sizeOf5
  v5 := Tryz.zeroValue5
  t9 := Tryz.underlying9
  a9 := Tryz.isAgg9
  z9 := Tryz.sizeOf9
  v9 := Tryz.zeroValue9
  t21 := Tryz.underlying21
  a21 := Tryz.isAgg21
  z21 := Tryz.sizeOf21
  v21 := Tryz.zeroValue21
  t31 := Tryz.underlying27
  a31 := Tryz.isAgg27
  z31 := Tryz.sizeOf27
  v31 := Tryz.zeroValue27
  t46 := Tryz.underlying50
  a46 := Tryz.isAgg50
  z46 := Tryz.sizeOf50
  v46 := Tryz.zeroValue50
  t51 := Tryz.underlying158
  a51 := Tryz.isAgg158
  z51 := Tryz.sizeOf158
  v51 := Tryz.zeroValue158
  t105 := Tryz.underlying250
  a105 := Tryz.isAgg250
  z105 := Tryz.sizeOf250
  v105 := Tryz.zeroValue250
  t119 := Tryz.underlying371
  a119 := Tryz.isAgg371
  z119 := Tryz.sizeOf371
  t138 := Tryz.underlying373
  a138 := Tryz.isAgg373
  z138 := Tryz.sizeOf373
  v138 := Tryz.zeroValue373
  t139 := Tryz.underlying374
  a139 := Tryz.isAgg374
  z139 := Tryz.sizeOf374
  v139 := Tryz.zeroValue374
  t146 := Tryz.underlying245
  a146 := Tryz.isAgg245
  z146 := Tryz.sizeOf245
  v146 := Tryz.zeroValue245
  g1 := by kernel_rfl
  g3 := by kernel_rfl
  g4 := by kernel_rfl }
open Go.RowKit Go.Lib in
/-- strings.Split. (LAID: no walk: one application.) -/
theorem Tryz.strings_Split (s sep : ByteArray) (m : Int) (w : World) (hs : s.size < 4294967281) (hm : w.cell? ⟨0, 0, none⟩ = some (.int .i64 m)) (h1 : 1 ≤ sep.size) :
    Calls Tryz.prog 26 #[.string s, .string sep] w fun e w' =>
      e = .returned (.slice (some ⟨w.heap.size, 0, none⟩) (Lib.countB s sep + 1) (Lib.countB s sep + 1)) ∧ w' = w.alloc (.cells ((Lib.splitB sep 0 (Lib.countB s sep) s).map Value.string).toArray 9) := Any.strings_Split Tryz.lays146 (by kernel_rfl) s sep m w hs hm h1
end Go.Proofs
namespace Go.Proofs.YtgagcbgbjkjghaaGreatDoor.Scr
open Go.RowKit Go.Lib

/-- the variables as the walks want them. -/
def Gl (w : World) : Prop :=
  Lib.TabIs Tryz.prog w "internal/strconv.uint64pow10" .u64 Lib.pow10Tab ∧ (∃ m : Int, w.cell? ⟨0, 0, none⟩ = some (.int .i64 m)) ∧
  (∃ tp p, w.var? Tryz.prog "strconv.ErrSyntax" = some #[.iface tp p]) ∧ (∃ tp p, w.var? Tryz.prog "strconv.ErrRange" = some #[.iface tp p])

theorem var_keep {P : Program} {w w' : World} {n : String} {cs : Array Value} (h : w.var? P n = some cs) (hb : Below w.heap.size w w') : w'.var? P n = some cs := by
  unfold World.var? at *
  cases hg : P.globalNamed n with
  | none => rw [hg] at h; cases h
  | some g =>
    rw [hg] at h
    simp only [Option.bind_some] at h ⊢
    cases ho : w.heap[g]? with
    | none => rw [ho] at h; cases h
    | some o => rw [below_heap hb ho]; rw [ho] at h; exact h

theorem Gl.keep {w w' : World} (h : Gl w) (hb : Below w.heap.size w w') : Gl w' := by
  obtain ⟨h1, ⟨m, h2⟩, ⟨t3, p3, h3⟩, ⟨t4, p4, h4⟩⟩ := h
  exact ⟨var_keep h1 hb, ⟨m, below_keep hb h2⟩, ⟨t3, p3, var_keep h3 hb⟩, ⟨t4, p4, var_keep h4 hb⟩⟩
theorem Gl.on {w w' : World} (hb : Below w.heap.size w w') (h : Gl w) : Gl w' := h.keep hb
theorem Gl.drew {w : World} (h : Gl w) : Gl w.drew := h
theorem Gl.drewN {w : World} (h : Gl w) (n : Nat) : Gl (w.drewN n) := h

/-- strconv.Itoa. -/
theorem itoa_any (n : Int) (w : World) (h0 : -9223372036854775808 ≤ n) (h1 : n ≤ 9223372036854775807) (hG : Gl w) :
    Calls Tryz.prog 57 #[.int .i64 n] w (StrR w (Lib.itoa n)) :=
  (Tryz.strconv_Itoa n h0 h1 w hG.1).mono fun e w' ⟨he, k, os, hw⟩ => ⟨he, by rw [hw]; exact below_grown_sl _ w k os (Nat.le_refl _)⟩

/-- what Atoi hands back: a number and whether there was an error. -/
def AtoiR (w : World) (l : List UInt8) (e : Ending) (w' : World) : Prop :=
  Below w.heap.size w w' ∧ ((∃ v, Lib.atoiAll l = .ok v ∧ e = .returned (.tuple #[.int .i64 v, .nilIface])) ∨
    ((∀ v, Lib.atoiAll l ≠ .ok v) ∧ ∃ n t p, -9223372036854775808 ≤ n ∧ n ≤ 9223372036854775807 ∧ e = .returned (.tuple #[.int .i64 n, .iface t p])))

/-- strconv.Atoi. -/
theorem atoi_any (s : ByteArray) (w : World) (hs : s.size ≤ 281474976710656) (hG : Gl w) :
    Calls Tryz.prog 56 #[.string s] w (AtoiR w s.data.toList) := by
  obtain ⟨_, _, ⟨t3, p3, h3⟩, ⟨t4, p4, h4⟩⟩ := hG
  cases h : Lib.atoiAll s.data.toList
  case ok v =>
    refine (Tryz.strconv_Atoi_ok s (by omega) v h w).mono ?_
    rintro e w' ⟨he, hw⟩
    refine ⟨?_, Or.inl ⟨v, h, he⟩⟩
    rcases hw with rfl | ⟨t, rfl⟩
    · exact Below.refl _ _
    · exact Joins.below_bytesWorld _ _ _ _ (Nat.le_refl _)
  case range =>
    refine (Tryz.strconv_Atoi_range_var s hs h t4 p4 w h4).mono ?_
    rintro e w' ⟨N, he, _, _, hb⟩
    refine ⟨hb, Or.inr ⟨by simp [h], _, 255, _, ?_, ?_, he⟩⟩
    · unfold Lib.atoiSat; split <;> omega
    · unfold Lib.atoiSat; split <;> omega
  · refine (Tryz.strconv_Atoi_bad_var s hs h t3 p3 w h3).mono ?_
    rintro e w' ⟨N, he, _, _, hb⟩
    exact ⟨hb, Or.inr ⟨by simp [h], 0, 255, _, by omega, by omega, he⟩⟩

end Go.Proofs.YtgagcbgbjkjghaaGreatDoor.Scr
namespace Go.Proofs.YtgagcbgbjkjghaaGreatDoor.Scr
open Go.RowKit

theorem ret_str {a b : List UInt8} (h : a = b) : Ending.returned (.string ⟨a.toArray⟩) = .returned (.string ⟨b.toArray⟩) := by rw [h]

theorem wordL_none {k : Int} (h : k < 1 ∨ 6 ≤ k) : wordL k = [] := by
  unfold wordL
  repeat (rw [if_neg (by omega)])

set_option maxHeartbeats 400000 in
theorem word_any (k : Int) (w : World) :
    Calls Tryz.prog 113 #[.int .i64 k] w fun e w' => e = .returned (.string ⟨(wordL k).toArray⟩) ∧ w = w' := by
  by_cases h : 1 ≤ k ∧ k ≤ 5
  · obtain rfl | rfl | rfl | rfl | rfl : k = 1 ∨ k = 2 ∨ k = 3 ∨ k = 4 ∨ k = 5 := by omega
    all_goals
      go_enter Tryz.func113, Tryz.ntmps113
      go_wp2
      go_ret
      exact ⟨rfl, rfl⟩
  · have hn := wordL_none (k := k) (by omega)
    rw [hn]
    clear hn
    go_enter Tryz.func113, Tryz.ntmps113
    go_wp2
    go_ret
    exact ⟨rfl, rfl⟩

end Go.Proofs.YtgagcbgbjkjghaaGreatDoor.Scr
namespace Go.Proofs.YtgagcbgbjkjghaaGreatDoor.Scr
open Go.RowKit Go.Lib

theorem ty35 : Tryz.prog.underlying 23 = some (.slice 5) := by kernel_rfl
theorem ty5 : Tryz.prog.underlying 5 = some (.int .u8) := by kernel_rfl
theorem ty9 : Tryz.prog.underlying 9 = some .string := by kernel_rfl
theorem inf5 : (Tryz.prog.info? 5).map (fun i => (i.zero, i.size, i.bytes)) = some (some (.int .u8 0), 1, 1) := by kernel_rfl

set_option maxRecDepth 100000 in
set_option maxHeartbeats 400000 in
theorem bytes_one (b off c : Nat) (l : List UInt8) (w : World) (hm : l.length ≤ 1000000) (hcap : l.length ≤ c)
    (hb : b < w.heap.size) (hc : ∀ j (h : j < l.length), w.cell? ⟨b, off + j, none⟩ = some (.int .u8 l[j].toNat)) :
    Calls Tryz.prog 67 #[.slice (some ⟨b, off, none⟩) l.length c] w fun e w' => e = .returned (.string ⟨(bytesT l).toArray⟩) ∧ Below w.heap.size w w' := by
  obtain ⟨i0, hi, hz0, hz1, hz2⟩ := info_parts inf5
  go_enter Tryz.func67, Tryz.ntmps67
  go_wp2
  go_loop [0] (fun s => ∃ k : Nat, k ≤ l.length ∧ keep (l.take k) = keep l ∧ s = .slice (some ⟨b, off, none⟩) k c) (fun s => match s with | .slice _ n _ => n | _ => 0)
  case atStart => exact ⟨l.length, Nat.le_refl _, by rw [List.take_length], rfl⟩
  case round =>
    obtain ⟨k, hk, hkeep, rfl⟩ := hrel
    have HK := Lib.hid hkeep
    clear hkeep
    by_cases h0 : 0 < k
    · have hx : ((k : Int) - 1).toNat = k - 1 := by omega
      have hcell := hc (k - 1) (by omega)
      by_cases hz : l[k - 1]'(by omega) = 0
      · have hz' : (l[k - 1]'(by omega)).toNat = 0 := by rw [hz]; rfl
        have hcell : w.cell? ⟨b, off + (k - 1), none⟩ = some (.int .u8 0) := by rw [hcell, hz']; rfl
        go_wp2
        go_round
        case rel =>
          refine ⟨k - 1, by omega, ?_, rfl⟩
          rw [← HK.out, show k = k - 1 + 1 by omega, List.take_succ_eq_append_getElem (by omega), hz, keep_snoc_zero]
          rfl
        case measure => simp; omega
      · have hz' : (((l[k - 1]'(by omega)).toNat : Int) == 0) = false := by
          rw [beq_eq_false_iff_ne]; intro e; exact hz (UInt8.toNat_inj.1 (by simpa using e))
        have hkk : keep l = k := by
          rw [← HK.out, show k = k - 1 + 1 by omega, List.take_succ_eq_append_getElem (by omega), keep_snoc _ _ hz]
          simp; omega
        have HKK := Lib.hid hkk
        clear hkk HK
        go_wp2
        clear hz' hcell hx hz
        go_loopw [3, 28] (fun v i wr => ∃ n : Nat, n ≤ k ∧ i = .int .i64 n ∧ wr.ownsRow w.heap.size 5 1 v (2 * n) (Lib.byteCells (hexs (l.take n))) ∧ Below w.heap.size w wr) (fun _ i _ => k - (intOf i).toNat)
        case atStart => exact ⟨0, Nat.zero_le _, rfl, World.ownsRow_nil _ _ _ _, Below.refl _ _⟩
        case round =>
          obtain ⟨n, hn, rfl, hown, hbel⟩ := hrel
          by_cases hlt : n < k
          · have hcell : wr.cell? ⟨b, off + n, none⟩ = some (.int .u8 (l[n]'(by omega)).toNat) := (hbel.cell hb).trans (hc n (by omega))
            have hbd : (l[n]'(by omega)).toNat < 256 := (l[n]'(by omega)).toNat_lt
            generalize hx : (l[n]'(by omega)).toNat = x at *
            go_wp2
            have e15 := and15 x hbd
            have b1 : 0 ≤ (x : Int) / 16 := by omega
            have b2 : (x : Int) / 16 < 16 := by omega
            have b3 : 0 ≤ (x : Int) % 16 := by omega
            have b4 : (x : Int) % 16 < 16 := by omega
            have e1 : ((x : Int) / 16).toNat = x / 16 := by omega
            have e2 : ((x : Int) % 16).toNat = x % 16 := by omega
            have hsz := hbel.size
            go_region_law (refine step_append_new rfl _ _ 23 5 rfl ty35 inf5 w.heap.size wr [hexc (x / 16), hexc (x % 16)] _ (2 * n) (hexs (l.take n)) rfl hown ?_ ?_ ?_ (k := 1) rfl 2 rfl ?_; (simp; omega); omega; exact hexNew _ _ _ _; intro v' w' hap)
            all_goals
              have HX := Lib.hid hx
              have hap2 : w'.ownsRow w.heap.size 5 1 v' (2 * (n + 1)) (Lib.byteCells (hexs (l.take (n + 1)))) := by
                have := hap.1
                rw [List.take_succ_eq_append_getElem (by omega), hexs_snoc, hex2, HX.out]
                exact this
              have hb2 := hbel.trans hap.2.1
              clear hap
              clear hx hcell hown
              go_wp2
              go_roundw
              case rel => exact ⟨n + 1, by omega, by go_num, hap2, hb2⟩
              case measure => simp [intOf]; omega
          · obtain rfl : n = k := by omega
            have hcv := fun (w : World) (h : wr.heap = w.heap) => own_convert (P := Tryz.prog) (w := w) (src := 23) (dst := 9) (e := 5) ty35 ty5 ty9 (by unfold World.ownsRow at hown ⊢; rw [← h]; exact hown)
            go_wp2
            go_ret
            exact ⟨by simp [bytesT, HKK.out, trim0]; omega, hbel⟩
    · obtain rfl : k = 0 := by omega
      have hk0 : keep l = 0 := by rw [← HK.out]; rfl
      have HK0 := Lib.hid hk0
      clear hk0
      go_wp2
      go_ret
      exact ⟨by simp [bytesT, HK0.out], Below.refl _ _⟩
set_option maxRecDepth 100000 in
set_option maxHeartbeats 400000 in
theorem bytes_none (a : Option Addr) (c : Nat) (w : World) :
    Calls Tryz.prog 67 #[.slice a 0 c] w fun e w' => e = .returned (.string ⟨#[45]⟩) ∧ w = w' := by
  go_enter Tryz.func67, Tryz.ntmps67
  go_wp2
  refine wp_loop_rounds 1 ?_
  rw [rounds_succ]
  go_wp2
  go_ret
  exact ⟨rfl, rfl⟩

/-- script.Bytes. -/
theorem bytes_any (a : Option Addr) (n c : Nat) (l : List UInt8) (w : World) (hn : l.length = n) (h : Bs w a l) (hm : n ≤ 1000000) (hcap : n ≤ c) :
    Calls Tryz.prog 67 #[.slice a n c] w fun e w' => e = .returned (.string ⟨(bytesT l).toArray⟩) ∧ Below w.heap.size w w' := by
  subst hn
  rcases h with rfl | ⟨b, off, rfl, hb, hc⟩
  · exact (bytes_none a c w).mono fun e w' ⟨he, hw⟩ => ⟨he, hw ▸ Below.refl _ _⟩
  · exact bytes_one b off c l w hm hcap hb hc

end Go.Proofs.YtgagcbgbjkjghaaGreatDoor.Scr
namespace Go.Proofs.YtgagcbgbjkjghaaGreatDoor.Scr
open Go.RowKit Go.Lib

end Go.Proofs.YtgagcbgbjkjghaaGreatDoor.Scr
namespace Go.Proofs.YtgagcbgbjkjghaaGreatDoor.Scr
open Go.RowKit Go.Lib

theorem index_hex (c : Int) (h0 : 0 ≤ c) (h1 : c < 256) : Lib.indexByte [48, 49, 50, 51, 52, 53, 54, 55, 56, 57, 97, 98, 99, 100, 101, 102] c.toNat.toUInt8 = dig c := by
  have key : ∀ y : Fin 256, Lib.indexByte [48, 49, 50, 51, 52, 53, 54, 55, 56, 57, 97, 98, 99, 100, 101, 102] y.val.toUInt8 = dig y.val := by decide +kernel
  have := key ⟨c.toNat, by omega⟩
  simp only at this
  rw [this]
  congr 1
  omega

/-- the place of a digit among the digits. -/
theorem hexIndex_any (c : Int) (h0 : 0 ≤ c) (h1 : c < 256) (w : World) :
    Calls Tryz.prog 224 #[.string ⟨#[48, 49, 50, 51, 52, 53, 54, 55, 56, 57, 97, 98, 99, 100, 101, 102]⟩, .int .u8 c] w fun e w' => e = .returned (.int .i64 (dig c)) ∧ w' = w :=
  (Tryz.strings_IndexByte _ c w).mono fun e w' ⟨he, hw⟩ => ⟨by rw [he, ← index_hex c h0 h1], hw⟩

def zero40 : Array Value := (Lib.byteCells (List.replicate 40 0)).toArray
theorem make40 (w : World) : (Instr.makeSlice 23 (.int .i64 40) (.int .i64 40)).run Tryz.prog w = .ok (.slice (some ⟨w.heap.size, 0, none⟩) 40 40) (w.alloc (.cells zero40 5)) := by kernel_rfl

/-- the bytes' own form of a string's list. -/
theorem toList_data (s : ByteArray) : s.toList = s.data.toList := by
  have h : ∀ (n i : Nat) (r : List UInt8), n = s.size - i → ByteArray.toList.loop s i r = r.reverse ++ s.data.toList.drop i := by
    intro n
    induction n with
    | zero =>
      intro i r hn
      rw [ByteArray.toList.loop, if_neg (by omega), List.drop_eq_nil_of_le (by show s.data.size ≤ i; have : s.size = s.data.size := rfl; omega)]
      simp
    | succ n ih =>
      intro i r hn
      have hlt : i < s.data.toList.length := by show i < s.data.size; have : s.size = s.data.size := rfl; omega
      rw [ByteArray.toList.loop, if_pos (by omega), ih (i + 1) _ (by omega), List.drop_eq_getElem_cons hlt]
      have : s.get! i = s.data.toList[i] := by
        show s.data[i]! = _
        rw [getElem!_pos s.data i (by simpa using hlt)]
        rfl
      simp [this]
  have := h s.size 0 [] (by omega)
  rw [ByteArray.toList, this]
  simp

/-- what Unbytes hands back: r, the forty bytes in a new block. -/
def UnB (w : World) (r : Option (List UInt8)) (e : Ending) (w' : World) : Prop :=
  Below w.heap.size w w' ∧ match r with
    | none => e = .returned (.tuple #[.slice none 0 0, .bool false])
    | some d => ∃ g, e = .returned (.tuple #[.slice (some ⟨g, 0, none⟩) 40 40, .bool true]) ∧ w.heap.size ≤ g ∧ w'.heap[g]? = some (.cells (Lib.byteCells d).toArray 5 (0, 0)) ∧ d.length = 40

theorem unB_no {w w' : World} {s : ByteArray} {n : Nat} (hb : Below w.heap.size w w') (h : (!bytesT (fortyD s.data.toList n) == s.toList) = true) : UnB w (unbytesN s.data.toList n) (.returned (.tuple #[.slice none 0 0, .bool false])) w' := by
  have h1 : bytesT (fortyD s.data.toList n) ≠ s.data.toList := by
    rw [toList_data] at h
    simpa using h
  have h2 : unbytesN s.data.toList n = none := by
    unfold unbytesN
    simp [h1]
  rw [h2]
  exact ⟨hb, rfl⟩

theorem unB_yes {w w' : World} {s : ByteArray} {n g : Nat} (hb : Below w.heap.size w w') (hok : (List.range n).all (okD s.data.toList) = true) (h : (!bytesT (fortyD s.data.toList n) == s.toList) = false)
    (hg : w.heap.size ≤ g) (hblk : w'.heap[g]? = some (.cells (Lib.byteCells (fortyD s.data.toList n)).toArray 5 (0, 0))) (hl : (fortyD s.data.toList n).length = 40) : UnB w (unbytesN s.data.toList n) (.returned (.tuple #[.slice (some ⟨g, 0, none⟩) 40 40, .bool true])) w' := by
  have h1 : bytesT (fortyD s.data.toList n) = s.data.toList := by
    rw [toList_data] at h
    simpa using h
  have h2 : unbytesN s.data.toList n = some (fortyD s.data.toList n) := by
    unfold unbytesN
    rw [if_pos hok, if_pos h1]
  rw [h2]
  exact ⟨hb, g, rfl, hg, hblk, hl⟩

theorem zero40_fortyD (l : List UInt8) : zero40 = (Lib.byteCells (fortyD l 0)).toArray := by rw [fortyD_zero]; rfl

theorem getD_data (s : ByteArray) (i : Nat) (h : i < s.size) : s.data.toList.getD i 0 = s[i] := by
  rw [List.getD_eq_getElem?_getD, List.getElem?_eq_getElem (by simpa using h)]
  rfl

theorem shl_or (a b : Int) (h0 : 0 ≤ a) (h1 : a ≤ 15) (h2 : 0 ≤ b) (h3 : b ≤ 15) : IntKind.u8.wrap (bits BinOp.or IntKind.i64 (a * 16) b) = a * 16 + b := by
  have key : ∀ x y : Fin 16, IntKind.u8.wrap (bits BinOp.or IntKind.i64 ((x.val : Int) * 16) (y.val : Int)) = (x.val : Int) * 16 + (y.val : Int) := by decide +kernel
  have := key ⟨a.toNat, by omega⟩ ⟨b.toNat, by omega⟩
  simp only [Int.toNat_of_nonneg h0, Int.toNat_of_nonneg h2] at this
  exact this

set_option maxRecDepth 100000 in
set_option maxHeartbeats 400000 in
theorem unbytes_go (s : ByteArray) (w : World) (n : Nat) (h45 : (s.toList == [45]) = false) (hn1 : s.size ≤ 2 * n) (hn2 : 2 * n ≤ s.size) (hm : s.size ≤ 80) :
    Calls Tryz.prog 173 #[.string s] w (UnB w (unbytesN s.data.toList n)) := by
  have hmk := make40
  have he : s.size % 2 = 0 := by omega
  go_enter Tryz.func173, Tryz.ntmps173
  go_wp2
  go_loopw [24] (fun t wr => ∃ i : Nat, i ≤ n ∧ t = .int .i64 i ∧ (List.range i).all (okD s.data.toList) = true ∧ wr.heap[w.heap.size]? = some (.cells (Lib.byteCells (fortyD s.data.toList i)).toArray 5 (0, 0)) ∧ Below w.heap.size w wr) (fun t _ => n - (intOf t).toNat)
  case atStart => exact ⟨0, Nat.zero_le _, rfl, rfl, by rw [← zero40_fortyD]; exact heap_alloc_new w _, (Below.refl _ _).alloc (Nat.le_refl _) _⟩
  case round =>
    obtain ⟨i, hi, rfl, hok, hblk, hbel⟩ := hrel
    have HOK := Lib.hid hok
    clear hok
    by_cases hlt : i < n
    · have k1 : 2 * i < s.size := by omega
      have k2 : 2 * i + 1 < s.size := by omega
      have HH : hiD s.data.toList i = dig (s[2 * i]).toNat := by unfold hiD; rw [getD_data s _ k1]
      have HL : loD s.data.toList i = dig (s[2 * i + 1]).toNat := by unfold loD; rw [getD_data s _ k2]
      have b1 : (s[2 * i]).toNat < 256 := (s[2 * i]).toNat_lt
      have b2 : (s[2 * i + 1]).toNat < 256 := (s[2 * i + 1]).toNat_lt
      have d1 := dig_le (s[2 * i]).toNat
      have d2 := dig_le (s[2 * i + 1]).toNat
      have e1 : (2 * (i : Int)).toNat = 2 * i := by omega
      have e2 : (2 * (i : Int) + 1).toNat = 2 * i + 1 := by omega
      have w1 : IntKind.i64.wrap (2 * (i : Int)) = 2 * (i : Int) := IntWalk.i64_in _ (by omega)
      have w2 : IntKind.i64.wrap (2 * (i : Int) + 1) = 2 * (i : Int) + 1 := IntWalk.i64_in _ (by omega)
      have l1 : 2 * (i : Int) < (s.size : Int) := by omega
      have l2 : 2 * (i : Int) + 1 < (s.size : Int) := by omega
      have l0 : 0 ≤ 2 * (i : Int) := by omega
      have l00 : 0 ≤ 2 * (i : Int) + 1 := by omega
      have HHH := Lib.hid HH
      have HLL := Lib.hid HL
      clear HH HL
      by_cases hg : 0 ≤ dig (s[2 * i]).toNat ∧ 0 ≤ dig (s[2 * i + 1]).toNat
      · obtain ⟨g1, g2⟩ := hg
        have hcell : wr.cell? ⟨w.heap.size, i, none⟩ = some (.int .u8 ((fortyD s.data.toList i)[i]'(by rw [fortyD_length _ _ (by omega)]; omega)).toNat) := by
          rw [cell_of_row _ _ _ _ _ _ hblk]; exact byteCells_at _ _ _
        have hfr : wr.frozen? ⟨w.heap.size, i, none⟩ = false := frozen_of_row _ _ _ _ _ hblk
        have hor := shl_or (dig (s[2 * i]).toNat) (dig (s[2 * i + 1]).toNat) g1 d1.2 g2 d2.2
        have i40 : i < 40 := by omega
        go_wp2
        go_quiet ((go_at_call 224; exact Calls.quiet_of_same (hexIndex_any _ (by omega) (by omega) _)))
        go_wp2
        go_roundw
        case rel =>
          have hg' : 0 ≤ hiD s.data.toList i ∧ 0 ≤ loD s.data.toList i := by rw [HHH.out, HLL.out]; exact ⟨g1, g2⟩
          refine ⟨i + 1, by omega, by go_num, okD_succ HOK.out (okD_good hg'), ?_, (hbel.drewN nq).setCell (Nat.le_refl _) _⟩
          rw [Lib.heap_setCell_same (w := wr.drewN nq) hblk]
          rw [← HHH.out, ← HLL.out, ← byteD_toNat hg', ← fortyD_succ _ _ i40]
          simp [Lib.byteCells]
        case measure => simp [intOf]; omega
      · go_wp2
        go_quiet ((go_at_call 224; exact Calls.quiet_of_same (hexIndex_any _ (by omega) (by omega) _)))
        go_wp2
        all_goals
          go_ret2
          exact ⟨hbel.drewN nq, by rw [unbytesN_bad hlt (okD_bad (by rw [HHH.out, HLL.out]; exact hg))]; rfl⟩
    · obtain rfl : i = n := by omega
      clear he
      have hf := fortyD_length s.data.toList i (by omega)
      have HF := Lib.hid hf
      clear hf
      go_wp2_with fail
      refine (bytes_any _ _ _ _ _ HF.out (Bs.row hblk) (by omega) (by omega)).mono ?_
      rintro e w1 ⟨rfl, hb1⟩
      have hbel1 := hbel.trans (hb1.mono hbel.size)
      have hblk1 := (hb1.block w.heap.size (by have := hblk; exact (Array.getElem?_eq_some_iff.1 this).1)).trans hblk
      clear hb1 hblk hbel
      go_wp2
      · go_ret2
        exact unB_no hbel1 ‹_›
      · go_ret2
        exact unB_yes hbel1 HOK.out ‹_› (Nat.le_refl _) hblk1 HF.out

set_option maxRecDepth 100000 in
set_option maxHeartbeats 400000 in
theorem unbytes_dash (s : ByteArray) (w : World) (h45 : (s.toList == [45]) = true) :
    Calls Tryz.prog 173 #[.string s] w (UnB w (some (List.replicate 40 0))) := by
  have hmk := make40
  go_enter Tryz.func173, Tryz.ntmps173
  go_wp2
  go_ret2
  exact ⟨(Below.refl _ _).alloc (Nat.le_refl _) _, w.heap.size, rfl, Nat.le_refl _, heap_alloc_new w _, by simp⟩

set_option maxRecDepth 100000 in
set_option maxHeartbeats 400000 in
theorem unbytes_odd (s : ByteArray) (w : World) (h45 : (s.toList == [45]) = false) (h : s.size % 2 = 1) :
    Calls Tryz.prog 173 #[.string s] w (UnB w none) := by
  have hmk := make40
  go_enter Tryz.func173, Tryz.ntmps173
  go_wp2
  go_ret2
  exact ⟨(Below.refl _ _).alloc (Nat.le_refl _) _, rfl⟩

set_option maxRecDepth 100000 in
set_option maxHeartbeats 400000 in
theorem unbytes_long (s : ByteArray) (w : World) (h45 : (s.toList == [45]) = false) (h : s.size % 2 = 0) (hl : 80 < s.size) :
    Calls Tryz.prog 173 #[.string s] w (UnB w none) := by
  have hmk := make40
  go_enter Tryz.func173, Tryz.ntmps173
  go_wp2
  go_ret2
  exact ⟨(Below.refl _ _).alloc (Nat.le_refl _) _, rfl⟩

/-- the cases of Unbytes. -/
theorem unbytes_cases {f : FuncId} (s : ByteArray) (w : World)
    (h1 : (s.toList == [45]) = true → Calls Tryz.prog f #[.string s] w (UnB w (some (List.replicate 40 0))))
    (h2 : (s.toList == [45]) = false → s.size % 2 = 1 → Calls Tryz.prog f #[.string s] w (UnB w none))
    (h3 : (s.toList == [45]) = false → s.size % 2 = 0 → 80 < s.size → Calls Tryz.prog f #[.string s] w (UnB w none))
    (h4 : ∀ n, (s.toList == [45]) = false → s.size ≤ 2 * n → 2 * n ≤ s.size → s.size ≤ 80 → Calls Tryz.prog f #[.string s] w (UnB w (unbytesN s.data.toList n))) :
    Calls Tryz.prog f #[.string s] w (UnB w (unbytesT s.data.toList)) := by
  have hsz : s.data.toList.length = s.size := by simp
  unfold unbytesT
  rw [hsz]
  by_cases c1 : s.data.toList = [45]
  · rw [if_pos c1]; exact h1 (by rw [toList_data, c1]; rfl)
  · rw [if_neg c1]
    have c1' : (s.toList == [45]) = false := by rw [toList_data]; simpa using c1
    by_cases c2 : s.size % 2 = 1
    · rw [if_pos (Or.inl (by omega))]; exact h2 c1' c2
    · by_cases c3 : 80 < s.size
      · rw [if_pos (Or.inr c3)]; exact h3 c1' (by omega) c3
      · rw [if_neg (by omega)]; exact h4 _ c1' (by omega) (by omega) (by omega)

/-- script.Unbytes. -/
theorem unbytes_any (s : ByteArray) (w : World) : Calls Tryz.prog 173 #[.string s] w (UnB w (unbytesT s.data.toList)) :=
  unbytes_cases s w (unbytes_dash s w) (unbytes_odd s w) (unbytes_long s w) (unbytes_go s w)

end Go.Proofs.YtgagcbgbjkjghaaGreatDoor.Scr
namespace Go.Proofs.YtgagcbgbjkjghaaGreatDoor.Scr
open Go.RowKit Go.Lib

theorem ty44 : Tryz.prog.underlying 27 = some (.slice 9) := by kernel_rfl
theorem inf9 : (Tryz.prog.info? 9).map (fun i => (i.zero, i.size, i.bytes)) = some (some (.string ⟨#[]⟩), 1, 16) := by kernel_rfl

end Go.Proofs.YtgagcbgbjkjghaaGreatDoor.Scr
namespace Go.Proofs.YtgagcbgbjkjghaaGreatDoor.Scr
open Go.RowKit Go.Lib

/-- strings.Join of words by blanks. -/
theorem join_any {base n : Nat} {v : Value} {ws : List (List UInt8)} {w : World} (hown : w.ownsRow base 9 1 v n (strCells ws)) (hne : ws ≠ []) (hn : n ≤ 1000000000) (hlen : (Lib.join ws [32]).length ≤ 140737488355328) :
    Calls Tryz.prog 34 #[v, .string ⟨#[32]⟩] w (StrR w (Lib.join ws [32])) := by
  have hwn : ws.length = n := by have := hown.1; rw [strCells_length] at this; simpa using this
  rcases hown.2 with ⟨_, h0⟩ | ⟨g, cap, cur, rfl, _, hg, hc1, _, _, htk⟩
  · exfalso; apply hne; apply List.eq_nil_of_length_eq_zero; omega
  · have e : (ws.map fun l => (⟨l.toArray⟩ : ByteArray)).map (·.data.toList) = ws := by simp [Function.comp_def]
    have hl : (ws.map fun l => (⟨l.toArray⟩ : ByteArray)).length = n := by simpa using hwn
    have hj := Tryz.strings_Join g 0 cap (ws.map fun l => (⟨l.toArray⟩ : ByteArray)) ⟨#[32]⟩ w (fun j x hx => by
      rw [cell_of_row _ _ _ _ _ _ hg, Nat.zero_add]
      have hj : j < n := by rw [← hl]; exact (List.getElem?_eq_some_iff.1 hx).1
      have h2 : (strCells ws)[j]? = some (.string x) := by
        simp only [strCells, List.getElem?_map] at hx ⊢
        cases hq : ws[j]? with
        | none => rw [hq] at hx; cases hx
        | some y => rw [hq] at hx; simp only [Option.map_some, Option.some.injEq] at hx ⊢; rw [← hx]
      rw [← htk, List.getElem?_take, if_pos (by omega)] at h2
      simpa using h2) (Array.getElem?_eq_some_iff.1 hg).1 (by rw [hl]; omega) (by rw [hl]; exact hc1) (by rw [e]; exact hlen)
    rw [hl, e] at hj
    exact hj

set_option maxRecDepth 100000 in
set_option maxHeartbeats 2000000 in
theorem text_read (h a n : Int) (pv : Value) (w : World) (hG : Gl w) (hh0 : -9223372036854775808 ≤ h) (hh1 : h ≤ 9223372036854775807) (ha0 : -9223372036854775808 ≤ a) (ha1 : a ≤ 9223372036854775807) (hn0 : -9223372036854775808 ≤ n) (hn1 : n ≤ 9223372036854775807) (hpv : ∃ p m c, pv = .slice p m c) :
    Calls Tryz.prog 116 #[.agg #[.int .i64 2, .int .i64 h, .int .i64 a, .int .i64 n, pv]] w (StrR w (textT 2 h a n [])) := by
  obtain ⟨p, m, c, rfl⟩ := hpv
  go_enter Tryz.func116, Tryz.ntmps116
  go_wp2_with (go_at_call 113; refine (word_any _ _).mono ?_; rintro e w1 ⟨rfl, rfl⟩)
  have c1 : ((w.alloc (.cells #[.int .i64 2, .int .i64 h, .int .i64 a, .int .i64 n, .slice p m c] 116)).alloc (.cells #[.string ⟨(wordL 2).toArray⟩] 9)).cell? ⟨w.heap.size, 1, none⟩ = some (.int .i64 h) := by simp
  have c2 : ((w.alloc (.cells #[.int .i64 2, .int .i64 h, .int .i64 a, .int .i64 n, .slice p m c] 116)).alloc (.cells #[.string ⟨(wordL 2).toArray⟩] 9)).cell? ⟨w.heap.size, 2, none⟩ = some (.int .i64 a) := by simp
  have c3 : ((w.alloc (.cells #[.int .i64 2, .int .i64 h, .int .i64 a, .int .i64 n, .slice p m c] 116)).alloc (.cells #[.string ⟨(wordL 2).toArray⟩] 9)).cell? ⟨w.heap.size, 3, none⟩ = some (.int .i64 n) := by simp
  have hO := own_litV (w := w.alloc (.cells #[.int .i64 2, .int .i64 h, .int .i64 a, .int .i64 n, .slice p m c] 116)) (base := w.heap.size + 1) (e := 9) (C := #[.string ⟨(wordL 2).toArray⟩]) (strCells [wordL 2]) rfl (by simp) (by simp [strCells, maxLen])
  have hB := (Below.of_alloc w (.cells #[.int .i64 2, .int .i64 h, .int .i64 a, .int .i64 n, .slice p m c] 116)).alloc (by simp) (.cells #[.string ⟨(wordL 2).toArray⟩] 9)
  have hGW := hG.keep hB
  have hsz : w.heap.size + 1 ≤ ((w.alloc (.cells #[.int .i64 2, .int .i64 h, .int .i64 a, .int .i64 n, .slice p m c] 116)).alloc (.cells #[.string ⟨(wordL 2).toArray⟩] 9)).heap.size := by simp
  simp only [World.size_alloc] at hO
  generalize ((w.alloc (.cells #[.int .i64 2, .int .i64 h, .int .i64 a, .int .i64 n, .slice p m c] 116)).alloc (.cells #[.string ⟨(wordL 2).toArray⟩] 9)) = W2 at *
  replace hB := hB.drew
  go_region_held3 (fun wx => Below w.heap.size w wx ∧ wx.cell? ⟨w.heap.size, 1, none⟩ = some (.int .i64 h) ∧ wx.cell? ⟨w.heap.size, 2, none⟩ = some (.int .i64 a) ∧ wx.cell? ⟨w.heap.size, 3, none⟩ = some (.int .i64 n))
    (first
      | (exact ⟨hB, c1, c2, c3⟩)
      | (exact ⟨below_on (Below.of_alloc _ _) hB (Nat.le_refl _), below_keep (Below.of_alloc _ _) c1, below_keep (Below.of_alloc _ _) c2, below_keep (Below.of_alloc _ _) c3⟩)
      | (exact ⟨below_in hap.2.1 hB (by omega), cell_in hap.2.1 c1 (by simp), cell_in hap.2.1 c2 (by simp), cell_in hap.2.1 c3 (by simp)⟩))
    (first
      | (go_at_call 57; refine (itoa_any _ _ ?_ ?_ ?_).mono ?_; assumption; assumption; exact hGW; rintro e w3 ⟨rfl, hb3⟩; replace hGW := Gl.on hb3 hGW; replace c1 := below_keep hb3 c1; replace c2 := below_keep hb3 c2; replace c3 := below_keep hb3 c3; replace hO := own_on hb3 hO; replace hB := below_on hb3 hB (Nat.le_refl _); replace hsz := size_on hb3 hsz)
      | (refine step_append_lit rfl (.tmp 19) (.tmp 29) 27 9 rfl ty44 inf9 rfl (by decide) (w.heap.size + 1) _ (strCells [Lib.itoa h, Lib.itoa a, Lib.itoa n]) 3 rfl _ 1 _ rfl hO (by omega) (by decide) hsz (k := 0) rfl (strCells_one _) rfl 3 rfl ?_; intro v' w' hap))
  have hO2 := hap.1
  have hB2 := below_in hap.2.1 hB (by omega)
  clear hap
  rw [← strCells_app] at hO2
  have hne : [wordL 2] ++ [Lib.itoa h, Lib.itoa a, Lib.itoa n] ≠ [] := by simp
  have lh := itoa_length hh0 hh1
  have la := itoa_length ha0 ha1
  have ln := itoa_length hn0 hn1
  have ht : Lib.join ([wordL 2] ++ [Lib.itoa h, Lib.itoa a, Lib.itoa n]) [32] = textT 2 h a n [] := opW_text (k := 2) (l := []) (by intro hk; omega)
  have hl : (textT 2 h a n []).length ≤ 100 := by simp [textT]; omega
  have HT := Lib.hid ht
  clear ht lh la ln
  go_wp2_with (go_at_call 34; refine (join_any hO2 hne (by omega) (by rw [HT.out]; omega)).mono ?_; rintro e w4 ⟨rfl, hb4⟩)
  go_ret
  exact ⟨ret_str HT.out, below_on hb4 hB2 (by omega)⟩

set_option maxRecDepth 100000 in
set_option maxHeartbeats 2000000 in
theorem text_commit (h a n : Int) (pv : Value) (w : World) (hG : Gl w) (hh0 : -9223372036854775808 ≤ h) (hh1 : h ≤ 9223372036854775807) (hpv : ∃ p m c, pv = .slice p m c) :
    Calls Tryz.prog 116 #[.agg #[.int .i64 4, .int .i64 h, .int .i64 a, .int .i64 n, pv]] w (StrR w (textT 4 h a n [])) := by
  obtain ⟨p, m, c, rfl⟩ := hpv
  have lh := itoa_length hh0 hh1
  have ht : Lib.join ([wordL 4] ++ [Lib.itoa h]) [32] = textT 4 h a n [] := opW_text (k := 4) (l := []) (a := a) (n := n) (by intro hk; omega)
  have hl : (textT 4 h a n []).length ≤ 100 := by simp [textT]; omega
  have hne : [wordL 4] ++ [Lib.itoa h] ≠ [] := by simp
  have HT := Lib.hid ht
  clear ht lh
  go_enter Tryz.func116, Tryz.ntmps116
  go_wp2_with (go_at_call 113; refine (word_any _ _).mono ?_; rintro e w1 ⟨rfl, rfl⟩)
  have hO := own_litV (w := w.alloc (.cells #[.int .i64 4, .int .i64 h, .int .i64 a, .int .i64 n, .slice p m c] 116)) (base := w.heap.size + 1) (e := 9) (C := #[.string ⟨(wordL 4).toArray⟩]) (strCells [wordL 4]) rfl (by simp) (by simp [strCells, maxLen])
  have hB := (Below.of_alloc w (.cells #[.int .i64 4, .int .i64 h, .int .i64 a, .int .i64 n, .slice p m c] 116)).alloc (by simp) (.cells #[.string ⟨(wordL 4).toArray⟩] 9)
  have hGW := hG.keep hB
  have hsz : w.heap.size + 1 ≤ ((w.alloc (.cells #[.int .i64 4, .int .i64 h, .int .i64 a, .int .i64 n, .slice p m c] 116)).alloc (.cells #[.string ⟨(wordL 4).toArray⟩] 9)).heap.size := by simp
  simp only [World.size_alloc] at hO
  generalize ((w.alloc (.cells #[.int .i64 4, .int .i64 h, .int .i64 a, .int .i64 n, .slice p m c] 116)).alloc (.cells #[.string ⟨(wordL 4).toArray⟩] 9)) = W2 at *
  refine (itoa_any _ _ hh0 hh1 hGW).mono ?_
  rintro e w3 ⟨rfl, hb3⟩
  replace hO := own_on hb3 hO
  replace hB := below_on hb3 hB (Nat.le_refl _)
  replace hsz := size_on hb3 hsz
  go_wp2_with (at_builtin; refine wpList_append_lit rfl (.tmp 34) (.tmp 38) 27 9 rfl ty44 inf9 rfl (by decide) (w.heap.size + 1) _ (strCells [Lib.itoa h]) 1 rfl _ 1 _ rfl hO (by omega) (by decide) hsz (k := 0) rfl (strCells_one _) rfl 1 rfl ?_; intro v' w' hap)
  have hO2 := hap.1
  have hB2 := below_in hap.2.1 hB (by omega)
  clear hap
  rw [← strCells_app] at hO2
  refine (join_any hO2 hne (by omega) (by rw [HT.out]; omega)).mono ?_
  rintro e w4 ⟨rfl, hb4⟩
  go_wp2
  go_ret
  exact ⟨ret_str HT.out, below_on hb4 hB2 (by omega)⟩

set_option maxRecDepth 100000 in
set_option maxHeartbeats 2000000 in
theorem text_abort (h a n : Int) (pv : Value) (w : World) (hG : Gl w) (hh0 : -9223372036854775808 ≤ h) (hh1 : h ≤ 9223372036854775807) (hpv : ∃ p m c, pv = .slice p m c) :
    Calls Tryz.prog 116 #[.agg #[.int .i64 5, .int .i64 h, .int .i64 a, .int .i64 n, pv]] w (StrR w (textT 5 h a n [])) := by
  obtain ⟨p, m, c, rfl⟩ := hpv
  have lh := itoa_length hh0 hh1
  have ht : Lib.join ([wordL 5] ++ [Lib.itoa h]) [32] = textT 5 h a n [] := opW_text (k := 5) (l := []) (a := a) (n := n) (by intro hk; omega)
  have hl : (textT 5 h a n []).length ≤ 100 := by simp [textT]; omega
  have hne : [wordL 5] ++ [Lib.itoa h] ≠ [] := by simp
  have HT := Lib.hid ht
  clear ht lh
  go_enter Tryz.func116, Tryz.ntmps116
  go_wp2_with (go_at_call 113; refine (word_any _ _).mono ?_; rintro e w1 ⟨rfl, rfl⟩)
  have hO := own_litV (w := w.alloc (.cells #[.int .i64 5, .int .i64 h, .int .i64 a, .int .i64 n, .slice p m c] 116)) (base := w.heap.size + 1) (e := 9) (C := #[.string ⟨(wordL 5).toArray⟩]) (strCells [wordL 5]) rfl (by simp) (by simp [strCells, maxLen])
  have hB := (Below.of_alloc w (.cells #[.int .i64 5, .int .i64 h, .int .i64 a, .int .i64 n, .slice p m c] 116)).alloc (by simp) (.cells #[.string ⟨(wordL 5).toArray⟩] 9)
  have hGW := hG.keep hB
  have hsz : w.heap.size + 1 ≤ ((w.alloc (.cells #[.int .i64 5, .int .i64 h, .int .i64 a, .int .i64 n, .slice p m c] 116)).alloc (.cells #[.string ⟨(wordL 5).toArray⟩] 9)).heap.size := by simp
  simp only [World.size_alloc] at hO
  generalize ((w.alloc (.cells #[.int .i64 5, .int .i64 h, .int .i64 a, .int .i64 n, .slice p m c] 116)).alloc (.cells #[.string ⟨(wordL 5).toArray⟩] 9)) = W2 at *
  refine (itoa_any _ _ hh0 hh1 hGW).mono ?_
  rintro e w3 ⟨rfl, hb3⟩
  replace hO := own_on hb3 hO
  replace hB := below_on hb3 hB (Nat.le_refl _)
  replace hsz := size_on hb3 hsz
  go_wp2_with (at_builtin; refine wpList_append_lit rfl (.tmp 34) (.tmp 38) 27 9 rfl ty44 inf9 rfl (by decide) (w.heap.size + 1) _ (strCells [Lib.itoa h]) 1 rfl _ 1 _ rfl hO (by omega) (by decide) hsz (k := 0) rfl (strCells_one _) rfl 1 rfl ?_; intro v' w' hap)
  have hO2 := hap.1
  have hB2 := below_in hap.2.1 hB (by omega)
  clear hap
  rw [← strCells_app] at hO2
  refine (join_any hO2 hne (by omega) (by rw [HT.out]; omega)).mono ?_
  rintro e w4 ⟨rfl, hb4⟩
  go_wp2
  go_ret
  exact ⟨ret_str HT.out, below_on hb4 hB2 (by omega)⟩

set_option maxRecDepth 100000 in
set_option maxHeartbeats 2000000 in
theorem text_begin (h a n : Int) (pv : Value) (w : World) (hpv : ∃ p m c, pv = .slice p m c) :
    Calls Tryz.prog 116 #[.agg #[.int .i64 1, .int .i64 h, .int .i64 a, .int .i64 n, pv]] w (StrR w (textT 1 h a n [])) := by
  obtain ⟨p, m, c, rfl⟩ := hpv
  go_enter Tryz.func116, Tryz.ntmps116
  go_wp2_with (go_at_call 113; refine (word_any _ _).mono ?_; rintro e w1 ⟨rfl, rfl⟩)
  go_ret
  exact ⟨rfl, (Below.of_alloc _ _).alloc (by simp) _⟩

set_option maxRecDepth 100000 in
set_option maxHeartbeats 2000000 in
theorem text_other (k h a n : Int) (pv : Value) (w : World) (hk : k < 1 ∨ 6 ≤ k) (hpv : ∃ p m c, pv = .slice p m c) :
    Calls Tryz.prog 116 #[.agg #[.int .i64 k, .int .i64 h, .int .i64 a, .int .i64 n, pv]] w (StrR w []) := by
  obtain ⟨p, m, c, rfl⟩ := hpv
  have k1 : (k == 1) = false := by rw [beq_eq_false_iff_ne]; omega
  have k2 : (k == 2) = false := by rw [beq_eq_false_iff_ne]; omega
  have k3 : (k == 3) = false := by rw [beq_eq_false_iff_ne]; omega
  have k4 : (k == 4) = false := by rw [beq_eq_false_iff_ne]; omega
  have k5 : (k == 5) = false := by rw [beq_eq_false_iff_ne]; omega
  have hw := wordL_none hk
  have HW := Lib.hid hw
  clear hw
  go_enter Tryz.func116, Tryz.ntmps116
  go_wp2_with (go_at_call 113; refine (word_any _ _).mono ?_; rintro e w1 ⟨rfl, rfl⟩)
  have hO := own_litV (w := w.alloc (.cells #[.int .i64 k, .int .i64 h, .int .i64 a, .int .i64 n, .slice p m c] 116)) (base := w.heap.size + 1) (e := 9) (C := #[.string ⟨(wordL k).toArray⟩]) (strCells [wordL k]) rfl (by simp) (by simp [strCells, maxLen])
  have hB := (Below.of_alloc w (.cells #[.int .i64 k, .int .i64 h, .int .i64 a, .int .i64 n, .slice p m c] 116)).alloc (by simp) (.cells #[.string ⟨(wordL k).toArray⟩] 9)
  simp only [World.size_alloc] at hO
  refine (join_any hO (by simp) (by simp [strCells]) (by rw [HW.out]; simp [Lib.join_one])).mono ?_
  rintro e w4 ⟨rfl, hb4⟩
  go_wp2
  go_ret
  exact ⟨ret_str (by rw [HW.out, Lib.join_one]), below_on hb4 hB (by omega)⟩

end Go.Proofs.YtgagcbgbjkjghaaGreatDoor.Scr
namespace Go.Proofs.YtgagcbgbjkjghaaGreatDoor.Scr
open Go.RowKit Go.Lib

set_option maxRecDepth 100000 in
set_option maxHeartbeats 2000000 in
theorem text_write (h a n : Int) (pa : Option Addr) (c : Nat) (l : List (Int × List UInt8)) (w : World) (hG : Gl w) (hh0 : -9223372036854775808 ≤ h) (hh1 : h ≤ 9223372036854775807) (hP : Ps w pa l) (hl : l.length ≤ 100000) :
    Calls Tryz.prog 116 #[.agg #[.int .i64 3, .int .i64 h, .int .i64 a, .int .i64 n, .slice pa l.length c]] w (StrR w (textT 3 h a n l)) := by
  go_enter Tryz.func116, Tryz.ntmps116
  go_wp2_with (go_at_call 113; refine (word_any _ _).mono ?_; rintro e w1 ⟨rfl, rfl⟩)
  have hO := own_litV (w := w.alloc (.cells #[.int .i64 3, .int .i64 h, .int .i64 a, .int .i64 n, .slice pa l.length c] 116)) (base := w.heap.size + 1) (e := 9) (C := #[.string ⟨(wordL 3).toArray⟩]) (strCells [wordL 3]) rfl (by simp) (by simp [strCells, maxLen])
  have hB := (Below.of_alloc w (.cells #[.int .i64 3, .int .i64 h, .int .i64 a, .int .i64 n, .slice pa l.length c] 116)).alloc (by simp) (.cells #[.string ⟨(wordL 3).toArray⟩] 9)
  have c4 : ((w.alloc (.cells #[.int .i64 3, .int .i64 h, .int .i64 a, .int .i64 n, .slice pa l.length c] 116)).alloc (.cells #[.string ⟨(wordL 3).toArray⟩] 9)).cell? ⟨w.heap.size, 4, none⟩ = some (.slice pa l.length c) := by simp
  have hGW := hG.keep hB
  have hPW := hP.keep hB
  have hsz : w.heap.size + 1 ≤ ((w.alloc (.cells #[.int .i64 3, .int .i64 h, .int .i64 a, .int .i64 n, .slice pa l.length c] 116)).alloc (.cells #[.string ⟨(wordL 3).toArray⟩] 9)).heap.size := by simp
  simp only [World.size_alloc] at hO
  generalize ((w.alloc (.cells #[.int .i64 3, .int .i64 h, .int .i64 a, .int .i64 n, .slice pa l.length c] 116)).alloc (.cells #[.string ⟨(wordL 3).toArray⟩] 9)) = W2 at *
  refine (itoa_any _ _ hh0 hh1 hGW).mono ?_
  rintro e w3 ⟨rfl, hb3⟩
  replace hO := own_on hb3 hO
  replace hB := below_on hb3 hB (Nat.le_refl _)
  replace hsz := size_on hb3 hsz
  replace hGW := Gl.on hb3 hGW
  replace hPW := Ps.keep hPW hb3
  replace c4 := below_keep hb3 c4
  clear hb3
  go_wp2_with (at_builtin; refine wpList_append_lit rfl (.tmp 42) (.tmp 46) 27 9 rfl ty44 inf9 rfl (by decide) (w.heap.size + 1) _ (strCells [Lib.itoa h]) 1 rfl _ 1 _ rfl hO (by omega) (by decide) hsz (k := 0) rfl (strCells_one _) rfl 1 rfl ?_; intro v' w' hap; have c5 := cell_in hap.2.1 c4 (by simp))
  have hO2 := hap.1
  have hB2 := below_in hap.2.1 hB (by omega)
  have hsz2 := Nat.le_trans hsz hap.2.1.size
  rw [← strCells_app] at hO2
  clear hap hO hB c4 c5 hsz hGW hPW
  go_loopw [3, 51] (fun v i wr => ∃ k : Nat, k ≤ l.length ∧ i = .int .i64 k ∧ wr.ownsRow (w.heap.size + 1) 9 1 v (2 + 2 * k) (strCells ([wordL 3, Lib.itoa h] ++ putW (l.take k))) ∧ (∀ j (hj : j < l.length), j < k → l[j].2.length = 40) ∧ Below w.heap.size w wr ∧ w.heap.size + 1 ≤ wr.heap.size) (fun _ i _ => l.length - (intOf i).toNat)
  case atStart => exact ⟨0, Nat.zero_le _, rfl, hO2, fun j hj hjk => by omega, hB2, hsz2⟩
  case round =>
    obtain ⟨k, hk, rfl, hown, h40, hbel, hszr⟩ := hrel
    have H40 := Lib.hid h40
    clear h40
    by_cases hlt : k < l.length
    · have hPr := hP.keep hbel
      have hGr := hG.keep hbel
      rcases hPr with h0 | ⟨b, off, rfl, hc⟩
      · subst h0; simp at hlt
      obtain ⟨x1, x2, x3, da, dc, x4, x5, x6, x7⟩ := hc k hlt
      have hne := own_ne hown (Nat.le_refl _)
      clear hc x6
      by_cases hd : l[k].2.length = 40
      · rw [hd] at x4 x5
        have HD := Lib.hid hd
        clear hd
        go_wp2
        have e0 : (wr.alloc (.cells #[.int .i64 l[k].1, .slice da 40 dc] 138)).cell? ⟨wr.heap.size, 0, none⟩ = some (.int .i64 l[k].1) := by simp
        have e1 : (wr.alloc (.cells #[.int .i64 l[k].1, .slice da 40 dc] 138)).cell? ⟨wr.heap.size, 1, none⟩ = some (.slice da 40 dc) := by simp
        have hA := Below.of_alloc wr (.cells #[.int .i64 l[k].1, .slice da 40 dc] 138)
        have hBw := (below_on hA hbel (by omega)).drew
        have hO3 := own_on hA hown
        have hG3 := Gl.on hA hGr
        have hBs := Bs.keep x7 hA
        have hsz3 := size_on hA hszr
        clear hA x1 x4 x7 hGr hown hbel
        generalize wr.alloc (.cells #[.int .i64 l[k].1, .slice da 40 dc] 138) = W3 at *
        go_region_held3 (fun wx => Below w.heap.size w wx ∧ wx.cell? ⟨wr.heap.size, 0, none⟩ = some (.int .i64 l[k].1) ∧ wx.cell? ⟨wr.heap.size, 1, none⟩ = some (.slice da 40 dc))
          (first
            | (exact ⟨hBw, e0, e1⟩)
            | (exact ⟨below_on (Below.of_alloc _ _) hBw (Nat.le_refl _), below_keep (Below.of_alloc _ _) e0, below_keep (Below.of_alloc _ _) e1⟩)
            | (exact ⟨below_in hap.2.1 hBw (by omega), hap.2.2.cell e0 hne, hap.2.2.cell e1 hne⟩))
          (first
            | (go_at_call 57; refine (itoa_any _ _ x2 x3 ?_).mono ?_; exact hG3; rintro e w4 ⟨rfl, hb3⟩; replace hG3 := Gl.on hb3 hG3; replace e0 := below_keep hb3 e0; replace e1 := below_keep hb3 e1; replace hO3 := own_on hb3 hO3; replace hBs := Bs.on hb3 hBs; replace hBw := below_on hb3 hBw (Nat.le_refl _); replace hsz3 := size_on hb3 hsz3)
            | (go_at_call 67; refine (bytes_any _ _ _ l[k].2 _ HD.out hBs (by omega) x5).mono ?_; rintro e w4 ⟨rfl, hb3⟩; replace hG3 := Gl.on hb3 hG3; replace e0 := below_keep hb3 e0; replace e1 := below_keep hb3 e1; replace hO3 := own_on hb3 hO3; replace hBw := below_on hb3 hBw (Nat.le_refl _); replace hsz3 := size_on hb3 hsz3)
            | (refine step_append_lit rfl (.tmp 59) (.tmp 66) 27 9 rfl ty44 inf9 rfl (by decide) (w.heap.size + 1) _ (strCells [Lib.itoa l[k].1, bytesT l[k].2]) 2 rfl _ (2 + 2 * k) _ rfl hO3 (by omega) (by decide) hsz3 (k := 0) rfl (strCells_one _) rfl 2 rfl ?_; intro v' w' hap))
        have hO4 := hap.1
        have hB4 := below_in hap.2.1 hBw (by omega)
        have hsz4 := Nat.le_trans hsz3 hap.2.1.size
        rw [← strCells_app, List.append_assoc, ← putW_snoc, ← List.take_succ_eq_append_getElem hlt] at hO4
        clear hap hO3 hBw hsz3 e0 e1 hG3
        go_wp2
        go_roundw
        case rel => exact ⟨k + 1, by omega, by go_num, by rw [show 2 + 2 * (k + 1) = 2 + 2 * k + 2 by omega]; exact hO4, fun j hj hjk => (by
          rcases Nat.lt_or_ge j k with h1 | h1
          · exact H40.out j hj h1
          · obtain rfl : j = k := by omega
            exact HD.out), hB4, hsz4⟩
        case measure => simp [intOf]; omega
      · have hne : ((l[k].2.length : Int) == 40) = false := by rw [beq_eq_false_iff_ne]; omega
        have hbad := textT_bad (h := h) (a := a) (n := n) (k := 3) rfl hlt hd
        have HB := Lib.hid hbad
        clear hbad hd
        go_wp2
        go_ret
        exact ⟨by rw [HB.out]; rfl, hbel.alloc hbel.size _⟩
    · obtain rfl : k = l.length := by omega
      have hall := textT_write (h := h) (a := a) (n := n) (k := 3) (puts := l) rfl (fun i hi => H40.out i hi hi)
      have ht : Lib.join ([wordL 3, Lib.itoa h] ++ putW l) [32] = textT 3 h a n l := opW_text (k := 3) (l := l) (a := a) (n := n) (fun _ i hi => H40.out i hi hi)
      have hpx : ∀ j (hj : j < l.length), l[j].2.length = 40 ∧ -9223372036854775808 ≤ l[j].1 ∧ l[j].1 ≤ 9223372036854775807 := fun j hj => by
        rcases hP with h0 | ⟨b, off, rfl, hc⟩
        · subst h0; simp at hj
        · have := hc j hj
          exact ⟨H40.out j hj hj, this.2.1, this.2.2.1⟩
      have hpl := putsT_length _ hpx
      have lh := itoa_length hh0 hh1
      have hlen : (textT 3 h a n l).length ≤ 100000000 := by
        rw [hall, List.length_append, List.length_append]
        have : ([119, 114, 105, 116, 101, 32] : List UInt8).length = 6 := rfl
        omega
      have HT := Lib.hid ht
      clear hall ht hpx hpl lh
      rw [List.take_length] at hown
      go_wp2_with (go_at_call 34; refine (join_any hown (by simp) (by omega) (by rw [HT.out]; omega)).mono ?_; rintro e w4 ⟨rfl, hb4⟩)
      go_ret
      exact ⟨ret_str HT.out, below_on hb4 hbel (by omega)⟩

theorem textT_puts' {k h a n : Int} (l : List (Int × List UInt8)) (hk : k ≠ 3) : textT k h a n l = textT k h a n [] := by
  unfold textT
  rw [if_neg hk, if_neg hk]

/-- script.Text. -/
theorem text_any (k h a n : Int) (pa : Option Addr) (m c : Nat) (l : List (Int × List UInt8)) (w : World) (hG : Gl w) (hm : l.length = m) (hh0 : -9223372036854775808 ≤ h) (hh1 : h ≤ 9223372036854775807) (ha0 : -9223372036854775808 ≤ a) (ha1 : a ≤ 9223372036854775807) (hn0 : -9223372036854775808 ≤ n) (hn1 : n ≤ 9223372036854775807) (hP : Ps w pa l) (hl : k = 3 → m ≤ 100000) :
    Calls Tryz.prog 116 #[.agg #[.int .i64 k, .int .i64 h, .int .i64 a, .int .i64 n, .slice pa m c]] w (StrR w (textT k h a n l)) := by
  by_cases h3 : k = 3
  · subst h3; subst hm; exact text_write h a n pa c l w hG hh0 hh1 hP (hl rfl)
  rw [textT_puts' l h3]
  by_cases h1 : k = 1
  · subst h1; exact text_begin h a n _ w ⟨_, _, _, rfl⟩
  by_cases h2 : k = 2
  · subst h2; exact text_read h a n _ w hG hh0 hh1 ha0 ha1 hn0 hn1 ⟨_, _, _, rfl⟩
  by_cases h4 : k = 4
  · subst h4; exact text_commit h a n _ w hG hh0 hh1 ⟨_, _, _, rfl⟩
  by_cases h5 : k = 5
  · subst h5; exact text_abort h a n _ w hG hh0 hh1 ⟨_, _, _, rfl⟩
  have e : textT k h a n [] = [] := by unfold textT; simp [h1, h2, h3, h4, h5]
  rw [e]
  exact text_other k h a n _ w (by omega) ⟨_, _, _, rfl⟩

end Go.Proofs.YtgagcbgbjkjghaaGreatDoor.Scr
namespace Go.Proofs.YtgagcbgbjkjghaaGreatDoor.Scr

/-- a numeral's number, from -2^40 to 2^40. -/
def atoiIn (l : List UInt8) : Option Int :=
  match Lib.atoiAll l with
  | .ok v => if -1099511627776 ≤ v ∧ v ≤ 1099511627776 then some v else none
  | _ => none

/-- a reader's next word; is it at its end, or bad; what is left. -/
def nextB (ws : List (List UInt8)) (bad : Bool) : Bool := bad || ws.isEmpty
def nextW (ws : List (List UInt8)) (bad : Bool) : List UInt8 := if nextB ws bad then [] else ws.headD []
def nextS (ws : List (List UInt8)) (bad : Bool) : List (List UInt8) := if nextB ws bad then ws else ws.tail

theorem nextS_length (ws : List (List UInt8)) (bad : Bool) : (nextS ws bad).length ≤ ws.length := by
  unfold nextS; split
  · exact Nat.le_refl _
  · rw [List.length_tail]; omega

/-- the puts that words are. -/
def loopW : List (List UInt8) → List (Int × List UInt8) → Option (List (Int × List UInt8))
  | [], p => some p
  | [_], _ => none
  | a :: b :: r, p => match atoiIn a, unbytesT b with
    | some v, some d => loopW r (p ++ [(v, d)])
    | _, _ => none

/-- an op: kind, handle, LBA, length, puts. -/
abbrev OpD := Int × Int × Int × Int × List (Int × List UInt8)
def textO (o : OpD) : List UInt8 := textT o.1 o.2.1 o.2.2.1 o.2.2.2.1 o.2.2.2.2

def candR (rest : List (List UInt8)) : Option OpD :=
  match rest with
  | x :: y :: z :: _ => match atoiIn x, atoiIn y, atoiIn z with
    | some h, some a, some n => some (2, h, a, n, [])
    | _, _, _ => none
  | _ => none
def candW (rest : List (List UInt8)) : Option OpD :=
  match rest with
  | x :: r => match atoiIn x, loopW r [] with
    | some h, some l => some (3, h, 0, 0, l)
    | _, _ => none
  | [] => none
def candC (k : Int) (rest : List (List UInt8)) : Option OpD :=
  match rest with
  | x :: _ => match atoiIn x with
    | some h => some (k, h, 0, 0, [])
    | none => none
  | [] => none
def candA (f : List UInt8) (rest : List (List UInt8)) : Option OpD :=
  if f = wordL 1 then some (1, 0, 0, 0, [])
  else if f = wordL 2 then candR rest
  else if f = wordL 3 then candW rest
  else if f = wordL 4 then candC 4 rest
  else if f = wordL 5 then candC 5 rest
  else none
/-- what Parse reads. -/
def parseA (s : List UInt8) : Option OpD :=
  match words s with
  | [] => none
  | f :: rest => match candA f rest with
    | some o => if textO o = s then some o else none
    | none => none

end Go.Proofs.YtgagcbgbjkjghaaGreatDoor.Scr
namespace Go.Proofs.YtgagcbgbjkjghaaGreatDoor.Scr
open Go.RowKit Go.Lib

/-- block g is a reader of the words ws. -/
def Rd (w : World) (g : Nat) (ws : List (List UInt8)) (bad : Bool) : Prop :=
  ∃ a c, w.heap[g]? = some (.cells #[.slice a ws.length c, .bool bad] 191 (0, 0)) ∧ Ss w a ws ∧ ws.length ≤ c ∧ (ws ≠ [] → ∀ b off, a = some ⟨b, off, none⟩ → b < g)

theorem _root_.Go.Proofs.YtgagcbgbjkjghaaGreatDoor.Ss.ne {w : World} {b off g : Nat} {ws : List (List UInt8)} {sv : Value} {bad : Bool} (hs : ∃ p n c, sv = .slice p n c) (hne : ws ≠ []) (hc : ∀ j (h : j < ws.length), w.cell? ⟨b, off + j, none⟩ = some (.string ⟨ws[j].toArray⟩))
    (hg : w.heap[g]? = some (.cells #[sv, .bool bad] 191 (0, 0))) : b ≠ g := by
  rintro rfl
  obtain ⟨p, n, c, rfl⟩ := hs
  have h0 := hc 0 (List.length_pos_iff.2 hne)
  rw [cell_of_row _ _ _ _ _ _ hg, Nat.add_zero] at h0
  rcases off with _ | _ | n
  · simp at h0
  · simp at h0
  · simp at h0

/-- what next hands back. -/
def NextR (w : World) (g : Nat) (ws : List (List UInt8)) (bad : Bool) (e : Ending) (w' : World) : Prop :=
  e = .returned (.string ⟨(nextW ws bad).toArray⟩) ∧ Rd w' g (nextS ws bad) (nextB ws bad) ∧ w.grownBy w' (some g)

theorem grown_set (w : World) (g i : Nat) (v : Value) : w.grownBy (w.setCell ⟨g, i, none⟩ v) (some g) :=
  ⟨rfl, rfl, rfl, by simp [World.setCell], fun k _ hk => Below.heap_setCell _ _ _ _ (by intro e; exact hk (by rw [e]))⟩

theorem _root_.Go.Proofs.YtgagcbgbjkjghaaGreatDoor.Ss.grown {w w' : World} {g : Nat} (hg : w.grownBy w' (some g)) {a : Option Addr} {ws : List (List UInt8)} (h : Ss w a ws) (hne : ∀ b off, a = some ⟨b, off, none⟩ → ws ≠ [] → b ≠ g) : Ss w' a ws := by
  rcases h with h | ⟨b, off, ha, hlt, hc⟩
  · exact Or.inl h
  · by_cases hw : ws = []
    · exact Or.inl hw
    · exact Or.inr ⟨b, off, ha, Nat.lt_of_lt_of_le hlt hg.size, fun j hj => hg.cell (hc j hj) (by intro e; exact hne b off ha hw (by simpa using e))⟩

set_option maxRecDepth 100000 in
set_option maxHeartbeats 400000 in
theorem next_end (g : Nat) (ws : List (List UInt8)) (bad : Bool) (w : World) (h : Rd w g ws bad) (hb : nextB ws bad = true) :
    Calls Tryz.prog 110 #[.pointer (some ⟨g, 0, none⟩)] w (NextR w g ws bad) := by
  obtain ⟨a, c, hg, hS, hc, hlo⟩ := h
  have e0 : w.cell? ⟨g, 0, none⟩ = some (.slice a ws.length c) := by rw [cell_of_row _ _ _ _ _ _ hg]; rfl
  have e1 : w.cell? ⟨g, 1, none⟩ = some (.bool bad) := by rw [cell_of_row _ _ _ _ _ _ hg]; rfl
  have f1 : w.frozen? ⟨g, 1, none⟩ = false := frozen_of_row _ _ _ _ _ hg
  have hw : nextW ws bad = [] := by unfold nextW; rw [if_pos hb]
  have hs : nextS ws bad = ws := by unfold nextS; rw [if_pos hb]
  have hfin : ∀ w', w' = w.setCell ⟨g, 1, none⟩ (.bool true) → NextR w g ws bad (.returned (.string ⟨#[]⟩)) w' := by
    rintro w' rfl
    have hgr := grown_set w g 1 (.bool true)
    refine ⟨by rw [hw], ⟨a, c, ?_, ?_, ?_, ?_⟩, hgr⟩
    · rw [hs, hb, Lib.heap_setCell_same hg]; rfl
    · rw [hs]; exact hS.grown hgr fun b off ha hne => by
        rcases hS with h0 | ⟨b', off', ha', _, hcc⟩
        · exact absurd h0 hne
        · have : b = b' := by rw [ha] at ha'; injection ha' with h1; injection h1
          subst this
          exact Ss.ne ⟨_, _, _, rfl⟩ hne hcc hg
    · rw [hs]; exact hc
    · rw [hs]; exact hlo
  cases bad with
  | true =>
    clear hw hs hb hS hg
    go_enter Tryz.func110, Tryz.ntmps110
    go_wp2
    go_ret
    exact hfin _ rfl
  | false =>
    have hl : ws.length = 0 := by simpa [nextB] using hb
    have hl2 : ((ws.length : Int) == 0) = true := by rw [hl]; rfl
    rw [hl] at e0
    clear hw hs hb hS hg hl
    go_enter Tryz.func110, Tryz.ntmps110
    go_wp2
    go_ret
    exact hfin _ rfl
set_option maxRecDepth 100000 in
set_option maxHeartbeats 400000 in
theorem next_word (g b off c : Nat) (x : List UInt8) (r : List (List UInt8)) (w : World) (hg : w.heap[g]? = some (.cells #[.slice (some ⟨b, off, none⟩) (x :: r).length c, .bool false] 191 (0, 0)))
    (hlt : b < w.heap.size) (hcc : ∀ j (h : j < (x :: r).length), w.cell? ⟨b, off + j, none⟩ = some (.string ⟨(x :: r)[j].toArray⟩)) (hc : (x :: r).length ≤ c) (hm : (x :: r).length ≤ 1000000000) (hbl : b < g) :
    Calls Tryz.prog 110 #[.pointer (some ⟨g, 0, none⟩)] w (NextR w g (x :: r) false) := by
  have hbg : b ≠ g := Ss.ne ⟨_, _, _, rfl⟩ (by simp) hcc hg
  have e0 : w.cell? ⟨g, 0, none⟩ = some (.slice (some ⟨b, off, none⟩) (r.length + 1) c) := by rw [cell_of_row _ _ _ _ _ _ hg]; rfl
  have e1 : w.cell? ⟨g, 1, none⟩ = some (.bool false) := by rw [cell_of_row _ _ _ _ _ _ hg]; rfl
  have e2 : w.cell? ⟨b, off, none⟩ = some (.string ⟨x.toArray⟩) := by have := hcc 0 (by simp); simpa using this
  have e3 : (w.setCell ⟨g, 1, none⟩ (.bool false)).cell? ⟨b, off, none⟩ = some (.string ⟨x.toArray⟩) := (grown_set w g 1 (.bool false)).cell e2 (by simpa using hbg)
  have f1 : w.frozen? ⟨g, 1, none⟩ = false := frozen_of_row _ _ _ _ _ hg
  have f0 : w.frozen? ⟨g, 0, none⟩ = false := frozen_of_row _ _ _ _ _ hg
  have hc' : r.length + 1 ≤ c := by simpa using hc
  have hm' : r.length + 1 ≤ 1000000000 := by simpa using hm
  have hz : (((r.length : Int) + 1) == 0) = false := by rw [beq_eq_false_iff_ne]; omega
  have hfin : ∀ (a : Option Addr) (k : Nat) (w' : World), (r = [] ∨ a = some ⟨b, off + 1, none⟩) → r.length ≤ k → w' = (w.setCell ⟨g, 1, none⟩ (.bool false)).setCell ⟨g, 0, none⟩ (.slice a r.length k) → NextR w g (x :: r) false (.returned (.string ⟨x.toArray⟩)) w' := by
    rintro a k w' ha hk rfl
    have hgr := grownBy_trans (grown_set w g 1 (.bool false)) (grown_set (w.setCell ⟨g, 1, none⟩ (.bool false)) g 0 (.slice a r.length k))
    refine ⟨rfl, ⟨a, k, ?_, ?_, hk, ?_⟩, hgr⟩
    · rw [Lib.heap_setCell_same (Lib.heap_setCell_same hg _)]; rfl
    · rcases ha with h0 | h0
      · exact Or.inl h0
      · by_cases hr : r = []
        · exact Or.inl hr
        · refine Or.inr ⟨b, off + 1, h0, Nat.lt_of_lt_of_le hlt hgr.size, fun j hj => hgr.cell ?_ (by simpa using hbg)⟩
          have := hcc (j + 1) (by simpa [nextS, nextB] using hj)
          rw [show off + (j + 1) = off + 1 + j by omega] at this
          exact this
    · intro hne b' off' e
      rcases ha with h0 | h0
      · exact absurd h0 hne
      · rw [h0] at e; injection e with e; injection e with e; subst e; exact hbl
  clear hcc hg hc hm e2
  by_cases h1 : c = 1
  · have hr : r = [] := by apply List.eq_nil_of_length_eq_zero; omega
    subst hr h1
    go_enter Tryz.func110, Tryz.ntmps110
    go_wp2
    go_ret
    exact hfin _ _ _ (by simp) (by simp) rfl
  · have h2 : 2 ≤ c := by omega
    go_enter Tryz.func110, Tryz.ntmps110
    go_wp2
    go_ret
    exact hfin _ _ _ (Or.inr rfl) (by omega) rfl

/-- (*reader).next. -/
theorem next_any (g : Nat) (ws : List (List UInt8)) (bad : Bool) (w : World) (h : Rd w g ws bad) (hm : ws.length ≤ 1000000000) :
    Calls Tryz.prog 110 #[.pointer (some ⟨g, 0, none⟩)] w (NextR w g ws bad) := by
  by_cases hb : nextB ws bad = true
  · exact next_end g ws bad w h hb
  · have hbad : bad = false := by cases bad <;> simp [nextB] at hb ⊢
    subst hbad
    cases ws with
    | nil => simp [nextB] at hb
    | cons x r =>
      obtain ⟨a, c, hg, hS, hc, hlo⟩ := h
      rcases hS with h0 | ⟨b, off, rfl, hlt, hcc⟩
      · cases h0
      · exact next_word g b off c x r w hg hlt hcc hc hm (hlo (by simp) _ _ rfl)

end Go.Proofs.YtgagcbgbjkjghaaGreatDoor.Scr
namespace Go.Proofs.YtgagcbgbjkjghaaGreatDoor.Scr
open Go.RowKit Go.Lib

theorem Rd.keep {w w' : World} {g : Nat} {ws : List (List UInt8)} {bad : Bool} (hb : Below w.heap.size w w') (h : Rd w g ws bad) : Rd w' g ws bad := by
  obtain ⟨a, c, hg, hS, hc, hlo⟩ := h
  exact ⟨a, c, below_heap hb hg, hS.below hb (Nat.le_refl _), hc, hlo⟩

/-- the flag of a reader is set. -/
theorem Rd.set {w : World} {g : Nat} {ws : List (List UInt8)} {bad : Bool} (h : Rd w g ws bad) (b : Bool) : Rd (w.setCell ⟨g, 1, none⟩ (.bool b)) g ws b := by
  obtain ⟨a, c, hg, hS, hc, hlo⟩ := h
  refine ⟨a, c, by rw [Lib.heap_setCell_same hg]; rfl, hS.grown (grown_set w g 1 (.bool b)) fun p off ha hne => ?_, hc, hlo⟩
  rcases hS with h0 | ⟨b', off', ha', _, hcc⟩
  · exact absurd h0 hne
  · have : p = b' := by rw [ha] at ha'; injection ha' with h1; injection h1
    subst this
    exact Ss.ne ⟨_, _, _, rfl⟩ hne hcc hg

theorem grown_below {w w' : World} {g B : Nat} (hg : w.grownBy w' (some g)) (hB : B ≤ g) (hB' : B ≤ w.heap.size) : Below B w w' :=
  ⟨hg.os, hg.tape, hg.output, hg.size, fun k hk => hg.block k (by omega) (by simp; omega)⟩

theorem below_grownBy {w w' : World} (h : Below w.heap.size w w') (row : Option Nat) : w.grownBy w' row := ⟨h.os, h.tape, h.output, h.size, fun k hk _ => h.block k hk⟩

/-- what num hands back. -/
def NumS (w : World) (g : Nat) (ws : List (List UInt8)) (bad : Bool) (e : Ending) (w' : World) : Prop :=
  ∃ n : Int, e = .returned (.int .i64 n) ∧ -9223372036854775808 ≤ n ∧ n ≤ 9223372036854775807 ∧ Rd w' g (nextS ws bad) (nextB ws bad || (atoiIn (nextW ws bad)).isNone) ∧
    (∀ v, atoiIn (nextW ws bad) = some v → n = v) ∧ w.grownBy w' (some g)

theorem atoiAll_bd {l : List UInt8} {v : Int} (h : Lib.atoiAll l = .ok v) : -9223372036854775808 ≤ v ∧ v ≤ 9223372036854775807 := by
  unfold Lib.atoiAll at h
  split at h
  · cases h
  · simp only at h
    split at h
    · cases h
    · cases h
    · split at h
      · cases h
      · split at h
        · cases h
        · injection h with h
          split at h <;> omega

/-- the last store of num. -/
theorem numS_end {w w1 w2 : World} {g : Nat} {ws : List (List UInt8)} {bad b : Bool} {n : Int} (hn0 : -9223372036854775808 ≤ n) (hn1 : n ≤ 9223372036854775807) (h1 : w.grownBy w1 (some g)) (h2 : Below w1.heap.size w1 w2) (hR : Rd w2 g (nextS ws bad) (nextB ws bad))
    (hb : b = (nextB ws bad || (atoiIn (nextW ws bad)).isNone)) (hv : ∀ v, atoiIn (nextW ws bad) = some v → n = v) : NumS w g ws bad (.returned (.int .i64 n)) (w2.setCell ⟨g, 1, none⟩ (.bool b)) :=
  ⟨n, rfl, hn0, hn1, hb ▸ hR.set b, hv, grownBy_trans h1 (grownBy_trans (below_grownBy h2 _) (grown_set w2 g 1 _))⟩

theorem atoiIn_bad {l : List UInt8} (h : ∀ v, Lib.atoiAll l ≠ .ok v) : atoiIn l = none := by
  unfold atoiIn
  split
  · rename_i v hv; exact absurd hv (h v)
  · rfl
theorem atoiIn_far {l : List UInt8} {v : Int} (h : Lib.atoiAll l = .ok v) (hr : ¬ (-1099511627776 ≤ v ∧ v ≤ 1099511627776)) : atoiIn l = none := by
  unfold atoiIn; rw [h]; simp only; rw [if_neg hr]
theorem atoiIn_ok {l : List UInt8} {v : Int} (h : Lib.atoiAll l = .ok v) (hr : -1099511627776 ≤ v ∧ v ≤ 1099511627776) : atoiIn l = some v := by
  unfold atoiIn; rw [h]; simp only; rw [if_pos hr]

set_option maxRecDepth 100000 in
set_option maxHeartbeats 1000000 in
theorem rnum_any (g : Nat) (ws : List (List UInt8)) (bad : Bool) (w w0 : World) (hG : Gl w0) (hb0 : Below w0.heap.size w0 w) (hg0 : w0.heap.size ≤ g) (h : Rd w g ws bad) (hm : ws.length ≤ 1000000000) (hx : ∀ x ∈ ws, x.length ≤ 1000000) :
    Calls Tryz.prog 114 #[.pointer (some ⟨g, 0, none⟩)] w (NumS w g ws bad) := by
  have hwl : (⟨(nextW ws bad).toArray⟩ : ByteArray).size ≤ 281474976710656 := by
    show (nextW ws bad).toArray.size ≤ _
    unfold nextW
    split
    · simp
    · cases ws with
      | nil => simp
      | cons x r => have := hx x (by simp); simp; omega
  go_enter Tryz.func114, Tryz.ntmps114
  go_wp2_with fail
  refine (next_any g ws bad w h hm).mono ?_
  rintro e w1 ⟨rfl, hR1, hg1⟩
  have hb1 := hb0.trans (grown_below hg1 hg0 hb0.size)
  go_wp2_with fail
  refine (atoi_any ⟨(nextW ws bad).toArray⟩ w1 hwl (hG.keep hb1)).mono ?_
  rintro e w2 ⟨hb2, hr⟩
  have hR2 := Rd.keep hb2 hR1
  clear hb1 hR1 hb0
  generalize hL : (⟨(nextW ws bad).toArray⟩ : ByteArray).data.toList = L at hr
  have hL' : L = nextW ws bad := by rw [← hL]
  subst hL'
  clear hL hwl hx
  obtain ⟨a, c, hblk, _, _, _⟩ := id hR2
  have e1 : w2.cell? ⟨g, 1, none⟩ = some (.bool (nextB ws bad)) := by rw [cell_of_row _ _ _ _ _ _ hblk]; rfl
  have f1 : w2.frozen? ⟨g, 1, none⟩ = false := frozen_of_row _ _ _ _ _ hblk
  clear hblk
  rcases hr with ⟨v, hv, rfl⟩ | ⟨hno, n, t, p, hn0, hn1, rfl⟩
  · have hbd := atoiAll_bd hv
    by_cases hrg : -1099511627776 ≤ v ∧ v ≤ 1099511627776
    · have hin := atoiIn_ok hv hrg
      have hfin : ∀ w', w' = w2.setCell ⟨g, 1, none⟩ (.bool (nextB ws bad)) → NumS w g ws bad (.returned (.int .i64 v)) w' := by
        rintro w' rfl
        exact numS_end hbd.1 hbd.2 hg1 hb2 hR2 (by rw [hin]; simp) (fun u hu => by rw [hin] at hu; injection hu)
      obtain ⟨r1, r2⟩ := hrg
      have hor : (decide (v < -1099511627776) || decide (1099511627776 < v)) = false := by simp; omega
      have HOR := Lib.hid hor
      clear hin hv hR2 hor
      generalize nextB ws bad = B at *
      cases B
      all_goals
        go_wp2
        go_ret
        first | exact hfin _ rfl | exact hfin _ (by rw [HOR.out])
    · have hin := atoiIn_far hv hrg
      have hfin : ∀ w', w' = w2.setCell ⟨g, 1, none⟩ (.bool true) → NumS w g ws bad (.returned (.int .i64 v)) w' := by
        rintro w' rfl
        exact numS_end hbd.1 hbd.2 hg1 hb2 hR2 (by rw [hin]; simp) (fun u hu => by rw [hin] at hu; cases hu)
      clear hin hv hR2
      generalize nextB ws bad = B at *
      by_cases r1 : v < -1099511627776
      · cases B
        all_goals
          go_wp2
          go_ret
          exact hfin _ rfl
      · have r2 : 1099511627776 < v := by omega
        cases B
        all_goals
          go_wp2
          go_ret
          exact hfin _ rfl
  · have hin := atoiIn_bad hno
    have hfin : ∀ w', w' = w2.setCell ⟨g, 1, none⟩ (.bool true) → NumS w g ws bad (.returned (.int .i64 n)) w' := by
      rintro w' rfl
      exact numS_end hn0 hn1 hg1 hb2 hR2 (by rw [hin]; simp) (fun u hu => by rw [hin] at hu; cases hu)
    clear hin hno hR2
    generalize nextB ws bad = B at *
    cases B
    all_goals
      go_wp2
      go_ret
      exact hfin _ rfl
end Go.Proofs.YtgagcbgbjkjghaaGreatDoor.Scr
namespace Go.Proofs.YtgagcbgbjkjghaaGreatDoor.Scr
open Go.RowKit Go.Lib

/-- forty bytes in a block of their own. -/
def Forty (w0 w : World) (v : Value) (d : List UInt8) : Prop :=
  ∃ g, v = .slice (some ⟨g, 0, none⟩) 40 40 ∧ w0.heap.size ≤ g ∧ w.heap[g]? = some (.cells (Lib.byteCells d).toArray 5 (0, 0)) ∧ d.length = 40

/-- what data hands back. -/
def DataS (w : World) (g : Nat) (ws : List (List UInt8)) (bad : Bool) (e : Ending) (w' : World) : Prop :=
  ∃ v : Value, e = .returned v ∧ (∃ a m c, v = .slice a m c) ∧ Rd w' g (nextS ws bad) (nextB ws bad || (unbytesT (nextW ws bad)).isNone) ∧
    (∀ d, unbytesT (nextW ws bad) = some d → Forty w w' v d) ∧ w.grownBy w' (some g)

set_option maxRecDepth 100000 in
set_option maxHeartbeats 1000000 in
theorem rdata_any (g : Nat) (ws : List (List UInt8)) (bad : Bool) (w : World) (h : Rd w g ws bad) (hm : ws.length ≤ 1000000000) :
    Calls Tryz.prog 115 #[.pointer (some ⟨g, 0, none⟩)] w (DataS w g ws bad) := by
  have hgw : g < w.heap.size := by obtain ⟨a, c, hg, _, _, _⟩ := h; exact (Array.getElem?_eq_some_iff.1 hg).1
  go_enter Tryz.func115, Tryz.ntmps115
  go_wp2_with fail
  refine (next_any g ws bad w h hm).mono ?_
  rintro e w1 ⟨rfl, hR1, hg1⟩
  go_wp2_with fail
  refine (unbytes_any ⟨(nextW ws bad).toArray⟩ w1).mono ?_
  rintro e w2 ⟨hb2, hr⟩
  have hR2 := Rd.keep hb2 hR1
  generalize hL : (⟨(nextW ws bad).toArray⟩ : ByteArray).data.toList = L at hr
  have hL' : L = nextW ws bad := by rw [← hL]
  subst hL'
  clear hL
  obtain ⟨a, c, hblk, _, _, _⟩ := id hR2
  have e1 : w2.cell? ⟨g, 1, none⟩ = some (.bool (nextB ws bad)) := by rw [cell_of_row _ _ _ _ _ _ hblk]; rfl
  have f1 : w2.frozen? ⟨g, 1, none⟩ = false := frozen_of_row _ _ _ _ _ hblk
  have hsz := hg1.size
  cases hu : unbytesT (nextW ws bad) with
  | none =>
    rw [hu] at hr
    subst hr
    have hfin : ∀ w', w' = w2.setCell ⟨g, 1, none⟩ (.bool true) → DataS w g ws bad (.returned (.slice none 0 0)) w' := by
      rintro w' rfl
      exact ⟨_, rfl, ⟨_, _, _, rfl⟩, by rw [hu]; simpa using hR2.set true, fun d hd => (by rw [hu] at hd; cases hd), grownBy_trans hg1 (grownBy_trans (below_grownBy hb2 _) (grown_set w2 g 1 _))⟩
    clear hu hR1 hR2 hblk hb2 hg1 h
    generalize nextB ws bad = B at *
    cases B
    all_goals
      go_wp2
      go_ret
      exact hfin _ rfl
  | some d =>
    rw [hu] at hr
    obtain ⟨g2, rfl, hg2, hblk2, hd⟩ := hr
    have hfin : ∀ w', w' = w2.setCell ⟨g, 1, none⟩ (.bool (nextB ws bad)) → DataS w g ws bad (.returned (.slice (some ⟨g2, 0, none⟩) 40 40)) w' := by
      rintro w' rfl
      refine ⟨_, rfl, ⟨_, _, _, rfl⟩, by rw [hu]; simpa using hR2.set (nextB ws bad), fun d' hd' => ?_, grownBy_trans hg1 (grownBy_trans (below_grownBy hb2 _) (grown_set w2 g 1 _))⟩
      rw [hu] at hd'
      injection hd' with hd'
      subst hd'
      exact ⟨g2, rfl, by omega, ((grown_set w2 g 1 _).block g2 (Array.getElem?_eq_some_iff.1 hblk2).1 (by simp; omega)).trans hblk2, hd⟩
    clear hu hR1 hR2 hblk hb2 hg1 h hblk2
    generalize nextB ws bad = B at *
    cases B
    all_goals
      go_wp2
      go_ret
      exact hfin _ rfl
end Go.Proofs.YtgagcbgbjkjghaaGreatDoor.Scr
namespace Go.Proofs.YtgagcbgbjkjghaaGreatDoor.Scr
open Go.RowKit Go.Lib

/-- the place of a word among the kinds'. -/
def kindI (f : List UInt8) : Int := if f = wordL 1 then 0 else if f = wordL 2 then 1 else if f = wordL 3 then 2 else if f = wordL 4 then 3 else if f = wordL 5 then 4 else -1

theorem word_any' (k : Int) (w : World) : Calls Tryz.prog 113 #[.int .i64 k] w fun e w' => e = .returned (.string ⟨(wordL k).toArray⟩) ∧ w' = w :=
  (word_any k w).mono fun _ _ h => ⟨h.1, h.2.symm⟩

set_option maxRecDepth 100000 in
set_option maxHeartbeats 1000000 in
theorem isWord_any (k : Int) (p : Addr) (f : List UInt8) (w : World) (hc : w.cell? p = some (.string ⟨f.toArray⟩)) :
    Calls Tryz.prog 112 #[.int .i64 k, .pointer (some p)] w fun e w' => e = .returned (.bool (wordL k == f)) ∧ ∃ n, w' = w.drewN n := by
  go_enter Tryz.func112, Tryz.ntmps112
  go_wp2
  go_quiet ((go_at_call 113; exact Calls.quiet_of_same (word_any' _ _)))
  go_wp2
  go_ret
  exact ⟨rfl, nq, rfl⟩

set_option maxRecDepth 100000 in
set_option maxHeartbeats 1000000 in
theorem indexFunc_any (b : Nat) (p : Addr) (f : List UInt8) (w : World) (hc : w.cell? p = some (.string ⟨f.toArray⟩)) (hb : w.heap[b]? = some (.cells #[.int .i64 1, .int .i64 2, .int .i64 3, .int .i64 4, .int .i64 5] 3 (0, 0))) :
    Calls Tryz.prog 111 #[.slice (some ⟨b, 0, none⟩) 5 5, .func (.func 112) #[] #[.pointer (some p)]] w fun e w' => e = .returned (.int .i64 (kindI f)) ∧ ∃ n, w' = w.drewN n := by
  have hcell : ∀ (i : Nat) (wr : World) (n : Nat), i < 5 → wr = w.drewN n → wr.cell? ⟨b, i, none⟩ = some (.int .i64 ((i : Int) + 1)) := by
    rintro i wr n hi rfl
    show w.cell? _ = _
    rw [cell_of_row _ _ _ _ _ _ hb]
    match i, hi with
    | 0, _ => rfl
    | 1, _ => rfl
    | 2, _ => rfl
    | 3, _ => rfl
    | 4, _ => rfl
  go_enter Tryz.func111, Tryz.ntmps111
  go_wp2
  go_loopw [8] (fun a wr => ∃ (i n : Nat), i ≤ 5 ∧ a = .int .i64 i ∧ wr = w.drewN n ∧ (∀ j : Nat, j < i → (wordL ((j : Int) + 1) == f) = false)) (fun a _ => 5 - (intOf a).toNat)
  case atStart => exact ⟨0, 0, by omega, rfl, rfl, fun j hj => by omega⟩
  case round =>
    obtain ⟨i, n, hi, rfl, rfl, hno⟩ := hrel
    have HN := Lib.hid hno
    clear hno
    by_cases hlt : i < 5
    · have hci := hcell i _ n hlt rfl
      clear hcell
      go_wp2_with fail
      refine (isWord_any _ _ f (w.drewN n) hc).mono ?_
      rintro e w2 ⟨rfl, n2, rfl⟩
      by_cases heq : (wordL ((i : Int) + 1) == f) = true
      · have hk : kindI f = (i : Int) := by
          have h1 : wordL ((i : Int) + 1) = f := by simpa using heq
          have h2 : ∀ j : Nat, j < i → wordL ((j : Int) + 1) ≠ f := fun j hj => by simpa using HN.out j hj
          subst h1
          match i, hlt, h2 with
          | 0, _, _ => rfl
          | 1, _, _ => rfl
          | 2, _, _ => rfl
          | 3, _, _ => rfl
          | 4, _, _ => rfl
        have HK := Lib.hid hk
        clear hk
        go_wp2
        go_ret
        exact ⟨by rw [HK.out]; rfl, n + n2, rfl⟩
      · have hne : (wordL ((i : Int) + 1) == f) = false := by simpa using heq
        clear heq
        go_wp2
        go_roundw
        case rel => exact ⟨i + 1, n + n2, by omega, by go_num, rfl, fun j hj => (by
          rcases Nat.lt_or_ge j i with h1 | h1
          · exact HN.out j h1
          · obtain rfl : j = i := by omega
            exact hne)⟩
        case measure => simp [intOf]; omega
    · obtain rfl : i = 5 := by omega
      have hk : kindI f = -1 := by
        have h2 : ∀ j : Nat, j < 5 → wordL ((j : Int) + 1) ≠ f := fun j hj => by simpa using HN.out j hj
        have q1 := h2 0 (by omega)
        have q2 := h2 1 (by omega)
        have q3 := h2 2 (by omega)
        have q4 := h2 3 (by omega)
        have q5 := h2 4 (by omega)
        unfold kindI
        rw [if_neg (fun e => q1 e.symm), if_neg (fun e => q2 e.symm), if_neg (fun e => q3 e.symm), if_neg (fun e => q4 e.symm), if_neg (fun e => q5 e.symm)]
      have HK := Lib.hid hk
      clear hk
      go_wp2
      go_ret
      exact ⟨by rw [HK.out]; rfl, n, rfl⟩
end Go.Proofs.YtgagcbgbjkjghaaGreatDoor.Scr
namespace Go.Proofs.YtgagcbgbjkjghaaGreatDoor.Scr
open Go.RowKit Go.Lib

theorem occ_blank (s : List UInt8) (j : Nat) (h : j < s.length) : occAt s [32] j = (s[j] == 32) := by
  unfold occAt
  rw [List.drop_eq_getElem_cons h]
  simp [List.isPrefixOf, Bool.beq_comm]

theorem split_words (n : Nat) : ∀ s : List UInt8, s.length < n → splitK [32] 0 (count s [32]) s = words s := by
  induction n with
  | zero => intro s h; omega
  | succ n ih =>
    intro s hs
    rcases index_spec s [32] with ⟨h1, h2⟩ | ⟨i, h1, h2, h3, h4⟩
    · rw [count_miss h1]
      show [s] = words s
      rw [words_none]
      intro c hc
      obtain ⟨j, hj, rfl⟩ := List.getElem_of_mem hc
      have := h2 j (by omega)
      rw [occ_blank s j hj] at this
      simpa using this
    · rw [count_hit (by simp) h1, Nat.add_comm]
      have hroom := occAt_room h3
      have hi : i < s.length := by
        rcases hroom with h | h
        · simp at h; omega
        · cases h
      have h5 : s[i] = 32 := by rw [occ_blank s i hi] at h3; simpa using h3
      have hne : ¬ (index s [32] == -1) = true := by rw [h1]; simp
      have e : (index s [32]).toNat = i := by rw [h1]; omega
      unfold splitK
      rw [if_neg hne, e]
      have hcut : s = s.take i ++ 32 :: s.drop (i + 1) := by
        conv => lhs; rw [← List.take_append_drop i s]
        rw [List.drop_eq_getElem_cons hi, h5]
      have hfree : ∀ c ∈ s.take i, c ≠ 32 := by
        intro c hc
        obtain ⟨j, hj, rfl⟩ := List.getElem_of_mem hc
        have hj' : j < i := by simp at hj; omega
        have := h4 j hj'
        rw [occ_blank s j (by omega)] at this
        rw [List.getElem_take]
        simpa using this
      have hw : words s = s.take i :: words (s.drop (i + 1)) := by
        conv => lhs; rw [hcut]
        exact words_cut _ _ hfree
      rw [hw]
      show s.take (i + 0) :: splitK [32] 0 (count (s.drop (i + [32].length)) [32]) (s.drop (i + [32].length)) = _
      rw [Nat.add_zero, show i + ([32] : List UInt8).length = i + 1 from rfl, ih _ (by rw [List.length_drop]; omega)]

theorem split_any (s : ByteArray) (w : World) (hs : s.size < 4294967281) (hG : Gl w) :
    Calls Tryz.prog 26 #[.string s, .string ⟨#[32]⟩] w fun e w' => e = .returned (.slice (some ⟨w.heap.size, 0, none⟩) (words s.data.toList).length (words s.data.toList).length) ∧ w' = w.alloc (.cells (strCells (words s.data.toList)).toArray 9) := by
  obtain ⟨m, hm⟩ := hG.2.1
  have e1 : (splitB ⟨#[32]⟩ 0 (countB s ⟨#[32]⟩) s).map (·.data.toList) = words s.data.toList := by
    rw [splitB_data]
    exact split_words (s.data.toList.length + 1) _ (by omega)
  have e2 : (splitB ⟨#[32]⟩ 0 (countB s ⟨#[32]⟩) s).map Value.string = strCells (words s.data.toList) := by
    rw [← e1]
    unfold strCells
    rw [List.map_map]
    rfl
  refine (Tryz.strings_Split s ⟨#[32]⟩ m w hs hm (by decide)).mono ?_
  rintro e w' ⟨he, hw⟩
  have e3 : countB s ⟨#[32]⟩ + 1 = (words s.data.toList).length := by
    rw [← e1, List.length_map]
    have h : ∀ (k : Nat) (t : ByteArray), countB t ⟨#[32]⟩ = k → (splitB ⟨#[32]⟩ 0 k t).length = k + 1 := by
      intro k
      induction k with
      | zero => intro t _; rfl
      | succ k ih =>
        intro t ht
        rcases indexB_cases t ⟨#[32]⟩ with h1 | ⟨i, h1, _⟩
        · rw [countB_miss _ _ h1] at ht; omega
        · rw [splitB_hit _ _ _ _ i h1, List.length_cons]
          rw [countB_hit _ _ i (by decide) h1] at ht
          rw [ih _ (by omega)]
    exact (h _ s rfl).symm
  rw [e3] at he
  rw [e2] at hw
  exact ⟨he, hw⟩
end Go.Proofs.YtgagcbgbjkjghaaGreatDoor.Scr
