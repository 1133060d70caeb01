/- Lemmas and walks: DERIVED: THE SHELF's CONTRACTS AT THIS DUMP, IN PLAIN WORDS (tools/lay-plain.mjs out of 'TryzLay.lean', which tools/lay-shelf.mjs wrote): THE SAME DECLARATIONS UNDER THE SAME NAMES: 'import', 'namespace', 'open', 'def', 'theorem' AND NOTHING ELSE: no command of the shelf's: FOR A HAND-IN. Each laying: the table of numbers ('.._ren') and one theorem, a field a fact of the dump's own or the kernel's comparison; each contract: ONE APPLICATION. slices.Sorted(maps.Keys(m)) of a map without entries. Walks: an empty device is mounted. Walks: a transaction is begun. Walks: Begin of the transactions. Walks: the store's Begin; a transaction looked up. Walks: one put is written into a buffer. Walks: no block stands twice in one put. Walks: one put is written into a buffer. Walks: the store's Write of one put. Walks: what a buffer holds; how many cells there are. Walks: versions without entries are read. Walks: versions without entries are read: forty noughts. Walks: a range of one block, without versions, is forty noughts. Walks: one span is looked at. Walks: spans in memory, a copy of spans. Walks: spans of two rows in one new row. Walks: a few spans are sorted. Walks: spans joined: there are no more of them than before. -/
import Derived.Shelf.SlIterI.Nil
import Derived.Shelf.SortM.Plain
import Derived.Shelf.SortM.SortNone
import Derived.Shelf.SlSortCmp.SmallK
import Derived.Shelf.SlicesG.Cmp
import Derived.Shelf.Small.Bits
import Derived.Test.YtliicpedddcfiaaGreatProg
import Derived.Deep.RegionHeld3
import Derived.Lib.AppendZeros
import Derived.Deep.QuietTactic
import Derived.BigQuiet
import Derived.StillTailTactics
import Derived.Test.YtliicpedddcfiaaGreatAa
import Derived.Test.YtliicpedddcfiaaGreatAb
import Derived.Test.YtliicpedddcfiaaGreatAc
namespace Go.Proofs
open Go.Shelf
def Tryz.keysA_ren : Go.Shelf.Ren := ⟨fun | 7 => 83 | 10 => 118 | n => n, fun | 23 => 121 | 26 => 3 | 3 => 34 | 28 => 188 | 0 => 0 | 27 => 187 | 33 => 242 | 4 => 4 | n => n, fun | n => n⟩
theorem Tryz.keysA : Go.Proofs.SlLaysZI.n7 Tryz.prog Tryz.keysA_ren := {
  mixed := by kernel_rfl
  f7 := ⟨Tryz.f83.name, by decide, Tryz.func83.trans (congrArg some (by kernel_rfl))⟩
  f10 := ⟨Tryz.f118.name, by decide, Tryz.func118.trans (congrArg some (by kernel_rfl))⟩
  t0 := Tryz.underlying0
  a0 := Tryz.isAgg0
  z0 := Tryz.sizeOf0
  v0 := Tryz.zeroValue0
  t4 := Tryz.underlying4
  a4 := Tryz.isAgg4
  z4 := Tryz.sizeOf4
  v4 := Tryz.zeroValue4
  t23 := Tryz.underlying121
  a23 := Tryz.isAgg121
  z23 := Tryz.sizeOf121
  v23 := Tryz.zeroValue121
  t26 := Tryz.underlying3
  a26 := Tryz.isAgg3
  z26 := Tryz.sizeOf3
  v26 := Tryz.zeroValue3
  t27 := Tryz.underlying187
  a27 := Tryz.isAgg187
  z27 := Tryz.sizeOf187
  v27 := Tryz.zeroValue187
  t28 := Tryz.underlying188
  a28 := Tryz.isAgg188
  z28 := Tryz.sizeOf188
  v28 := Tryz.zeroValue188
  t33 := Tryz.underlying242
  a33 := Tryz.isAgg242
  z33 := Tryz.sizeOf242
  v33 := Tryz.zeroValue242 }
def Tryz.keysB_ren : Go.Shelf.Ren := ⟨fun | 7 => 202 | 10 => 216 | n => n, fun | 23 => 238 | 26 => 3 | 3 => 3 | 28 => 188 | 0 => 0 | 27 => 187 | 33 => 242 | 4 => 4 | n => n, fun | n => n⟩
theorem Tryz.keysB : Go.Proofs.SlLaysZI.n7 Tryz.prog Tryz.keysB_ren := {
  mixed := by kernel_rfl
  f7 := ⟨Tryz.f202.name, by decide, Tryz.func202.trans (congrArg some (by kernel_rfl))⟩
  f10 := ⟨Tryz.f216.name, by decide, Tryz.func216.trans (congrArg some (by kernel_rfl))⟩
  t0 := Tryz.underlying0
  a0 := Tryz.isAgg0
  z0 := Tryz.sizeOf0
  v0 := Tryz.zeroValue0
  t4 := Tryz.underlying4
  a4 := Tryz.isAgg4
  z4 := Tryz.sizeOf4
  v4 := Tryz.zeroValue4
  t23 := Tryz.underlying238
  a23 := Tryz.isAgg238
  z23 := Tryz.sizeOf238
  v23 := Tryz.zeroValue238
  t26 := Tryz.underlying3
  a26 := Tryz.isAgg3
  z26 := Tryz.sizeOf3
  v26 := Tryz.zeroValue3
  t27 := Tryz.underlying187
  a27 := Tryz.isAgg187
  z27 := Tryz.sizeOf187
  v27 := Tryz.zeroValue187
  t28 := Tryz.underlying188
  a28 := Tryz.isAgg188
  z28 := Tryz.sizeOf188
  v28 := Tryz.zeroValue188
  t33 := Tryz.underlying242
  a33 := Tryz.isAgg242
  z33 := Tryz.sizeOf242
  v33 := Tryz.zeroValue242 }
def Tryz.sortedA_ren : Go.Shelf.Ren := ⟨fun | 6 => 82 | 8 => 116 | 9 => 117 | 11 => 139 | 13 => 141 | 12 => 140 | 23 => 171 | 24 => 172 | 14 => 162 | 15 => 163 | 16 => 164 | 17 => 165 | 18 => 166 | 19 => 167 | 20 => 168 | 21 => 169 | 22 => 170 | 25 => 185 | 26 => 186 | 27 => 187 | 28 => 188 | 29 => 189 | 30 => 190 | 31 => 201 | n => n, fun | 26 => 3 | 28 => 188 | 24 => 81 | 0 => 0 | 3 => 3 | 37 => 255 | 48 => 165 | 50 => 162 | 4 => 4 | 40 => 287 | 39 => 286 | 45 => 139 | 5 => 5 | 9 => 9 | 51 => 304 | 55 => 308 | 57 => 321 | 58 => 322 | 33 => 242 | n => n, fun | n => n⟩
theorem Tryz.sortedA : Go.Proofs.SlLaysZI.n6 Tryz.prog Tryz.sortedA_ren := {
  mixed := by kernel_rfl
  f6 := ⟨Tryz.f82.name, by decide, Tryz.func82.trans (congrArg some (by kernel_rfl))⟩
  f8 := ⟨Tryz.f116.name, by decide, Tryz.func116.trans (congrArg some (by kernel_rfl))⟩
  f11 := ⟨Tryz.f139.name, by decide, Tryz.func139.trans (congrArg some (by kernel_rfl))⟩
  t0 := Tryz.underlying0
  a0 := Tryz.isAgg0
  z0 := Tryz.sizeOf0
  v0 := Tryz.zeroValue0
  t24 := Tryz.underlying81
  a24 := Tryz.isAgg81
  z24 := Tryz.sizeOf81
  v24 := Tryz.zeroValue81
  t26 := Tryz.underlying3
  a26 := Tryz.isAgg3
  z26 := Tryz.sizeOf3
  v26 := Tryz.zeroValue3
  t28 := Tryz.underlying188
  a28 := Tryz.isAgg188
  z28 := Tryz.sizeOf188
  v28 := Tryz.zeroValue188
  i26 := by kernel_rfl }
def Tryz.sortA_ren : Go.Shelf.Ren := ⟨fun | 5 => 117 | 8 => 141 | 7 => 140 | 19 => 171 | 20 => 172 | 10 => 162 | 11 => 163 | 12 => 164 | 13 => 165 | 14 => 166 | 15 => 167 | 16 => 168 | 17 => 169 | 18 => 170 | 30 => 185 | 31 => 186 | 32 => 187 | 33 => 188 | 34 => 189 | 35 => 190 | 40 => 201 | n => n, fun | 23 => 81 | 25 => 3 | 3 => 3 | 32 => 255 | 22 => 81 | 0 => 0 | 44 => 165 | 46 => 162 | 4 => 4 | 36 => 287 | 35 => 286 | 41 => 139 | 5 => 5 | 9 => 9 | 53 => 304 | 57 => 308 | 63 => 321 | 64 => 322 | n => n, fun | n => n⟩
theorem Tryz.sortA : Go.Proofs.SlLaysM.n5 Tryz.prog Tryz.sortA_ren := {
  mixed := by kernel_rfl
  f5 := ⟨Tryz.f117.name, by decide, Tryz.func117.trans (congrArg some (by kernel_rfl))⟩
  f7 := ⟨Tryz.f140.name, by decide, Tryz.func140.trans (congrArg some (by kernel_rfl))⟩
  f8 := Tryz.func141.trans (congrArg some (by kernel_rfl))
  f10 := ⟨Tryz.f162.name, by decide, Tryz.func162.trans (congrArg some (by kernel_rfl))⟩
  f11 := ⟨Tryz.f163.name, by decide, Tryz.func163.trans (congrArg some (by kernel_rfl))⟩
  f12 := ⟨Tryz.f164.name, by decide, Tryz.func164.trans (congrArg some (by kernel_rfl))⟩
  f13 := ⟨Tryz.f165.name, by decide, Tryz.func165.trans (congrArg some (by kernel_rfl))⟩
  f14 := ⟨Tryz.f166.name, by decide, Tryz.func166.trans (congrArg some (by kernel_rfl))⟩
  f15 := ⟨Tryz.f167.name, by decide, Tryz.func167.trans (congrArg some (by kernel_rfl))⟩
  f16 := ⟨Tryz.f168.name, by decide, Tryz.func168.trans (congrArg some (by kernel_rfl))⟩
  f17 := ⟨Tryz.f169.name, by decide, Tryz.func169.trans (congrArg some (by kernel_rfl))⟩
  f18 := ⟨Tryz.f170.name, by decide, Tryz.func170.trans (congrArg some (by kernel_rfl))⟩
  f19 := Tryz.func171.trans (congrArg some (by kernel_rfl))
  f20 := Tryz.func172.trans (congrArg some (by kernel_rfl))
  f30 := ⟨Tryz.f185.name, by decide, Tryz.func185.trans (congrArg some (by kernel_rfl))⟩
  f31 := Tryz.func186.trans (congrArg some (by kernel_rfl))
  f32 := Tryz.func187.trans (congrArg some (by kernel_rfl))
  f33 := ⟨Tryz.f188.name, by decide, Tryz.func188.trans (congrArg some (by kernel_rfl))⟩
  f34 := ⟨Tryz.f189.name, by decide, Tryz.func189.trans (congrArg some (by kernel_rfl))⟩
  f35 := ⟨Tryz.f190.name, by decide, Tryz.func190.trans (congrArg some (by kernel_rfl))⟩
  f40 := ⟨Tryz.f201.name, by decide, Tryz.func201.trans (congrArg some (by kernel_rfl))⟩
  t0 := Tryz.underlying0
  a0 := Tryz.isAgg0
  z0 := Tryz.sizeOf0
  v0 := Tryz.zeroValue0
  t3 := Tryz.underlying3
  a3 := Tryz.isAgg3
  z3 := Tryz.sizeOf3
  v3 := Tryz.zeroValue3
  t4 := Tryz.underlying4
  a4 := Tryz.isAgg4
  z4 := Tryz.sizeOf4
  v4 := Tryz.zeroValue4
  t5 := Tryz.underlying5
  a5 := Tryz.isAgg5
  z5 := Tryz.sizeOf5
  v5 := Tryz.zeroValue5
  t9 := Tryz.underlying9
  a9 := Tryz.isAgg9
  z9 := Tryz.sizeOf9
  v9 := Tryz.zeroValue9
  t22 := Tryz.underlying81
  a22 := Tryz.isAgg81
  z22 := Tryz.sizeOf81
  v22 := Tryz.zeroValue81
  t23 := Tryz.underlying81
  a23 := Tryz.isAgg81
  z23 := Tryz.sizeOf81
  v23 := Tryz.zeroValue81
  t25 := Tryz.underlying3
  a25 := Tryz.isAgg3
  z25 := Tryz.sizeOf3
  v25 := Tryz.zeroValue3
  t32 := Tryz.underlying255
  a32 := Tryz.isAgg255
  z32 := Tryz.sizeOf255
  v32 := Tryz.zeroValue255
  t35 := Tryz.underlying286
  a35 := Tryz.isAgg286
  z35 := Tryz.sizeOf286
  v35 := Tryz.zeroValue286
  t36 := Tryz.underlying287
  a36 := Tryz.isAgg287
  z36 := Tryz.sizeOf287
  v36 := Tryz.zeroValue287
  t41 := Tryz.underlying139
  a41 := Tryz.isAgg139
  z41 := Tryz.sizeOf139
  v41 := Tryz.zeroValue139
  t44 := Tryz.underlying165
  a44 := Tryz.isAgg165
  z44 := Tryz.sizeOf165
  v44 := Tryz.zeroValue165
  t46 := Tryz.underlying162
  a46 := Tryz.isAgg162
  z46 := Tryz.sizeOf162
  v46 := Tryz.zeroValue162
  t53 := Tryz.underlying304
  a53 := Tryz.isAgg304
  z53 := Tryz.sizeOf304
  v53 := Tryz.zeroValue304
  t57 := Tryz.underlying308
  a57 := Tryz.isAgg308
  z57 := Tryz.sizeOf308
  v57 := Tryz.zeroValue308
  t63 := Tryz.underlying321
  a63 := Tryz.isAgg321
  z63 := Tryz.sizeOf321
  v63 := Tryz.zeroValue321
  t64 := Tryz.underlying322
  a64 := Tryz.isAgg322
  z64 := Tryz.sizeOf322
  v64 := Tryz.zeroValue322 }
def Tryz.sortSp_ren : Go.Shelf.Ren := ⟨fun | 6 => 208 | 15 => 141 | 14 => 218 | 28 => 171 | 29 => 172 | 20 => 221 | 21 => 222 | 22 => 223 | 23 => 224 | 24 => 225 | 25 => 226 | 26 => 227 | 27 => 228 | 46 => 230 | 47 => 186 | 48 => 187 | 49 => 231 | 50 => 232 | 57 => 235 | n => n, fun | 22 => 311 | 24 => 197 | 25 => 327 | 3 => 3 | 39 => 255 | 0 => 0 | 53 => 165 | 55 => 162 | 4 => 4 | 46 => 287 | 45 => 286 | 50 => 139 | 5 => 5 | 9 => 9 | 66 => 304 | 70 => 308 | 76 => 321 | 77 => 322 | n => n, fun | n => n⟩
theorem Tryz.sortSp : Go.Proofs.SlLaysF0.n6 Tryz.prog Tryz.sortSp_ren := {
  mixed := by kernel_rfl
  f6 := ⟨Tryz.f208.name, by decide, Tryz.func208.trans (congrArg some (by kernel_rfl))⟩
  f14 := ⟨Tryz.f218.name, by decide, Tryz.func218.trans (congrArg some (by kernel_rfl))⟩
  f15 := Tryz.func141.trans (congrArg some (by kernel_rfl))
  f20 := ⟨Tryz.f221.name, by decide, Tryz.func221.trans (congrArg some (by kernel_rfl))⟩
  f21 := ⟨Tryz.f222.name, by decide, Tryz.func222.trans (congrArg some (by kernel_rfl))⟩
  f22 := ⟨Tryz.f223.name, by decide, Tryz.func223.trans (congrArg some (by kernel_rfl))⟩
  f23 := ⟨Tryz.f224.name, by decide, Tryz.func224.trans (congrArg some (by kernel_rfl))⟩
  f24 := ⟨Tryz.f225.name, by decide, Tryz.func225.trans (congrArg some (by kernel_rfl))⟩
  f25 := ⟨Tryz.f226.name, by decide, Tryz.func226.trans (congrArg some (by kernel_rfl))⟩
  f26 := ⟨Tryz.f227.name, by decide, Tryz.func227.trans (congrArg some (by kernel_rfl))⟩
  f27 := ⟨Tryz.f228.name, by decide, Tryz.func228.trans (congrArg some (by kernel_rfl))⟩
  f28 := Tryz.func171.trans (congrArg some (by kernel_rfl))
  f29 := Tryz.func172.trans (congrArg some (by kernel_rfl))
  f46 := ⟨Tryz.f230.name, by decide, Tryz.func230.trans (congrArg some (by kernel_rfl))⟩
  f47 := Tryz.func186.trans (congrArg some (by kernel_rfl))
  f48 := Tryz.func187.trans (congrArg some (by kernel_rfl))
  f49 := ⟨Tryz.f231.name, by decide, Tryz.func231.trans (congrArg some (by kernel_rfl))⟩
  f50 := ⟨Tryz.f232.name, by decide, Tryz.func232.trans (congrArg some (by kernel_rfl))⟩
  f57 := ⟨Tryz.f235.name, by decide, Tryz.func235.trans (congrArg some (by kernel_rfl))⟩
  t0 := Tryz.underlying0
  a0 := Tryz.isAgg0
  z0 := Tryz.sizeOf0
  v0 := Tryz.zeroValue0
  t3 := Tryz.underlying3
  a3 := Tryz.isAgg3
  z3 := Tryz.sizeOf3
  v3 := Tryz.zeroValue3
  t4 := Tryz.underlying4
  a4 := Tryz.isAgg4
  z4 := Tryz.sizeOf4
  v4 := Tryz.zeroValue4
  t5 := Tryz.underlying5
  a5 := Tryz.isAgg5
  z5 := Tryz.sizeOf5
  v5 := Tryz.zeroValue5
  t9 := Tryz.underlying9
  a9 := Tryz.isAgg9
  z9 := Tryz.sizeOf9
  v9 := Tryz.zeroValue9
  t22 := Tryz.underlying311
  a22 := Tryz.isAgg311
  z22 := Tryz.sizeOf311
  v22 := Tryz.zeroValue311
  t25 := Tryz.underlying327
  a25 := Tryz.isAgg327
  z25 := Tryz.sizeOf327
  v25 := Tryz.zeroValue327
  t39 := Tryz.underlying255
  a39 := Tryz.isAgg255
  z39 := Tryz.sizeOf255
  v39 := Tryz.zeroValue255
  t45 := Tryz.underlying286
  a45 := Tryz.isAgg286
  z45 := Tryz.sizeOf286
  v45 := Tryz.zeroValue286
  t46 := Tryz.underlying287
  a46 := Tryz.isAgg287
  z46 := Tryz.sizeOf287
  v46 := Tryz.zeroValue287
  t50 := Tryz.underlying139
  a50 := Tryz.isAgg139
  z50 := Tryz.sizeOf139
  v50 := Tryz.zeroValue139
  t53 := Tryz.underlying165
  a53 := Tryz.isAgg165
  z53 := Tryz.sizeOf165
  v53 := Tryz.zeroValue165
  t55 := Tryz.underlying162
  a55 := Tryz.isAgg162
  z55 := Tryz.sizeOf162
  v55 := Tryz.zeroValue162
  t66 := Tryz.underlying304
  a66 := Tryz.isAgg304
  z66 := Tryz.sizeOf304
  v66 := Tryz.zeroValue304
  t70 := Tryz.underlying308
  a70 := Tryz.isAgg308
  z70 := Tryz.sizeOf308
  v70 := Tryz.zeroValue308
  t76 := Tryz.underlying321
  a76 := Tryz.isAgg321
  z76 := Tryz.sizeOf321
  v76 := Tryz.zeroValue321
  t77 := Tryz.underlying322
  a77 := Tryz.isAgg322
  z77 := Tryz.sizeOf322
  v77 := Tryz.zeroValue322 }
def Tryz.cmpInt_ren : Go.Shelf.Ren := ⟨fun | 5 => 210 | 7 => 190 | n => n, fun | 22 => 3 | 3 => 3 | 4 => 4 | n => n, fun | n => n⟩
theorem Tryz.cmpInt : Go.Proofs.SlLaysC2.n5 Tryz.prog Tryz.cmpInt_ren := {
  mixed := by kernel_rfl
  f5 := ⟨Tryz.f210.name, by decide, Tryz.func210.trans (congrArg some (by kernel_rfl))⟩
  f7 := ⟨Tryz.f190.name, by decide, Tryz.func190.trans (congrArg some (by kernel_rfl))⟩
  t3 := Tryz.underlying3
  a3 := Tryz.isAgg3
  z3 := Tryz.sizeOf3
  v3 := Tryz.zeroValue3
  t4 := Tryz.underlying4
  a4 := Tryz.isAgg4
  z4 := Tryz.sizeOf4
  v4 := Tryz.zeroValue4
  t22 := Tryz.underlying3
  a22 := Tryz.isAgg3
  z22 := Tryz.sizeOf3
  v22 := Tryz.zeroValue3 }
def Tryz.bitsLen2_ren : Go.Shelf.Ren := ⟨fun | 125 => 141 | 128 => 171 | 129 => 172 | n => n, fun | 46 => 255 | 3 => 3 | 51 => 165 | 53 => 162 | 4 => 4 | 5 => 5 | 9 => 9 | n => n, fun | n => n⟩
theorem Tryz.bitsLen2 : Go.Proofs.Lays.n125 Tryz.prog Tryz.bitsLen2_ren := {
  mixed := by kernel_rfl
  f125 := Tryz.func141.trans (congrArg some (by kernel_rfl))
  f128 := Tryz.func171.trans (congrArg some (by kernel_rfl))
  f129 := Tryz.func172.trans (congrArg some (by kernel_rfl))
  t3 := Tryz.underlying3
  a3 := Tryz.isAgg3
  z3 := Tryz.sizeOf3
  v3 := Tryz.zeroValue3
  t4 := Tryz.underlying4
  a4 := Tryz.isAgg4
  z4 := Tryz.sizeOf4
  v4 := Tryz.zeroValue4
  t5 := Tryz.underlying5
  a5 := Tryz.isAgg5
  z5 := Tryz.sizeOf5
  v5 := Tryz.zeroValue5
  t9 := Tryz.underlying9
  a9 := Tryz.isAgg9
  z9 := Tryz.sizeOf9
  v9 := Tryz.zeroValue9
  t46 := Tryz.underlying255
  a46 := Tryz.isAgg255
  z46 := Tryz.sizeOf255
  v46 := Tryz.zeroValue255
  t51 := Tryz.underlying165
  a51 := Tryz.isAgg165
  z51 := Tryz.sizeOf165
  v51 := Tryz.zeroValue165
  t53 := Tryz.underlying162
  a53 := Tryz.isAgg162
  z53 := Tryz.sizeOf162
  v53 := Tryz.zeroValue162 }
end Go.Proofs
namespace Go.Proofs.YtliicpedddcfiaaGreat
open Go.RowKit Go.Maps Go.Sort Go.Shelf


theorem sorts_all (m : Nat) : AnyZI.SortsIn Tryz.prog Tryz.sortedA_ren Fence.wide m :=
  ⟨fun blk off cap ss W hH hblk hsz => callsIn_wide.2 (AnyM.slices_Sort_int Tryz.sortA blk off cap ss W hH hblk hsz),
   fun p cap W => callsIn_wide.2 (AnyM.slices_Sort_int_none Tryz.sortA p cap W)⟩
theorem keysA_any (mb : Option Nat) (W : World) : Calls Tryz.prog 83 #[.map mb] W fun e w' => e = .returned (.func (.func 118) #[] #[.pointer (some ⟨W.heap.size, 0, none⟩)]) ∧ w' = W.alloc (.cells #[.map mb] 121) :=
  callsIn_wide.1 (AnyZI.keys_in Tryz.keysA Fence.wide 5 trivial rfl mb W)
theorem keysB_any (mb : Option Nat) (W : World) : Calls Tryz.prog 202 #[.map mb] W fun e w' => e = .returned (.func (.func 216) #[] #[.pointer (some ⟨W.heap.size, 0, none⟩)]) ∧ w' = W.alloc (.cells #[.map mb] 238) :=
  callsIn_wide.1 (AnyZI.keys_in Tryz.keysB Fence.wide 5 trivial rfl mb W)
theorem owns_none (R : Value → Option (DataW Unit × List MemPlace)) {w : World} {r : Nat} (h : MapAt w r []) (k : TypeId) : w.ownsMap Tryz.prog k R r 0 (.map []) := by
  obtain ⟨clock, hb⟩ := h.none
  refine ⟨#[], clock, hb, ?_, by simp, by simp⟩
  constructor
  all_goals first | (intro a ha; simp at ha) | exact Nat.zero_le _ | (simp [MapKept.Stamped])
theorem below_nil {w w' : World} (h : Below w.heap.size w w') : Chg [] w w' := Chg.of_below h
set_option maxRecDepth 100000 in
theorem sortedA_none (W : World) {r : Nat} (h : MapAt W r []) : Calls Tryz.prog 82 #[.func (.func 118) #[] #[.pointer (some ⟨W.heap.size, 0, none⟩)]] (W.alloc (.cells #[.map (some r)] 121)) fun e w' => e = .returned (.slice none 0 0) ∧ Chg [] W w' := by
  obtain ⟨clock, hb⟩ := h.none
  have hr : r < W.heap.size := heap_lt hb
  have hseq : SeqGives Fence.wide 2 Tryz.prog 118 #[.pointer (some ⟨W.heap.size, 0, none⟩)] encZ (fun ss => ss.Perm (intKeys (.map [] : DataW Unit))) (Maps.size (.map [] : DataW Unit)) (W.alloc (.cells #[.map (some r)] 121)) :=
    AnyZI.keys_gives (ρ := Tryz.keysA_ren) { Tryz.keysA with } Fence.wide _ trivial rfl (by omega) W.heap.size r 0 _ _ (by simp) (by simp) (owns_none (fun _ => none) (h.keep (Chg.alloc (S := []) W _) (by simp)) _)
  have cS := AnyZI.sorted_in Tryz.sortedA Fence.wide 5 trivial trivial trivial trivial rfl (by omega) (sorts_all _) (enters_of Tryz.func117 (by kernel_rfl) rfl) 118 #[.pointer (some ⟨W.heap.size, 0, none⟩)] trivial (enters_of Tryz.func118 (by kernel_rfl) rfl) _ _ (by decide) (by decide) _ hseq
  refine (callsIn_wide.1 cS).mono ?_
  rintro e w' ⟨v, ss, rfl, hS, hrow, hnil, hbl⟩
  obtain rfl : ss = [] := by simpa [intKeys] using hS
  exact ⟨by rw [hnil.2 rfl], (Chg.alloc W _).then (Chg.of_below hbl)⟩
set_option maxRecDepth 100000 in
theorem sortedB_none (W : World) {r : Nat} (h : MapAt W r []) : Calls Tryz.prog 82 #[.func (.func 216) #[] #[.pointer (some ⟨W.heap.size, 0, none⟩)]] (W.alloc (.cells #[.map (some r)] 238)) fun e w' => e = .returned (.slice none 0 0) ∧ Chg [] W w' := by
  obtain ⟨clock, hb⟩ := h.none
  have hr : r < W.heap.size := heap_lt hb
  have hseq : SeqGives Fence.wide 2 Tryz.prog 216 #[.pointer (some ⟨W.heap.size, 0, none⟩)] encZ (fun ss => ss.Perm (intKeys (.map [] : DataW Unit))) (Maps.size (.map [] : DataW Unit)) (W.alloc (.cells #[.map (some r)] 238)) :=
    AnyZI.keys_gives (ρ := Tryz.keysB_ren) { Tryz.keysB with } Fence.wide _ trivial rfl (by omega) W.heap.size r 0 _ _ (by simp) (by simp) (owns_none (fun _ => none) (h.keep (Chg.alloc (S := []) W _) (by simp)) _)
  have cS := AnyZI.sorted_in Tryz.sortedA Fence.wide 5 trivial trivial trivial trivial rfl (by omega) (sorts_all _) (enters_of Tryz.func117 (by kernel_rfl) rfl) 216 #[.pointer (some ⟨W.heap.size, 0, none⟩)] trivial (enters_of Tryz.func216 (by kernel_rfl) rfl) _ _ (by decide) (by decide) _ hseq
  refine (callsIn_wide.1 cS).mono ?_
  rintro e w' ⟨v, ss, rfl, hS, hrow, hnil, hbl⟩
  obtain rfl : ss = [] := by simpa [intKeys] using hS
  exact ⟨by rw [hnil.2 rfl], (Chg.alloc W _).then (Chg.of_below hbl)⟩
end Go.Proofs.YtliicpedddcfiaaGreat
namespace Go.Proofs.YtliicpedddcfiaaGreat
open Go.RowKit Go.Lib

set_option maxRecDepth 100000 in
theorem puts_any (w : World) {R r : Nat} (h : StateAt w R r) : Calls Tryz.prog 44 #[.pointer (some ⟨R, 0, none⟩)] w fun e w' => e = .returned (.slice none 0 0) ∧ Chg [] w w' := by
  have c1 : w.cell? ⟨R, 1, none⟩ = some (.map (some r)) := cell_is h.1 1 rfl
  have HS := Lib.hid (sortedA_none w h.2)
  clear h
  go_enter Tryz.func44, Tryz.ntmps44
  go_wp2_with fail
  refine (keysA_any _ w).mono ?_
  rintro e w1 ⟨rfl, rfl⟩
  go_wp2_with fail
  refine HS.out.mono ?_
  rintro e w1 ⟨rfl, hc⟩
  go_wp2_with fail
  go_loop [2, 12] (fun a i => a = .slice none 0 0 ∧ i = .int .i64 0) (fun _ _ => 0)
  case atStart => exact ⟨rfl, rfl⟩
  case round =>
    obtain ⟨rfl, rfl⟩ := hrel
    go_wp2_with fail
    go_ret
    exact ⟨rfl, hc⟩
/-- what stands while a store is mounted. -/
def Bk (w wx : World) (N A c : Nat) (ops : Int) (Z : List Nat) (P S R r : Nat) : Prop :=
  Chg (N :: Z) w wx ∧ (∃ m, StoreAt wx P N S m) ∧ SlotAt wx S N ∧ DevAt wx N A c ops Z ∧ StateAt wx R r
theorem Bk.keep {w w1 w2 : World} {N A c : Nat} {ops : Int} {Z : List Nat} {P S R r : Nat} (h : Bk w w1 N A c ops Z P S R r) (hc : Chg [] w1 w2) : Bk w w2 N A c ops Z P S R r := by
  obtain ⟨a, ⟨m, b⟩, d, e, f⟩ := h
  exact ⟨a.then (hc.mono (fun x hx _ => by cases hx)), ⟨m, b.keep hc (by simp)⟩, d.keep hc (by simp), e.keep hc (by simp) (by simp) (by simp), ⟨hc.heap f.1 (by simp), f.2.keep hc (by simp)⟩⟩
theorem Bk.drew {w w1 : World} {N A c : Nat} {ops : Int} {Z : List Nat} {P S R r : Nat} (h : Bk w w1 N A c ops Z P S R r) : Bk w w1.drew N A c ops Z P S R r := h.keep (Chg.refl [] w1).drew
theorem Bk.r0 {w wx : World} {N A c : Nat} {ops : Int} {Z : List Nat} {P S R r : Nat} (h : Bk w wx N A c ops Z P S R r) : wx.cell? ⟨R, 0, none⟩ = some (.int .i64 0) := cell_is h.2.2.2.2.1 0 rfl
theorem Bk.dev {w wx : World} {N A c : Nat} {ops : Int} {Z : List Nat} {P S R r : Nat} (h : Bk w wx N A c ops Z P S R r) : DevAt wx N A c ops Z := h.2.2.2.1
theorem Bk.set {w wx : World} {N A c : Nat} {ops : Int} {Z : List Nat} {P S R r : Nat} (h : Bk w wx N A c ops Z P S R r) (hP : w.heap.size ≤ P) (hN : N ≠ P) (hA : A ≠ P) (hZ : ∀ z ∈ Z, z ≠ P) (hS : S ≠ P) (hR : R ≠ P) (hr : r ≠ P) (q : Option Addr) :
    Bk w (wx.setCell ⟨P, 5, none⟩ (.pointer q)) N A c ops Z P S R r ∧ StoreAt (wx.setCell ⟨P, 5, none⟩ (.pointer q)) P N S q := by
  obtain ⟨a, ⟨m, b⟩, d, e, f⟩ := h
  have k := Chg.set wx P 5 (.pointer q)
  have b2 : StoreAt (wx.setCell ⟨P, 5, none⟩ (.pointer q)) P N S q := heap_set b 5 _ rfl
  exact ⟨⟨a.new_set hP 5 _, ⟨q, b2⟩, d.keep k (by simpa using hS), e.keep k (by simpa using hN) (by simpa using hA) (fun z hz => by simpa using hZ z hz), ⟨k.heap f.1 (by simpa using hR), f.2.keep k (by simpa using hr)⟩⟩, b2⟩
theorem Bk.p5 {w wx : World} {N A c : Nat} {ops : Int} {Z : List Nat} {P S R r : Nat} (h : Bk w wx N A c ops Z P S R r) : (∃ m, wx.cell? ⟨P, 5, none⟩ = some (.pointer m)) ∧ wx.frozen? ⟨P, 5, none⟩ = false := by
  obtain ⟨a, ⟨m, b⟩, d, e, f⟩ := h
  exact ⟨⟨m, cell_is b 5 rfl⟩, unfrozen b 5⟩
/-- a mounted store without open transactions. -/
def Mk (w wx : World) (N A c : Nat) (ops : Int) (Z : List Nat) (P S M X rx B rb r : Nat) : Prop :=
  Chg (N :: Z) w wx ∧ DevAt wx N A c ops Z ∧ StoreAt wx P N S (some ⟨M, 0, none⟩) ∧ SlotAt wx S N ∧ MgrAt wx M X B r ∧ VerAt wx X rx ∧ BookAt wx B rb 0 [] ∧ MapAt wx r []
theorem Mk.keep {w w1 w2 : World} {N A c : Nat} {ops : Int} {Z : List Nat} {P S M X rx B rb r : Nat} (h : Mk w w1 N A c ops Z P S M X rx B rb r) (hc : Chg [] w1 w2) : Mk w w2 N A c ops Z P S M X rx B rb r := by
  obtain ⟨a, d, b, e, f, g, i, j⟩ := h
  exact ⟨a.then (hc.mono (fun x hx _ => by cases hx)), d.keep hc (by simp) (by simp) (by simp), b.keep hc (by simp), e.keep hc (by simp), hc.heap f (by simp), ⟨hc.heap g.1 (by simp), g.2.keep hc (by simp)⟩, ⟨hc.heap i.1 (by simp), i.2.keep hc (by simp)⟩, j.keep hc (by simp)⟩
theorem Mk.p5 {w wx : World} {N A c : Nat} {ops : Int} {Z : List Nat} {P S M X rx B rb r : Nat} (h : Mk w wx N A c ops Z P S M X rx B rb r) : wx.cell? ⟨P, 5, none⟩ = some (.pointer (some ⟨M, 0, none⟩)) := cell_is h.2.2.1 5 rfl
theorem Mk.drew {w w1 : World} {N A c : Nat} {ops : Int} {Z : List Nat} {P S M X rx B rb r : Nat} (h : Mk w w1 N A c ops Z P S M X rx B rb r) : Mk w w1.drew N A c ops Z P S M X rx B rb r := h.keep (Chg.refl [] w1).drew
theorem DevAt.A_lt {w : World} {N A c : Nat} {ops : Int} {Z : List Nat} (h : DevAt w N A c ops Z) : A < w.heap.size := by
  obtain ⟨-, -, h8, h, -⟩ := h
  exact World.block_lt_of_cell? _ _ (h 0 (by omega))
set_option maxRecDepth 100000 in
set_option maxHeartbeats 2000000 in
theorem mount_any (w : World) {N A c : Nat} {ops : Int} {Z : List Nat} (hD : DevAt w N A c ops Z) (hd : DevOk N A Z) (hlt : ∀ z ∈ Z, z < w.heap.size) (h0 : 0 ≤ ops) (h1 : ops ≤ 1000000) : Calls Tryz.prog 18 #[.pointer (some ⟨N, 0, none⟩)] w fun e w' =>
    ∃ P S M X rx B rb r, e = .returned (.tuple #[.pointer (some ⟨P, 0, none⟩), .int .i64 0]) ∧ Mk w w' N A c (ops + 1) Z P S M X rx B rb r ∧
      w.heap.size ≤ P ∧ w.heap.size ≤ S ∧ w.heap.size ≤ M ∧ w.heap.size ≤ X ∧ w.heap.size ≤ rx ∧ w.heap.size ≤ B ∧ w.heap.size ≤ rb ∧ w.heap.size ≤ r ∧ rx ≠ rb ∧ r ≠ rb ∧ r ≠ rx := by
  go_enter Tryz.func18, Tryz.ntmps18
  go_wp2_with fail
  refine (geometry_any w hD).mono ?_
  rintro e w1 ⟨rfl, hc1⟩
  go_wp2_with fail
  refine (split_min w1).mono ?_
  rintro e w2 ⟨rfl, hc2⟩
  have hc := hc1.then hc2
  have hsz := hc.size
  clear hc1 hc2
  go_wp2_with fail
  obtain ⟨-, g1⟩ := two_new w2 (.cells #[.int .i64 0, .int .i64 3, .int .i64 6, .int .i64 7] 99) (.cells #[.pointer (some ⟨N, 0, none⟩), .int .i64 0, .int .i64 3, .int .i64 6, .int .i64 7, .pointer none, .pointer none, .int .i64 0, .int .i64 0, .bool false] 105)
  have hc3 := hc.then (chg_two w2 (.cells #[.int .i64 0, .int .i64 3, .int .i64 6, .int .i64 7] 99) (.cells #[.pointer (some ⟨N, 0, none⟩), .int .i64 0, .int .i64 3, .int .i64 6, .int .i64 7, .pointer none, .pointer none, .int .i64 0, .int .i64 0, .bool false] 105))
  generalize (w2.alloc (.cells #[.int .i64 0, .int .i64 3, .int .i64 6, .int .i64 7] 99)).alloc (.cells #[.pointer (some ⟨N, 0, none⟩), .int .i64 0, .int .i64 3, .int .i64 6, .int .i64 7, .pointer none, .pointer none, .int .i64 0, .int .i64 0, .bool false] 105) = w3 at *
  have hN := heap_lt hD.1
  have hA := hD.A_lt
  have hPl : w.heap.size ≤ w2.heap.size + 1 := by omega
  generalize w2.heap.size + 1 = P at *
  generalize w2.heap.size = q at *
  have hPZ : P ∉ N :: Z := by
    intro hm
    rcases List.mem_cons.1 hm with hm | hm
    · omega
    · have := hlt _ hm; omega
  have hD3 := hD.keep hc3 (by simp) (by simp) (by simp)
  have hlt3 : ∀ z ∈ Z, z < w3.heap.size := fun z hz => Nat.lt_of_lt_of_le (hlt z hz) hc3.size
  refine (open_any w3 hD3 hd hlt3 h0 h1).mono ?_
  rintro e w4 ⟨S, rfl, hc4, hD4, hS4, l4⟩
  have g4 := hc4.heap g1 hPZ
  have hPs : w.heap.size ≤ S := Nat.le_trans hc3.size l4
  have hc5 : Chg (N :: Z) w w4 := (hc3.mono (T := N :: Z) (fun x hx _ => by cases hx)).then hc4
  have hSP : S ≠ P := by have := heap_lt g1; omega
  have c6 := cell_is g4 6 rfl
  have f6 := unfrozen g4 6
  have g5 : StoreAt (w4.setCell ⟨P, 6, none⟩ (.pointer (some ⟨S, 0, none⟩))) P N S none := heap_set g4 6 _ rfl
  have hc6 : Chg (N :: Z) w (w4.setCell ⟨P, 6, none⟩ (.pointer (some ⟨S, 0, none⟩))) := hc5.new_set hPl 6 _
  have hS6 : SlotAt (w4.setCell ⟨P, 6, none⟩ (.pointer (some ⟨S, 0, none⟩))) S N := heap_set_ne hS4 hSP 6 _
  have hD6 := hD4.keep (Chg.set w4 P 6 (.pointer (some ⟨S, 0, none⟩))) (by simpa using fun e => hPZ (by simp [e])) (by simpa using fun e => by omega) (fun z hz => by simpa using fun e => hPZ (by simp [← e, hz]))
  clear g4 hS4 hD4 hc5 hc4 hc3 g1 hD hD3 hlt3
  clear hc
  go_wp2_with fail
  generalize w4.setCell ⟨P, 6, none⟩ (.pointer (some ⟨S, 0, none⟩)) = w5 at *
  refine (load_any w5 hS6).mono ?_
  rintro e w6 ⟨rfl, k6⟩
  have g6 := g5.keep k6 (by simp)
  have S6 := hS6.keep k6 (by simp)
  have D6 := hD6.keep k6 (by simp) (by simp) (by simp)
  have hc7 : Chg (N :: Z) w w6 := hc6.then (k6.mono (fun x hx _ => by cases hx))
  clear hc6 hS6 g5 hD6 k6
  go_wp2_with fail
  refine (parse_nil w6).mono ?_
  rintro e w7 ⟨R, r, rfl, k6, hR, l5, l6⟩
  have hs6 := hc7.size
  have hRP : R ≠ P := by have := heap_lt g6; omega
  have hrP : r ≠ P := by have := heap_lt g6; omega
  have g7 := g6.keep k6 (by simp)
  have S7 := S6.keep k6 (by simp)
  have D7 := D6.keep k6 (by simp) (by simp) (by simp)
  have hc8 : Chg (N :: Z) w w7 := hc7.then (k6.mono (fun x hx _ => by cases hx))
  clear hc7 S6 g6 D6 k6
  go_wp2_with fail
  refine (log_any w7 g7 D7).mono ?_
  rintro e w8 ⟨rfl, k6⟩
  have hR8 : StateAt w8 R r := ⟨k6.heap hR.1 (by simp), hR.2.keep k6 (by simp)⟩
  have g8 := g7.keep k6 (by simp)
  have S8 := S7.keep k6 (by simp)
  have D8 := D7.keep k6 (by simp) (by simp) (by simp)
  have hc9 : Chg (N :: Z) w w8 := hc8.then (k6.mono (fun x hx _ => by cases hx))
  clear hc8 S7 g7 D7 k6 hR
  go_wp2_with fail
  refine (contf_nil _ w8).mono ?_
  rintro e w9 ⟨rfl, rfl⟩
  go_wp2_with fail
  refine (contf_nil _ w8).mono ?_
  rintro e w9 ⟨rfl, rfl⟩
  go_wp2_with fail
  refine (replay_any w8 g8 S8).mono ?_
  rintro e w9 ⟨rfl, k6⟩
  have hR9 : StateAt w9 R r := ⟨k6.heap hR8.1 (by simp), hR8.2.keep k6 (by simp)⟩
  have g9 := g8.keep k6 (by simp)
  have S9 := S8.keep k6 (by simp)
  have D9 := D8.keep k6 (by simp) (by simp) (by simp)
  have hc10 : Chg (N :: Z) w w9 := hc9.then (k6.mono (fun x hx _ => by cases hx))
  clear hc9 S8 g8 D8 k6 hR8
  go_wp2_with fail
  have hB : Bk w w9 N A c (ops + 1) Z P S R r := ⟨hc10, ⟨none, g9⟩, S9, D9, hR9⟩
  clear hc10 g9 S9 D9 hR9
  have hNP : N ≠ P := by omega
  have hAP : A ≠ P := by omega
  have hZP : ∀ z ∈ Z, z ≠ P := fun z hz => by have := hlt z hz; omega
  go_region_held3 (fun wx => Bk w wx N A c (ops + 1) Z P S R r ∧ wx.cell? ⟨R, 0, none⟩ = some (.int .i64 0))
    (first
      | (exact ⟨hB, hB.r0⟩)
      | (exact ⟨hB.drew, hB.drew.r0⟩)
      | (exact ⟨(hB.set hPl hNP hAP hZP hSP hRP hrP _).1, (hB.set hPl hNP hAP hZP hSP hRP hrP _).1.r0⟩))
    (first
      | (go_at_call 33; (first | refine (geometry_any _ hB.drew.dev).mono ?_ | refine (geometry_any _ hB.dev).mono ?_); rintro e wb ⟨rfl, k1⟩; (first | replace hB := hB.keep k1 | replace hB := hB.drew.keep k1))
      | (go_at_call 42; refine (cap_min _).mono ?_; rintro e wb ⟨rfl, k2⟩; (first | replace hB := hB.keep k2 | replace hB := hB.drew.keep k2))
      | (go_at_call 41; obtain ⟨mm, hmm⟩ := hB.2.1; have hPb := heap_lt hmm; refine (tnew_any _).mono ?_; rintro e wb ⟨M, X, rx, B, rb, rc, rfl, k3, hM, hX, hBk, hrc, l10, l11, l12, l13, l14, l15, n1, n2, n3⟩; (first | replace hB := hB.keep k3 | replace hB := hB.drew.keep k3); obtain ⟨⟨m5, p5⟩, f5⟩ := hB.p5))
  have hB2 := hB.set hPl hNP hAP hZP hSP hRP hrP (some ⟨M, 0, none⟩)
  have hMP : M ≠ P := by omega
  have hXP : X ≠ P := by omega
  have hxP : rx ≠ P := by omega
  have hBP : B ≠ P := by omega
  have hbP : rb ≠ P := by omega
  have hcP : rc ≠ P := by omega
  have kS := Chg.set wb P 5 (.pointer (some ⟨M, 0, none⟩))
  have hK : Mk w (wb.setCell ⟨P, 5, none⟩ (.pointer (some ⟨M, 0, none⟩))) N A c (ops + 1) Z P S M X rx B rb rc :=
    ⟨hB2.1.1, hB2.1.dev, hB2.2, hB2.1.2.2.1, kS.heap hM (by simpa using hMP), ⟨kS.heap hX.1 (by simpa using hXP), hX.2.keep kS (by simpa using hxP)⟩, ⟨kS.heap hBk.1 (by simpa using hBP), hBk.2.keep kS (by simpa using hbP)⟩, hrc.keep kS (by simpa using hcP)⟩
  have hst := hB2.1.2.2.2.2
  clear hB2 kS hM hX hBk hrc hB k1 k2 k3 f5 p5
  generalize wb.setCell ⟨P, 5, none⟩ (.pointer (some ⟨M, 0, none⟩)) = v1 at *
  go_wp2_with fail
  go_region_held3 (fun wx => Mk w wx N A c (ops + 1) Z P S M X rx B rb rc ∧ wx.cell? ⟨P, 5, none⟩ = some (.pointer (some ⟨M, 0, none⟩)))
    (first
      | (exact ⟨hK, hK.p5⟩)
      | (exact ⟨hK.drew, hK.drew.p5⟩))
    (first
      | (go_at_call 44; refine (puts_any v1.drew (R := R) (r := r) hst).mono ?_; rintro e v2 ⟨rfl, k1⟩; replace hK := hK.drew.keep k1)
      | (go_at_call 43; refine (tload_any _ hK.2.2.2.2.1 hK.2.2.2.2.2.2.2).mono ?_; rintro e v3 ⟨rfl, rfl⟩))
  go_wp2_with fail
  go_ret2
  exact ⟨P, S, M, X, rx, B, rb, rc, rfl, hK, hPl, hPs, by omega, by omega, by omega, by omega, by omega, by omega, n1, n2, n3⟩
end Go.Proofs.YtliicpedddcfiaaGreat
namespace Go.Proofs.YtliicpedddcfiaaGreat
open Go.RowKit Go.Lib

set_option maxRecDepth 100000 in
theorem dead_any (w : World) {P N S : Nat} {m : Option Addr} (h : StoreAt w P N S m) : Calls Tryz.prog 52 #[.pointer (some ⟨P, 0, none⟩)] w fun e w' => e = .returned (.bool false) ∧ w = w' := by
  obtain ⟨c0, -, -, -, -, -, -, -, -, c9⟩ := store_cells h
  clear h
  go_enter Tryz.func52, Tryz.ntmps52
  go_wp2_with fail
  go_ret
  exact ⟨rfl, rfl⟩
set_option maxRecDepth 100000 in
theorem room_any (w : World) {B rb : Nat} {last : Int} {L : List (Int × Value)} (h : BookAt w B rb last L) : Calls Tryz.prog 175 #[.pointer (some ⟨B, 0, none⟩)] w fun e w' => e = .returned (.int .i64 16) ∧ w = w' := by
  have c0 : w.cell? ⟨B, 0, none⟩ = some (.int .i64 16) := cell_is h.1 0 rfl
  clear h
  go_enter Tryz.func175, Tryz.ntmps175
  go_wp2_with fail
  go_ret
  exact ⟨rfl, rfl⟩
set_option maxRecDepth 100000 in
theorem list_none (w : World) {B rb : Nat} {last : Int} (h : BookAt w B rb last []) : Calls Tryz.prog 192 #[.pointer (some ⟨B, 0, none⟩)] w fun e w' => e = .returned (.slice none 0 0) ∧ Chg [] w w' := by
  have c2 : w.cell? ⟨B, 2, none⟩ = some (.map (some rb)) := cell_is h.1 2 rfl
  have HS := Lib.hid (sortedB_none w h.2)
  clear h
  go_enter Tryz.func192, Tryz.ntmps192
  go_wp2_with fail
  refine (keysB_any _ w).mono ?_
  rintro e w1 ⟨rfl, rfl⟩
  go_wp2_with fail
  refine HS.out.mono ?_
  rintro e w1 ⟨rfl, hc⟩
  go_wp2_with fail
  go_ret
  exact ⟨rfl, hc⟩
set_option maxRecDepth 100000 in
theorem count_none (w : World) {B rb : Nat} {last : Int} (h : BookAt w B rb last []) : Calls Tryz.prog 174 #[.pointer (some ⟨B, 0, none⟩)] w fun e w' => e = .returned (.int .i64 0) ∧ Chg [] w w' := by
  have HS := Lib.hid (list_none w h)
  clear h
  go_enter Tryz.func174, Tryz.ntmps174
  go_wp2_with fail
  refine HS.out.mono ?_
  rintro e w1 ⟨rfl, hc⟩
  go_wp2_with fail
  go_ret
  exact ⟨rfl, hc⟩
theorem BookAt.keep {w w' : World} {T : List Nat} {B rb : Nat} {last : Int} {L : List (Int × Value)} (h : BookAt w B rb last L) (hc : Chg T w w') (h1 : B ∉ T) (h2 : rb ∉ T) : BookAt w' B rb last L := ⟨hc.heap h.1 h1, h.2.keep hc h2⟩
set_option maxRecDepth 100000 in
theorem hopen_none (w : World) {B rb : Nat} (h : BookAt w B rb 0 []) : Calls Tryz.prog 144 #[.pointer (some ⟨B, 0, none⟩), .int .i64 0] w fun e w' => e = .returned (.tuple #[.int .i64 1, .int .i64 0]) ∧ Chg [B, rb] w w' ∧ BookAt w' B rb 1 [(1, .int .i64 0)] := by
  go_enter Tryz.func144, Tryz.ntmps144
  go_wp2_with fail
  refine (count_none w h).mono ?_
  rintro e w1 ⟨rfl, hc⟩
  have h1 := h.keep hc (by simp) (by simp)
  go_wp2_with fail
  refine (room_any w1 h1).mono ?_
  rintro e w2 ⟨rfl, rfl⟩
  have c1 : w1.cell? ⟨B, 1, none⟩ = some (.int .i64 0) := cell_is h1.1 1 rfl
  have f1 := unfrozen h1.1 1
  have h2 : (w1.setCell ⟨B, 1, none⟩ (.int .i64 1)).heap[B]? = some (.cells #[.int .i64 16, .int .i64 1, .map (some rb)] 240 (0, 0)) := heap_set h1.1 1 _ rfl
  have hB : B < w1.heap.size := heap_lt h1.1
  have hrb := h1.2.lt
  have hne : rb ≠ B := by
    intro e
    obtain ⟨clock, hb⟩ := h1.2.none
    have := h1.1
    rw [← e, hb] at this
    cases this
  have k2 := Chg.set w1 B 1 (.int .i64 1)
  have m2 : MapAt (w1.setCell ⟨B, 1, none⟩ (.int .i64 1)) rb [] := h1.2.keep k2 (by simpa using hne)
  have hc2 : Chg [B, rb] w (w1.setCell ⟨B, 1, none⟩ (.int .i64 1)) := (hc.mono (T := [B, rb]) (fun x hx _ => by cases hx)).then (k2.mono (fun x hx _ => by simp at hx; simp [hx]))
  clear h1 h
  go_wp2_with fail
  generalize w1.setCell ⟨B, 1, none⟩ (.int .i64 1) = w2 at *
  have e1 : w2.cell? ⟨B, 1, none⟩ = some (.int .i64 1) := cell_is h2 1 rfl
  have e2 : w2.cell? ⟨B, 2, none⟩ = some (.map (some rb)) := cell_is h2 2 rfl
  have m3 : MapAt w2.drew rb [] := m2
  obtain ⟨w3, hmu, m4, k3, hs3⟩ := run_update_im (P := Tryz.prog) (mty := 238) (kt := 3) (et := 3) (by kernel_rfl) (by kernel_rfl) m3 1 (.int .i64 0)
  go_region_held3 (fun wx => wx.cell? ⟨B, 1, none⟩ = some (.int .i64 1) ∧ wx.cell? ⟨B, 2, none⟩ = some (.map (some rb))) (first | (exact ⟨e1, e2⟩) | (exact ⟨k3.cell e1 (by simpa using hne.symm), k3.cell e2 (by simpa using hne.symm)⟩)) (fail)
  have g3 : w3.heap[B]? = some (.cells #[.int .i64 16, .int .i64 1, .map (some rb)] 240 (0, 0)) := k3.heap (g := B) h2 (by simpa using hne.symm)
  have e3 : w3.cell? ⟨B, 1, none⟩ = some (.int .i64 1) := cell_is g3 1 rfl
  clear e1 e2 hmu
  go_wp2_with fail
  go_ret2
  exact ⟨rfl, hc2.then (Chg.trans (Chg.refl [B, rb] w2).drew k3 (fun x hx _ => by simp at hx; simp [hx])), g3, m4⟩
set_option maxRecDepth 100000 in
theorem blocks_any (w : World) {X rx : Nat} (h : VerAt w X rx) : Calls Tryz.prog 137 #[.pointer (some ⟨X, 0, none⟩)] w fun e w' => e = .returned (.int .i64 258) ∧ w = w' := by
  have c0 : w.cell? ⟨X, 0, none⟩ = some (.int .i64 258) := cell_is h.1 0 rfl
  clear h
  go_enter Tryz.func137, Tryz.ntmps137
  go_wp2_with fail
  go_ret
  exact ⟨rfl, rfl⟩
/-- block W is a buffer of writes: its blocks are those of map rw. -/
def BufAt (w : World) (W rw : Nat) (L : List (Int × Value)) : Prop := w.heap[W]? = some (.cells #[.int .i64 258, .int .i64 16, .map (some rw)] 260 (0, 0)) ∧ MapAt w rw L
theorem BufAt.keep {w w' : World} {T : List Nat} {W rw : Nat} {L : List (Int × Value)} (h : BufAt w W rw L) (hc : Chg T w w') (h1 : W ∉ T) (h2 : rw ∉ T) : BufAt w' W rw L := ⟨hc.heap h.1 h1, h.2.keep hc h2⟩
set_option maxRecDepth 100000 in
theorem wnew_any (w : World) : Calls Tryz.prog 145 #[.int .i64 258, .int .i64 16] w fun e w' => ∃ W rw, e = .returned (.tuple #[.pointer (some ⟨W, 0, none⟩), .int .i64 0]) ∧ Chg [] w w' ∧ BufAt w' W rw [] ∧ w.heap.size ≤ W ∧ w.heap.size ≤ rw := by
  have hm := @run_makeMap Tryz.prog
  have h2 := two_new w (.map #[] 0) (.cells #[.int .i64 258, .int .i64 16, .map (some w.heap.size)] 260)
  have hc := chg_two w (.map #[] 0) (.cells #[.int .i64 258, .int .i64 16, .map (some w.heap.size)] 260)
  have HF := Lib.hid (show ∃ rx, rx = w.heap.size ∧ BufAt ((w.alloc (.map #[] 0)).alloc (.cells #[.int .i64 258, .int .i64 16, .map (some w.heap.size)] 260)) (w.heap.size + 1) rx [] from ⟨_, rfl, h2.2, ⟨#[], 0, h2.1, rfl, MapKept.stamped_empty 0⟩⟩)
  clear h2
  go_enter Tryz.func145, Tryz.ntmps145
  go_wp2_with fail
  go_ret2
  obtain ⟨rx, rfl, h1⟩ := HF.out
  exact ⟨_, _, rfl, hc, h1, by omega, Nat.le_refl _⟩
/-- block V is a set of spans. -/
def SpansAt (w : World) (V : Nat) (v : Value) : Prop := w.heap[V]? = some (.cells #[.int .i64 64, v] 313 (0, 0))
set_option maxRecDepth 100000 in
theorem inew_any (w : World) : Calls Tryz.prog 176 #[.int .i64 64] w fun e w' => ∃ V, e = .returned (.pointer (some ⟨V, 0, none⟩)) ∧ Chg [] w w' ∧ SpansAt w' V (.slice none 0 0) ∧ w.heap.size ≤ V := by
  have h1 := heap_new w (.cells #[.int .i64 64, .slice none 0 0] 313)
  go_enter Tryz.func176, Tryz.ntmps176
  go_wp2_with fail
  go_ret
  exact ⟨_, rfl, Chg.alloc w _, h1, Nat.le_refl _⟩
/-- block Q is a view: of versions X, of a buffer W, at position 0, of what was read V. -/
def ViewAt (w : World) (Q X W V : Nat) (v : Value) : Prop := w.heap[Q]? = some (.cells #[.pointer (some ⟨X, 0, none⟩), .pointer (some ⟨W, 0, none⟩), .int .i64 0, .pointer (some ⟨V, 0, none⟩), v] 258 (0, 0))
set_option maxRecDepth 100000 in
theorem vnew_any (w : World) (X W : Nat) : Calls Tryz.prog 146 #[.pointer (some ⟨X, 0, none⟩), .pointer (some ⟨W, 0, none⟩), .int .i64 0] w fun e w' => ∃ Q V, e = .returned (.pointer (some ⟨Q, 0, none⟩)) ∧ Chg [] w w' ∧ ViewAt w' Q X W V (.slice none 0 0) ∧ SpansAt w' V (.slice none 0 0) ∧ w.heap.size ≤ Q ∧ w.heap.size ≤ V := by
  go_enter Tryz.func146, Tryz.ntmps146
  go_wp2_with fail
  refine (inew_any w).mono ?_
  rintro e w1 ⟨V, rfl, hc, hV, l⟩
  have hs := hc.size
  have h1 := heap_new w1 (.cells #[.pointer (some ⟨X, 0, none⟩), .pointer (some ⟨W, 0, none⟩), .int .i64 0, .pointer (some ⟨V, 0, none⟩), .slice none 0 0] 258)
  go_wp2_with fail
  go_ret
  exact ⟨w1.heap.size, V, rfl, hc.then_alloc _, h1, heap_old hV, hs, l⟩
end Go.Proofs.YtliicpedddcfiaaGreat
namespace Go.Proofs.YtliicpedddcfiaaGreat
open Go.RowKit Go.Lib

/-- a manager with all its parts. -/
structure Mg (w : World) (M X rx B rb r : Nat) (last : Int) (Lb Lr : List (Int × Value)) : Prop where
  mgr : MgrAt w M X B r
  ver : VerAt w X rx
  book : BookAt w B rb last Lb
  map : MapAt w r Lr
  n1 : rx ≠ rb
  n2 : r ≠ rb
  n3 : r ≠ rx
theorem Mg.keep {w w' : World} {M X rx B rb r : Nat} {last : Int} {Lb Lr : List (Int × Value)} (h : Mg w M X rx B rb r last Lb Lr) (hc : Chg [] w w') : Mg w' M X rx B rb r last Lb Lr :=
  ⟨hc.heap h.mgr (by simp), ⟨hc.heap h.ver.1 (by simp), h.ver.2.keep hc (by simp)⟩, h.book.keep hc (by simp) (by simp), h.map.keep hc (by simp), h.n1, h.n2, h.n3⟩
theorem map_cells {w : World} {a b : Nat} {cs : Array Value} {t : TypeId} {fr : Nat × Nat} {L : List (Int × Value)} (h : MapAt w a L) (h' : w.heap[b]? = some (.cells cs t fr)) : a ≠ b := by
  rintro rfl
  obtain ⟨es, clock, hb, -⟩ := h
  rw [hb] at h'
  cases h'
theorem Mg.apart {w : World} {M X rx B rb r : Nat} {last : Int} {Lb Lr : List (Int × Value)} (h : Mg w M X rx B rb r last Lb Lr) : M ≠ B ∧ M ≠ rb ∧ M ≠ r ∧ X ≠ B ∧ X ≠ rb ∧ X ≠ r ∧ rx ≠ B ∧ r ≠ B ∧ rb ≠ B := by
  refine ⟨heap_ne h.mgr h.book.1 (by simp), (map_cells h.book.2 h.mgr).symm, (map_cells h.map h.mgr).symm, heap_ne h.ver.1 h.book.1 (by simp), (map_cells h.book.2 h.ver.1).symm, (map_cells h.map h.ver.1).symm, map_cells h.ver.2 h.book.1, map_cells h.map h.book.1, map_cells h.book.2 h.book.1⟩
/-- .. when its book alone has changed. -/
theorem Mg.opened {w w' : World} {M X rx B rb r : Nat} {last last' : Int} {Lb Lb' Lr : List (Int × Value)} (h : Mg w M X rx B rb r last Lb Lr) (hc : Chg [B, rb] w w') (hb : BookAt w' B rb last' Lb') : Mg w' M X rx B rb r last' Lb' Lr := by
  obtain ⟨a, b, c, d, e, f, g, i, j⟩ := h.apart
  exact ⟨hc.heap h.mgr (by simp; exact ⟨a, b⟩), ⟨hc.heap h.ver.1 (by simp; exact ⟨d, e⟩), h.ver.2.keep hc (by simp; exact ⟨g, h.n1⟩)⟩, hb, h.map.keep hc (by simp; exact ⟨i, h.n2⟩), h.n1, h.n2, h.n3⟩
/-- .. when its table of transactions alone has changed. -/
theorem Mg.table {w w' : World} {M X rx B rb r : Nat} {last : Int} {Lb Lr Lr' : List (Int × Value)} (h : Mg w M X rx B rb r last Lb Lr) (hc : Chg [r] w w') (hb : MapAt w' r Lr') : Mg w' M X rx B rb r last Lb Lr' := by
  obtain ⟨a, b, c, d, e, f, g, i, j⟩ := h.apart
  exact ⟨hc.heap h.mgr (by simpa using c), ⟨hc.heap h.ver.1 (by simpa using f), h.ver.2.keep hc (by simpa using h.n3.symm)⟩, h.book.keep hc (by simpa using i.symm) (by simpa using h.n2.symm), hb, h.n1, h.n2, h.n3⟩
theorem Mg.cells {w : World} {M X rx B rb r : Nat} {last : Int} {Lb Lr : List (Int × Value)} (h : Mg w M X rx B rb r last Lb Lr) : w.cell? ⟨M, 0, none⟩ = some (.pointer (some ⟨X, 0, none⟩)) ∧ w.cell? ⟨M, 1, none⟩ = some (.pointer (some ⟨B, 0, none⟩)) ∧ w.cell? ⟨M, 2, none⟩ = some (.map (some r)) ∧ w.cell? ⟨M, 7, none⟩ = some (.int .i64 0) :=
  ⟨cell_is h.mgr 0 rfl, cell_is h.mgr 1 rfl, cell_is h.mgr 2 rfl, cell_is h.mgr 7 rfl⟩
/-- the world behind 'm[k] = v'. -/
noncomputable def updW (w : World) (mty : TypeId) (r : Nat) (k : Int) (v : Value) : World :=
  match (Instr.mapUpdate mty (.map (some r)) (.int .i64 k) v).run Tryz.prog w with
  | .ok _ w' => w'
  | _ => w
theorem updW_is {mty kt et : TypeId} (hm : Tryz.prog.underlying mty = some (.map kt et)) (hk : Tryz.prog.underlying kt = some (.int .i64)) {w : World} {r : Nat} {L : List (Int × Value)} (hM : MapAt w r L) (k : Int) (v : Value) :
    (Instr.mapUpdate mty (.map (some r)) (.int .i64 k) v).run Tryz.prog w = .ok () (updW w mty r k v) ∧ MapAt (updW w mty r k v) r (putL L k v) ∧ Chg [r] w (updW w mty r k v) := by
  obtain ⟨w', h1, h2, h3, -⟩ := run_update_im hm hk hM k v
  have : updW w mty r k v = w' := by unfold updW; rw [h1]
  rw [this]
  exact ⟨h1, h2, h3⟩
theorem upd178 {w : World} {r : Nat} {L : List (Int × Value)} (hM : MapAt w r L) (k : Int) (v : Value) :
    (Instr.mapUpdate 182 (.map (some r)) (.int .i64 k) v).run Tryz.prog w = .ok () (updW w 182 r k v) ∧ MapAt (updW w 182 r k v) r (putL L k v) ∧ Chg [r] w (updW w 182 r k v) :=
  updW_is (kt := 3) (et := 207) (by kernel_rfl) (by kernel_rfl) hM k v
/-- block T is a transaction: its buffer W, its view Q. -/
def TxAt (w : World) (T W Q : Nat) : Prop := w.heap[T]? = some (.cells #[.int .i64 1, .int .i64 0, .int .i64 0, .int .i64 0, .pointer (some ⟨W, 0, none⟩), .pointer (some ⟨Q, 0, none⟩)] 212 (0, 0))
/-- a transaction with all its parts. -/
structure Tx (w : World) (X T W rw Q V : Nat) (L : List (Int × Value)) (v s : Value) : Prop where
  tx : TxAt w T W Q
  buf : BufAt w W rw L
  view : ViewAt w Q X W V s
  spans : SpansAt w V v
theorem Tx.keep {w w' : World} {X T W rw Q V : Nat} {L : List (Int × Value)} {v s : Value} (h : Tx w X T W rw Q V L v s) (hc : Chg [] w w') : Tx w' X T W rw Q V L v s :=
  ⟨hc.heap h.tx (by simp), h.buf.keep hc (by simp) (by simp), hc.heap h.view (by simp), hc.heap h.spans (by simp)⟩
set_option maxRecDepth 100000 in
set_option maxHeartbeats 1000000 in
theorem tbegin_any (w : World) {M X rx B rb r : Nat} (h : Mg w M X rx B rb r 0 [] []) : Calls Tryz.prog 126 #[.pointer (some ⟨M, 0, none⟩)] w fun e w' =>
    ∃ T W rw Q V, e = .returned (.tuple #[.int .i64 1, .int .i64 0]) ∧ Chg [B, rb, r] w w' ∧ Mg w' M X rx B rb r 1 [(1, .int .i64 0)] [(1, .pointer (some ⟨T, 0, none⟩))] ∧ Tx w' X T W rw Q V [] (.slice none 0 0) (.slice none 0 0) ∧ rw ≠ r ∧ rw ≠ rb ∧ rw ≠ rx ∧ w.heap.size ≤ rw ∧ w.heap.size ≤ Q ∧ w.heap.size ≤ V := by
  go_enter Tryz.func126, Tryz.ntmps126
  go_wp2_with fail
  refine (tgone_any w h.mgr).mono ?_
  rintro e w1 ⟨rfl, rfl⟩
  obtain ⟨c0, c1, c2, c7⟩ := h.cells
  go_wp2_with fail
  go_region_held3 (fun wx => wx.cell? ⟨M, 1, none⟩ = some (.pointer (some ⟨B, 0, none⟩)) ∧ wx.cell? ⟨M, 7, none⟩ = some (.int .i64 0)) (first | (exact ⟨c1, c7⟩) | (exact ⟨h2.cells.2.1, h2.cells.2.2.2⟩))
    (first
      | (go_at_call 144; refine (hopen_none w.drew (h.keep (Chg.refl [] w).drew).book).mono ?_; rintro e w2 ⟨rfl, k2, hb2⟩; have h2 := (h.keep (Chg.refl [] w).drew).opened k2 hb2))
  clear c0 c1 c2 c7
  obtain ⟨c0, c1, c2, c7⟩ := h2.cells
  go_wp2_with fail
  refine (blocks_any w2 h2.ver).mono ?_
  rintro e w3 ⟨rfl, rfl⟩
  go_wp2_with fail
  refine (wnew_any w2).mono ?_
  rintro e w3 ⟨W, rw, rfl, k3, hW, l1, l2⟩
  have h3 := h2.keep k3
  clear c0 c1 c2 c7
  obtain ⟨c0, c1, c2, c7⟩ := h3.cells
  go_wp2_with fail
  go_region_held3 (fun wx => wx.cell? ⟨M, 0, none⟩ = some (.pointer (some ⟨X, 0, none⟩)) ∧ wx.cell? ⟨M, 1, none⟩ = some (.pointer (some ⟨B, 0, none⟩)) ∧ wx.cell? ⟨M, 2, none⟩ = some (.map (some r)) ∧ wx.cell? ⟨M, 7, none⟩ = some (.int .i64 0))
    (first
      | (exact ⟨c0, c1, c2, c7⟩)
      | (exact h4.cells)
      | (exact (h4.keep (Chg.alloc (S := []) _ _)).cells)
      | (exact ((h4.keep (Chg.alloc (S := []) w4 _)).table (upd178 (h4.keep (Chg.alloc (S := []) w4 _)).map _ _).2.2 (upd178 (h4.keep (Chg.alloc (S := []) w4 _)).map _ _).2.1).cells))
    (first
      | (go_at_call 146; refine (vnew_any w3.drew X W).mono ?_; rintro e w4 ⟨Q, V, rfl, k4, hQ, hV, l3, l4⟩; have h4 := (h3.keep (Chg.refl [] w3).drew).keep k4; have hmu : ∀ o v, (Instr.mapUpdate 182 (.map (some r)) (.int .i64 1) v).run Tryz.prog (w4.alloc o) = .ok () (updW (w4.alloc o) 182 r 1 v) := fun o v => (upd178 (h4.map.keep (Chg.alloc (S := []) w4 o) (by simp)) 1 v).1))
  have q1 := h2.map.lt
  have q2 := h2.book.2.lt
  have q3 := h2.ver.2.lt
  have h5 := h4.keep (Chg.alloc (S := []) w4 (.cells #[.int .i64 1, .int .i64 0, .int .i64 0, .int .i64 0, .pointer (some ⟨W, 0, none⟩), .pointer (some ⟨Q, 0, none⟩)] 212))
  have hT : TxAt (w4.alloc (.cells #[.int .i64 1, .int .i64 0, .int .i64 0, .int .i64 0, .pointer (some ⟨W, 0, none⟩), .pointer (some ⟨Q, 0, none⟩)] 212)) w4.heap.size W Q := heap_new w4 _
  have kx := Chg.alloc (S := []) w4 (.cells #[.int .i64 1, .int .i64 0, .int .i64 0, .int .i64 0, .pointer (some ⟨W, 0, none⟩), .pointer (some ⟨Q, 0, none⟩)] 212)
  have hW5 := hW.keep (((Chg.refl [] w3).drew.then k4).then kx) (by simp) (by simp)
  have hQ5 := kx.heap hQ (by simp)
  have hV5 := kx.heap hV (by simp)
  have kk := ((k2.mono (T := [B, rb, r]) (fun x hx _ => by simp at hx; rcases hx with rfl | rfl <;> simp)).then (k3.mono (fun x hx _ => by cases hx))).then ((((Chg.refl [] w3).drew.then k4).then kx).mono (fun x hx _ => by cases hx))
  generalize w4.alloc (.cells #[.int .i64 1, .int .i64 0, .int .i64 0, .int .i64 0, .pointer (some ⟨W, 0, none⟩), .pointer (some ⟨Q, 0, none⟩)] 212) = w5 at *
  obtain ⟨-, mm, k6⟩ := upd178 h5.map 1 (.pointer (some ⟨w4.heap.size, 0, none⟩))
  have h6 := h5.table k6 mm
  have t6 : TxAt (updW w5 182 r 1 (.pointer (some ⟨w4.heap.size, 0, none⟩))) w4.heap.size W Q := k6.heap hT (by simpa using (map_cells h5.map hT).symm)
  have nr : rw ≠ r := by omega
  have b6 := hW5.keep k6 (by simpa using (map_cells h5.map hW5.1).symm) (by simpa using nr)
  have v6 := k6.heap hQ5 (by simpa using (map_cells h5.map hQ5).symm)
  have s6 := k6.heap hV5 (by simpa using (map_cells h5.map hV5).symm)
  have kf := kk.then (k6.mono (T := [B, rb, r]) (fun x hx _ => by simp at hx; simp [hx]))
  have hb1 : w.heap.size ≤ rw := by have := k2.size; have h9 : w.drew.heap.size = w.heap.size := rfl; omega
  have hb2 : w.heap.size ≤ Q ∧ w.heap.size ≤ V := by have := k2.size; have := k3.size; have h9 : w.drew.heap.size = w.heap.size := rfl; have h8 : w3.drew.heap.size = w3.heap.size := rfl; omega
  generalize w4.heap.size = T at *
  clear hmu
  go_wp2_with fail
  go_ret2
  exact ⟨T, W, rw, Q, V, rfl, (Chg.refl [B, rb, r] w).drew.then kf, h6, ⟨t6, b6, v6, s6⟩, nr, by omega, by omega, hb1, hb2⟩
end Go.Proofs.YtliicpedddcfiaaGreat
namespace Go.Proofs.YtliicpedddcfiaaGreat
open Go.RowKit Go.Lib

set_option maxRecDepth 100000 in
theorem sbegin_any (w : World) {P N S M X rx B rb r : Nat} (hP : StoreAt w P N S (some ⟨M, 0, none⟩)) (h : Mg w M X rx B rb r 0 [] []) : Calls Tryz.prog 88 #[.pointer (some ⟨P, 0, none⟩)] w fun e w' =>
    ∃ T W rw Q V, e = .returned (.tuple #[.int .i64 1, .int .i64 0]) ∧ Chg [B, rb, r] w w' ∧ StoreAt w' P N S (some ⟨M, 0, none⟩) ∧ Mg w' M X rx B rb r 1 [(1, .int .i64 0)] [(1, .pointer (some ⟨T, 0, none⟩))] ∧ Tx w' X T W rw Q V [] (.slice none 0 0) (.slice none 0 0) ∧ rw ≠ r ∧ rw ≠ rb ∧ rw ≠ rx ∧ w.heap.size ≤ rw ∧ w.heap.size ≤ Q ∧ w.heap.size ≤ V := by
  have hne : P ∉ [B, rb, r] := by
    have a := heap_ne hP h.book.1 (by simp)
    have b := map_cells h.book.2 hP
    have c := map_cells h.map hP
    simp
    exact ⟨a, b.symm, c.symm⟩
  have c5 := (store_cells hP).2.2.2.2.2.1
  go_enter Tryz.func88, Tryz.ntmps88
  go_wp2_with fail
  refine (dead_any w hP).mono ?_
  rintro e w1 ⟨rfl, rfl⟩
  go_wp2_with fail
  refine (tbegin_any w h).mono ?_
  rintro e w1 ⟨T, W, rw, Q, V, rfl, hc, hM, hT, n1, n2, n3, n4⟩
  go_wp2_with fail
  go_ret2
  exact ⟨T, W, rw, Q, V, rfl, hc, hP.keep hc hne, hM, hT, n1, n2, n3, n4⟩
theorem lookup178 {w : World} {r : Nat} {L : List (Int × Value)} (hM : MapAt w r L) (k : Int) (c : Bool) :
    (Instr.lookup 182 (.map (some r)) (.int .i64 k) c).run Tryz.prog w = .ok (if c then .tuple #[(getL L k).getD (.pointer none), .bool (getL L k).isSome] else (getL L k).getD (.pointer none)) w :=
  run_lookup_im (mty := 182) (kt := 3) (et := 207) (by kernel_rfl) (by kernel_rfl) (by kernel_rfl) hM k c
set_option maxRecDepth 100000 in
theorem topen_one (w : World) {M X rx B rb r T W Q : Nat} {last : Int} {Lb : List (Int × Value)} (h : Mg w M X rx B rb r last Lb [(1, .pointer (some ⟨T, 0, none⟩))]) (hT : TxAt w T W Q) : Calls Tryz.prog 147 #[.pointer (some ⟨M, 0, none⟩), .int .i64 1] w fun e w' =>
    e = .returned (.pointer (some ⟨T, 0, none⟩)) ∧ w = w' := by
  have HG := Lib.hid (tgone_any w h.mgr)
  have c2 := h.cells.2.2.1
  have hl : (Instr.lookup 182 (.map (some r)) (.int .i64 1) true).run Tryz.prog w = .ok (.tuple #[.pointer (some ⟨T, 0, none⟩), .bool true]) w := lookup178 h.map 1 true
  have t0 : w.cell? ⟨T, 0, none⟩ = some (.int .i64 1) := cell_is hT 0 rfl
  clear h hT
  go_enter Tryz.func147, Tryz.ntmps147
  go_wp2_with fail
  refine HG.out.mono ?_
  rintro e w1 ⟨rfl, rfl⟩
  go_wp2_with fail
  go_ret
  exact ⟨rfl, rfl⟩
end Go.Proofs.YtliicpedddcfiaaGreat
namespace Go.Proofs.YtliicpedddcfiaaGreat
open Go.RowKit Go.Lib

set_option maxRecDepth 100000 in
theorem far_one (w : World) {W rw K D o : Nat} {L : List (Int × Value)} {b : Int} {c : Nat} (h : BufAt w W rw L) (hK : w.cell? ⟨K, 0, none⟩ = some (.pointer (some ⟨W, 0, none⟩))) (h0 : 0 ≤ b) (h1 : b < 258) :
    Calls Tryz.prog 180 #[.agg #[.int .i64 b, .slice (some ⟨D, o, none⟩) 40 c], .pointer (some ⟨K, 0, none⟩)] w fun e w' => e = .returned (.bool false) ∧ Chg [] w w' := by
  have g := heap_new w (.cells #[.int .i64 b, .slice (some ⟨D, o, none⟩) 40 c] 37)
  have kc : Chg [] w (w.alloc (.cells #[.int .i64 b, .slice (some ⟨D, o, none⟩) 40 c] 37)) := Chg.alloc w _
  have a0 : (w.alloc (.cells #[.int .i64 b, .slice (some ⟨D, o, none⟩) 40 c] 37)).cell? ⟨w.heap.size, 0, none⟩ = some (.int .i64 b) := cell_is g 0 rfl
  have a1 : (w.alloc (.cells #[.int .i64 b, .slice (some ⟨D, o, none⟩) 40 c] 37)).cell? ⟨K, 0, none⟩ = some (.pointer (some ⟨W, 0, none⟩)) := kc.cell hK (by simp)
  have a2 : (w.alloc (.cells #[.int .i64 b, .slice (some ⟨D, o, none⟩) 40 c] 37)).cell? ⟨W, 0, none⟩ = some (.int .i64 258) := cell_is (kc.heap h.1 (by simp)) 0 rfl
  clear h hK g
  have n0 : decide (b < 0) = false := decide_eq_false (by omega)
  have n1 : decide (258 ≤ b) = false := decide_eq_false (by omega)
  go_enter Tryz.func180, Tryz.ntmps180
  go_wp2_with fail
  generalize w.alloc (.cells #[.int .i64 b, .slice (some ⟨D, o, none⟩) 40 c] 37) = w1 at *
  generalize w.heap.size = z at *
  go_region_held3 (fun wx => wx.cell? ⟨z, 0, none⟩ = some (.int .i64 b) ∧ wx.cell? ⟨K, 0, none⟩ = some (.pointer (some ⟨W, 0, none⟩)) ∧ wx.cell? ⟨W, 0, none⟩ = some (.int .i64 258)) (first | (exact ⟨a0, a1, a2⟩)) (fail)
  go_wp2_with fail
  go_ret
  exact ⟨by simp, kc.drew⟩
set_option maxRecDepth 100000 in
theorem short_one (w : World) {D o : Nat} {b : Int} {c : Nat} :
    Calls Tryz.prog 181 #[.agg #[.int .i64 b, .slice (some ⟨D, o, none⟩) 40 c]] w fun e w' => e = .returned (.bool false) ∧ Chg [] w w' := by
  have g := heap_new w (.cells #[.int .i64 b, .slice (some ⟨D, o, none⟩) 40 c] 37)
  have kc : Chg [] w (w.alloc (.cells #[.int .i64 b, .slice (some ⟨D, o, none⟩) 40 c] 37)) := Chg.alloc w _
  go_enter Tryz.func181, Tryz.ntmps181
  go_wp2_with fail
  go_ret
  exact ⟨rfl, kc⟩
set_option maxRecDepth 100000 in
set_option maxHeartbeats 1000000 in
/-- IndexFunc over one put, by a function that says no. -/
theorem idxput_far (w : World) {E eo cp : Nat} {b : Int} {v : Value} {K : Nat} (e0 : w.cell? ⟨E, eo, none⟩ = some (.int .i64 b)) (e1 : w.cell? ⟨E, eo + 1, none⟩ = some v)
    (hg : Calls Tryz.prog 180 #[.agg #[.int .i64 b, v], .pointer (some ⟨K, 0, none⟩)] w fun e w' => e = .returned (.bool false) ∧ Chg [] w w') : Calls Tryz.prog 138 #[.slice (some ⟨E, eo, none⟩) 1 cp, .func (.func 180) #[] #[.pointer (some ⟨K, 0, none⟩)]] w fun e w' => e = .returned (.int .i64 (-1)) ∧ Chg [] w w' := by
  go_enter Tryz.func138, Tryz.ntmps138
  go_wp2_with fail
  go_loopw [8] (fun i wr => (i = .int .i64 0 ∧ wr = w) ∨ (i = .int .i64 1 ∧ Chg [] w wr)) (fun i _ => 1 - (intOf i).toNat)
  case atStart => exact Or.inl ⟨rfl, rfl⟩
  case round =>
    rcases hrel with ⟨rfl, rfl⟩ | ⟨rfl, hc⟩
    · go_wp2_with fail
      refine hg.mono ?_
      rintro e w2 ⟨rfl, hc⟩
      go_wp2_with fail
      go_round
      case rel => exact Or.inr ⟨rfl, hc⟩
      case measure => decide
    · go_wp2_with fail
      go_ret
      exact ⟨rfl, hc⟩
set_option maxRecDepth 100000 in
theorem contput_far (w : World) {E eo cp : Nat} {b : Int} {v : Value} {K : Nat} (e0 : w.cell? ⟨E, eo, none⟩ = some (.int .i64 b)) (e1 : w.cell? ⟨E, eo + 1, none⟩ = some v)
    (hg : Calls Tryz.prog 180 #[.agg #[.int .i64 b, v], .pointer (some ⟨K, 0, none⟩)] w fun e w' => e = .returned (.bool false) ∧ Chg [] w w') : Calls Tryz.prog 114 #[.slice (some ⟨E, eo, none⟩) 1 cp, .func (.func 180) #[] #[.pointer (some ⟨K, 0, none⟩)]] w fun e w' => e = .returned (.bool false) ∧ Chg [] w w' := by
  go_enter Tryz.func114, Tryz.ntmps114
  go_wp2_with fail
  refine (idxput_far w e0 e1 hg).mono ?_
  rintro e w2 ⟨rfl, hc⟩
  go_wp2_with fail
  go_ret
  exact ⟨rfl, hc⟩
set_option maxRecDepth 100000 in
set_option maxHeartbeats 1000000 in
/-- IndexFunc over one put, by a function that says no. -/
theorem idxput_short (w : World) {E eo cp : Nat} {b : Int} {v : Value}  (e0 : w.cell? ⟨E, eo, none⟩ = some (.int .i64 b)) (e1 : w.cell? ⟨E, eo + 1, none⟩ = some v)
    (hg : Calls Tryz.prog 181 #[.agg #[.int .i64 b, v]] w fun e w' => e = .returned (.bool false) ∧ Chg [] w w') : Calls Tryz.prog 138 #[.slice (some ⟨E, eo, none⟩) 1 cp, .func (.func 181) #[] #[]] w fun e w' => e = .returned (.int .i64 (-1)) ∧ Chg [] w w' := by
  go_enter Tryz.func138, Tryz.ntmps138
  go_wp2_with fail
  go_loopw [8] (fun i wr => (i = .int .i64 0 ∧ wr = w) ∨ (i = .int .i64 1 ∧ Chg [] w wr)) (fun i _ => 1 - (intOf i).toNat)
  case atStart => exact Or.inl ⟨rfl, rfl⟩
  case round =>
    rcases hrel with ⟨rfl, rfl⟩ | ⟨rfl, hc⟩
    · go_wp2_with fail
      refine hg.mono ?_
      rintro e w2 ⟨rfl, hc⟩
      go_wp2_with fail
      go_round
      case rel => exact Or.inr ⟨rfl, hc⟩
      case measure => decide
    · go_wp2_with fail
      go_ret
      exact ⟨rfl, hc⟩
set_option maxRecDepth 100000 in
theorem contput_short (w : World) {E eo cp : Nat} {b : Int} {v : Value}  (e0 : w.cell? ⟨E, eo, none⟩ = some (.int .i64 b)) (e1 : w.cell? ⟨E, eo + 1, none⟩ = some v)
    (hg : Calls Tryz.prog 181 #[.agg #[.int .i64 b, v]] w fun e w' => e = .returned (.bool false) ∧ Chg [] w w') : Calls Tryz.prog 114 #[.slice (some ⟨E, eo, none⟩) 1 cp, .func (.func 181) #[] #[]] w fun e w' => e = .returned (.bool false) ∧ Chg [] w w' := by
  go_enter Tryz.func114, Tryz.ntmps114
  go_wp2_with fail
  refine (idxput_short w e0 e1 hg).mono ?_
  rintro e w2 ⟨rfl, hc⟩
  go_wp2_with fail
  go_ret
  exact ⟨rfl, hc⟩
end Go.Proofs.YtliicpedddcfiaaGreat
namespace Go.Proofs.YtliicpedddcfiaaGreat
open Go.RowKit Go.Lib

theorem upd268 {w : World} {r : Nat} {L : List (Int × Value)} (hM : MapAt w r L) (k : Int) (v : Value) :
    (Instr.mapUpdate 238 (.map (some r)) (.int .i64 k) v).run Tryz.prog w = .ok () (updW w 238 r k v) ∧ MapAt (updW w 238 r k v) r (putL L k v) ∧ Chg [r] w (updW w 238 r k v) :=
  updW_is (kt := 3) (et := 3) (by kernel_rfl) (by kernel_rfl) hM k v
theorem lookup268 {w : World} {r : Nat} {L : List (Int × Value)} (hM : MapAt w r L) (k : Int) (c : Bool) :
    (Instr.lookup 238 (.map (some r)) (.int .i64 k) c).run Tryz.prog w = .ok (if c then .tuple #[(getL L k).getD (.int .i64 0), .bool (getL L k).isSome] else (getL L k).getD (.int .i64 0)) w :=
  run_lookup_im (mty := 238) (kt := 3) (et := 3) (by kernel_rfl) (by kernel_rfl) (by kernel_rfl) hM k c
set_option maxRecDepth 100000 in
set_option maxHeartbeats 1000000 in
theorem twice_one (w : World) {E eo cp : Nat} {b : Int} {D o c : Nat} (e0 : w.cell? ⟨E, eo, none⟩ = some (.int .i64 b)) (e1 : w.cell? ⟨E, eo + 1, none⟩ = some (.slice (some ⟨D, o, none⟩) 40 c)) :
    Calls Tryz.prog 182 #[.slice (some ⟨E, eo, none⟩) 1 cp] w fun e w' => e = .returned (.bool false) ∧ Chg [] w w' := by
  have hm := @run_makeMap Tryz.prog
  have k1 : Chg [] w (w.alloc (.map #[] 0)) := Chg.alloc w _
  have m1 : MapAt (w.alloc (.map #[] 0)) w.heap.size [] := ⟨#[], 0, heap_new w _, rfl, MapKept.stamped_empty 0⟩
  have a0 := k1.cell e0 (by simp)
  have a1 := k1.cell e1 (by simp)
  go_enter Tryz.func182, Tryz.ntmps182
  go_wp2_with fail
  go_step3
  go_wp2_with fail
  generalize hw1 : w.alloc (.map #[] 0) = w1 at *
  generalize hR : w.heap.size = R at *
  have k2 : Chg [] w1 (w1.alloc (.cells #[.int .i64 b, .slice (some ⟨D, o, none⟩) 40 c] 37)) := Chg.alloc w1 _
  have g2 := heap_new w1 (.cells #[.int .i64 b, .slice (some ⟨D, o, none⟩) 40 c] 37)
  have m2 : MapAt (w1.alloc (.cells #[.int .i64 b, .slice (some ⟨D, o, none⟩) 40 c] 37)) R [] := m1.keep k2 (by simp)
  have l2 : (Instr.lookup 238 (.map (some R)) (.int .i64 b) false).run Tryz.prog (w1.alloc (.cells #[.int .i64 b, .slice (some ⟨D, o, none⟩) 40 c] 37)) = .ok (.int .i64 0) (w1.alloc (.cells #[.int .i64 b, .slice (some ⟨D, o, none⟩) 40 c] 37)) := lookup268 m2 b false
  obtain ⟨u2, m3, k3⟩ := upd268 m2 b (.int .i64 1)
  have l3 : (Instr.lookup 238 (.map (some R)) (.int .i64 b) false).run Tryz.prog (updW (w1.alloc (.cells #[.int .i64 b, .slice (some ⟨D, o, none⟩) 40 c] 37)) 238 R b (.int .i64 1)) = .ok (.int .i64 1) (updW (w1.alloc (.cells #[.int .i64 b, .slice (some ⟨D, o, none⟩) 40 c] 37)) 238 R b (.int .i64 1)) := by
    rw [lookup268 m3 b false]
    simp [putL, getL]
  have hne : w1.heap.size ≠ R := by have := m1.lt; omega
  have c3 : (updW (w1.alloc (.cells #[.int .i64 b, .slice (some ⟨D, o, none⟩) 40 c] 37)) 238 R b (.int .i64 1)).cell? ⟨w1.heap.size, 0, none⟩ = some (.int .i64 b) := k3.cell (cell_is g2 0 rfl) (by simpa using hne)
  have kk : Chg [] w (updW (w1.alloc (.cells #[.int .i64 b, .slice (some ⟨D, o, none⟩) 40 c] 37)) 238 R b (.int .i64 1)) := by
    refine (k1.then k2).trans k3 ?_
    intro x hx hl
    simp at hx
    omega
  clear m1 m2 m3 g2 k2 k3 hw1
  go_step3
  go_wp2_with fail
  go_loopw [9] (fun i wr => (i = .int .i64 0 ∧ wr = w1) ∨ (i = .int .i64 1 ∧ Chg [] w wr)) (fun i _ => 1 - (intOf i).toNat)
  case atStart => exact Or.inl ⟨rfl, rfl⟩
  case round =>
    rcases hrel with ⟨rfl, rfl⟩ | ⟨rfl, hc⟩
    · go_wp2_with fail
      go_roundw
      case rel => exact Or.inr ⟨rfl, kk⟩
      case measure => decide
    · go_wp2_with fail
      simp only [Exit.noGoto]
      go_ret
      exact ⟨rfl, hc⟩
end Go.Proofs.YtliicpedddcfiaaGreat
namespace Go.Proofs.YtliicpedddcfiaaGreat
open Go.RowKit Go.Lib

theorem ty151 : Tryz.prog.underlying 121 = some (.map 3 34) := by kernel_rfl
theorem upd151 {w : World} {r : Nat} {L : List (Int × Value)} (hM : MapAt w r L) (k : Int) (v : Value) :
    (Instr.mapUpdate 121 (.map (some r)) (.int .i64 k) v).run Tryz.prog w = .ok () (updW w 121 r k v) ∧ MapAt (updW w 121 r k v) r (putL L k v) ∧ Chg [r] w (updW w 121 r k v) :=
  updW_is (kt := 3) (et := 34) (by kernel_rfl) (by kernel_rfl) hM k v
theorem lookup151 {w : World} {r : Nat} {L : List (Int × Value)} (hM : MapAt w r L) (k : Int) (c : Bool) :
    (Instr.lookup 121 (.map (some r)) (.int .i64 k) c).run Tryz.prog w = .ok (if c then .tuple #[(getL L k).getD (.slice none 0 0), .bool (getL L k).isSome] else (getL L k).getD (.slice none 0 0)) w :=
  run_lookup_im (mty := 121) (kt := 3) (et := 34) (by kernel_rfl) (by kernel_rfl) (by kernel_rfl) hM k c
/-- what a write of one put looks at. -/
structure Wr (w : World) (K W rw E eo D o c : Nat) (b : Int) (L : List (Int × Value)) (l : List UInt8) : Prop where
  k : w.cell? ⟨K, 0, none⟩ = some (.pointer (some ⟨W, 0, none⟩))
  buf : BufAt w W rw L
  e0 : w.cell? ⟨E, eo, none⟩ = some (.int .i64 b)
  e1 : w.cell? ⟨E, eo + 1, none⟩ = some (.slice (some ⟨D, o, none⟩) 40 c)
  bs : Bs w (some ⟨D, o, none⟩) l
theorem Bs.chg {w w' : World} {a : Option Addr} {l : List UInt8} (h : Bs w a l) (hc : Chg [] w w') : Bs w' a l := h.below hc.below0 (Nat.le_refl _)
theorem Wr.keep {w w' : World} {K W rw E eo D o c : Nat} {b : Int} {L : List (Int × Value)} {l : List UInt8} (h : Wr w K W rw E eo D o c b L l) (hc : Chg [] w w') : Wr w' K W rw E eo D o c b L l :=
  ⟨hc.cell h.k (by simp), h.buf.keep hc (by simp) (by simp), hc.cell h.e0 (by simp), hc.cell h.e1 (by simp), h.bs.chg hc⟩
theorem Wr.c1 {w : World} {K W rw E eo D o c : Nat} {b : Int} {L : List (Int × Value)} {l : List UInt8} (h : Wr w K W rw E eo D o c b L l) : w.cell? ⟨W, 1, none⟩ = some (.int .i64 16) := cell_is h.buf.1 1 rfl
theorem Wr.c2 {w : World} {K W rw E eo D o c : Nat} {b : Int} {L : List (Int × Value)} {l : List UInt8} (h : Wr w K W rw E eo D o c b L l) : w.cell? ⟨W, 2, none⟩ = some (.map (some rw)) := cell_is h.buf.1 2 rfl
theorem cell_map {w : World} {a K i : Nat} {v : Value} {L : List (Int × Value)} (h : MapAt w a L) (hc : w.cell? ⟨K, i, none⟩ = some v) : K ≠ a := by
  rintro rfl
  obtain ⟨es, clock, hb, -⟩ := h
  unfold World.cell? at hc
  rw [hb] at hc
  simp at hc
theorem Bs.chgT {w w' : World} {T : List Nat} {g o : Nat} {l : List UInt8} (h : Bs w (some ⟨g, o, none⟩) l) (hc : Chg T w w') (hg : g ∉ T) : Bs w' (some ⟨g, o, none⟩) l := by
  rcases h with h | ⟨b, off, he, hb, hcs⟩
  · exact Or.inl h
  · refine Or.inr ⟨b, off, he, Nat.lt_of_lt_of_le hb hc.size, fun j hj => hc.cell (hcs j hj) ?_⟩
    cases he
    exact hg
set_option maxRecDepth 100000 in
set_option maxHeartbeats 2000000 in
theorem wwrite_one (w : World) {W rw E eo cp D o c : Nat} {b : Int} {L : List (Int × Value)} {l : List UInt8} (h : BufAt w W rw L) (e0 : w.cell? ⟨E, eo, none⟩ = some (.int .i64 b)) (e1 : w.cell? ⟨E, eo + 1, none⟩ = some (.slice (some ⟨D, o, none⟩) 40 c))
    (hb : Bs w (some ⟨D, o, none⟩) l) (hl : l.length = 40) (h0 : 0 ≤ b) (h1 : b < 258) (hroom : L.length ≤ 15) : Calls Tryz.prog 149 #[.pointer (some ⟨W, 0, none⟩), .slice (some ⟨E, eo, none⟩) 1 cp] w fun e w' =>
    ∃ g c', e = .returned (.int .i64 0) ∧ Chg [rw] w w' ∧ BufAt w' W rw (putL L b (.slice (some ⟨g, 0, none⟩) 40 c')) ∧ Bs w' (some ⟨g, 0, none⟩) l ∧ Bt w' g := by
  have k1 : Chg [] w (w.alloc (.cells #[.pointer (some ⟨W, 0, none⟩)] 209)) := Chg.alloc w _
  have H : Wr (w.alloc (.cells #[.pointer (some ⟨W, 0, none⟩)] 209)) w.heap.size W rw E eo D o c b L l :=
    ⟨cell_is (heap_new w _) 0 rfl, h.keep k1 (by simp) (by simp), k1.cell e0 (by simp), k1.cell e1 (by simp), hb.chg k1⟩
  clear h hb e0 e1
  go_enter Tryz.func149, Tryz.ntmps149
  go_wp2_with fail
  generalize w.alloc (.cells #[.pointer (some ⟨W, 0, none⟩)] 209) = w1 at *
  generalize w.heap.size = K at *
  refine (contput_far w1 H.e0 H.e1 (far_one w1 H.buf H.k h0 h1)).mono ?_
  rintro e w2 ⟨rfl, k2⟩
  have H2 := H.keep k2
  have kk2 := k1.then k2
  clear H k1 k2
  go_wp2_with fail
  refine (contput_short w2 H2.e0 H2.e1 (short_one w2)).mono ?_
  rintro e w3 ⟨rfl, k3⟩
  have H3 := H2.keep k3
  have kk3 := kk2.then k3
  clear H2 kk2 k3
  go_wp2_with fail
  refine (twice_one w3 H3.e0 H3.e1).mono ?_
  rintro e w4 ⟨rfl, k4⟩
  have H4 := H3.keep k4
  have kk4 := kk3.then k4
  clear H3 kk3 k4
  have c1 := H4.c1
  have c2 := H4.c2
  have c0 := H4.k
  have hlen : (Builtin.len_ #[121] 3 #[.map (some rw)]).run Tryz.prog w4 = .ok (.int .i64 L.length) w4 := run_len_im ty151 H4.buf.2 3
  go_wp2_with fail
  have k5 : Chg [] w4 (w4.alloc (.cells #[.int .i64 b, .slice (some ⟨D, o, none⟩) 40 c] 37)) := Chg.alloc w4 _
  have g5 : (w4.alloc (.cells #[.int .i64 b, .slice (some ⟨D, o, none⟩) 40 c] 37)).cell? ⟨w4.heap.size, 0, none⟩ = some (.int .i64 b) := cell_is (heap_new w4 _) 0 rfl
  have H5 := H4.keep k5
  have d0 := H5.k
  have d2 := H5.c2
  have hlk : (Instr.lookup 121 (.map (some rw)) (.int .i64 b) true).run Tryz.prog (w4.alloc (.cells #[.int .i64 b, .slice (some ⟨D, o, none⟩) 40 c] 37)).drew = .ok (.tuple #[(getL L b).getD (.slice none 0 0), .bool (getL L b).isSome]) (w4.alloc (.cells #[.int .i64 b, .slice (some ⟨D, o, none⟩) 40 c] 37)).drew := lookup151 (w := (w4.alloc (.cells #[.int .i64 b, .slice (some ⟨D, o, none⟩) 40 c] 37)).drew) H5.buf.2 b true
  have e0 := H4.e0
  have e1 := H4.e1
  clear c0 c1 c2 hlen
  generalize hgl : getL L b = gl at *
  go_loopw [5, 37] (fun x i wr => (i = .int .i64 0 ∧ x = .int .i64 L.length ∧ wr = w4) ∨ (i = .int .i64 1 ∧ (∃ n : Nat, x = .int .i64 n ∧ n ≤ 16) ∧ Wr wr K W rw E eo D o c b L l ∧ Chg [] w wr)) (fun _ i _ => 1 - (intOf i).toNat)
  case atStart => exact Or.inl ⟨rfl, rfl, rfl⟩
  case round =>
    rcases hrel with ⟨rfl, rfl, rfl⟩ | ⟨rfl, ⟨n, rfl, hn⟩, H6, kk6⟩
    · go_wp2_with fail
      generalize wr.alloc (.cells #[.int .i64 b, .slice (some ⟨D, o, none⟩) 40 c] 37) = w5 at *
      generalize wr.heap.size = z at *
      go_region_held3 (fun wx => wx.cell? ⟨K, 0, none⟩ = some (.pointer (some ⟨W, 0, none⟩)) ∧ wx.cell? ⟨W, 2, none⟩ = some (.map (some rw)) ∧ wx.cell? ⟨z, 0, none⟩ = some (.int .i64 b)) (first | (exact ⟨d0, d2, g5⟩)) (fail)
      cases gl with
      | none =>
        go_wp2_with fail
        go_roundw
        case rel => exact Or.inr ⟨rfl, ⟨L.length + 1, by go_num, by omega⟩, H5.keep (Chg.refl [] w5).drew, kk4.then (k5.then (Chg.refl [] w5).drew)⟩
        case measure => decide
      | some y =>
        go_wp2_with fail
        go_roundw
        case rel => exact Or.inr ⟨rfl, ⟨L.length, rfl, by omega⟩, H5.keep (Chg.refl [] w5).drew, kk4.then (k5.then (Chg.refl [] w5).drew)⟩
        case measure => decide
    · have c0 := H6.k
      have c1 := H6.c1
      have hng : ¬ (16 : Int) < n := by omega
      clear H5 H4 d0 d2 hlk g5 k5 e0 e1 kk4
      go_wp2_with fail
      have k7 : Chg [] wr (wr.alloc (.cells #[.int .i64 b, .slice (some ⟨D, o, none⟩) 40 c] 37)) := Chg.alloc wr _
      have g7 : (wr.alloc (.cells #[.int .i64 b, .slice (some ⟨D, o, none⟩) 40 c] 37)).cell? ⟨wr.heap.size, 0, none⟩ = some (.int .i64 b) := cell_is (heap_new wr _) 0 rfl
      have g8 : (wr.alloc (.cells #[.int .i64 b, .slice (some ⟨D, o, none⟩) 40 c] 37)).cell? ⟨wr.heap.size, 1, none⟩ = some (.slice (some ⟨D, o, none⟩) 40 c) := cell_is (heap_new wr _) 1 rfl
      have H7 := H6.keep k7
      have d0 := H7.k
      have d2 := H7.c2
      have e0 := H6.e0
      have e1 := H6.e1
      generalize hwq : wr = wq at *
      clear c0 c1
      go_loopw [64] (fun i wr => (i = .int .i64 0 ∧ wr = wq) ∨ (i = .int .i64 1 ∧ ∃ g c', Chg [rw] w wr ∧ BufAt wr W rw (putL L b (.slice (some ⟨g, 0, none⟩) 40 c')) ∧ Bs wr (some ⟨g, 0, none⟩) l ∧ Bt wr g)) (fun i _ => 1 - (intOf i).toNat)
      case atStart => exact Or.inl ⟨rfl, rfl⟩
      case round =>
        rcases hrel with ⟨rfl, rfl⟩ | ⟨rfl, g, c', kf, hbf, hbs, hbt⟩
        · go_wp2_with fail
          generalize wr.alloc (.cells #[.int .i64 b, .slice (some ⟨D, o, none⟩) 40 c] 37) = w5 at *
          generalize wr.heap.size = z at *
          have H7d := H7.keep (Chg.refl [] w5).drew
          have hsz := H7.buf.2.lt
          go_region_held3 (fun wx => wx.cell? ⟨K, 0, none⟩ = some (.pointer (some ⟨W, 0, none⟩)) ∧ wx.cell? ⟨W, 2, none⟩ = some (.map (some rw)) ∧ wx.cell? ⟨z, 0, none⟩ = some (.int .i64 b) ∧ wx.cell? ⟨z, 1, none⟩ = some (.slice (some ⟨D, o, none⟩) 40 c))
            (first
              | (exact ⟨d0, d2, g7, g8⟩)
              | (exact ⟨H8.k, H8.c2, q7, q8⟩)
              | (exact ⟨k9.cell H8.k (by simpa using cell_map H8.buf.2 H8.k), k9.cell H8.c2 (by simpa using cell_map H8.buf.2 H8.c2), k9.cell q7 (by simpa using cell_map H8.buf.2 q7), k9.cell q8 (by simpa using cell_map H8.buf.2 q8)⟩))
            (first
              | (go_at_call 47; refine (clone_bt w5.drew (l := l) hl (by decide) (by decide) H7d.bs).mono ?_; rintro e w6 ⟨g, c', rfl, k8, hb8, l8, ht8⟩; have H8 := H7d.keep k8; have q7 : w6.cell? ⟨z, 0, none⟩ = some (.int .i64 b) := k8.cell g7 (by simp); have q8 : w6.cell? ⟨z, 1, none⟩ = some (.slice (some ⟨D, o, none⟩) 40 c) := k8.cell g8 (by simp); obtain ⟨hmu, m8, k9⟩ := upd151 H8.buf.2 b (.slice (some ⟨g, 0, none⟩) 40 c')))
          have hgr : g ≠ rw := by
            have : w5.drew.heap.size = w5.heap.size := rfl
            omega
          have kall : Chg [rw] w w6 := (kk6.then ((k7.then (Chg.refl [] w5).drew).then k8)).mono (fun x hx _ => by cases hx)
          have hbuf : BufAt (updW w6 121 rw b (.slice (some ⟨g, 0, none⟩) 40 c')) W rw (putL L b (.slice (some ⟨g, 0, none⟩) 40 c')) := ⟨k9.heap H8.buf.1 (by simpa using (map_cells H8.buf.2 H8.buf.1).symm), m8⟩
          have hbs9 := hb8.chgT k9 (by simpa using hgr)
          have hbt9 : Bt (updW w6 121 rw b (.slice (some ⟨g, 0, none⟩) 40 c')) g := by obtain ⟨cs, hcs⟩ := ht8; exact ⟨cs, k9.heap hcs (by simpa using hgr)⟩
          clear ht8
          have kf := kall.then k9
          clear hmu
          go_wp2_with fail
          go_roundw
          case rel => exact Or.inr ⟨rfl, g, c', kf, hbuf, hbs9, hbt9⟩
          case measure => decide
        · go_wp2_with fail
          go_ret
          exact ⟨g, c', rfl, kf, hbf, hbs, hbt⟩
end Go.Proofs.YtliicpedddcfiaaGreat
namespace Go.Proofs.YtliicpedddcfiaaGreat
open Go.RowKit Go.Lib

set_option maxRecDepth 100000 in
theorem twrite_one (w : World) {M X rx B rb r T W rw Q V E eo cp D o c : Nat} {last : Int} {Lb L : List (Int × Value)} {v s : Value} {b : Int} {l : List UInt8} (h : Mg w M X rx B rb r last Lb [(1, .pointer (some ⟨T, 0, none⟩))]) (hT : Tx w X T W rw Q V L v s)
    (e0 : w.cell? ⟨E, eo, none⟩ = some (.int .i64 b)) (e1 : w.cell? ⟨E, eo + 1, none⟩ = some (.slice (some ⟨D, o, none⟩) 40 c)) (hb : Bs w (some ⟨D, o, none⟩) l) (hl : l.length = 40) (h0 : 0 ≤ b) (h1 : b < 258) (hroom : L.length ≤ 15) :
    Calls Tryz.prog 128 #[.pointer (some ⟨M, 0, none⟩), .int .i64 1, .slice (some ⟨E, eo, none⟩) 1 cp] w fun e w' =>
    ∃ g c', e = .returned (.int .i64 0) ∧ Chg [rw] w w' ∧ BufAt w' W rw (putL L b (.slice (some ⟨g, 0, none⟩) 40 c')) ∧ Bs w' (some ⟨g, 0, none⟩) l ∧ Bt w' g := by
  have t4 : w.cell? ⟨T, 4, none⟩ = some (.pointer (some ⟨W, 0, none⟩)) := cell_is hT.tx 4 rfl
  have HO := Lib.hid (topen_one w h hT.tx)
  have HW := Lib.hid (wwrite_one w (cp := cp) hT.buf e0 e1 hb hl h0 h1 hroom)
  clear h hT e0 e1 hb hl
  go_enter Tryz.func128, Tryz.ntmps128
  go_wp2_with fail
  refine HO.out.mono ?_
  rintro e w1 ⟨rfl, rfl⟩
  go_wp2_with fail
  refine HW.out.mono ?_
  rintro e w1 ⟨g, c', rfl, k, hbf, hbs, hbt⟩
  go_wp2_with fail
  go_ret
  exact ⟨g, c', rfl, k, hbf, hbs, hbt⟩
set_option maxRecDepth 100000 in
theorem swrite_one (w : World) {P N S M X rx B rb r T W rw Q V E eo cp D o c : Nat} {last : Int} {Lb L : List (Int × Value)} {v s : Value} {b : Int} {l : List UInt8} (hP : StoreAt w P N S (some ⟨M, 0, none⟩)) (h : Mg w M X rx B rb r last Lb [(1, .pointer (some ⟨T, 0, none⟩))]) (hT : Tx w X T W rw Q V L v s)
    (e0 : w.cell? ⟨E, eo, none⟩ = some (.int .i64 b)) (e1 : w.cell? ⟨E, eo + 1, none⟩ = some (.slice (some ⟨D, o, none⟩) 40 c)) (hb : Bs w (some ⟨D, o, none⟩) l) (hl : l.length = 40) (h0 : 0 ≤ b) (h1 : b < 258) (hroom : L.length ≤ 15) :
    Calls Tryz.prog 90 #[.pointer (some ⟨P, 0, none⟩), .int .i64 1, .slice (some ⟨E, eo, none⟩) 1 cp] w fun e w' =>
    ∃ g c', e = .returned (.int .i64 0) ∧ Chg [rw] w w' ∧ BufAt w' W rw (putL L b (.slice (some ⟨g, 0, none⟩) 40 c')) ∧ Bs w' (some ⟨g, 0, none⟩) l ∧ Bt w' g := by
  have c5 := (store_cells hP).2.2.2.2.2.1
  have HO := Lib.hid (dead_any w hP)
  have HW := Lib.hid (twrite_one w (cp := cp) h hT e0 e1 hb hl h0 h1 hroom)
  clear h hT e0 e1 hb hl hP
  go_enter Tryz.func90, Tryz.ntmps90
  go_wp2_with fail
  refine HO.out.mono ?_
  rintro e w1 ⟨rfl, rfl⟩
  go_wp2_with fail
  refine HW.out.mono ?_
  rintro e w1 ⟨g, c', rfl, k, hbf, hbs, hbt⟩
  go_wp2_with fail
  go_ret
  exact ⟨g, c', rfl, k, hbf, hbs, hbt⟩
end Go.Proofs.YtliicpedddcfiaaGreat
namespace Go.Proofs.YtliicpedddcfiaaGreat
open Go.RowKit Go.Lib

set_option maxRecDepth 100000 in
theorem bget_none (w : World) {W rw : Nat} {L : List (Int × Value)} {b : Int} (h : BufAt w W rw L) (hg : getL L b = none) : Calls Tryz.prog 179 #[.pointer (some ⟨W, 0, none⟩), .int .i64 b] w fun e w' => e = .returned (.tuple #[.slice none 0 0, .bool false]) ∧ w = w' := by
  have c2 : w.cell? ⟨W, 2, none⟩ = some (.map (some rw)) := cell_is h.1 2 rfl
  have hl : (Instr.lookup 121 (.map (some rw)) (.int .i64 b) true).run Tryz.prog w = .ok (.tuple #[.slice none 0 0, .bool false]) w := by
    rw [lookup151 h.2 b true, hg]
    rfl
  clear h
  go_enter Tryz.func179, Tryz.ntmps179
  go_wp2_with fail
  refine (clone_nil w).mono ?_
  rintro e w1 ⟨rfl, rfl⟩
  go_wp2_with fail
  go_ret2
  exact ⟨rfl, rfl⟩
set_option maxRecDepth 100000 in
theorem bget_some (w : World) {W rw g c : Nat} {L : List (Int × Value)} {b : Int} {l : List UInt8} (h : BufAt w W rw L) (hg : getL L b = some (.slice (some ⟨g, 0, none⟩) 40 c)) (hb : Bs w (some ⟨g, 0, none⟩) l) (hl : l.length = 40) : Calls Tryz.prog 179 #[.pointer (some ⟨W, 0, none⟩), .int .i64 b] w fun e w' =>
    ∃ g' c', e = .returned (.tuple #[.slice (some ⟨g', 0, none⟩) 40 c', .bool true]) ∧ Chg [] w w' ∧ Bs w' (some ⟨g', 0, none⟩) l ∧ w.heap.size ≤ g' := by
  have c2 : w.cell? ⟨W, 2, none⟩ = some (.map (some rw)) := cell_is h.1 2 rfl
  have hlk : (Instr.lookup 121 (.map (some rw)) (.int .i64 b) true).run Tryz.prog w = .ok (.tuple #[.slice (some ⟨g, 0, none⟩) 40 c, .bool true]) w := by
    rw [lookup151 h.2 b true, hg]
    rfl
  have HC := Lib.hid (clone_bs w (c := c) hl (by decide) (by decide) hb)
  clear h hb
  go_enter Tryz.func179, Tryz.ntmps179
  go_wp2_with fail
  refine HC.out.mono ?_
  rintro e w1 ⟨g', c', rfl, hc, hb1, l1⟩
  go_wp2_with fail
  go_ret2
  exact ⟨g', c', rfl, hc, hb1, l1⟩
end Go.Proofs.YtliicpedddcfiaaGreat
namespace Go.Proofs.YtliicpedddcfiaaGreat
open Go.RowKit Go.Lib

set_option maxRecDepth 100000 in
theorem xblock_any (w : World) {X rx : Nat} {b : Int} (h : VerAt w X rx) (h0 : 0 ≤ b) (h1 : b < 258) : Calls Tryz.prog 113 #[.pointer (some ⟨X, 0, none⟩), .int .i64 b] w fun e w' => e = .returned (.bool true) ∧ w = w' := by
  have HB := Lib.hid (blocks_any w h)
  clear h
  go_enter Tryz.func113, Tryz.ntmps113
  go_wp2_with fail
  refine HB.out.mono ?_
  rintro e w1 ⟨rfl, rfl⟩
  go_wp2_with fail
  go_ret
  exact ⟨by simp, rfl⟩
set_option maxRecDepth 100000 in
set_option maxHeartbeats 1000000 in
theorem within_one (w : World) {X rx : Nat} {b : Int} (h : VerAt w X rx) (h0 : 0 ≤ b) (h1 : b < 258) : Calls Tryz.prog 193 #[.pointer (some ⟨X, 0, none⟩), .agg #[.int .i64 b, .int .i64 1]] w fun e w' => e = .returned (.bool true) ∧ Chg [] w w' := by
  have kc : Chg [] w (w.alloc (.cells #[.int .i64 b, .int .i64 1] 197)) := Chg.alloc w _
  have h2 : VerAt (w.alloc (.cells #[.int .i64 b, .int .i64 1] 197)) X rx := ⟨kc.heap h.1 (by simp), h.2.keep kc (by simp)⟩
  have a0 : (w.alloc (.cells #[.int .i64 b, .int .i64 1] 197)).cell? ⟨w.heap.size, 0, none⟩ = some (.int .i64 b) := cell_is (heap_new w _) 0 rfl
  have a1 : (w.alloc (.cells #[.int .i64 b, .int .i64 1] 197)).cell? ⟨w.heap.size, 1, none⟩ = some (.int .i64 1) := cell_is (heap_new w _) 1 rfl
  have n0 : decide (0 ≤ b) = true := decide_eq_true h0
  clear h
  go_enter Tryz.func193, Tryz.ntmps193
  go_wp2_with fail
  generalize w.alloc (.cells #[.int .i64 b, .int .i64 1] 197) = w1 at *
  generalize w.heap.size = z at *
  have h3 : VerAt w1.drew X rx := h2
  go_region_held3 (fun wx => wx.cell? ⟨z, 0, none⟩ = some (.int .i64 b) ∧ wx.cell? ⟨z, 1, none⟩ = some (.int .i64 1)) (first | (exact ⟨a0, a1⟩))
    (first | (go_at_call 137; refine (blocks_any w1.drew h3).mono ?_; rintro e w2 ⟨rfl, rfl⟩))
  all_goals
    go_wp2_with fail
    go_ret
    exact ⟨by simp [show IntKind.i64.wrap 257 = 257 by decide]; omega, kc.drew⟩
end Go.Proofs.YtliicpedddcfiaaGreat
namespace Go.Proofs.YtliicpedddcfiaaGreat
open Go.RowKit Go.Lib

theorem lookup258 {w : World} {r : Nat} {L : List (Int × Value)} (hM : MapAt w r L) (k : Int) (c : Bool) :
    (Instr.lookup 235 (.map (some r)) (.int .i64 k) c).run Tryz.prog w = .ok (if c then .tuple #[(getL L k).getD (.slice none 0 0), .bool (getL L k).isSome] else (getL L k).getD (.slice none 0 0)) w :=
  run_lookup_im (mty := 235) (kt := 3) (et := 245) (by kernel_rfl) (by kernel_rfl) (by kernel_rfl) hM k c
set_option maxRecDepth 100000 in
theorem xat_none (w : World) {X rx : Nat} {b : Int} (h : VerAt w X rx) : Calls Tryz.prog 203 #[.pointer (some ⟨X, 0, none⟩), .int .i64 b, .int .i64 0] w fun e w' => e = .returned (.int .i64 (-1)) ∧ w = w' := by
  have c1 : w.cell? ⟨X, 1, none⟩ = some (.map (some rx)) := cell_is h.1 1 rfl
  have hl : (Instr.lookup 235 (.map (some rx)) (.int .i64 b) false).run Tryz.prog w = .ok (.slice none 0 0) w := lookup258 h.2 b false
  clear h
  go_enter Tryz.func203, Tryz.ntmps203
  go_wp2_with fail
  go_step3
  go_wp2_with fail
  go_step3
  go_wp2_with fail
  go_loop [8] (fun i => i = .int .i64 (-1)) (fun _ => 0)
  case atStart => rfl
  case round =>
    subst hrel
    go_wp2_with fail
    go_ret
    exact ⟨rfl, rfl⟩
def zero40 : Array Value := (List.replicate 40 (Value.int .u8 0)).toArray
theorem make40 (w : World) : (Instr.makeSlice 34 (.int .i64 40) (.int .i64 40)).run Tryz.prog w = .ok (.slice (some ⟨w.heap.size, 0, none⟩) 40 40) (w.alloc (.cells zero40 5)) := by kernel_rfl
theorem zero40_is : zero40 = (Lib.byteCells zeroB).toArray := by kernel_rfl
set_option maxRecDepth 100000 in
theorem xget_none (w : World) {X rx : Nat} {b : Int} (h : VerAt w X rx) (h0 : 0 ≤ b) (h1 : b < 258) : Calls Tryz.prog 194 #[.pointer (some ⟨X, 0, none⟩), .int .i64 b, .int .i64 0] w fun e w' => ∃ g, e = .returned (.tuple #[.slice (some ⟨g, 0, none⟩) 40 40, .int .i64 0]) ∧ Chg [] w w' ∧ Bs w' (some ⟨g, 0, none⟩) zeroB ∧ w.heap.size ≤ g := by
  have hmk := make40
  have HB := Lib.hid (xblock_any w h h0 h1)
  have HA := Lib.hid (xat_none w (b := b) h)
  have kc : Chg [] w (w.alloc (.cells zero40 5)) := Chg.alloc w _
  have hz : Bs (w.alloc (.cells zero40 5)) (some ⟨w.heap.size, 0, none⟩) zeroB := by
    rw [zero40_is]
    exact Bs.row (heap_new w _)
  clear h
  go_enter Tryz.func194, Tryz.ntmps194
  go_wp2_with fail
  refine HB.out.mono ?_
  rintro e w1 ⟨rfl, rfl⟩
  go_wp2_with fail
  refine HA.out.mono ?_
  rintro e w1 ⟨rfl, rfl⟩
  go_wp2_with fail
  go_ret2
  exact ⟨_, rfl, kc, hz, Nat.le_refl _⟩
end Go.Proofs.YtliicpedddcfiaaGreat
namespace Go.Proofs.YtliicpedddcfiaaGreat
open Go.RowKit Go.Lib

set_option maxRecDepth 100000 in
set_option maxHeartbeats 1000000 in
theorem range_one (w : World) {X rx : Nat} {b : Int} (h : VerAt w X rx) (h0 : 0 ≤ b) (h1 : b < 258) : Calls Tryz.prog 177 #[.pointer (some ⟨X, 0, none⟩), .agg #[.int .i64 b, .int .i64 1], .int .i64 0] w fun e w' =>
    ∃ g c', e = .returned (.tuple #[.slice (some ⟨g, 0, none⟩) 40 c', .int .i64 0]) ∧ 40 ≤ c' ∧ Chg [] w w' ∧ w'.ownsRow w.heap.size 5 1 (.slice (some ⟨g, 0, none⟩) 40 c') 40 (Lib.byteCells zeroB) := by
  have kc : Chg [] w (w.alloc (.cells #[.int .i64 b, .int .i64 1] 197)) := Chg.alloc w _
  have h2 : VerAt (w.alloc (.cells #[.int .i64 b, .int .i64 1] 197)) X rx := ⟨kc.heap h.1 (by simp), h.2.keep kc (by simp)⟩
  have a0 : (w.alloc (.cells #[.int .i64 b, .int .i64 1] 197)).cell? ⟨w.heap.size, 0, none⟩ = some (.int .i64 b) := cell_is (heap_new w _) 0 rfl
  have a1 : (w.alloc (.cells #[.int .i64 b, .int .i64 1] 197)).cell? ⟨w.heap.size, 1, none⟩ = some (.int .i64 1) := cell_is (heap_new w _) 1 rfl
  clear h
  go_enter Tryz.func177, Tryz.ntmps177
  go_wp2_with fail
  generalize w.alloc (.cells #[.int .i64 b, .int .i64 1] 197) = w1 at *
  generalize hz : w.heap.size = z at *
  refine (within_one w1 h2 h0 h1).mono ?_
  rintro e w2 ⟨rfl, k2⟩
  have h3 : VerAt w2 X rx := ⟨k2.heap h2.1 (by simp), h2.2.keep k2 (by simp)⟩
  have b0 := k2.cell a0 (by simp)
  have b1 := k2.cell a1 (by simp)
  have kk := kc.then k2
  have hs2 := kk.size
  clear h2 a0 a1 kc k2
  go_wp2_with fail
  go_loopw [6, 17] (fun v i wr => (i = .int .i64 0 ∧ v = .slice none 0 0 ∧ wr = w2) ∨ (i = .int .i64 1 ∧ Chg [] w wr ∧ wr.ownsRow z 5 1 v 40 (Lib.byteCells zeroB))) (fun _ i _ => 1 - (intOf i).toNat)
  case atStart => exact Or.inl ⟨rfl, rfl, rfl⟩
  case round =>
    rcases hrel with ⟨rfl, rfl, rfl⟩ | ⟨rfl, k5, ho⟩
    · go_wp2_with fail
      refine (xget_none wr h3 h0 h1).mono ?_
      rintro e w3 ⟨g, rfl, k3, hb3, l3⟩
      have hs3 : z ≤ w3.heap.size := Nat.le_trans (by omega) k3.size
      have HB3 := Lib.hid hb3
      clear hb3
      go_wp2_with (at_builtin; refine wpList_append_bs rfl (.tmp 30) (.tmp 31) 34 5 rfl ty23 inf5c z _ 0 [] rfl (World.ownsRow_nil _ _ _ _) _ 40 40 zeroB rfl rfl HB3.out (by omega) hs3 ?_; intro v1 w4 h4)
      go_roundw
      case rel => exact Or.inr ⟨rfl, Chg.of_below ((kk.then k3).below0.trans (by rw [hz]; exact h4.2.1)), by simpa using h4.1⟩
      case measure => decide
    · go_wp2_with fail
      go_ret2
      rcases ho.2 with ⟨e, h0⟩ | ⟨g, cap, cur, e, hA, hr⟩
      · cases h0
      · subst hz
        refine ⟨g, cap, by rw [e]; rfl, ?_, k5, by rw [← e]; exact ho⟩
        have := own_form ho
        obtain ⟨pa, c, h5, h6⟩ := this
        rw [e] at h5
        cases h5
        exact h6
end Go.Proofs.YtliicpedddcfiaaGreat
namespace Go.Proofs.YtliicpedddcfiaaGreat
open Go.RowKit Go.Lib

set_option maxRecDepth 100000 in
set_option maxHeartbeats 1000000 in
/-- IndexFunc over one put, by a function that says no. -/
theorem idxspan_one (w : World) {E eo cp : Nat} {b : Int} {n : Int}  (e0 : w.cell? ⟨E, eo, none⟩ = some (.int .i64 b)) (e1 : w.cell? ⟨E, eo + 1, none⟩ = some (.int .i64 n))
    (hg : Calls Tryz.prog 205 #[.agg #[.int .i64 b, .int .i64 n]] w fun e w' => e = .returned (.bool false) ∧ Chg [] w w') : Calls Tryz.prog 217 #[.slice (some ⟨E, eo, none⟩) 1 cp, .func (.func 205) #[] #[]] w fun e w' => e = .returned (.int .i64 (-1)) ∧ Chg [] w w' := by
  go_enter Tryz.func217, Tryz.ntmps217
  go_wp2_with fail
  go_loopw [8] (fun i wr => (i = .int .i64 0 ∧ wr = w) ∨ (i = .int .i64 1 ∧ Chg [] w wr)) (fun i _ => 1 - (intOf i).toNat)
  case atStart => exact Or.inl ⟨rfl, rfl⟩
  case round =>
    rcases hrel with ⟨rfl, rfl⟩ | ⟨rfl, hc⟩
    · go_wp2_with fail
      refine hg.mono ?_
      rintro e w2 ⟨rfl, hc⟩
      go_wp2_with fail
      go_round
      case rel => exact Or.inr ⟨rfl, hc⟩
      case measure => decide
    · go_wp2_with fail
      go_ret
      exact ⟨rfl, hc⟩
set_option maxRecDepth 100000 in
theorem contspan_one (w : World) {E eo cp : Nat} {b : Int} {n : Int}  (e0 : w.cell? ⟨E, eo, none⟩ = some (.int .i64 b)) (e1 : w.cell? ⟨E, eo + 1, none⟩ = some (.int .i64 n))
    (hg : Calls Tryz.prog 205 #[.agg #[.int .i64 b, .int .i64 n]] w fun e w' => e = .returned (.bool false) ∧ Chg [] w w') : Calls Tryz.prog 204 #[.slice (some ⟨E, eo, none⟩) 1 cp, .func (.func 205) #[] #[]] w fun e w' => e = .returned (.bool false) ∧ Chg [] w w' := by
  go_enter Tryz.func204, Tryz.ntmps204
  go_wp2_with fail
  refine (idxspan_one w e0 e1 hg).mono ?_
  rintro e w2 ⟨rfl, hc⟩
  go_wp2_with fail
  go_ret
  exact ⟨rfl, hc⟩
set_option maxRecDepth 100000 in
theorem imay_one (w : World) {b : Int} (h0 : 0 ≤ b) (h1 : b < 258) : Calls Tryz.prog 206 #[.agg #[.int .i64 b, .int .i64 1]] w fun e w' => e = .returned (.bool true) ∧ Chg [] w w' := by
  have kc : Chg [] w (w.alloc (.cells #[.int .i64 b, .int .i64 1] 197)) := Chg.alloc w _
  have n0 : decide (0 ≤ b) = true := decide_eq_true h0
  have n1 : decide (b ≤ 1048576) = true := decide_eq_true (by omega)
  have n2 : decide (b + 1 ≤ 1048576) = true := decide_eq_true (by omega)
  go_enter Tryz.func206, Tryz.ntmps206
  go_wp2_with fail
  go_ret
  exact ⟨by first | rfl | (simp; omega), kc⟩
set_option maxRecDepth 100000 in
theorem inot_one (w : World) {b : Int} (h0 : 0 ≤ b) (h1 : b < 258) : Calls Tryz.prog 205 #[.agg #[.int .i64 b, .int .i64 1]] w fun e w' => e = .returned (.bool false) ∧ Chg [] w w' := by
  have kc : Chg [] w (w.alloc (.cells #[.int .i64 b, .int .i64 1] 197)) := Chg.alloc w _
  go_enter Tryz.func205, Tryz.ntmps205
  go_wp2_with fail
  refine (imay_one _ h0 h1).mono ?_
  rintro e w2 ⟨rfl, k2⟩
  go_wp2_with fail
  go_ret
  exact ⟨rfl, kc.then k2⟩
set_option maxRecDepth 100000 in
theorem iall_one (w : World) {E eo cp : Nat} {b : Int} (h0 : 0 ≤ b) (h1 : b < 258) (e0 : w.cell? ⟨E, eo, none⟩ = some (.int .i64 b)) (e1 : w.cell? ⟨E, eo + 1, none⟩ = some (.int .i64 1)) : Calls Tryz.prog 195 #[.slice (some ⟨E, eo, none⟩) 1 cp] w fun e w' => e = .returned (.bool true) ∧ Chg [] w w' := by
  go_enter Tryz.func195, Tryz.ntmps195
  go_wp2_with fail
  refine (contspan_one w e0 e1 (inot_one w h0 h1)).mono ?_
  rintro e w2 ⟨rfl, k2⟩
  go_wp2_with fail
  go_ret
  exact ⟨rfl, k2⟩
end Go.Proofs.YtliicpedddcfiaaGreat
namespace Go.Proofs.YtliicpedddcfiaaGreat
open Go.RowKit Go.Lib

/-- the cells of spans. -/
def spCells (l : List (Int × Int)) : List Value := l.flatMap fun p => [.int .i64 p.1, .int .i64 p.2]
theorem spCells_len (l : List (Int × Int)) : (spCells l).length = l.length * 2 := by
  induction l with
  | nil => rfl
  | cons p l ih => simp only [spCells, List.flatMap_cons, List.length_append, List.length_cons, List.length_nil] at ih ⊢; omega
theorem spCells_one (l : List (Int × Int)) : ∀ u ∈ spCells l, u.oneCell' = true := by
  intro u hu
  simp only [spCells, List.mem_flatMap, List.mem_cons, List.not_mem_nil, or_false] at hu
  obtain ⟨p, _, rfl | rfl⟩ := hu <;> rfl
/-- spans lie here. -/
def Sp (w : World) (b o : Nat) (l : List (Int × Int)) : Prop := ∀ j u, (spCells l)[j]? = some u → w.cell? ⟨b, o + j, none⟩ = some u
theorem Sp.keep {w w' : World} {b o : Nat} {l : List (Int × Int)} (h : Sp w b o l) (hc : Chg [] w w') : Sp w' b o l := fun j u hu => hc.cell (h j u hu) (by simp)
theorem ty217 : Tryz.prog.underlying 311 = some (.slice 197) := by kernel_rfl
theorem inf117 : (Tryz.prog.info? 197).map (fun i => (i.zero, i.size, i.bytes)) = some (some (.agg #[.int .i64 0, .int .i64 0]), 2, 16) := by kernel_rfl
/-- spans are put behind spans of an own row. -/
theorem append_sp_own (w : World) (ty base : Nat) (v : Value) (n : Nat) (xs l : List (Int × Int)) (hown : w.ownsRow base 197 2 v n (spCells xs)) (b o m c : Nat) (hl : l.length = m) (hs : Sp w b o l) (hn : n + m ≤ 1000000) (hbase : base ≤ w.heap.size) :
    ∃ v' w', (Builtin.append_ #[311, 311] ty #[v, .slice (some ⟨b, o, none⟩) m c]).run Tryz.prog w = .ok v' w' ∧ AppendedV base 197 2 w v (n + m) (spCells (xs ++ l)) v' w' := by
  obtain ⟨i, hi0, hz, hz1, hz2⟩ := info_parts inf117
  obtain ⟨v', w', h2, h3, h4, _⟩ := run_append_own (P := Tryz.prog) w base 311 ty 197 i (.agg #[.int .i64 0, .int .i64 0]) 2 16 ty217 hi0 hz hz1 hz2 rfl (by decide) v n (spCells xs) hown ⟨b, o, none⟩ m c (spCells l) (by rw [spCells_len, hl])
    (fun j u hu => by
      have ha : (⟨b, o, none⟩ : Addr).add j = ⟨b, o + j, none⟩ := by unfold Addr.add; split <;> simp_all
      rw [ha]; exact hs j u hu) (spCells_one l) (by unfold maxLen; omega) (by omega) hbase
  exact ⟨v', w', h2, by rw [show spCells (xs ++ l) = spCells xs ++ spCells l by simp [spCells]]; exact h3, below_grown hown h4 hbase, h4⟩
theorem wpList_append_sp {ops : Array Oper} {rest : List Oper} {o : Oper} {a : Act} {w : World} {Q : Exit → Act → World → Prop} (hg : o.guard = none) (s x : Operand)
    (ho : o.op = .call { callee := .builtin .append, args := #[s, x], argTypes := #[311, 311] }) (base : Nat) (v : Value) (n : Nat) (xs l : List (Int × Int)) (hs : a.eval s = v) (hown : w.ownsRow base 197 2 v n (spCells xs))
    (b eo m c : Nat) (hx : a.eval x = .slice (some ⟨b, eo, none⟩) m c) (hl : l.length = m) (hr : Sp w b eo l) (hn : n + m ≤ 1000000) (hbase : base ≤ w.heap.size)
    (h : ∀ v' w', AppendedV base 197 2 w v (n + m) (spCells (xs ++ l)) v' w' → wpList Tryz.prog ops Q rest (a.put o.dst v') w') : wpList Tryz.prog ops Q (o :: rest) a w := by
  obtain ⟨v', w', h1, h2⟩ := append_sp_own w o.type base v n xs l hown b eo m c hl hr hn hbase
  exact Lib.wpList_append_run w hg s x 311 311 ho v (.slice (some ⟨b, eo, none⟩) m c) hs hx v' w' h1 (h v' w' h2)
theorem own_empty2 (w : World) : (w.alloc (.cells #[] 197)).ownsRow w.heap.size 197 2 (.slice (some ⟨w.heap.size, 0, none⟩) 0 0) 0 (spCells []) := by
  refine ⟨rfl, Or.inr ⟨w.heap.size, 0, #[], rfl, Nat.le_refl _, ?_⟩⟩
  simp
  exact ⟨(Array.getElem?_eq_some_iff.1 (heap_new w (.cells #[] 197))).2, rfl⟩
set_option maxRecDepth 100000 in
set_option maxHeartbeats 1000000 in
theorem clone_sp (w : World) {D o c m : Nat} {l : List (Int × Int)} (hl : l.length = m) (hm0 : 0 < m) (hm1 : m ≤ 1000) (hb : Sp w D o l) : Calls Tryz.prog 207 #[.slice (some ⟨D, o, none⟩) m c] w fun e w' =>
    ∃ v, e = .returned v ∧ Chg [] w w' ∧ w'.ownsRow w.heap.size 197 2 v m (spCells l) := by
  have hn : ∀ w, (binOp .eql 311 (.slice (some ⟨D, o, none⟩) m c) (.slice none 0 0)).run Tryz.prog w = .ok (.bool false) w := fun w => Lib.run_eql_slice_nil w 311 197 _ _ _ 0 0 ty217
  have HB := Lib.hid hb
  have HL := Lib.hid hl
  clear hb hl
  go_enter Tryz.func207, Tryz.ntmps207
  go_wp2_with (first | (at_builtin; refine wpList_append_sp rfl (.tmp 5) (.tmp 6) rfl w.heap.size _ 0 [] l rfl (own_empty2 w) D o m c rfl HL.out (HB.out.keep (Chg.alloc w _)) (by omega) (by simp) ?_; intro v1 w1 h1))
  go_ret
  exact ⟨v1, rfl, Chg.of_below ((Below.of_alloc w _).trans h1.2.1), by simpa using h1.1⟩
end Go.Proofs.YtliicpedddcfiaaGreat
namespace Go.Proofs.YtliicpedddcfiaaGreat
open Go.RowKit Go.Lib

/-- spans lie here, or there are none. -/
def SpQ (w : World) (pa : Option Addr) (l : List (Int × Int)) : Prop := (l = [] ∧ pa = none) ∨ ∃ b o, pa = some ⟨b, o, none⟩ ∧ Sp w b o l
theorem SpQ.keep {w w' : World} {pa : Option Addr} {l : List (Int × Int)} (h : SpQ w pa l) (hc : Chg [] w w') : SpQ w' pa l := by
  rcases h with h | ⟨b, o, h1, h2⟩
  · exact Or.inl h
  · exact Or.inr ⟨b, o, h1, h2.keep hc⟩
set_option maxRecDepth 100000 in
set_option maxHeartbeats 1000000 in
theorem grow_nil (w : World) {k : Nat} (h0 : 0 < k) (h1 : k ≤ 1000) : Calls Tryz.prog 211 #[.slice none 0 0, .int .i64 k] w fun e w' => ∃ v, e = .returned v ∧ Chg [] w w' ∧ w'.ownsRow w.heap.size 197 2 v 0 (spCells []) := by
  obtain ⟨i, hi0, hz, hz1, hz2⟩ := info_parts inf117
  have hr := fun ty => run_append_nil_zeros (P := Tryz.prog) w 311 3 ty 197 i (.agg #[.int .i64 0, .int .i64 0]) .i64 .i64 ty217 (by kernel_rfl) hi0 hz k h0 (by omega) (by omega) (by rw [hz2]; omega)
  have hge := grownCap_ge w k 0 197
  have hle := grownCap_le_maxLen w k 0 197 (by unfold maxLen; omega)
  have hsz : (Builtin.zeroCells (Value.agg #[.int .i64 0, .int .i64 0]).cells k ++ Builtin.zeroCells (Value.agg #[.int .i64 0, .int .i64 0]).cells (grownCap w k 0 197 - k)).size = grownCap w k 0 197 * 2 := by
    simp only [Array.size_append, size_zeroCells, Value.cells]
    simp
    omega
  generalize (Builtin.zeroCells (Value.agg #[.int .i64 0, .int .i64 0]).cells k ++ Builtin.zeroCells (Value.agg #[.int .i64 0, .int .i64 0]).cells (grownCap w k 0 197 - k)) = Z at *
  generalize grownCap w k 0 197 = G at *
  clear hi0 hz hz1 hz2
  have hk : ¬ ((k : Int) < 0) := by omega
  have hk2 : (k : Int) > 0 := by omega
  have hG63 : G ≤ 9223372036854775807 := by unfold maxLen at hle; omega
  have hf : (w.drew.alloc (.cells Z 197)).ownsRow w.heap.size 197 2 (.slice (some ⟨w.heap.size, 0, none⟩) 0 G) 0 (spCells []) := by
    refine ⟨rfl, Or.inr ⟨w.heap.size, G, Z, rfl, Nat.le_refl _, heap_new w.drew _, Nat.zero_le _, hle, hsz, by simp [spCells]⟩⟩
  have kc : Chg [] w (w.drew.alloc (.cells Z 197)) := (Chg.refl [] w).drew.then_alloc _
  go_enter Tryz.func211, Tryz.ntmps211
  go_wp2_with (at_builtin; refine Lib.wpList_append_run (w := w) rfl (.tmp 20) (.tmp 21) 311 3 rfl (.slice none 0 0) (.int .i64 k) rfl rfl _ _ (hr _) ?_)
  go_ret
  exact ⟨_, rfl, kc, hf⟩
theorem append_sp_q (w : World) (ty base : Nat) (v : Value) (n : Nat) (xs l : List (Int × Int)) (hown : w.ownsRow base 197 2 v n (spCells xs)) (pa : Option Addr) (m c : Nat) (hl : l.length = m) (hs : SpQ w pa l) (hn : n + m ≤ 1000000) (hbase : base ≤ w.heap.size) :
    ∃ v' w', (Builtin.append_ #[311, 311] ty #[v, .slice pa m c]).run Tryz.prog w = .ok v' w' ∧ AppendedV base 197 2 w v (n + m) (spCells (xs ++ l)) v' w' := by
  rcases hs with ⟨rfl, rfl⟩ | ⟨b, o, rfl, hs⟩
  · obtain rfl : 0 = m := hl
    obtain ⟨i, hi0, hz, hz1, hz2⟩ := info_parts inf117
    refine ⟨v, w, ?_, by simpa using hown, Below.refl _ _, World.grownBy.refl w _⟩
    rcases hown.2 with ⟨rfl, rfl⟩ | ⟨g, cap, cur, rfl, _, _, hnc, _⟩
    · simp [Builtin.append_, run_underlying ty217, sizeOf, typeInfo, hi0, Builtin.lenOf, Builtin.firstCells]
    · simp [Builtin.append_, run_underlying ty217, sizeOf, typeInfo, hi0, Builtin.lenOf, Builtin.firstCells, hnc, storeCells]
  · exact append_sp_own w ty base v n xs l hown b o m c hl hs hn hbase
theorem wpList_append_spq {ops : Array Oper} {rest : List Oper} {o : Oper} {a : Act} {w : World} {Q : Exit → Act → World → Prop} (hg : o.guard = none) (s x : Operand)
    (ho : o.op = .call { callee := .builtin .append, args := #[s, x], argTypes := #[311, 311] }) (base : Nat) (v : Value) (n : Nat) (xs l : List (Int × Int)) (hs : a.eval s = v) (hown : w.ownsRow base 197 2 v n (spCells xs))
    (pa : Option Addr) (m c : Nat) (hx : a.eval x = .slice pa m c) (hl : l.length = m) (hr : SpQ w pa l) (hn : n + m ≤ 1000000) (hbase : base ≤ w.heap.size)
    (h : ∀ v' w', AppendedV base 197 2 w v (n + m) (spCells (xs ++ l)) v' w' → wpList Tryz.prog ops Q rest (a.put o.dst v') w') : wpList Tryz.prog ops Q (o :: rest) a w := by
  obtain ⟨v', w', h1, h2⟩ := append_sp_q w o.type base v n xs l hown pa m c hl hr hn hbase
  exact Lib.wpList_append_run w hg s x 311 311 ho v (.slice pa m c) hs hx v' w' h1 (h v' w' h2)
set_option maxRecDepth 100000 in
set_option maxHeartbeats 2000000 in
theorem concat_two (w : World) {E cp m c m2 c2 : Nat} {pa pb : Option Addr} {l l2 : List (Int × Int)} (e0 : w.cell? ⟨E, 0, none⟩ = some (.slice pa m c)) (e1 : w.cell? ⟨E, 1, none⟩ = some (.slice pb m2 c2)) (hl : l.length = m) (hl2 : l2.length = m2) (hm : m ≤ 100) (hm2 : m2 ≤ 100) (hm0 : 0 < m + m2)
    (hs : SpQ w pa l) (hs2 : SpQ w pb l2) : Calls Tryz.prog 197 #[.slice (some ⟨E, 0, none⟩) 2 cp] w fun e w' => ∃ v, e = .returned v ∧ Chg [] w w' ∧ w'.ownsRow w.heap.size 197 2 v (m + m2) (spCells (l ++ l2)) := by
  have HS := Lib.hid hs
  have HS2 := Lib.hid hs2
  have HL := Lib.hid hl
  have HL2 := Lib.hid hl2
  clear hs hs2 hl hl2
  go_enter Tryz.func197, Tryz.ntmps197
  go_wp2_with fail
  go_loop [3, 11] (fun s i => (i = .int .i64 0 ∧ s = .int .i64 0) ∨ (i = .int .i64 1 ∧ s = .int .i64 m) ∨ (i = .int .i64 2 ∧ s = .int .i64 ((m + m2 : Nat) : Int))) (fun _ i => 2 - (intOf i).toNat)
  case atStart => exact Or.inl ⟨rfl, rfl⟩
  case round =>
    rcases hrel with ⟨rfl, rfl⟩ | ⟨rfl, rfl⟩ | ⟨rfl, rfl⟩
    · go_wp2_with fail
      go_round
      case rel => exact Or.inr (Or.inl ⟨rfl, by go_num⟩)
      case measure => decide
    · go_wp2_with fail
      go_round
      case rel => exact Or.inr (Or.inr ⟨rfl, by go_num⟩)
      case measure => decide
    · go_wp2_with fail
      refine (grow_nil w hm0 (by omega)).mono ?_
      rintro e w1 ⟨v0, rfl, kc, ho0⟩
      have E0 := Lib.hid e0
      have E1 := Lib.hid e1
      have f0 := kc.cell e0 (by simp)
      have HA := Lib.hid (HS.out.keep kc)
      have hsz := kc.size
      clear e0 e1
      go_wp2_with fail
      go_loopw [6, 27] (fun v i wr => (i = .int .i64 0 ∧ v = v0 ∧ wr = w1) ∨ (i = .int .i64 1 ∧ Chg [] w wr ∧ wr.ownsRow w.heap.size 197 2 v m (spCells l)) ∨ (i = .int .i64 2 ∧ Chg [] w wr ∧ wr.ownsRow w.heap.size 197 2 v (m + m2) (spCells (l ++ l2)))) (fun _ i _ => 2 - (intOf i).toNat)
      case atStart => exact Or.inl ⟨rfl, rfl, rfl⟩
      case round =>
        rcases hrel with ⟨rfl, rfl, rfl⟩ | ⟨rfl, k1, o1⟩ | ⟨rfl, k1, o1⟩
        · go_wp2_with (at_builtin; refine wpList_append_spq rfl (.tmp 31) (.tmp 32) rfl w.heap.size _ 0 [] l rfl ho0 pa m c rfl HL.out HA.out (by omega) hsz ?_; intro v1 w2 h1)
          go_roundw
          case rel => exact Or.inr (Or.inl ⟨rfl, Chg.of_below (kc.below0.trans h1.2.1), by simpa using h1.1⟩)
          case measure => decide
        · have f1 := k1.cell E1.out (by simp)
          have HB := Lib.hid (HS2.out.keep k1)
          have hsz1 := k1.size
          clear f0
          go_wp2_with (at_builtin; refine wpList_append_spq rfl (.tmp 31) (.tmp 32) rfl w.heap.size _ m l l2 rfl o1 pb m2 c2 rfl HL2.out HB.out (by omega) hsz1 ?_; intro v1 w2 h1)
          go_roundw
          case rel => exact Or.inr (Or.inr ⟨rfl, Chg.of_below (k1.below0.trans h1.2.1), h1.1⟩)
          case measure => decide
        · go_wp2_with fail
          go_ret
          exact ⟨_, rfl, k1, o1⟩
end Go.Proofs.YtliicpedddcfiaaGreat
namespace Go.Proofs.YtliicpedddcfiaaGreat
open Go.Shelf Go.RowKit Go.Lib Go.Sort

/-- a span's two cells. -/
def encSp (x : Int × Int) : List Value := [.int .i64 x.1, .int .i64 x.2]
set_option maxRecDepth 100000 in
set_option maxHeartbeats 1000000 in
theorem closure247 (x y : Int × Int) (W : World) : Calls Tryz.prog 209 #[.agg #[.int .i64 x.1, .int .i64 x.2], .agg #[.int .i64 y.1, .int .i64 y.2]] W fun e w' => e = .returned (.int .i64 (Lib.compareInt x.1 y.1)) ∧ ∃ q os', w' = grow (W.drewN q) os' := by
  have hcon := fun W' => AnyG.cmp_Compare_int Tryz.cmpInt x.1 y.1 W'
  change ∀ W', Calls Tryz.prog 210 _ _ _ at hcon
  generalize Lib.compareInt x.1 y.1 = r at hcon ⊢
  go_enter Tryz.func209, Tryz.ntmps209
  go_wp2_with (go_at_call 210; refine (hcon _).mono ?_; rintro e w' ⟨rfl, rfl⟩)
  go_ret
  exact ⟨rfl, 0, _, by rw [alloc_eq_grow, alloc_eq_grow, grow_grow]; rfl⟩
theorem cmpLays247 (blk off size : Nat) (w : World) : CmpLays Tryz.prog 209 #[] encSp 2 (fun x y => Lib.compareInt x.1 y.1) blk off size w :=
  fun _ _ _ _ x y => closure247 x y _
theorem hlen2 (n : Nat) (W : World) (h : n ≤ 12) : Calls Tryz.prog 141 #[.int .u64 n] W fun e w' => (∃ l : Int, e = .returned (.int .i64 l)) ∧ w' = W :=
  (Any.bits_Len Tryz.bitsLen2 n W (by omega) (by omega)).mono fun _ _ ⟨he, hw⟩ => ⟨⟨_, he⟩, hw⟩
theorem isAgg117 (w : World) : (isAgg 197).run Tryz.prog w = .ok true w := by kernel_rfl
theorem sizeOf117 (w : World) : (Go.sizeOf 197).run Tryz.prog w = .ok 2 w := by kernel_rfl
theorem spCells_get (l : List (Int × Int)) (j : Nat) (h : j < l.length * 2) : (spCells l)[j]? = some ((encSp l.toArray[j / 2]!)[j % 2]!) := by
  induction l generalizing j with
  | nil => simp at h
  | cons p l ih =>
    have e : spCells (p :: l) = .int .i64 p.1 :: .int .i64 p.2 :: spCells l := rfl
    rw [e]
    match j with
    | 0 => simp [encSp]
    | 1 => simp [encSp]
    | j + 2 =>
      have := ih j (by simp only [List.length_cons] at h; omega)
      rw [List.getElem?_cons_succ, List.getElem?_cons_succ, this]
      have e1 : (j + 2) / 2 = j / 2 + 1 := by omega
      have e2 : (j + 2) % 2 = j % 2 := by omega
      rw [e1, e2]
      simp
theorem chg_mapBlock (w : World) (g : Nat) (f : Array Value → Array Value) : Chg [g] w (mapBlock w g f) :=
  ⟨rfl, rfl, rfl, by simp [mapBlock], fun k _ hs => by
    have : g ≠ k := by intro e; exact hs (by rw [e]; simp)
    simp [mapBlock, Array.getElem?_modify, this]⟩
theorem chg_grow {S : List Nat} (w : World) (os : Array Obj) : Chg S w (grow w os) :=
  ⟨rfl, rfl, rfl, by simp, fun k hk _ => heap_grow_old w os hk⟩
theorem chg_ahead {S : List Nat} (w : World) (n : Nat) : Chg S w (Sort.ahead w n) := ⟨rfl, rfl, rfl, Nat.le_refl _, fun _ _ _ => rfl⟩
theorem size_insInner {α : Type} [Inhabited α] (lt : α → α → Bool) (a : Nat) : ∀ (j : Nat) (d : Array α), (insInner lt a j d).size = d.size := by
  intro j
  induction j with
  | zero => intro d; rfl
  | succ j ih =>
    intro d
    simp only [insInner]
    split
    · rw [ih]; simp [swp]
    · rfl
theorem size_insOuter {α : Type} [Inhabited α] (lt : α → α → Bool) (a b : Nat) : ∀ (n i : Nat) (d : Array α), b - i ≤ n → (insOuter lt a b i d).size = d.size := by
  intro n
  induction n with
  | zero =>
    intro i d h
    rw [insOuter, if_neg (by omega)]
  | succ n ih =>
    intro i d h
    rw [insOuter]
    split
    · rw [ih _ _ (by omega), size_insInner]
    · rfl
set_option maxRecDepth 100000 in
theorem sort_sp (w : World) {g n cap : Nat} {cur : Array Value} {l : List (Int × Int)} (hb : w.heap[g]? = some (.cells cur 197 (0, 0))) (hs : Sp w g 0 l) (hl : l.length = n) (hn : n ≤ 12) :
    Calls Tryz.prog 208 #[.slice (some ⟨g, 0, none⟩) n cap, .func (.func 209) #[] #[]] w fun e w' => e = .returned (.tuple #[]) ∧ Chg [g] w w' ∧ ∃ l', l'.length = n ∧ Sp w' g 0 l' := by
  have eg : ∀ args w, (callFunc 209 args).run Tryz.prog w = .ok (.enter 209 args) w := enters_of Tryz.func209 (by kernel_rfl) rfl
  have hH : HoldsK encSp 2 w g 0 l.toArray := by
    intro j hj
    rw [size_flatK] at hj
    rw [get_flatK encSp 2 l.toArray j hj]
    exact ⟨hs j _ (spCells_get l j (by simpa using hj)), unfrozen hb _⟩
  have hcon := AnyQ.slices_SortFunc_small Tryz.sortSp 2 isAgg117 sizeOf117 encSp (fun _ => rfl) (fun x v hv => by simp [encSp] at hv; rcases hv with rfl | rfl <;> rfl) (fun x y => Lib.compareInt x.1 y.1) 209 #[] g 0 cap l.toArray w eg (cmpLays247 g 0 l.toArray.size w) hH (heap_lt hb) (by simpa [hl] using hn) hlen2
  change Calls Tryz.prog 208 _ _ _ at hcon
  have hz : l.toArray.size = n := by simpa using hl
  rw [hz] at hcon
  refine hcon.mono ?_
  rintro e w' ⟨rfl, m, os, rfl⟩
  have hsz : (Sort.insertionSort (ltOf fun x y : Int × Int => Lib.compareInt x.1 y.1) l.toArray 0 n).size = l.toArray.size := size_insOuter _ _ _ n _ _ (by omega)
  have hH2 := holdsK_sortWorldK_c encSp 2 w g 0 l.toArray _ m os hH (heap_lt hb) hsz
  refine ⟨rfl, ?_, (Sort.insertionSort (ltOf fun x y : Int × Int => Lib.compareInt x.1 y.1) l.toArray 0 n).toList, by simpa [hl] using hsz, ?_⟩
  · exact ((chg_ahead w m).then (chg_mapBlock _ g _)).then (chg_grow _ os)
  · intro j u hu
    have hj : j < (Sort.insertionSort (ltOf fun x y : Int × Int => Lib.compareInt x.1 y.1) l.toArray 0 n).size * 2 := by
      rcases Nat.lt_or_ge j ((Sort.insertionSort (ltOf fun x y : Int × Int => Lib.compareInt x.1 y.1) l.toArray 0 n).size * 2) with h | h
      · exact h
      · rw [List.getElem?_eq_none (by rw [spCells_len]; simpa using h)] at hu; cases hu
    rw [spCells_get _ j (by simpa using hj)] at hu
    have h2 := (hH2 j (by rw [size_flatK]; exact hj)).1
    rw [get_flatK encSp 2 _ j hj] at h2
    rw [h2]
    simpa using hu
end Go.Proofs.YtliicpedddcfiaaGreat
namespace Go.Proofs.YtliicpedddcfiaaGreat
open Go.RowKit Go.Lib

theorem add_lit (b o j : Nat) : (⟨b, o, none⟩ : Addr).add j = ⟨b, o + j, none⟩ := by unfold Addr.add; split <;> simp_all
theorem own_sp {w : World} {base n : Nat} {v : Value} {xs : List (Int × Int)} (h : w.ownsRow base 197 2 v n (spCells xs)) (hn : 0 < n) :
    ∃ g cap cur, v = .slice (some ⟨g, 0, none⟩) n cap ∧ base ≤ g ∧ w.heap[g]? = some (.cells cur 197 (0, 0)) ∧ Sp w g 0 xs ∧ n ≤ cap ∧ xs.length = n := by
  have hl := h.1
  rw [spCells_len] at hl
  rcases h.2 with ⟨rfl, h0⟩ | ⟨g, cap, cur, hv, hb, hg, hc, hm, hs, ht⟩
  · omega
  · subst hv
    exact ⟨g, cap, cur, rfl, hb, hg, fun j u hu => by have := h.cells (g := g) rfl j u hu; rw [add_lit] at this; exact this, hc, by omega⟩
theorem sp_at {w : World} {b o : Nat} {l : List (Int × Int)} (h : Sp w b o l) (i : Nat) (hi : i < l.length) : w.cell? ⟨b, o + i * 2, none⟩ = some (.int .i64 l[i].1) ∧ w.cell? ⟨b, o + (i * 2 + 1), none⟩ = some (.int .i64 l[i].2) := by
  have e1 : (i * 2) / 2 = i := by omega
  have e2 : (i * 2) % 2 = 0 := by omega
  have e3 : (i * 2 + 1) / 2 = i := by omega
  have e4 : (i * 2 + 1) % 2 = 1 := by omega
  have h1 := h (i * 2) _ (spCells_get l (i * 2) (by omega))
  have h2 := h (i * 2 + 1) _ (spCells_get l (i * 2 + 1) (by omega))
  rw [e1, e2] at h1
  rw [e3, e4] at h2
  simp [hi, encSp] at h1 h2
  exact ⟨h1, h2⟩
theorem spCells_set (xs : List (Int × Int)) (j : Nat) (h : j < xs.length) (z : Int) : (spCells xs).set (j * 2 + 1) (.int .i64 z) = spCells (xs.set j (xs[j].1, z)) := by
  induction xs generalizing j with
  | nil => simp at h
  | cons p l ih =>
    cases j with
    | zero => rfl
    | succ j =>
      have h' : j < l.length := by simpa using h
      have := ih j h'
      have e : ∀ q : Int × Int, ∀ m, spCells (q :: m) = .int .i64 q.1 :: .int .i64 q.2 :: spCells m := fun _ _ => rfl
      rw [List.set_cons_succ, e, e, show (j + 1) * 2 + 1 = (j * 2 + 1) + 1 + 1 by omega, List.set_cons_succ, List.set_cons_succ, this]
      rfl
theorem own_set {w : World} {base n g cap : Nat} {xs : List (Int × Int)} (h : w.ownsRow base 197 2 (.slice (some ⟨g, 0, none⟩) n cap) n (spCells xs)) (j : Nat) (hj : j < xs.length) (z : Int) :
    (w.setCell ⟨g, j * 2 + 1, none⟩ (.int .i64 z)).ownsRow base 197 2 (.slice (some ⟨g, 0, none⟩) n cap) n (spCells (xs.set j (xs[j].1, z))) := by
  have hl := h.1
  rw [spCells_len] at hl
  rcases h.2 with ⟨e, h0⟩ | ⟨g', cap', cur, hv, hb, hg, hc, hm, hs, ht⟩
  · cases e
  · cases hv
    refine ⟨by rw [spCells_len, List.length_set]; exact hl, Or.inr ⟨g, cap, cur.setIfInBounds (j * 2 + 1) (.int .i64 z), rfl, hb, heap_set hg _ _ rfl, hc, hm, by simpa using hs, ?_⟩⟩
    rw [← spCells_set xs j hj z, ← ht, Array.toList_setIfInBounds, List.take_set]
theorem ownsRow_chg {w w' : World} {S : List Nat} {base n e size : Nat} {v : Value} {xs : List Value} (h : w.ownsRow base e size v n xs) (hc : Chg S w w') (hS : ∀ x ∈ S, x < base := by simp) : w'.ownsRow base e size v n xs := by
  refine ⟨h.1, ?_⟩
  rcases h.2 with hn | ⟨g, cap, cur, hv, hb, hg, rest⟩
  · exact Or.inl hn
  · exact Or.inr ⟨g, cap, cur, hv, hb, hc.heap hg (fun hm => by have := hS g hm; omega), rest⟩
theorem ownsRow_base {w : World} {b base n e size : Nat} {v : Value} {xs : List Value} (h : w.ownsRow base e size v n xs) (hb : b ≤ base) : w.ownsRow b e size v n xs := by
  refine ⟨h.1, ?_⟩
  rcases h.2 with hn | ⟨g, cap, cur, hv, h1, hg, rest⟩
  · exact Or.inl hn
  · exact Or.inr ⟨g, cap, cur, hv, Nat.le_trans hb h1, hg, rest⟩
theorem sp_new (w : World) (a b : Int) : Sp (w.alloc (.cells #[.int .i64 a, .int .i64 b] 197)) w.heap.size 0 [(a, b)] := by
  have h := heap_new w (.cells #[.int .i64 a, .int .i64 b] 197)
  intro j u hu
  rw [Nat.zero_add]
  match j with
  | 0 => cases hu; exact cell_is h 0 rfl
  | 1 => cases hu; exact cell_is h 1 rfl
  | j + 2 => simp [spCells] at hu
set_option maxRecDepth 100000 in
set_option maxHeartbeats 2000000 in
theorem joined_any (w : World) {g0 o0 n cp : Nat} {l : List (Int × Int)} (hl : l.length = n) (h0 : 0 < n) (h1 : n ≤ 12) (hs : Sp w g0 o0 l) : Calls Tryz.prog 196 #[.slice (some ⟨g0, o0, none⟩) n cp] w fun e w' =>
    ∃ v k l', e = .returned v ∧ Chg [] w w' ∧ k ≤ n ∧ l'.length = k ∧ w'.ownsRow w.heap.size 197 2 v k (spCells l') := by
  go_enter Tryz.func196, Tryz.ntmps196
  go_wp2_with fail
  go_step3
  go_wp2_with fail
  refine (clone_sp w hl h0 (by omega) hs).mono ?_
  rintro e w1 ⟨v, rfl, k1, o1⟩
  obtain ⟨g, cap, cur, rfl, hg0, hb1, hs1, hcap, -⟩ := own_sp o1 h0
  clear o1
  go_wp2_with fail
  refine (sort_sp w1 (cap := cap) hb1 hs1 hl h1).mono ?_
  rintro e w2 ⟨rfl, k2, l2, hl2, hs2⟩
  have k3 : Chg [] w w2 := k1.trans k2 (fun x hx hlt => by simp at hx; omega)
  have hw := k3.size
  have HL2 := Lib.hid hl2
  clear hb1 hs1 hl hs k1 k2 hl2
  go_wp2_with fail
  go_step3
  go_wp2_with fail
  go_loopw [2, 12] (fun v i wr => ∃ iq k xs, i = .int .i64 ((iq : Nat) : Int) ∧ iq ≤ n ∧ k ≤ iq ∧ Chg [] w2 wr ∧ ((v = .slice none 0 0 ∧ k = 0 ∧ xs = []) ∨ (0 < k ∧ wr.ownsRow w2.heap.size 197 2 v k (spCells xs)))) (fun _ i _ => n - (intOf i).toNat)
  case atStart => exact ⟨0, 0, [], rfl, Nat.zero_le _, Nat.le_refl _, Chg.refl _ _, Or.inl ⟨rfl, rfl, rfl⟩⟩
  case round =>
    obtain ⟨iq, k, xs, rfl, hi, hk, kr, hv⟩ := hrel
    rcases Nat.lt_or_ge iq n with hlt | hge
    · have hS := hs2.keep kr
      obtain ⟨c0, c1⟩ := sp_at hS iq (by have := HL2.out; omega)
      generalize (l2[iq]'(by have := HL2.out; omega)).1 = a at *
      generalize (l2[iq]'(by have := HL2.out; omega)).2 = b at *
      simp only [Nat.zero_add] at c0 c1
      have hlt' : (iq : Int) < n := by omega
      rcases hv with ⟨rfl, rfl, rfl⟩ | ⟨hk0, ho⟩
      · go_wp2_with fail
        have kz : Chg [] wr (wr.alloc (.cells #[.int .i64 a, .int .i64 b] 197)) := Chg.alloc wr _
        have z0 := heap_new wr (.cells #[.int .i64 a, .int .i64 b] 197)
        generalize hw5 : wr.alloc (.cells #[.int .i64 a, .int .i64 b] 197) = w5 at *
        generalize wr.heap.size = z at *
        have d0 : w5.cell? ⟨z, 0, none⟩ = some (.int .i64 a) := cell_is z0 0 rfl
        have d1 : w5.cell? ⟨z, 1, none⟩ = some (.int .i64 b) := cell_is z0 1 rfl
        go_quiet (fail)
        have kw : Chg [] w2 ((w5.drewN nq).alloc (.cells #[.int .i64 a, .int .i64 b] 197)) := ((kr.then kz).drewN nq).then_alloc _
        have hsz := kw.size
        have hnw := Lib.hid (sp_new (w5.drewN nq) a b)
        go_wp2_with (at_builtin; refine wpList_append_sp rfl (.tmp 58) (.tmp 60) rfl w2.heap.size _ 0 [] [(a, b)] rfl (World.ownsRow_nil _ _ _ _) (w5.drewN nq).heap.size 0 1 1 rfl rfl hnw.out (by omega) hsz ?_; intro v1 w6 h6)
        go_roundw
        case rel => exact ⟨iq + 1, 1, _, by go_num, hlt, by omega, Chg.of_below (kw.below0.trans h6.2.1), Or.inr ⟨by omega, h6.1⟩⟩
        case measure => simp [intOf]; omega
      · obtain ⟨hb, cap', cur', rfl, hhb, hhc, hhs, hcc, hxl⟩ := own_sp ho hk0
        obtain ⟨k', rfl⟩ : ∃ k', k = k' + 1 := ⟨k - 1, by omega⟩
        obtain ⟨p0, q0⟩ := sp_at hhs k' (by omega)
        simp only [Nat.zero_add] at p0 q0
        obtain ⟨p, hp⟩ : ∃ p, p = (xs[k']'(by omega)).1 := ⟨_, rfl⟩
        obtain ⟨q, hq⟩ : ∃ q, q = (xs[k']'(by omega)).2 := ⟨_, rfl⟩
        rw [← hp] at p0
        rw [← hq] at q0
        clear hp hq
        go_wp2_with fail
        have kz : Chg [] wr (wr.alloc (.cells #[.int .i64 a, .int .i64 b] 197)) := Chg.alloc wr _
        have z0 := heap_new wr (.cells #[.int .i64 a, .int .i64 b] 197)
        generalize hw5 : wr.alloc (.cells #[.int .i64 a, .int .i64 b] 197) = w5 at *
        generalize wr.heap.size = z at *
        have d0 : w5.cell? ⟨z, 0, none⟩ = some (.int .i64 a) := cell_is z0 0 rfl
        have d1 : w5.cell? ⟨z, 1, none⟩ = some (.int .i64 b) := cell_is z0 1 rfl
        have p1 := kz.cell p0 (by simp)
        have q1 := kz.cell q0 (by simp)
        go_quiet (fail)
        by_cases hle : a ≤ wrap64 (p + q)
        · go_wp2_with fail
          have p2 : (w5.drewN nq).cell? ⟨hb, k' * 2, none⟩ = some (.int .i64 p) := p1
          have q2 : (w5.drewN nq).cell? ⟨hb, k' * 2 + 1, none⟩ = some (.int .i64 q) := q1
          have f2 : (w5.drewN nq).frozen? ⟨hb, k' * 2 + 1, none⟩ = false := unfrozen (kz.heap hhc (by simp)) _
          have d2 : (w5.drewN nq).cell? ⟨z, 0, none⟩ = some (.int .i64 a) := d0
          have d3 : (w5.drewN nq).cell? ⟨z, 1, none⟩ = some (.int .i64 b) := d1
          have hkk : (k' : Int) < k' + 1 := by omega
          have k6 : Chg [] w2 (w5.drewN nq) := (kr.then kz).drewN nq
          have hd6 : (w5.drewN nq).drew.ownsRow w2.heap.size 197 2 (.slice (some ⟨hb, 0, none⟩) (k' + 1) cap') (k' + 1) (spCells xs) := ownsRow_chg ho ((kz.drewN nq).drew)
          clear d0 d1 p1 q1
          generalize w5.drewN nq = w6 at *
          go_still_tail 21, (by kernel_rfl)
          change wpList _ _ _ _ _ w6.drew
          have HS := Lib.hid (fun z => own_set hd6 k' (by omega) z)
          have k7 : Chg [] w2 w6.drew := k6.drew
          have q7 : w6.drew.cell? ⟨hb, k' * 2 + 1, none⟩ = some (.int .i64 q) := q2
          have f7 : w6.drew.frozen? ⟨hb, k' * 2 + 1, none⟩ = false := f2
          generalize w6.drew = w7 at *
          go_wp2_with fail
          go_roundw
          case rel => exact ⟨iq + 1, k' + 1, _, by go_num, hlt, by omega, k7.new_set hhb _ _, Or.inr ⟨by omega, HS.out _⟩⟩
          case measure => simp [intOf]; omega
        · have kw : Chg [] w2 ((w5.drewN nq).alloc (.cells #[.int .i64 a, .int .i64 b] 197)) := ((kr.then kz).drewN nq).then_alloc _
          have ow : ((w5.drewN nq).alloc (.cells #[.int .i64 a, .int .i64 b] 197)).ownsRow w2.heap.size 197 2 (.slice (some ⟨hb, 0, none⟩) (k' + 1) cap') (k' + 1) (spCells xs) := ownsRow_chg ho ((kz.drewN nq).then_alloc _)
          have hsz := kw.size
          have hnw := Lib.hid (sp_new (w5.drewN nq) a b)
          go_wp2_with (at_builtin; refine wpList_append_sp rfl (.tmp 58) (.tmp 60) rfl w2.heap.size _ (k' + 1) xs [(a, b)] rfl ow (w5.drewN nq).heap.size 0 1 1 rfl rfl hnw.out (by omega) hsz ?_; intro v1 w6 h6)
          go_roundw
          case rel => exact ⟨iq + 1, k' + 2, _, by go_num, hlt, by omega, Chg.of_below (kw.below0.trans h6.2.1), Or.inr ⟨by omega, h6.1⟩⟩
          case measure => simp [intOf]; omega
    · obtain rfl : iq = n := by omega
      have hnl : ¬ ((iq : Int) < iq) := by omega
      rcases hv with ⟨rfl, rfl, rfl⟩ | ⟨hk0, ho⟩
      · go_wp2_with fail
        go_ret
        exact ⟨_, 0, [], rfl, k3.then kr, Nat.zero_le _, rfl, World.ownsRow_nil _ _ _ _⟩
      · go_wp2_with fail
        go_ret
        exact ⟨_, k, xs, rfl, k3.then kr, hk, by have := ho.1; rw [spCells_len] at this; omega, ownsRow_base ho hw⟩
end Go.Proofs.YtliicpedddcfiaaGreat
