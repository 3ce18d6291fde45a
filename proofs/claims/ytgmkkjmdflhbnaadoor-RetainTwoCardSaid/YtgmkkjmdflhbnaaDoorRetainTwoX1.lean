/- Texts of the proof, joined: Shelf, Tab, Leaf, Tr, RtIo. -/
import Derived.Shelf.Small.Bits
import Derived.Shelf.Small.Strs
import Derived.Shelf.Utf8.RuneCount
import Derived.Shelf.Strconv.Itoa0
import Derived.Shelf.Strings.Search1
import Derived.Shelf.Strings.Search2
import Derived.Shelf.Strings.Search3
import Derived.Shelf.Strings.Count
import Derived.Shelf.LaysM
import Derived.Shelf.Strings.Shaped
import Derived.Shelf.Strings.Split
import Derived.Shelf.Strings.SplitShaped
import Derived.Shelf.Unicode.Decode
import Derived.Shelf.Strings.RuneCount
import Derived.Shelf.Strings.Explode
import Derived.Shelf.Unicode.DecodeSlow
import Derived.Shelf.Unicode.DecodeAny
import Derived.Shelf.SlSortCmp.WholeK
import Derived.Shelf.SlSortCmp.NoneTotal
import Derived.Shelf.SlGeneric
import Derived.Ground.SlsfProg
import Derived.Test.YtgmkkjmdflhbnaaDoorProg
import Derived.Test.YtgmkkjmdflhbnaaDoorM1
import Derived.Test.YtgmkkjmdflhbnaaDoorM4
import Derived.Lib.Bytealg
import Derived.Test.YtgmkkjmdflhbnaaDoorM3
import Derived.Test.YtgmkkjmdflhbnaaDoorM5
set_option linter.unusedVariables false
set_option linter.unusedSimpArgs false
set_option linter.unnecessarySimpa false
section
namespace Go.Proofs
open Go.Shelf
def Tryd.lays106_ren : Go.Shelf.Ren := ⟨fun | 106 => 37 | 213 => 58 | 265 => 80 | n => n, fun | 9 => 9 | 3 => 3 | n => n, fun | n => n⟩
theorem Tryd.lays106 : Go.Proofs.Lays.n106 Tryd.prog Tryd.lays106_ren := {
  mixed := by kernel_rfl
  f106 := Tryd.func37.trans (congrArg some (by kernel_rfl))
  f213 := Tryd.func58.trans (congrArg some (by kernel_rfl))
  f265 := Tryd.func80.trans (congrArg some (by kernel_rfl))
  t3 := Tryd.underlying3
  a3 := Tryd.isAgg3
  z3 := Tryd.sizeOf3
  v3 := Tryd.zeroValue3
  t9 := Tryd.underlying9
  a9 := Tryd.isAgg9
  z9 := Tryd.sizeOf9
  v9 := Tryd.zeroValue9 }
def Tryd.lays138_ren : Go.Shelf.Ren := ⟨fun | 138 => 92 | 195 => 95 | 218 => 97 | 143 => 93 | 219 => 98 | 217 => 100 | 225 => 101 | 224 => 102 | 267 => 103 | 266 => 104 | 314 => 105 | n => n, fun | 9 => 9 | 3 => 3 | 4 => 4 | 5 => 5 | 0 => 0 | 46 => 89 | 146 => 126 | 51 => 103 | n => n, fun | 1 => 0 | n => n⟩
theorem Tryd.lays138 : Go.Proofs.Lays.n138 Tryd.prog Tryd.lays138_ren := {
  mixed := by kernel_rfl
  f138 := Tryd.func92.trans (congrArg some (by kernel_rfl))
  f143 := Tryd.func93.trans (congrArg some (by kernel_rfl))
  f195 := Tryd.func95.trans (congrArg some (by kernel_rfl))
  f217 := Tryd.func100.trans (congrArg some (by kernel_rfl))
  f218 := Tryd.func97.trans (congrArg some (by kernel_rfl))
  f219 := Tryd.func98.trans (congrArg some (by kernel_rfl))
  f224 := Tryd.func102.trans (congrArg some (by kernel_rfl))
  f225 := Tryd.func101.trans (congrArg some (by kernel_rfl))
  f266 := Tryd.func104.trans (congrArg some (by kernel_rfl))
  f267 := Tryd.func103.trans (congrArg some (by kernel_rfl))
  f314 := Tryd.func105.trans (congrArg some (by kernel_rfl))
  t0 := Tryd.underlying0
  a0 := Tryd.isAgg0
  z0 := Tryd.sizeOf0
  v0 := Tryd.zeroValue0
  t3 := Tryd.underlying3
  a3 := Tryd.isAgg3
  z3 := Tryd.sizeOf3
  v3 := Tryd.zeroValue3
  t4 := Tryd.underlying4
  a4 := Tryd.isAgg4
  z4 := Tryd.sizeOf4
  v4 := Tryd.zeroValue4
  t5 := Tryd.underlying5
  a5 := Tryd.isAgg5
  z5 := Tryd.sizeOf5
  v5 := Tryd.zeroValue5
  t9 := Tryd.underlying9
  a9 := Tryd.isAgg9
  z9 := Tryd.sizeOf9
  v9 := Tryd.zeroValue9
  t46 := Tryd.underlying89
  a46 := Tryd.isAgg89
  z46 := Tryd.sizeOf89
  v46 := Tryd.zeroValue89
  t51 := Tryd.underlying103
  a51 := Tryd.isAgg103
  z51 := Tryd.sizeOf103
  v51 := Tryd.zeroValue103
  t146 := Tryd.underlying126
  a146 := Tryd.isAgg126
  z146 := Tryd.sizeOf126
  v146 := Tryd.zeroValue126
  g1 := by kernel_rfl }
def Tryd.lays219_ren : Go.Shelf.Ren := ⟨fun | 219 => 98 | 217 => 100 | 225 => 101 | 224 => 102 | 267 => 103 | 266 => 104 | 314 => 105 | n => n, fun | 9 => 9 | 3 => 3 | 4 => 4 | 5 => 5 | 46 => 89 | 146 => 126 | 51 => 103 | n => n, fun | 1 => 0 | n => n⟩
theorem Tryd.lays219 : Go.Proofs.Lays.n219 Tryd.prog Tryd.lays219_ren := {
  mixed := by kernel_rfl
  f217 := Tryd.func100.trans (congrArg some (by kernel_rfl))
  f219 := Tryd.func98.trans (congrArg some (by kernel_rfl))
  f224 := Tryd.func102.trans (congrArg some (by kernel_rfl))
  f225 := Tryd.func101.trans (congrArg some (by kernel_rfl))
  f266 := Tryd.func104.trans (congrArg some (by kernel_rfl))
  f267 := Tryd.func103.trans (congrArg some (by kernel_rfl))
  f314 := Tryd.func105.trans (congrArg some (by kernel_rfl))
  t3 := Tryd.underlying3
  a3 := Tryd.isAgg3
  z3 := Tryd.sizeOf3
  v3 := Tryd.zeroValue3
  t4 := Tryd.underlying4
  a4 := Tryd.isAgg4
  z4 := Tryd.sizeOf4
  v4 := Tryd.zeroValue4
  t5 := Tryd.underlying5
  a5 := Tryd.isAgg5
  z5 := Tryd.sizeOf5
  v5 := Tryd.zeroValue5
  t9 := Tryd.underlying9
  a9 := Tryd.isAgg9
  z9 := Tryd.sizeOf9
  v9 := Tryd.zeroValue9
  t46 := Tryd.underlying89
  a46 := Tryd.isAgg89
  z46 := Tryd.sizeOf89
  v46 := Tryd.zeroValue89
  t51 := Tryd.underlying103
  a51 := Tryd.isAgg103
  z51 := Tryd.sizeOf103
  v51 := Tryd.zeroValue103
  t146 := Tryd.underlying126
  a146 := Tryd.isAgg126
  z146 := Tryd.sizeOf126
  v146 := Tryd.zeroValue126
  g1 := by kernel_rfl }
open Go.RowKit in
theorem Tryd.strings_Compare (a b : ByteArray) (w : World) :
    Calls Tryd.prog 37 #[.string a, .string b] w fun e w' => e = .returned (.int .i64 (Lib.compareBytes a.data.toList b.data.toList)) ∧ w' = w := Any.strings_Compare Tryd.lays106 a b w
open Go.RowKit Go.Lib in
theorem Tryd.stringslite_Index_one (s : ByteArray) (c : UInt8) (w : World) :
    Calls Tryd.prog 98 #[.string s, .string ⟨#[c]⟩] w fun e w' => e = .returned (.int .i64 (Lib.indexByte s.data.toList c)) ∧ w' = w := Any.stringslite_Index_one Tryd.lays219 s c w
open Go.RowKit Go.Lib in
theorem Tryd.strings_Count_one (s : ByteArray) (c : UInt8) (w : World) :
    Calls Tryd.prog 92 #[.string s, .string ⟨#[c]⟩] w fun e w' => e = .returned (.int .i64 (Lib.countByte s.data.toList c)) ∧ w' = w := Any.strings_Count_one Tryd.lays138 s c w
def Tryd.sortM_ren : Go.Shelf.Ren := ⟨fun | 6 => 35 | 15 => 57 | 14 => 56 | 28 => 78 | 29 => 79 | 20 => 70 | 21 => 71 | 22 => 72 | 23 => 73 | 24 => 74 | 25 => 75 | 26 => 76 | 27 => 77 | 46 => 86 | 47 => 87 | 48 => 88 | 49 => 89 | 50 => 90 | 57 => 94 | n => n, fun | 22 => 25 | 24 => 32 | 25 => 72 | 3 => 3 | 39 => 89 | 0 => 0 | 53 => 103 | 55 => 105 | 4 => 4 | 46 => 96 | 45 => 95 | 50 => 100 | 5 => 5 | 9 => 9 | 66 => 108 | 70 => 112 | 76 => 115 | 77 => 116 | n => n, fun | n => n⟩
theorem Tryd.sortM : Go.Proofs.SlLaysF0.n6 Tryd.prog Tryd.sortM_ren := {
  mixed := by kernel_rfl
  f6 := ⟨Tryd.f35.name, by decide, Tryd.func35.trans (congrArg some (by kernel_rfl))⟩
  f14 := ⟨Tryd.f56.name, by decide, Tryd.func56.trans (congrArg some (by kernel_rfl))⟩
  f15 := Tryd.func57.trans (congrArg some (by kernel_rfl))
  f20 := ⟨Tryd.f70.name, by decide, Tryd.func70.trans (congrArg some (by kernel_rfl))⟩
  f21 := ⟨Tryd.f71.name, by decide, Tryd.func71.trans (congrArg some (by kernel_rfl))⟩
  f22 := ⟨Tryd.f72.name, by decide, Tryd.func72.trans (congrArg some (by kernel_rfl))⟩
  f23 := ⟨Tryd.f73.name, by decide, Tryd.func73.trans (congrArg some (by kernel_rfl))⟩
  f24 := ⟨Tryd.f74.name, by decide, Tryd.func74.trans (congrArg some (by kernel_rfl))⟩
  f25 := ⟨Tryd.f75.name, by decide, Tryd.func75.trans (congrArg some (by kernel_rfl))⟩
  f26 := ⟨Tryd.f76.name, by decide, Tryd.func76.trans (congrArg some (by kernel_rfl))⟩
  f27 := ⟨Tryd.f77.name, by decide, Tryd.func77.trans (congrArg some (by kernel_rfl))⟩
  f28 := Tryd.func78.trans (congrArg some (by kernel_rfl))
  f29 := Tryd.func79.trans (congrArg some (by kernel_rfl))
  f46 := ⟨Tryd.f86.name, by decide, Tryd.func86.trans (congrArg some (by kernel_rfl))⟩
  f47 := Tryd.func87.trans (congrArg some (by kernel_rfl))
  f48 := Tryd.func88.trans (congrArg some (by kernel_rfl))
  f49 := ⟨Tryd.f89.name, by decide, Tryd.func89.trans (congrArg some (by kernel_rfl))⟩
  f50 := ⟨Tryd.f90.name, by decide, Tryd.func90.trans (congrArg some (by kernel_rfl))⟩
  f57 := ⟨Tryd.f94.name, by decide, Tryd.func94.trans (congrArg some (by kernel_rfl))⟩
  t0 := Tryd.underlying0
  a0 := Tryd.isAgg0
  z0 := Tryd.sizeOf0
  v0 := Tryd.zeroValue0
  t3 := Tryd.underlying3
  a3 := Tryd.isAgg3
  z3 := Tryd.sizeOf3
  v3 := Tryd.zeroValue3
  t4 := Tryd.underlying4
  a4 := Tryd.isAgg4
  z4 := Tryd.sizeOf4
  v4 := Tryd.zeroValue4
  t5 := Tryd.underlying5
  a5 := Tryd.isAgg5
  z5 := Tryd.sizeOf5
  v5 := Tryd.zeroValue5
  t9 := Tryd.underlying9
  a9 := Tryd.isAgg9
  z9 := Tryd.sizeOf9
  v9 := Tryd.zeroValue9
  t22 := Tryd.underlying25
  a22 := Tryd.isAgg25
  z22 := Tryd.sizeOf25
  v22 := Tryd.zeroValue25
  t25 := Tryd.underlying72
  a25 := Tryd.isAgg72
  z25 := Tryd.sizeOf72
  v25 := Tryd.zeroValue72
  t39 := Tryd.underlying89
  a39 := Tryd.isAgg89
  z39 := Tryd.sizeOf89
  v39 := Tryd.zeroValue89
  t45 := Tryd.underlying95
  a45 := Tryd.isAgg95
  z45 := Tryd.sizeOf95
  v45 := Tryd.zeroValue95
  t46 := Tryd.underlying96
  a46 := Tryd.isAgg96
  z46 := Tryd.sizeOf96
  v46 := Tryd.zeroValue96
  t50 := Tryd.underlying100
  a50 := Tryd.isAgg100
  z50 := Tryd.sizeOf100
  v50 := Tryd.zeroValue100
  t53 := Tryd.underlying103
  a53 := Tryd.isAgg103
  z53 := Tryd.sizeOf103
  v53 := Tryd.zeroValue103
  t55 := Tryd.underlying105
  a55 := Tryd.isAgg105
  z55 := Tryd.sizeOf105
  v55 := Tryd.zeroValue105
  t66 := Tryd.underlying108
  a66 := Tryd.isAgg108
  z66 := Tryd.sizeOf108
  v66 := Tryd.zeroValue108
  t70 := Tryd.underlying112
  a70 := Tryd.isAgg112
  z70 := Tryd.sizeOf112
  v70 := Tryd.zeroValue112
  t76 := Tryd.underlying115
  a76 := Tryd.isAgg115
  z76 := Tryd.sizeOf115
  v76 := Tryd.zeroValue115
  t77 := Tryd.underlying116
  a77 := Tryd.isAgg116
  z77 := Tryd.sizeOf116
  v77 := Tryd.zeroValue116 }
end Go.Proofs
end
section
namespace Go.Proofs.YtgmkkjmdflhbnaaDoor.Ab
open Go
set_option maxRecDepth 100000
def tys : List TI := [
  { k := TK.tuple [], size := 1, bytes := 0, shape := [CK.other] },
  { k := TK.func, size := 1, bytes := 8, shape := [CK.func] },
  { k := TK.int IntKind.i64, size := 1, bytes := 8, shape := [CK.int IntKind.i64] },
  { k := TK.int IntKind.i64, size := 1, bytes := 8, shape := [CK.int IntKind.i64] },
  { k := TK.bool, size := 1, bytes := 1, shape := [CK.bool] },
  { k := TK.int IntKind.u8, size := 1, bytes := 1, shape := [CK.int IntKind.u8] },
  { k := TK.int IntKind.u8, size := 1, bytes := 1, shape := [CK.int IntKind.u8] },
  { k := TK.struct [(0, 2), (1, 3), (2, 4), (3, 6)], size := 4, bytes := 24, shape := [CK.int IntKind.i64, CK.int IntKind.i64, CK.bool, CK.int IntKind.u8] },
  { k := TK.struct [(0, 2), (1, 3), (2, 4), (3, 6)], size := 4, bytes := 24, shape := [CK.int IntKind.i64, CK.int IntKind.i64, CK.bool, CK.int IntKind.u8] },
  { k := TK.str, size := 1, bytes := 16, shape := [CK.str] },
  { k := TK.str, size := 1, bytes := 16, shape := [CK.str] },
  { k := TK.str, size := 1, bytes := 16, shape := [CK.str] },
  { k := TK.int IntKind.u64, size := 1, bytes := 8, shape := [CK.int IntKind.u64] },
  { k := TK.struct [(0, 9), (1, 12)], size := 2, bytes := 24, shape := [CK.str, CK.int IntKind.u64] },
  { k := TK.struct [(0, 9), (1, 12)], size := 2, bytes := 24, shape := [CK.str, CK.int IntKind.u64] },
  { k := TK.ptr 130, size := 1, bytes := 8, shape := [CK.ptr] },
  { k := TK.ptr 133, size := 1, bytes := 8, shape := [CK.ptr] },
  { k := TK.ptr 141, size := 1, bytes := 8, shape := [CK.ptr] },
  { k := TK.struct [(0, 17)], size := 1, bytes := 8, shape := [CK.ptr] },
  { k := TK.struct [(0, 17)], size := 1, bytes := 8, shape := [CK.ptr] },
  { k := TK.iface, size := 1, bytes := 16, shape := [CK.iface] },
  { k := TK.int IntKind.i32, size := 1, bytes := 4, shape := [CK.int IntKind.i32] },
  { k := TK.slice 34, size := 1, bytes := 24, shape := [CK.slice 12] },
  { k := TK.ptr 66, size := 1, bytes := 8, shape := [CK.ptr] },
  { k := TK.func, size := 1, bytes := 8, shape := [CK.func] },
  { k := TK.slice 32, size := 1, bytes := 24, shape := [CK.slice 9] },
  { k := TK.struct [(0, 3), (1, 25)], size := 2, bytes := 32, shape := [CK.int IntKind.i64, CK.slice 9] },
  { k := TK.struct [(0, 3), (1, 25)], size := 2, bytes := 32, shape := [CK.int IntKind.i64, CK.slice 9] },
  { k := TK.func, size := 1, bytes := 8, shape := [CK.func] },
  { k := TK.func, size := 1, bytes := 8, shape := [CK.func] },
  { k := TK.slice 86, size := 1, bytes := 24, shape := [CK.slice 2] },
  { k := TK.struct [(0, 9), (1, 9), (2, 3), (3, 4), (4, 3), (5, 3), (6, 9), (7, 3), (8, 30)], size := 9, bytes := 112, shape := [CK.str, CK.str, CK.int IntKind.i64, CK.bool, CK.int IntKind.i64, CK.int IntKind.i64, CK.str, CK.int IntKind.i64, CK.slice 2] },
  { k := TK.struct [(0, 9), (1, 9), (2, 3), (3, 4), (4, 3), (5, 3), (6, 9), (7, 3), (8, 30)], size := 9, bytes := 112, shape := [CK.str, CK.str, CK.int IntKind.i64, CK.bool, CK.int IntKind.i64, CK.int IntKind.i64, CK.str, CK.int IntKind.i64, CK.slice 2] },
  { k := TK.struct [(0, 3), (1, 5), (2, 32), (11, 9)], size := 12, bytes := 144, shape := [CK.int IntKind.i64, CK.int IntKind.u8, CK.str, CK.str, CK.int IntKind.i64, CK.bool, CK.int IntKind.i64, CK.int IntKind.i64, CK.str, CK.int IntKind.i64, CK.slice 2, CK.str] },
  { k := TK.struct [(0, 3), (1, 5), (2, 32), (11, 9)], size := 12, bytes := 144, shape := [CK.int IntKind.i64, CK.int IntKind.u8, CK.str, CK.str, CK.int IntKind.i64, CK.bool, CK.int IntKind.i64, CK.int IntKind.i64, CK.str, CK.int IntKind.i64, CK.slice 2, CK.str] },
  { k := TK.tuple [27, 4], size := 1, bytes := 0, shape := [CK.other] },
  { k := TK.func, size := 1, bytes := 8, shape := [CK.func] },
  { k := TK.func, size := 1, bytes := 8, shape := [CK.func] },
  { k := TK.func, size := 1, bytes := 8, shape := [CK.func] },
  { k := TK.tuple [23, 27, 3], size := 1, bytes := 0, shape := [CK.other] },
  { k := TK.func, size := 1, bytes := 8, shape := [CK.func] },
  { k := TK.func, size := 1, bytes := 8, shape := [CK.func] },
  { k := TK.tuple [32, 4], size := 1, bytes := 0, shape := [CK.other] },
  { k := TK.func, size := 1, bytes := 8, shape := [CK.func] },
  { k := TK.func, size := 1, bytes := 8, shape := [CK.func] },
  { k := TK.func, size := 1, bytes := 8, shape := [CK.func] },
  { k := TK.func, size := 1, bytes := 8, shape := [CK.func] },
  { k := TK.func, size := 1, bytes := 8, shape := [CK.func] },
  { k := TK.int IntKind.i64, size := 1, bytes := 8, shape := [CK.int IntKind.i64] },
  { k := TK.tuple [27, 48], size := 1, bytes := 0, shape := [CK.other] },
  { k := TK.func, size := 1, bytes := 8, shape := [CK.func] },
  { k := TK.func, size := 1, bytes := 8, shape := [CK.func] },
  { k := TK.func, size := 1, bytes := 8, shape := [CK.func] },
  { k := TK.func, size := 1, bytes := 8, shape := [CK.func] },
  { k := TK.func, size := 1, bytes := 8, shape := [CK.func] },
  { k := TK.int IntKind.u16, size := 1, bytes := 2, shape := [CK.int IntKind.u16] },
  { k := TK.func, size := 1, bytes := 8, shape := [CK.func] },
  { k := TK.func, size := 1, bytes := 8, shape := [CK.func] },
  { k := TK.func, size := 1, bytes := 8, shape := [CK.func] },
  { k := TK.func, size := 1, bytes := 8, shape := [CK.func] },
  { k := TK.func, size := 1, bytes := 8, shape := [CK.func] },
  { k := TK.func, size := 1, bytes := 8, shape := [CK.func] },
  { k := TK.func, size := 1, bytes := 8, shape := [CK.func] },
  { k := TK.func, size := 1, bytes := 8, shape := [CK.func] },
  { k := TK.map 9 32, size := 1, bytes := 8, shape := [CK.map] },
  { k := TK.struct [(0, 3), (1, 64)], size := 2, bytes := 16, shape := [CK.int IntKind.i64, CK.map] },
  { k := TK.struct [(0, 3), (1, 64)], size := 2, bytes := 16, shape := [CK.int IntKind.i64, CK.map] },
  { k := TK.tuple [27, 3], size := 1, bytes := 0, shape := [CK.other] },
  { k := TK.func, size := 1, bytes := 8, shape := [CK.func] },
  { k := TK.func, size := 1, bytes := 8, shape := [CK.func] },
  { k := TK.func, size := 1, bytes := 8, shape := [CK.func] },
  { k := TK.func, size := 1, bytes := 8, shape := [CK.func] },
  { k := TK.func, size := 1, bytes := 8, shape := [CK.func] },
  { k := TK.func, size := 1, bytes := 8, shape := [CK.func] },
  { k := TK.func, size := 1, bytes := 8, shape := [CK.func] },
  { k := TK.slice 9, size := 1, bytes := 24, shape := [CK.slice 1] },
  { k := TK.func, size := 1, bytes := 8, shape := [CK.func] },
  { k := TK.func, size := 1, bytes := 8, shape := [CK.func] },
  { k := TK.func, size := 1, bytes := 8, shape := [CK.func] },
  { k := TK.func, size := 1, bytes := 8, shape := [CK.func] },
  { k := TK.func, size := 1, bytes := 8, shape := [CK.func] },
  { k := TK.func, size := 1, bytes := 8, shape := [CK.func] },
  { k := TK.func, size := 1, bytes := 8, shape := [CK.func] },
  { k := TK.slice 5, size := 1, bytes := 24, shape := [CK.slice 1] },
  { k := TK.func, size := 1, bytes := 8, shape := [CK.func] },
  { k := TK.struct [(0, 9), (1, 9)], size := 2, bytes := 32, shape := [CK.str, CK.str] },
  { k := TK.struct [(0, 9), (1, 9)], size := 2, bytes := 32, shape := [CK.str, CK.str] },
  { k := TK.func, size := 1, bytes := 8, shape := [CK.func] },
  { k := TK.func, size := 1, bytes := 8, shape := [CK.func] },
  { k := TK.int IntKind.u64, size := 1, bytes := 8, shape := [CK.int IntKind.u64] },
  { k := TK.func, size := 1, bytes := 8, shape := [CK.func] },
  { k := TK.func, size := 1, bytes := 8, shape := [CK.func] },
  { k := TK.func, size := 1, bytes := 8, shape := [CK.func] },
  { k := TK.func, size := 1, bytes := 8, shape := [CK.func] },
  { k := TK.func, size := 1, bytes := 8, shape := [CK.func] },
  { k := TK.int IntKind.i64, size := 1, bytes := 8, shape := [CK.int IntKind.i64] },
  { k := TK.tuple [3, 95], size := 1, bytes := 0, shape := [CK.other] },
  { k := TK.func, size := 1, bytes := 8, shape := [CK.func] },
  { k := TK.func, size := 1, bytes := 8, shape := [CK.func] },
  { k := TK.func, size := 1, bytes := 8, shape := [CK.func] },
  { k := TK.tuple [3, 4], size := 1, bytes := 0, shape := [CK.other] },
  { k := TK.func, size := 1, bytes := 8, shape := [CK.func] },
  { k := TK.func, size := 1, bytes := 8, shape := [CK.func] },
  { k := TK.int IntKind.u32, size := 1, bytes := 4, shape := [CK.int IntKind.u32] },
  { k := TK.func, size := 1, bytes := 8, shape := [CK.func] },
  { k := TK.int IntKind.u64, size := 1, bytes := 8, shape := [CK.int IntKind.u64] },
  { k := TK.func, size := 1, bytes := 8, shape := [CK.func] },
  { k := TK.func, size := 1, bytes := 8, shape := [CK.func] },
  { k := TK.int IntKind.u64, size := 1, bytes := 8, shape := [CK.int IntKind.u64] },
  { k := TK.func, size := 1, bytes := 8, shape := [CK.func] },
  { k := TK.func, size := 1, bytes := 8, shape := [CK.func] },
  { k := TK.func, size := 1, bytes := 8, shape := [CK.func] },
  { k := TK.ptr 3, size := 1, bytes := 8, shape := [CK.ptr] },
  { k := TK.func, size := 1, bytes := 8, shape := [CK.func] },
  { k := TK.func, size := 1, bytes := 8, shape := [CK.func] },
  { k := TK.ptr 108, size := 1, bytes := 8, shape := [CK.ptr] },
  { k := TK.tuple [3, 3], size := 1, bytes := 0, shape := [CK.other] },
  { k := TK.func, size := 1, bytes := 8, shape := [CK.func] },
  { k := TK.func, size := 1, bytes := 8, shape := [CK.func] },
  { k := TK.tuple [21, 3], size := 1, bytes := 0, shape := [CK.other] },
  { k := TK.func, size := 1, bytes := 8, shape := [CK.func] },
  { k := TK.func, size := 1, bytes := 8, shape := [CK.func] },
  { k := TK.array 256 5, size := 256, bytes := 256, shape := [CK.int IntKind.u8, CK.int IntKind.u8, CK.int IntKind.u8, CK.int IntKind.u8, CK.int IntKind.u8, CK.int IntKind.u8, CK.int IntKind.u8, CK.int IntKind.u8, CK.int IntKind.u8, CK.int IntKind.u8, CK.int IntKind.u8, CK.int IntKind.u8, CK.int IntKind.u8, CK.int IntKind.u8, CK.int IntKind.u8, CK.int IntKind.u8, CK.int IntKind.u8, CK.int IntKind.u8, CK.int IntKind.u8, CK.int IntKind.u8, CK.int IntKind.u8, CK.int IntKind.u8, CK.int IntKind.u8, CK.int IntKind.u8, CK.int IntKind.u8, CK.int IntKind.u8, CK.int IntKind.u8, CK.int IntKind.u8, CK.int IntKind.u8, CK.int IntKind.u8, CK.int IntKind.u8, CK.int IntKind.u8, CK.int IntKind.u8, CK.int IntKind.u8, CK.int IntKind.u8, CK.int IntKind.u8, CK.int IntKind.u8, CK.int IntKind.u8, CK.int IntKind.u8, CK.int IntKind.u8, CK.int IntKind.u8, CK.int IntKind.u8, CK.int IntKind.u8, CK.int IntKind.u8, CK.int IntKind.u8, CK.int IntKind.u8, CK.int IntKind.u8, CK.int IntKind.u8, CK.int IntKind.u8, CK.int IntKind.u8, CK.int IntKind.u8, CK.int IntKind.u8, CK.int IntKind.u8, CK.int IntKind.u8, CK.int IntKind.u8, CK.int IntKind.u8, CK.int IntKind.u8, CK.int IntKind.u8, CK.int IntKind.u8, CK.int IntKind.u8, CK.int IntKind.u8, CK.int IntKind.u8, CK.int IntKind.u8, CK.int IntKind.u8, CK.int IntKind.u8, CK.int IntKind.u8, CK.int IntKind.u8, CK.int IntKind.u8, CK.int IntKind.u8, CK.int IntKind.u8, CK.int IntKind.u8, CK.int IntKind.u8, CK.int IntKind.u8, CK.int IntKind.u8, CK.int IntKind.u8, CK.int IntKind.u8, CK.int IntKind.u8, CK.int IntKind.u8, CK.int IntKind.u8, CK.int IntKind.u8, CK.int IntKind.u8, CK.int IntKind.u8, CK.int IntKind.u8, CK.int IntKind.u8, CK.int IntKind.u8, CK.int IntKind.u8, CK.int IntKind.u8, CK.int IntKind.u8, CK.int IntKind.u8, CK.int IntKind.u8, CK.int IntKind.u8, CK.int IntKind.u8, CK.int IntKind.u8, CK.int IntKind.u8, CK.int IntKind.u8, CK.int IntKind.u8, CK.int IntKind.u8, CK.int IntKind.u8, CK.int IntKind.u8, CK.int IntKind.u8, CK.int IntKind.u8, CK.int IntKind.u8, CK.int IntKind.u8, CK.int IntKind.u8, CK.int IntKind.u8, CK.int IntKind.u8, CK.int IntKind.u8, CK.int IntKind.u8, CK.int IntKind.u8, CK.int IntKind.u8, CK.int IntKind.u8, CK.int IntKind.u8, CK.int IntKind.u8, CK.int IntKind.u8, CK.int IntKind.u8, CK.int IntKind.u8, CK.int IntKind.u8, CK.int IntKind.u8, CK.int IntKind.u8, CK.int IntKind.u8, CK.int IntKind.u8, CK.int IntKind.u8, CK.int IntKind.u8, CK.int IntKind.u8, CK.int IntKind.u8, CK.int IntKind.u8, CK.int IntKind.u8, CK.int IntKind.u8, CK.int IntKind.u8, CK.int IntKind.u8, CK.int IntKind.u8, CK.int IntKind.u8, CK.int IntKind.u8, CK.int IntKind.u8, CK.int IntKind.u8, CK.int IntKind.u8, CK.int IntKind.u8, CK.int IntKind.u8, CK.int IntKind.u8, CK.int IntKind.u8, CK.int IntKind.u8, CK.int IntKind.u8, CK.int IntKind.u8, CK.int IntKind.u8, CK.int IntKind.u8, CK.int IntKind.u8, CK.int IntKind.u8, CK.int IntKind.u8, CK.int IntKind.u8, CK.int IntKind.u8, CK.int IntKind.u8, CK.int IntKind.u8, CK.int IntKind.u8, CK.int IntKind.u8, CK.int IntKind.u8, CK.int IntKind.u8, CK.int IntKind.u8, CK.int IntKind.u8, CK.int IntKind.u8, CK.int IntKind.u8, CK.int IntKind.u8, CK.int IntKind.u8, CK.int IntKind.u8, CK.int IntKind.u8, CK.int IntKind.u8, CK.int IntKind.u8, CK.int IntKind.u8, CK.int IntKind.u8, CK.int IntKind.u8, CK.int IntKind.u8, CK.int IntKind.u8, CK.int IntKind.u8, CK.int IntKind.u8, CK.int IntKind.u8, CK.int IntKind.u8, CK.int IntKind.u8, CK.int IntKind.u8, CK.int IntKind.u8, CK.int IntKind.u8, CK.int IntKind.u8, CK.int IntKind.u8, CK.int IntKind.u8, CK.int IntKind.u8, CK.int IntKind.u8, CK.int IntKind.u8, CK.int IntKind.u8, CK.int IntKind.u8, CK.int IntKind.u8, CK.int IntKind.u8, CK.int IntKind.u8, CK.int IntKind.u8, CK.int IntKind.u8, CK.int IntKind.u8, CK.int IntKind.u8, CK.int IntKind.u8, CK.int IntKind.u8, CK.int IntKind.u8, CK.int IntKind.u8, CK.int IntKind.u8, CK.int IntKind.u8, CK.int IntKind.u8, CK.int IntKind.u8, CK.int IntKind.u8, CK.int IntKind.u8, CK.int IntKind.u8, CK.int IntKind.u8, CK.int IntKind.u8, CK.int IntKind.u8, CK.int IntKind.u8, CK.int IntKind.u8, CK.int IntKind.u8, CK.int IntKind.u8, CK.int IntKind.u8, CK.int IntKind.u8, CK.int IntKind.u8, CK.int IntKind.u8, CK.int IntKind.u8, CK.int IntKind.u8, CK.int IntKind.u8, CK.int IntKind.u8, CK.int IntKind.u8, CK.int IntKind.u8, CK.int IntKind.u8, CK.int IntKind.u8, CK.int IntKind.u8, CK.int IntKind.u8, CK.int IntKind.u8, CK.int IntKind.u8, CK.int IntKind.u8, CK.int IntKind.u8, CK.int IntKind.u8, CK.int IntKind.u8, CK.int IntKind.u8, CK.int IntKind.u8, CK.int IntKind.u8, CK.int IntKind.u8, CK.int IntKind.u8, CK.int IntKind.u8, CK.int IntKind.u8, CK.int IntKind.u8, CK.int IntKind.u8, CK.int IntKind.u8, CK.int IntKind.u8, CK.int IntKind.u8, CK.int IntKind.u8, CK.int IntKind.u8, CK.int IntKind.u8, CK.int IntKind.u8, CK.int IntKind.u8, CK.int IntKind.u8, CK.int IntKind.u8, CK.int IntKind.u8, CK.int IntKind.u8, CK.int IntKind.u8, CK.int IntKind.u8, CK.int IntKind.u8] },
  { k := TK.struct [(0, 5), (1, 5)], size := 2, bytes := 2, shape := [CK.int IntKind.u8, CK.int IntKind.u8] },
  { k := TK.struct [(0, 5), (1, 5)], size := 2, bytes := 2, shape := [CK.int IntKind.u8, CK.int IntKind.u8] },
  { k := TK.array 16 124, size := 32, bytes := 32, shape := [CK.int IntKind.u8, CK.int IntKind.u8, CK.int IntKind.u8, CK.int IntKind.u8, CK.int IntKind.u8, CK.int IntKind.u8, CK.int IntKind.u8, CK.int IntKind.u8, CK.int IntKind.u8, CK.int IntKind.u8, CK.int IntKind.u8, CK.int IntKind.u8, CK.int IntKind.u8, CK.int IntKind.u8, CK.int IntKind.u8, CK.int IntKind.u8, CK.int IntKind.u8, CK.int IntKind.u8, CK.int IntKind.u8, CK.int IntKind.u8, CK.int IntKind.u8, CK.int IntKind.u8, CK.int IntKind.u8, CK.int IntKind.u8, CK.int IntKind.u8, CK.int IntKind.u8, CK.int IntKind.u8, CK.int IntKind.u8, CK.int IntKind.u8, CK.int IntKind.u8, CK.int IntKind.u8, CK.int IntKind.u8] },
  { k := TK.tuple [103, 103], size := 1, bytes := 0, shape := [CK.other] },
  { k := TK.func, size := 1, bytes := 8, shape := [CK.func] },
  { k := TK.func, size := 1, bytes := 8, shape := [CK.func] },
  { k := TK.struct [(0, 17), (1, 17), (2, 17), (3, 9)], size := 4, bytes := 40, shape := [CK.ptr, CK.ptr, CK.ptr, CK.str] },
  { k := TK.struct [(0, 17), (1, 17), (2, 17), (3, 9)], size := 4, bytes := 40, shape := [CK.ptr, CK.ptr, CK.ptr, CK.str] },
  { k := TK.array 0 16, size := 0, bytes := 0, shape := [] },
  { k := TK.struct [(0, 131)], size := 0, bytes := 0, shape := [] },
  { k := TK.struct [(0, 131)], size := 0, bytes := 0, shape := [] },
  { k := TK.int IntKind.u8, size := 1, bytes := 1, shape := [CK.int IntKind.u8] },
  { k := TK.int IntKind.u8, size := 1, bytes := 1, shape := [CK.int IntKind.u8] },
  { k := TK.func, size := 1, bytes := 8, shape := [CK.func] },
  { k := TK.ptr 5, size := 1, bytes := 8, shape := [CK.ptr] },
  { k := TK.int IntKind.i32, size := 1, bytes := 4, shape := [CK.int IntKind.i32] },
  { k := TK.int IntKind.i32, size := 1, bytes := 4, shape := [CK.int IntKind.i32] },
  { k := TK.struct [(0, 12), (1, 12), (2, 103), (3, 134), (4, 5), (5, 5), (6, 135), (7, 136), (8, 137), (9, 138), (10, 139)], size := 11, bytes := 48, shape := [CK.int IntKind.u64, CK.int IntKind.u64, CK.int IntKind.u32, CK.int IntKind.u8, CK.int IntKind.u8, CK.int IntKind.u8, CK.int IntKind.u8, CK.func, CK.ptr, CK.int IntKind.i32, CK.int IntKind.i32] },
  { k := TK.struct [(0, 12), (1, 12), (2, 103), (3, 134), (4, 5), (5, 5), (6, 135), (7, 136), (8, 137), (9, 138), (10, 139)], size := 11, bytes := 48, shape := [CK.int IntKind.u64, CK.int IntKind.u64, CK.int IntKind.u32, CK.int IntKind.u8, CK.int IntKind.u8, CK.int IntKind.u8, CK.int IntKind.u8, CK.func, CK.ptr, CK.int IntKind.i32, CK.int IntKind.i32] },
  { k := TK.other, size := 1, bytes := 8, shape := [CK.other] }]
theorem tys_ok : tysOf Tryd.prog = tys := by kernel_rfl
noncomputable def fns : List (Option Func) := [some Tryd.f0, some Tryd.f1, some Tryd.f2, some Tryd.f3, some Tryd.f4, some Tryd.f5, some Tryd.f6, some Tryd.f7, some Tryd.f8, some Tryd.f9, some Tryd.f10, some Tryd.f11, some Tryd.f12, some Tryd.f13, some Tryd.f14, some Tryd.f15, some Tryd.f16, some Tryd.f17, some Tryd.f18, some Tryd.f19, some Tryd.f20, some Tryd.f21, some Tryd.f22, some Tryd.f23, some Tryd.f24, some Tryd.f25, some Tryd.f26, some Tryd.f27, some Tryd.f28, some Tryd.f29, some Tryd.f30, some Tryd.f31, some Tryd.f32, some Tryd.f33, some Tryd.f34, some Tryd.f35, some Tryd.f36, some Tryd.f37, some Tryd.f38, some Tryd.f39, some Tryd.f40, some Tryd.f41, some Tryd.f42, some Tryd.f43, some Tryd.f44, some Tryd.f45, some Tryd.f46, some Tryd.f47, some Tryd.f48, some Tryd.f49, some Tryd.f50, some Tryd.f51, some Tryd.f52, some Tryd.f53, some Tryd.f54, some Tryd.f55, some Tryd.f56, some Tryd.f57, some Tryd.f58, some Tryd.f59, some Tryd.f60, some Tryd.f61, some Tryd.f62, some Tryd.f63, some Tryd.f64, some Tryd.f65, some Tryd.f66, some Tryd.f67, some Tryd.f68, some Tryd.f69, some Tryd.f70, some Tryd.f71, some Tryd.f72, some Tryd.f73, some Tryd.f74, some Tryd.f75, some Tryd.f76, some Tryd.f77, some Tryd.f78, some Tryd.f79, some Tryd.f80, some Tryd.f81, some Tryd.f82, some Tryd.f83, some Tryd.f84, some Tryd.f85, some Tryd.f86, some Tryd.f87, some Tryd.f88, some Tryd.f89, some Tryd.f90, some Tryd.f91, some Tryd.f92, some Tryd.f93, some Tryd.f94, some Tryd.f95, some Tryd.f96, some Tryd.f97, some Tryd.f98, some Tryd.f99, some Tryd.f100, some Tryd.f101, some Tryd.f102, some Tryd.f103, some Tryd.f104, some Tryd.f105, some Tryd.f106, some Tryd.f107, some Tryd.f108, some Tryd.f109, some Tryd.f110, some Tryd.f111, some Tryd.f112, some Tryd.f113, some Tryd.f114, some Tryd.f115, some Tryd.f116, some Tryd.f117, some Tryd.f118, some Tryd.f119, some Tryd.f120, some Tryd.f121, some Tryd.f122, some Tryd.f123, some Tryd.f124, some Tryd.f125, some Tryd.f126, some Tryd.f127]
theorem fns_ok : Tryd.prog.funcs.toList.map some = fns := by kernel_rfl
end Go.Proofs.YtgmkkjmdflhbnaaDoor.Ab
end
section
namespace Go.Proofs.YtgmkkjmdflhbnaaDoor.Ab
open Go
def relCnt (args : List AV) (r : AV) : Prop := ∃ (s : ByteArray) (c : UInt8), args = [.str s, .str ⟨#[c]⟩] ∧ r = .int .i64 (Lib.countByte s.data.toList c : Nat)
def relIdx (args : List AV) (r : AV) : Prop := ∃ (s : ByteArray) (c : UInt8), args = [.str s, .str ⟨#[c]⟩] ∧ r = .int .i64 (Lib.indexByte s.data.toList c)
def leafL : List Nat := [35, 92, 98]
def leafT : Oracle := orLeaf (sortFLeaf 35 36 9 [0]) (orLeaf (scLeaf 92 relCnt) (scLeaf 98 relIdx))
end Go.Proofs.YtgmkkjmdflhbnaaDoor.Ab
end
section
namespace Go.Proofs.YtgmkkjmdflhbnaaDoor.Ab
open Go
set_option maxRecDepth 100000
set_option maxHeartbeats 4000000
def liveT : Nat → Live
 | 3 => ([[(1, 0), (5, 0), (6, 0), (7, 0), (8, 0)]], [(21, [(1, 0), (5, 0), (6, 0), (7, 0), (8, 0), (9, 0), (59, 0)])])
 | 4 => ([[(1, 0), (2, 0), (7, 0), (9, 0), (10, 0), (11, 0)], [(1, 0), (2, 0), (7, 0), (9, 0), (10, 0), (14, 0)]], [(19, [(1, 0), (2, 0), (7, 0), (9, 0), (10, 0), (11, 0), (85, 0)])])
 | 5 => ([], [(19, [(6, 0)]), (23, [(6, 0)])])
 | 6 => ([[(3, 0), (9, 0), (11, 0), (12, 0), (13, 0)]], [])
 | 8 => ([[(1, 0), (5, 0), (6, 0), (7, 0)]], [])
 | 15 => ([[(1, 0), (5, 0), (7, 0), (8, 0), (9, 0), (10, 0)]], [])
 | 16 => ([[(1, 0), (2, 0), (7, 11), (14, 0)]], [])
 | 20 => ([[(0, 0), (3, 0), (5, 0)]], [])
 | 25 => ([[(0, 0), (1, 0), (5, 0), (12, 0)]], [])
 | 26 => ([[(0, 0), (1, 0), (5, 0)]], [])
 | 28 => ([[(1, 0), (2, 0), (3, 0), (7, 11), (8, 0)]], [])
 | 33 => ([[(5, 0), (6, 0), (26, 0), (27, 0), (28, 0)]], [(3, [(0, 0), (1, 0), (21, 0)])])
 | 38 => ([[(0, 0), (1, 0), (5, 0)]], [])
 | 39 => ([[(3, 0), (4, 0)]], [(19, [(3, 0), (4, 0), (46, 0)])])
 | 41 => ([[(0, 0), (3, 3), (4, 0), (5, 0)]], [])
 | 45 => ([[(0, 0), (1, 0), (5, 11), (6, 0)]], [])
 | 46 => ([[(0, 0), (1, 0), (5, 0)]], [])
 | 47 => ([[(0, 0), (1, 0), (5, 11), (6, 0)]], [])
 | 48 => ([[(0, 0), (3, 0), (5, 11), (6, 0)]], [])
 | 50 => ([], [(15, [(1, 0), (36, 0)])])
 | 51 => ([[(3, 0), (4, 0), (15, 0), (16, 0), (17, 0)], [(3, 0), (4, 0), (5, 0), (6, 0), (15, 0), (16, 0), (17, 0), (23, 0)]], [(25, [(3, 0), (4, 0), (5, 0), (6, 0), (15, 0), (16, 0), (17, 0), (23, 0), (50, 0)])])
 | 52 => ([[(9, 0)]], [])
 | 60 => ([[(0, 0), (1, 0), (5, 0)]], [])
 | 62 => ([[(15, 0)]], [])
 | 63 => ([[(0, 0), (8, 0), (9, 0), (10, 0)]], [])
 | 64 => ([[(0, 0), (3, 0)]], [(3, [(0, 0), (17, 0)]), (13, [(0, 0), (3, 0), (41, 0)])])
 | 65 => ([[(0, 0), (3, 0)]], [])
 | 66 => ([[(3, 0), (15, 0)]], [])
 | 81 => ([[(0, 0), (3, 0)]], [(15, [(0, 0), (3, 0), (39, 0)])])
 | 84 => ([[(0, 0), (3, 0)]], [(15, [(0, 0), (3, 0), (41, 0)])])
 | 85 => ([[(0, 0), (1, 0), (2, 0), (3, 0), (9, 0), (10, 0)]], [])
 | _ => ([], [])
def ownT (n : Nat) : Bool := Nat.beq n 55
def ioT (n : Nat) : Bool := Nat.beq n 35
def purT (n : Nat) : Bool := !(Nat.beq n 3 || Nat.beq n 4 || Nat.beq n 5 || Nat.beq n 6 || Nat.beq n 7 || Nat.beq n 8 || Nat.beq n 9 || Nat.beq n 10 || Nat.beq n 13 || Nat.beq n 14 || Nat.beq n 15 || Nat.beq n 16 || Nat.beq n 17 || Nat.beq n 22 || Nat.beq n 25 || Nat.beq n 35)
def apartT (n : Nat) : Bool := false
def hpT (n : Nat) : Bool := Nat.beq n 65 || Nat.beq n 66
def dispT (s : String) : List (Nat × Nat) := []
noncomputable def E0 : Env := ⟨tys, fun f => cond (leafL.elem f) none (fns.getD f none), liveT, ownT, leafT, ioT, purT, apartT, hpT, dispT⟩
noncomputable abbrev C : Oracle := Call E0
noncomputable abbrev CP : Oracle := pastR C
namespace F9
def t (a0 : Int) (a1 a2 : List (List AV)) (H : Heap) (Q : Qt) : Prop :=
 C 15 [.int .i64 a0, .sl 0 12 a1] H fun v_1 H_2 =>
 G ((v_1).isTup && Nat.beq (v_1).tupVs.length 3) (cond ((((v_1).tupVs).headD .any).isObj)
 (G (((((v_1).tupVs).tail).headD .any).isAgg && Nat.beq ((((v_1).tupVs).tail).headD .any).aggCs.length 2) (let q_3 : List AV := ((((v_1).tupVs).tail).headD .any).aggCs;
 G ((q_3.headD .any).isInt .i64) (G ((q_3.tail.headD .any).isSl 9) (G ((((((v_1).tupVs).tail).tail).headD .any).isInt .i64) (C 15 [.int .i64 a0, .sl 0 12 a2] H_2 fun v_4 H_5 =>
 G ((v_4).isTup && Nat.beq (v_4).tupVs.length 3) (cond ((((v_4).tupVs).headD .any).isObj)
 (G (((((v_4).tupVs).tail).headD .any).isAgg && Nat.beq ((((v_4).tupVs).tail).headD .any).aggCs.length 2) (let q_6 : List AV := ((((v_4).tupVs).tail).headD .any).aggCs;
 G ((q_6.headD .any).isInt .i64) (G ((q_6.tail.headD .any).isSl 9) (G ((((((v_4).tupVs).tail).tail).headD .any).isInt .i64) (CP 12 [] H_5 fun v_7 H_8 =>
 G ((v_7).isBool) (cond ((v_7).toBool)
 (Ands (.n .l .l) (C 16 [.obj ((((v_1).tupVs).headD .any).objJ) 0, .str (⟨#[35]⟩ : ByteArray), .int .i64 ((((((v_1).tupVs).tail).tail).headD .any).toInt)] H_8 fun v_9 H_10 =>
 G ((v_9).isSl 9) (CP 28 [.agg [.int .i64 ((q_3.headD .any).toInt), .sl 0 9 ((q_3.tail.headD .any).slXs)], .str (⟨#[35]⟩ : ByteArray), .int .i64 ((((((v_1).tupVs).tail).tail).headD .any).toInt)] H_10 fun v_11 H_12 =>
 G ((v_11).isSl 9) (CP 26 [.sl 0 9 ((v_9).slXs), .sl 0 9 ((v_11).slXs)] H_12 fun v_13 H_14 =>
 G ((v_13).isBool) (cond ((v_13).toBool)
 (Ands (.n .l .l) (C 16 [.obj ((((v_4).tupVs).headD .any).objJ) 0, .str (⟨#[35]⟩ : ByteArray), .int .i64 ((((((v_4).tupVs).tail).tail).headD .any).toInt)] H_14 fun v_15 H_16 =>
 G ((v_15).isSl 9) (CP 28 [.agg [.int .i64 ((q_6.headD .any).toInt), .sl 0 9 ((q_6.tail.headD .any).slXs)], .str (⟨#[35]⟩ : ByteArray), .int .i64 ((((((v_4).tupVs).tail).tail).headD .any).toInt)] H_16 fun v_17 H_18 =>
 G ((v_17).isSl 9) (CP 26 [.sl 0 9 ((v_15).slXs), .sl 0 9 ((v_17).slXs)] H_18 fun v_19 H_20 =>
 G ((v_19).isBool) (cond ((v_19).toBool)
 (Ands (.n .l .l) (C 14 [.obj ((((v_1).tupVs).headD .any).objJ) 0] H_20 fun v_21 H_22 =>
 G ((v_21).isInt .i64) (cond (eqI ((v_21).toInt) (lenI ((q_3.tail.headD .any).slXs)))
 (Ands (.n .l .l) (C 14 [.obj ((((v_4).tupVs).headD .any).objJ) 0] H_22 fun v_23 H_24 =>
 G ((v_23).isInt .i64) (Q (.bool (eqI ((v_23).toInt) (lenI ((q_6.tail.headD .any).slXs)))) H_24)))
 (Ands (.n .l .l) (Q (.bool false) H_22)))))
 (Ands (.n (.n .l .l) (.n .l .l)) (Q (.bool false) H_20)))))))
 (Ands (.n (.n (.n .l .l) (.n .l .l)) (.n (.n .l .l) (.n .l .l))) (Q (.bool false) H_14)))))))
 (Ands (.n (.n (.n (.n .l .l) (.n .l .l)) (.n (.n .l .l) (.n .l .l))) (.n (.n (.n .l .l) (.n .l .l)) (.n (.n .l .l) (.n .l .l)))) (Q (.bool false) H_8))))))))
 (G ((((v_4).tupVs).headD .any).isNilp) (G (((((v_4).tupVs).tail).headD .any).isAgg && Nat.beq ((((v_4).tupVs).tail).headD .any).aggCs.length 2) (let q_93 : List AV := ((((v_4).tupVs).tail).headD .any).aggCs;
 G ((q_93.headD .any).isInt .i64) (G ((q_93.tail.headD .any).isSl 9) (G ((((((v_4).tupVs).tail).tail).headD .any).isInt .i64) (CP 12 [] H_5 fun v_94 H_95 =>
 G ((v_94).isBool) (cond ((v_94).toBool)
 (Ands (.n (.n (.n (.n .l .l) (.n .l .l)) (.n (.n .l .l) (.n .l .l))) (.n (.n (.n .l .l) (.n .l .l)) (.n (.n .l .l) (.n .l .l)))) (Q (.bool false) H_95))
 (Ands (.n (.n (.n (.n .l .l) (.n .l .l)) (.n (.n .l .l) (.n .l .l))) (.n (.n (.n .l .l) (.n .l .l)) (.n (.n .l .l) (.n .l .l)))) (Q (.bool false) H_95)))))))))))))))
 (G ((((v_1).tupVs).headD .any).isNilp) (G (((((v_1).tupVs).tail).headD .any).isAgg && Nat.beq ((((v_1).tupVs).tail).headD .any).aggCs.length 2) (let q_96 : List AV := ((((v_1).tupVs).tail).headD .any).aggCs;
 G ((q_96.headD .any).isInt .i64) (G ((q_96.tail.headD .any).isSl 9) (G ((((((v_1).tupVs).tail).tail).headD .any).isInt .i64) (Q (.bool false) H_2)))))))
theorem t_eq (a0 : Int) (a1 a2 : List (List AV)) (H : Heap) (Q : Qt) : aBody E0 C 9 [.int .i64 a0, .sl 0 12 a1, .sl 0 12 a2] H Q = t a0 a1 a2 H Q := by kernel_rfl
theorem call {a0 : Int} {a1 a2 : List (List AV)} {H : Heap} {Q : Qt} (h : t a0 a1 a2 H Q) : C 9 [.int .i64 a0, .sl 0 12 a1, .sl 0 12 a2] H Q := Call_told (E := E0) (t_eq a0 a1 a2 H Q) h
end F9
namespace F10
def t (a0 : Int) (H : Heap) (Q : Qt) : Prop :=
 CP 30 [.int .i64 a0] H fun v_1 H_2 =>
 G ((v_1).isInt .i64) (let H_3 : Heap := H_2.push (.map [] 0);
 let H_4 : Heap := H_3.push (.cells [.int .i64 (cond (ltI 256 ((v_1).toInt)) 256 ((v_1).toInt)), .map H_2.next]);
 Q (.obj H_3.next 0) H_4)
theorem t_eq (a0 : Int) (H : Heap) (Q : Qt) : aBody E0 C 10 [.int .i64 a0] H Q = t a0 H Q := by kernel_rfl
theorem call {a0 : Int} {H : Heap} {Q : Qt} (h : t a0 H Q) : C 10 [.int .i64 a0] H Q := Call_told (E := E0) (t_eq a0 H Q) h
end F10
namespace F11
def t (a0 : Int) (H : Heap) (Q : Qt) : Prop :=
 cond (ltI a0 0)
 (Q (.agg [.int .i64 0, .nilsl]) H)
 (cond (ltI 256 a0)
 (Q (.agg [.int .i64 256, .nilsl]) H)
 (Q (.agg [.int .i64 a0, .nilsl]) H))
theorem t_eq (a0 : Int) (H : Heap) (Q : Qt) : aBody E0 C 11 [.int .i64 a0] H Q = t a0 H Q := by kernel_rfl
theorem call {a0 : Int} {H : Heap} {Q : Qt} (h : t a0 H Q) : C 11 [.int .i64 a0] H Q := Call_told (E := E0) (t_eq a0 H Q) h
end F11
namespace F12
def t  (H : Heap) (Q : Qt) : Prop :=
 C 10 [.int .i64 1] H fun v_1 H_2 =>
 cond ((v_1).isObj)
 (C 22 [.obj ((v_1).objJ) 0, .agg [.str (⟨#[97]⟩ : ByteArray), .str (⟨#[120]⟩ : ByteArray), .int .i64 0, .bool true, .int .i64 0, .int .i64 5, .str (⟨#[]⟩ : ByteArray), .int .i64 0, .sl 0 2 []], .int .i64 0] H_2 fun v_3 H_4 =>
 G ((v_3).isInt .i64) (C 22 [.obj ((v_1).objJ) 0, .agg [.str (⟨#[98]⟩ : ByteArray), .str (⟨#[121]⟩ : ByteArray), .int .i64 0, .bool true, .int .i64 0, .int .i64 0, .str (⟨#[]⟩ : ByteArray), .int .i64 0, .sl 0 2 []], .int .i64 4] H_4 fun v_5 H_6 =>
 G ((v_5).isInt .i64) (C 17 [.obj ((v_1).objJ) 0, .str (⟨#[97]⟩ : ByteArray), .int .i64 4] H_6 fun v_7 H_8 =>
 G ((v_7).isTup && Nat.beq (v_7).tupVs.length 2) (G ((((v_7).tupVs).headD .any).isAgg && Nat.beq (((v_7).tupVs).headD .any).aggCs.length 9) (G ((((((v_7).tupVs).headD .any).aggCs).headD .any).isStr) (G (((((((v_7).tupVs).headD .any).aggCs).tail).headD .any).isStr) (G ((((((((v_7).tupVs).headD .any).aggCs).tail).tail).headD .any).isInt .i64) (G (((((((((v_7).tupVs).headD .any).aggCs).tail).tail).tail).headD .any).isBool) (G ((((((((((v_7).tupVs).headD .any).aggCs).tail).tail).tail).tail).headD .any).isInt .i64) (G (((((((((((v_7).tupVs).headD .any).aggCs).tail).tail).tail).tail).tail).headD .any).isInt .i64) (G ((((((((((((v_7).tupVs).headD .any).aggCs).tail).tail).tail).tail).tail).tail).headD .any).isStr) (G (((((((((((((v_7).tupVs).headD .any).aggCs).tail).tail).tail).tail).tail).tail).tail).headD .any).isInt .i64) (G ((((((((((((((v_7).tupVs).headD .any).aggCs).tail).tail).tail).tail).tail).tail).tail).tail).headD .any).isSl 2) (G (((((v_7).tupVs).tail).headD .any).isBool) (C 22 [.obj ((v_1).objJ) 0, .agg [.str (⟨#[98]⟩ : ByteArray), .str (⟨#[121]⟩ : ByteArray), .int .i64 0, .bool true, .int .i64 0, .int .i64 0, .str (⟨#[]⟩ : ByteArray), .int .i64 0, .sl 0 2 []], .int .i64 5] H_8 fun v_9 H_10 =>
 G ((v_9).isInt .i64) (C 16 [.obj ((v_1).objJ) 0, .str (⟨#[35]⟩ : ByteArray), .int .i64 5] H_10 fun v_11 H_12 =>
 G ((v_11).isSl 9) (cond (eqI ((v_3).toInt) 0)
 (cond (eqI ((v_5).toInt) 6)
 (cond (((((v_7).tupVs).tail).headD .any).toBool)
 (cond (eqS (((((((v_7).tupVs).headD .any).aggCs).tail).headD .any).toStr) (⟨#[120]⟩ : ByteArray))
 (cond (eqI ((v_9).toInt) 0)
 (C 14 [.obj ((v_1).objJ) 0] H_12 fun v_13 H_14 =>
 G ((v_13).isInt .i64) (cond (eqI ((v_13).toInt) 1)
 (cond (eqI (lenI ((v_11).slXs)) 1)
 (G (ltI 0 (lenI ((v_11).slXs))) (G ((ce (ro ((v_11).slXs) 0) 0).isStr) (Q (.bool (eqS ((ce (ro ((v_11).slXs) 0) 0).toStr) (⟨#[98]⟩ : ByteArray))) H_14)))
 (Q (.bool false) H_14))
 (Q (.bool false) H_14)))
 (Q (.bool false) H_12))
 (Q (.bool false) H_12))
 (Q (.bool false) H_12))
 (Q (.bool false) H_12))
 (Q (.bool false) H_12))))))))))))))))))
 (G ((v_1).isNilp) (Q (.bool false) H_2))
theorem t_eq  (H : Heap) (Q : Qt) : aBody E0 C 12 [] H Q = t  H Q := by kernel_rfl
theorem call  {H : Heap} {Q : Qt} (h : t  H Q) : C 12 [] H Q := Call_told (E := E0) (t_eq  H Q) h
end F12
namespace F13
def t (a0j : Nat) (a1_0 : Int) (a1_1 : List (List AV)) (a2_0 a2_1 : Int) (a2_2 a2_3 : ByteArray) (a2_4 : Int) (a2_5 : Bool) (a2_6 a2_7 : Int) (a2_8 : ByteArray) (a2_9 : Int) (a2_10 : List (List AV)) (a2_11 : ByteArray) (a3 : Int) (H : Heap) (Q : Qt) : Prop :=
 cond (eqI a2_0 0)
 (CP 21 [.agg [.int .i64 a1_0, .sl 0 9 a1_1], .agg [.str a2_2, .str a2_3, .int .i64 a2_4, .bool a2_5, .int .i64 a2_6, .int .i64 a2_7, .str a2_8, .int .i64 a2_9, .sl 0 2 a2_10], .int .i64 a3] H fun v_1 H_2 =>
 G ((v_1).isTup && Nat.beq (v_1).tupVs.length 2) (G ((((v_1).tupVs).headD .any).isAgg && Nat.beq (((v_1).tupVs).headD .any).aggCs.length 2) (let q_3 : List AV := (((v_1).tupVs).headD .any).aggCs;
 G ((q_3.headD .any).isInt .i64) (G ((q_3.tail.headD .any).isSl 9) (G (((((v_1).tupVs).tail).headD .any).isInt .i64) (Ands (.n .l .l) (C 22 [.obj a0j 0, .agg [.str a2_2, .str a2_3, .int .i64 a2_4, .bool a2_5, .int .i64 a2_6, .int .i64 a2_7, .str a2_8, .int .i64 a2_9, .sl 0 2 a2_10], .int .i64 a3] H_2 fun v_4 H_5 =>
 G ((v_4).isInt .i64) (Q (.tup [.agg [.int .i64 ((q_3.headD .any).toInt), .sl 0 9 ((q_3.tail.headD .any).slXs)], .bool (eqI ((v_4).toInt) (((((v_1).tupVs).tail).headD .any).toInt))]) H_5))))))))
 (cond (eqI a2_0 1)
 (C 17 [.obj a0j 0, .str a2_11, .int .i64 a3] H fun v_8 H_9 =>
 G ((v_8).isTup && Nat.beq (v_8).tupVs.length 2) (G ((((v_8).tupVs).headD .any).isAgg && Nat.beq (((v_8).tupVs).headD .any).aggCs.length 9) (let q_10 : List AV := (((v_8).tupVs).headD .any).aggCs;
 G ((q_10.headD .any).isStr) (G ((q_10.tail.headD .any).isStr) (G ((q_10.tail.tail.headD .any).isInt .i64) (let q_11 : List AV := q_10.tail.tail.tail;
 G ((q_11.headD .any).isBool) (G ((q_11.tail.headD .any).isInt .i64) (G ((q_11.tail.tail.headD .any).isInt .i64) (let q_12 : List AV := q_11.tail.tail.tail;
 G ((q_12.headD .any).isStr) (G ((q_12.tail.headD .any).isInt .i64) (G ((q_12.tail.tail.headD .any).isSl 2) (G (((((v_8).tupVs).tail).headD .any).isBool) (CP 23 [.agg [.int .i64 a1_0, .sl 0 9 a1_1], .str a2_11, .int .i64 a3] H_9 fun v_13 H_14 =>
 G ((v_13).isTup && Nat.beq (v_13).tupVs.length 2) (G ((((v_13).tupVs).headD .any).isAgg && Nat.beq (((v_13).tupVs).headD .any).aggCs.length 9) (let q_15 : List AV := (((v_13).tupVs).headD .any).aggCs;
 G ((q_15.headD .any).isStr) (G ((q_15.tail.headD .any).isStr) (G ((q_15.tail.tail.headD .any).isInt .i64) (let q_16 : List AV := q_15.tail.tail.tail;
 G ((q_16.headD .any).isBool) (G ((q_16.tail.headD .any).isInt .i64) (G ((q_16.tail.tail.headD .any).isInt .i64) (let q_17 : List AV := q_16.tail.tail.tail;
 G ((q_17.headD .any).isStr) (G ((q_17.tail.headD .any).isInt .i64) (G ((q_17.tail.tail.headD .any).isSl 2) (G (((((v_13).tupVs).tail).headD .any).isBool) (cond ((((((v_8).tupVs).tail).headD .any).toBool) == (((((v_13).tupVs).tail).headD .any).toBool))
 (CP 18 [.agg [.str ((q_10.headD .any).toStr), .str ((q_10.tail.headD .any).toStr), .int .i64 ((q_10.tail.tail.headD .any).toInt), .bool ((q_11.headD .any).toBool), .int .i64 ((q_11.tail.headD .any).toInt), .int .i64 ((q_11.tail.tail.headD .any).toInt), .str ((q_12.headD .any).toStr), .int .i64 ((q_12.tail.headD .any).toInt), .sl 0 2 ((q_12.tail.tail.headD .any).slXs)], .agg [.str ((q_15.headD .any).toStr), .str ((q_15.tail.headD .any).toStr), .int .i64 ((q_15.tail.tail.headD .any).toInt), .bool ((q_16.headD .any).toBool), .int .i64 ((q_16.tail.headD .any).toInt), .int .i64 ((q_16.tail.tail.headD .any).toInt), .str ((q_17.headD .any).toStr), .int .i64 ((q_17.tail.headD .any).toInt), .sl 0 2 ((q_17.tail.tail.headD .any).slXs)]] H_14 fun v_18 H_19 =>
 G ((v_18).isBool) (Q (.tup [.agg [.int .i64 a1_0, .sl 0 9 a1_1], .bool ((v_18).toBool)]) H_19))
 (Q (.tup [.agg [.int .i64 a1_0, .sl 0 9 a1_1], .bool false]) H_14))))))))))))))))))))))))))
 (cond (eqI a2_0 2)
 (Ands (.n (.n .l (.n (.n .l .l) (.n .l .l))) (.n .l (.n (.n (.n .l .l) (.n .l (.n .l .l))) (.n (.n .l .l) (.n .l (.n .l .l)))))) (C 16 [.obj a0j 0, .str a2_11, .int .i64 a3] H fun v_20 H_21 =>
 G ((v_20).isSl 9) (CP 28 [.agg [.int .i64 a1_0, .sl 0 9 a1_1], .str a2_11, .int .i64 a3] H_21 fun v_22 H_23 =>
 G ((v_22).isSl 9) (CP 26 [.sl 0 9 ((v_20).slXs), .sl 0 9 ((v_22).slXs)] H_23 fun v_24 H_25 =>
 G ((v_24).isBool) (Q (.tup [.agg [.int .i64 a1_0, .sl 0 9 a1_1], .bool ((v_24).toBool)]) H_25)))))
 (cond (eqI a2_0 3)
 (CP 31 [.agg [.int .i64 a1_0, .sl 0 9 a1_1], .int .i64 a3] H fun v_116 H_117 =>
 G ((v_116).isTup && Nat.beq (v_116).tupVs.length 2) (G ((((v_116).tupVs).headD .any).isAgg && Nat.beq (((v_116).tupVs).headD .any).aggCs.length 2) (let q_118 : List AV := (((v_116).tupVs).headD .any).aggCs;
 G ((q_118.headD .any).isInt .i64) (G ((q_118.tail.headD .any).isSl 9) (G (((((v_116).tupVs).tail).headD .any).isInt .i64) (Ands (.n .l .l) (C 25 [.obj a0j 0, .int .i64 a3] H_117 fun v_119 H_120 =>
 G ((v_119).isInt .i64) (Q (.tup [.agg [.int .i64 ((q_118.headD .any).toInt), .sl 0 9 ((q_118.tail.headD .any).slXs)], .bool (eqI ((v_119).toInt) (((((v_116).tupVs).tail).headD .any).toInt))]) H_120))))))))
 (Q (.tup [.agg [.int .i64 a1_0, .sl 0 9 a1_1], .bool true]) H))))
theorem t_eq (a0j : Nat) (a1_0 : Int) (a1_1 : List (List AV)) (a2_0 a2_1 : Int) (a2_2 a2_3 : ByteArray) (a2_4 : Int) (a2_5 : Bool) (a2_6 a2_7 : Int) (a2_8 : ByteArray) (a2_9 : Int) (a2_10 : List (List AV)) (a2_11 : ByteArray) (a3 : Int) (H : Heap) (Q : Qt) : aBody E0 C 13 [.obj a0j 0, .agg [.int .i64 a1_0, .sl 0 9 a1_1], .agg [.int .i64 a2_0, .int .u8 a2_1, .str a2_2, .str a2_3, .int .i64 a2_4, .bool a2_5, .int .i64 a2_6, .int .i64 a2_7, .str a2_8, .int .i64 a2_9, .sl 0 2 a2_10, .str a2_11], .int .i64 a3] H Q = t a0j a1_0 a1_1 a2_0 a2_1 a2_2 a2_3 a2_4 a2_5 a2_6 a2_7 a2_8 a2_9 a2_10 a2_11 a3 H Q := by kernel_rfl
theorem call {a0j : Nat} {a1_0 : Int} {a1_1 : List (List AV)} {a2_0 a2_1 : Int} {a2_2 a2_3 : ByteArray} {a2_4 : Int} {a2_5 : Bool} {a2_6 a2_7 : Int} {a2_8 : ByteArray} {a2_9 : Int} {a2_10 : List (List AV)} {a2_11 : ByteArray} {a3 : Int} {H : Heap} {Q : Qt} (h : t a0j a1_0 a1_1 a2_0 a2_1 a2_2 a2_3 a2_4 a2_5 a2_6 a2_7 a2_8 a2_9 a2_10 a2_11 a3 H Q) : C 13 [.obj a0j 0, .agg [.int .i64 a1_0, .sl 0 9 a1_1], .agg [.int .i64 a2_0, .int .u8 a2_1, .str a2_2, .str a2_3, .int .i64 a2_4, .bool a2_5, .int .i64 a2_6, .int .i64 a2_7, .str a2_8, .int .i64 a2_9, .sl 0 2 a2_10, .str a2_11], .int .i64 a3] H Q := Call_told (E := E0) (t_eq a0j a1_0 a1_1 a2_0 a2_1 a2_2 a2_3 a2_4 a2_5 a2_6 a2_7 a2_8 a2_9 a2_10 a2_11 a3 H Q) h
end F13
namespace F14
def t (a0j : Nat) (H : Heap) (Q : Qt) : Prop :=
 G ((H.get a0j).isCells) (cond ((ce ((H.get a0j).cs) 1).isMap)
 (G ((H.get ((ce ((H.get a0j).cs) 1).mapJ)).isMap) (Q (.int .i64 (lenI (H.get ((ce ((H.get a0j).cs) 1).mapJ)).es)) H))
 (G ((ce ((H.get a0j).cs) 1).isNilmap) (False)))
theorem t_eq (a0j : Nat) (H : Heap) (Q : Qt) : aBody E0 C 14 [.obj a0j 0] H Q = t a0j H Q := by kernel_rfl
theorem call {a0j : Nat} {H : Heap} {Q : Qt} (h : t a0j H Q) : C 14 [.obj a0j 0] H Q := Call_told (E := E0) (t_eq a0j H Q) h
end F14
namespace F15
def K0 (Q : Qt) : Ex → St → Prop := (contK E0 C (E0.L 15) [.block 0 2, .seq (codeAt (bodyOf E0 15) [1, 1, 1, 1, 1]) 1] (finK E0 15 Q))
def L0 (a0 : Int) (a1 : List (List AV)) (Q : Qt) (x7sj : Nat) (x9now x10i m1_0 : Int) (m1_1 : List (List AV)) (Hh : Heap) : Prop := ALoop (fun K s => awp E0 C (E0.L 15) (codeAt (bodyOf E0 15) [1, 1, 1, 1, 0, 1, 0, 0]) 1 s K) (clean [(1, 0), (5, 0), (7, 0), (8, 0), (9, 0), (10, 0)] 2) (K0 Q) ⟨stt 56 [(1, .sl 0 12 a1), (5, .ptr 0 0), (7, .obj x7sj 0), (8, .ptr 1 0), (9, .int .i64 x9now), (10, .int .i64 x10i)], [.cells [.int .i64 0, .nilsl], .cells [.int .i64 m1_0, .sl 0 9 m1_1]], Hh⟩
def r0 (a0 : Int) (a1 : List (List AV)) (Q : Qt) (x7sj : Nat) (x9now x10i m1_0 : Int) (m1_1 : List (List AV)) (Hh : Heap) : Prop :=
 cond (ltI x10i (lenI a1))
 (cond (ltI x10i 60)
 (G (leI 0 x10i) (G (ltI x10i (lenI a1)) (G ((ce (ro a1 x10i.toNat) 1).isInt .u8) (G (leI 0 x10i) (G (ltI x10i (lenI a1)) (G ((ce (ro a1 x10i.toNat) 0).isInt .i64) (G ((ce (ro a1 x10i.toNat) 1).isInt .u8) (G ((ce (ro a1 x10i.toNat) 2).isStr) (G ((ce (ro a1 x10i.toNat) 3).isStr) (G ((ce (ro a1 x10i.toNat) 4).isInt .i64) (G ((ce (ro a1 x10i.toNat) 5).isBool) (G ((ce (ro a1 x10i.toNat) 6).isInt .i64) (G ((ce (ro a1 x10i.toNat) 7).isInt .i64) (G ((ce (ro a1 x10i.toNat) 8).isStr) (G ((ce (ro a1 x10i.toNat) 9).isInt .i64) (G ((ce (ro a1 x10i.toNat) 10).isSl 2) (G ((ce (ro a1 x10i.toNat) 11).isStr) (C 13 [.obj x7sj 0, .agg [.int .i64 m1_0, .sl 0 9 m1_1], .agg [.int .i64 ((ce (ro a1 x10i.toNat) 0).toInt), .int .u8 ((ce (ro a1 x10i.toNat) 1).toInt), .str ((ce (ro a1 x10i.toNat) 2).toStr), .str ((ce (ro a1 x10i.toNat) 3).toStr), .int .i64 ((ce (ro a1 x10i.toNat) 4).toInt), .bool ((ce (ro a1 x10i.toNat) 5).toBool), .int .i64 ((ce (ro a1 x10i.toNat) 6).toInt), .int .i64 ((ce (ro a1 x10i.toNat) 7).toInt), .str ((ce (ro a1 x10i.toNat) 8).toStr), .int .i64 ((ce (ro a1 x10i.toNat) 9).toInt), .sl 0 2 ((ce (ro a1 x10i.toNat) 10).slXs), .str ((ce (ro a1 x10i.toNat) 11).toStr)], .int .i64 (addW .i64 x9now (IntKind.i64.wrap ((ce (ro a1 x10i.toNat) 1).toInt)))] Hh fun v_9 H_10 =>
 G ((v_9).isTup && Nat.beq (v_9).tupVs.length 2) (G ((((v_9).tupVs).headD .any).isAgg && Nat.beq (((v_9).tupVs).headD .any).aggCs.length 2) (let q_11 : List AV := (((v_9).tupVs).headD .any).aggCs;
 G ((q_11.headD .any).isInt .i64) (G ((q_11.tail.headD .any).isSl 9) (G (((((v_9).tupVs).tail).headD .any).isBool) (cond (!(((((v_9).tupVs).tail).headD .any).toBool))
 (Q (.tup [.nilp, .agg [.int .i64 m1_0, .sl 0 9 m1_1], .int .i64 0]) H_10)
 (L0 a0 a1 Q x7sj (addW .i64 x9now (IntKind.i64.wrap ((ce (ro a1 x10i.toNat) 1).toInt))) (addW .i64 x10i 1) ((q_11.headD .any).toInt) ((q_11.tail.headD .any).slXs) H_10))))))))))))))))))))))))
 (Q (.tup [.obj x7sj 0, .agg [.int .i64 m1_0, .sl 0 9 m1_1], .int .i64 x9now]) Hh))
 (Q (.tup [.obj x7sj 0, .agg [.int .i64 m1_0, .sl 0 9 m1_1], .int .i64 x9now]) Hh)
theorem r0_eq (a0 : Int) (a1 : List (List AV)) (Q : Qt) (x7sj : Nat) (x9now x10i m1_0 : Int) (m1_1 : List (List AV)) (Hh : Heap) : (fun K s => awp E0 C (E0.L 15) (codeAt (bodyOf E0 15) [1, 1, 1, 1, 0, 1, 0, 0]) 1 s K) (ALoopK (fun K s => awp E0 C (E0.L 15) (codeAt (bodyOf E0 15) [1, 1, 1, 1, 0, 1, 0, 0]) 1 s K) (clean [(1, 0), (5, 0), (7, 0), (8, 0), (9, 0), (10, 0)] 2) (K0 Q)) ⟨stt 56 [(1, .sl 0 12 a1), (5, .ptr 0 0), (7, .obj x7sj 0), (8, .ptr 1 0), (9, .int .i64 x9now), (10, .int .i64 x10i)], [.cells [.int .i64 0, .nilsl], .cells [.int .i64 m1_0, .sl 0 9 m1_1]], Hh⟩ = r0 a0 a1 Q x7sj x9now x10i m1_0 m1_1 Hh := by kernel_rfl
theorem L0_step {a0 : Int} {a1 : List (List AV)} {Q : Qt} {x7sj : Nat} {x9now x10i m1_0 : Int} {m1_1 : List (List AV)} {Hh : Heap} (h : r0 a0 a1 Q x7sj x9now x10i m1_0 m1_1 Hh) : L0 a0 a1 Q x7sj x9now x10i m1_0 m1_1 Hh := ALoop_told (r0_eq a0 a1 Q x7sj x9now x10i m1_0 m1_1 Hh) h
def t (a0 : Int) (a1 : List (List AV)) (H : Heap) (Q : Qt) : Prop :=
 C 10 [.int .i64 a0] H fun v_1 H_2 =>
 cond ((v_1).isObj)
 (CP 11 [.int .i64 a0] H_2 fun v_3 H_4 =>
 G ((v_3).isAgg && Nat.beq (v_3).aggCs.length 2) (G ((((v_3).aggCs).headD .any).isInt .i64) (let q_5 : List AV := ((v_3).aggCs).tail;
 G ((q_5.headD .any).isSl 9) (L0 a0 a1 Q ((v_1).objJ) 0 0 ((((v_3).aggCs).headD .any).toInt) ((q_5.headD .any).slXs) H_4))))
 (G ((v_1).isNilp) (CP 11 [.int .i64 a0] H_2 fun v_6 H_7 =>
 G ((v_6).isAgg && Nat.beq (v_6).aggCs.length 2) (G ((((v_6).aggCs).headD .any).isInt .i64) (let q_8 : List AV := ((v_6).aggCs).tail;
 G ((q_8.headD .any).isSl 9) (Q (.tup [.nilp, .agg [.int .i64 ((((v_6).aggCs).headD .any).toInt), .sl 0 9 ((q_8.headD .any).slXs)], .int .i64 0]) H_7)))))
theorem t_eq (a0 : Int) (a1 : List (List AV)) (H : Heap) (Q : Qt) : aBody E0 C 15 [.int .i64 a0, .sl 0 12 a1] H Q = t a0 a1 H Q := by kernel_rfl
theorem call {a0 : Int} {a1 : List (List AV)} {H : Heap} {Q : Qt} (h : t a0 a1 H Q) : C 15 [.int .i64 a0, .sl 0 12 a1] H Q := Call_told (E := E0) (t_eq a0 a1 H Q) h
end F15
namespace F16
def K0 (Q : Qt) : Ex → St → Prop := (contK E0 C (E0.L 16) [.block 0 1, .seq (codeAt (bodyOf E0 16) [1, 1, 1]) 1] (finK E0 16 Q))
def L0 (a0j : Nat) (a1 : ByteArray) (a2 : Int) (Q : Qt) (x7l : List (List AV)) (it0s : List Nat) (it0j it0a it0b : Nat) (Hh : Heap) : Prop := ALoop (fun K s => awp E0 C (E0.L 16) (codeAt (bodyOf E0 16) [1, 1, 0, 1, 0, 0]) 1 s K) (clean [(1, 0), (2, 0), (7, 11), (14, 0)] 1) (K0 Q) ⟨stt 37 [(1, .str a1), (2, .int .i64 a2), (7, .sl 1 9 x7l), (14, .ptr 0 0)], [.miter it0j 9 32 it0a it0b it0s], Hh⟩
def r0 (a0j : Nat) (a1 : ByteArray) (a2 : Int) (Q : Qt) (x7l : List (List AV)) (it0s : List Nat) (it0j it0a it0b : Nat) (Hh : Heap) : Prop :=
 G ((Hh.get it0j).isMap && (Nat.ble it0a (Hh.get it0j).clock && (Hh.get it0j).es.all fun e => Nat.blt e.1 it0a)) ((mleft it0s (Hh.get it0j).es = [] → (ioTurn C 35 9 x7l [.fn 36 []] Hh fun y_2 H_3 =>
 Q (.sl 0 9 y_2) H_3)) ∧
 (∀ e_1 : Nat × AV × AV, e_1 ∈ mleft it0s (Hh.get it0j).es → (G ((Hh.get it0j).isMap && Nat.beq (Hh.get it0j).clock ((Hh.get it0j).clock)) (G ((mborn e_1.1 (Hh.get it0j).es).isSome) (let q_4 : AV := mkeyAt e_1.1 (Hh.get it0j).es;
 G ((q_4).isStr) (let q_5 : AV := mvalAt e_1.1 (Hh.get it0j).es;
 G ((q_5).isAgg && Nat.beq (q_5).aggCs.length 9) (G ((ce ((q_5).aggCs) 0).isStr) (G ((ce ((q_5).aggCs) 1).isStr) (G ((ce ((q_5).aggCs) 2).isInt .i64) (G ((ce ((q_5).aggCs) 3).isBool) (G ((ce ((q_5).aggCs) 4).isInt .i64) (G ((ce ((q_5).aggCs) 5).isInt .i64) (G ((ce ((q_5).aggCs) 6).isStr) (G ((ce ((q_5).aggCs) 7).isInt .i64) (G ((ce ((q_5).aggCs) 8).isSl 2) (CP 32 [.agg [.str ((ce ((q_5).aggCs) 0).toStr), .str ((ce ((q_5).aggCs) 1).toStr), .int .i64 ((ce ((q_5).aggCs) 2).toInt), .bool ((ce ((q_5).aggCs) 3).toBool), .int .i64 ((ce ((q_5).aggCs) 4).toInt), .int .i64 ((ce ((q_5).aggCs) 5).toInt), .str ((ce ((q_5).aggCs) 6).toStr), .int .i64 ((ce ((q_5).aggCs) 7).toInt), .sl 0 2 ((ce ((q_5).aggCs) 8).slXs)], .int .i64 a2] Hh fun v_6 H_7 =>
 G ((v_6).isBool) (cond (!((v_6).toBool))
 (CP 33 [.str a1, .str ((q_4).toStr)] H_7 fun v_8 H_9 =>
 G ((v_8).isBool) (cond ((v_8).toBool)
 (CP 34 [.agg [.str ((ce ((q_5).aggCs) 0).toStr), .str ((ce ((q_5).aggCs) 1).toStr), .int .i64 ((ce ((q_5).aggCs) 2).toInt), .bool ((ce ((q_5).aggCs) 3).toBool), .int .i64 ((ce ((q_5).aggCs) 4).toInt), .int .i64 ((ce ((q_5).aggCs) 5).toInt), .str ((ce ((q_5).aggCs) 6).toStr), .int .i64 ((ce ((q_5).aggCs) 7).toInt), .sl 0 2 ((ce ((q_5).aggCs) 8).slXs)]] H_9 fun v_10 H_11 =>
 G ((v_10).isAgg && Nat.beq (v_10).aggCs.length 9) (G ((((v_10).aggCs).headD .any).isStr) (let q_12 : List AV := ((v_10).aggCs).tail;
 G ((q_12.headD .any).isStr) (G ((q_12.tail.headD .any).isInt .i64) (G ((q_12.tail.tail.headD .any).isBool) (let q_13 : List AV := q_12.tail.tail.tail;
 G ((q_13.headD .any).isInt .i64) (G ((q_13.tail.headD .any).isInt .i64) (G ((q_13.tail.tail.headD .any).isStr) (let q_14 : List AV := q_13.tail.tail.tail;
 G ((q_14.headD .any).isInt .i64) (G ((q_14.tail.headD .any).isSl 2) (G (room x7l [[.str ((((v_10).aggCs).headD .any).toStr), .str ((q_12.headD .any).toStr), .int .i64 ((q_12.tail.headD .any).toInt), .bool ((q_12.tail.tail.headD .any).toBool), .int .i64 ((q_13.headD .any).toInt), .int .i64 ((q_13.tail.headD .any).toInt), .str ((q_13.tail.tail.headD .any).toStr), .int .i64 ((q_14.headD .any).toInt), .sl 0 2 ((q_14.tail.headD .any).slXs)]] 112) (L0 a0j a1 a2 Q (x7l ++ [[.str ((((v_10).aggCs).headD .any).toStr), .str ((q_12.headD .any).toStr), .int .i64 ((q_12.tail.headD .any).toInt), .bool ((q_12.tail.tail.headD .any).toBool), .int .i64 ((q_13.headD .any).toInt), .int .i64 ((q_13.tail.headD .any).toInt), .str ((q_13.tail.tail.headD .any).toStr), .int .i64 ((q_14.headD .any).toInt), .sl 0 2 ((q_14.tail.headD .any).slXs)]]) (e_1.1 :: it0s) it0j it0a ((Hh.get it0j).clock) H_11))))))))))))
 (L0 a0j a1 a2 Q x7l (e_1.1 :: it0s) it0j it0a ((Hh.get it0j).clock) H_9)))
 (L0 a0j a1 a2 Q x7l (e_1.1 :: it0s) it0j it0a ((Hh.get it0j).clock) H_7))))))))))))))))))
theorem r0_eq (a0j : Nat) (a1 : ByteArray) (a2 : Int) (Q : Qt) (x7l : List (List AV)) (it0s : List Nat) (it0j it0a it0b : Nat) (Hh : Heap) : (fun K s => awp E0 C (E0.L 16) (codeAt (bodyOf E0 16) [1, 1, 0, 1, 0, 0]) 1 s K) (ALoopK (fun K s => awp E0 C (E0.L 16) (codeAt (bodyOf E0 16) [1, 1, 0, 1, 0, 0]) 1 s K) (clean [(1, 0), (2, 0), (7, 11), (14, 0)] 1) (K0 Q)) ⟨stt 37 [(1, .str a1), (2, .int .i64 a2), (7, .sl 1 9 x7l), (14, .ptr 0 0)], [.miter it0j 9 32 it0a it0b it0s], Hh⟩ = r0 a0j a1 a2 Q x7l it0s it0j it0a it0b Hh := by kernel_rfl
theorem L0_step {a0j : Nat} {a1 : ByteArray} {a2 : Int} {Q : Qt} {x7l : List (List AV)} {it0s : List Nat} {it0j it0a it0b : Nat} {Hh : Heap} (h : r0 a0j a1 a2 Q x7l it0s it0j it0a it0b Hh) : L0 a0j a1 a2 Q x7l it0s it0j it0a it0b Hh := ALoop_told (r0_eq a0j a1 a2 Q x7l it0s it0j it0a it0b Hh) h
def t (a0j : Nat) (a1 : ByteArray) (a2 : Int) (H : Heap) (Q : Qt) : Prop :=
 G ((H.get a0j).isCells) (cond ((ce ((H.get a0j).cs) 1).isMap)
 (G ((H.get ((ce ((H.get a0j).cs) 1).mapJ)).isMap) (L0 a0j a1 a2 Q [] [] ((ce ((H.get a0j).cs) 1).mapJ) ((H.get ((ce ((H.get a0j).cs) 1).mapJ)).clock) ((H.get ((ce ((H.get a0j).cs) 1).mapJ)).clock) H))
 (G ((ce ((H.get a0j).cs) 1).isNilmap) (False)))
theorem t_eq (a0j : Nat) (a1 : ByteArray) (a2 : Int) (H : Heap) (Q : Qt) : aBody E0 C 16 [.obj a0j 0, .str a1, .int .i64 a2] H Q = t a0j a1 a2 H Q := by kernel_rfl
theorem call {a0j : Nat} {a1 : ByteArray} {a2 : Int} {H : Heap} {Q : Qt} (h : t a0j a1 a2 H Q) : C 16 [.obj a0j 0, .str a1, .int .i64 a2] H Q := Call_told (E := E0) (t_eq a0j a1 a2 H Q) h
end F16
namespace F17
def t (a0j : Nat) (a1 : ByteArray) (a2 : Int) (H : Heap) (Q : Qt) : Prop :=
 G ((H.get a0j).isCells) (cond ((ce ((H.get a0j).cs) 1).isMap)
 (G ((H.get ((ce ((H.get a0j).cs) 1).mapJ)).isMapOf [.str] false) (cond (mhas (.str a1) (H.get ((ce ((H.get a0j).cs) 1).mapJ)).es)
 (let q_1 : AV := mget (.str a1) (H.get ((ce ((H.get a0j).cs) 1).mapJ)).es;
 G ((q_1).isAgg && Nat.beq (q_1).aggCs.length 9) (G ((ce ((q_1).aggCs) 0).isStr) (G ((ce ((q_1).aggCs) 1).isStr) (G ((ce ((q_1).aggCs) 2).isInt .i64) (G ((ce ((q_1).aggCs) 3).isBool) (G ((ce ((q_1).aggCs) 4).isInt .i64) (G ((ce ((q_1).aggCs) 5).isInt .i64) (G ((ce ((q_1).aggCs) 6).isStr) (G ((ce ((q_1).aggCs) 7).isInt .i64) (G ((ce ((q_1).aggCs) 8).isSl 2) (CP 32 [.agg [.str ((ce ((q_1).aggCs) 0).toStr), .str ((ce ((q_1).aggCs) 1).toStr), .int .i64 ((ce ((q_1).aggCs) 2).toInt), .bool ((ce ((q_1).aggCs) 3).toBool), .int .i64 ((ce ((q_1).aggCs) 4).toInt), .int .i64 ((ce ((q_1).aggCs) 5).toInt), .str ((ce ((q_1).aggCs) 6).toStr), .int .i64 ((ce ((q_1).aggCs) 7).toInt), .sl 0 2 ((ce ((q_1).aggCs) 8).slXs)], .int .i64 a2] H fun v_2 H_3 =>
 G ((v_2).isBool) (cond ((v_2).toBool)
 (Q (.tup [.agg [.str (⟨#[]⟩ : ByteArray), .str (⟨#[]⟩ : ByteArray), .int .i64 0, .bool false, .int .i64 0, .int .i64 0, .str (⟨#[]⟩ : ByteArray), .int .i64 0, .nilsl], .bool false]) H_3)
 (CP 34 [.agg [.str ((ce ((q_1).aggCs) 0).toStr), .str ((ce ((q_1).aggCs) 1).toStr), .int .i64 ((ce ((q_1).aggCs) 2).toInt), .bool ((ce ((q_1).aggCs) 3).toBool), .int .i64 ((ce ((q_1).aggCs) 4).toInt), .int .i64 ((ce ((q_1).aggCs) 5).toInt), .str ((ce ((q_1).aggCs) 6).toStr), .int .i64 ((ce ((q_1).aggCs) 7).toInt), .sl 0 2 ((ce ((q_1).aggCs) 8).slXs)]] H_3 fun v_4 H_5 =>
 G ((v_4).isAgg && Nat.beq (v_4).aggCs.length 9) (G ((((v_4).aggCs).headD .any).isStr) (let q_6 : List AV := ((v_4).aggCs).tail;
 G ((q_6.headD .any).isStr) (G ((q_6.tail.headD .any).isInt .i64) (G ((q_6.tail.tail.headD .any).isBool) (let q_7 : List AV := q_6.tail.tail.tail;
 G ((q_7.headD .any).isInt .i64) (G ((q_7.tail.headD .any).isInt .i64) (G ((q_7.tail.tail.headD .any).isStr) (let q_8 : List AV := q_7.tail.tail.tail;
 G ((q_8.headD .any).isInt .i64) (G ((q_8.tail.headD .any).isSl 2) (Q (.tup [.agg [.str ((((v_4).aggCs).headD .any).toStr), .str ((q_6.headD .any).toStr), .int .i64 ((q_6.tail.headD .any).toInt), .bool ((q_6.tail.tail.headD .any).toBool), .int .i64 ((q_7.headD .any).toInt), .int .i64 ((q_7.tail.headD .any).toInt), .str ((q_7.tail.tail.headD .any).toStr), .int .i64 ((q_8.headD .any).toInt), .sl 0 2 ((q_8.tail.headD .any).slXs)], .bool true]) H_5)))))))))))))))))))))))
 (Q (.tup [.agg [.str (⟨#[]⟩ : ByteArray), .str (⟨#[]⟩ : ByteArray), .int .i64 0, .bool false, .int .i64 0, .int .i64 0, .str (⟨#[]⟩ : ByteArray), .int .i64 0, .nilsl], .bool false]) H)))
 (G ((ce ((H.get a0j).cs) 1).isNilmap) (False)))
theorem t_eq (a0j : Nat) (a1 : ByteArray) (a2 : Int) (H : Heap) (Q : Qt) : aBody E0 C 17 [.obj a0j 0, .str a1, .int .i64 a2] H Q = t a0j a1 a2 H Q := by kernel_rfl
theorem call {a0j : Nat} {a1 : ByteArray} {a2 : Int} {H : Heap} {Q : Qt} (h : t a0j a1 a2 H Q) : C 17 [.obj a0j 0, .str a1, .int .i64 a2] H Q := Call_told (E := E0) (t_eq a0j a1 a2 H Q) h
end F17
namespace F18
def t (a0_0 a0_1 : ByteArray) (a0_2 : Int) (a0_3 : Bool) (a0_4 a0_5 : Int) (a0_6 : ByteArray) (a0_7 : Int) (a0_8 : List (List AV)) (a1_0 a1_1 : ByteArray) (a1_2 : Int) (a1_3 : Bool) (a1_4 a1_5 : Int) (a1_6 : ByteArray) (a1_7 : Int) (a1_8 : List (List AV)) (H : Heap) (Q : Qt) : Prop :=
 cond (eqS a0_0 a1_0)
 (cond (eqS a0_1 a1_1)
 (cond (eqI a0_2 a1_2)
 (cond (a0_3 == a1_3)
 (cond (eqI a0_4 a1_4)
 (cond (eqI a0_5 a1_5)
 (cond (eqS a0_6 a1_6)
 (cond (eqI a0_7 a1_7)
 (CP 38 [.sl 0 2 a0_8, .sl 0 2 a1_8] H fun v_1 H_2 =>
 G ((v_1).isBool) (Q (.bool ((v_1).toBool)) H_2))
 (Q (.bool false) H))
 (Q (.bool false) H))
 (Q (.bool false) H))
 (Q (.bool false) H))
 (Q (.bool false) H))
 (Q (.bool false) H))
 (Q (.bool false) H))
 (Q (.bool false) H)
theorem t_eq (a0_0 a0_1 : ByteArray) (a0_2 : Int) (a0_3 : Bool) (a0_4 a0_5 : Int) (a0_6 : ByteArray) (a0_7 : Int) (a0_8 : List (List AV)) (a1_0 a1_1 : ByteArray) (a1_2 : Int) (a1_3 : Bool) (a1_4 a1_5 : Int) (a1_6 : ByteArray) (a1_7 : Int) (a1_8 : List (List AV)) (H : Heap) (Q : Qt) : aBody E0 C 18 [.agg [.str a0_0, .str a0_1, .int .i64 a0_2, .bool a0_3, .int .i64 a0_4, .int .i64 a0_5, .str a0_6, .int .i64 a0_7, .sl 0 2 a0_8], .agg [.str a1_0, .str a1_1, .int .i64 a1_2, .bool a1_3, .int .i64 a1_4, .int .i64 a1_5, .str a1_6, .int .i64 a1_7, .sl 0 2 a1_8]] H Q = t a0_0 a0_1 a0_2 a0_3 a0_4 a0_5 a0_6 a0_7 a0_8 a1_0 a1_1 a1_2 a1_3 a1_4 a1_5 a1_6 a1_7 a1_8 H Q := by kernel_rfl
theorem call {a0_0 a0_1 : ByteArray} {a0_2 : Int} {a0_3 : Bool} {a0_4 a0_5 : Int} {a0_6 : ByteArray} {a0_7 : Int} {a0_8 : List (List AV)} {a1_0 a1_1 : ByteArray} {a1_2 : Int} {a1_3 : Bool} {a1_4 a1_5 : Int} {a1_6 : ByteArray} {a1_7 : Int} {a1_8 : List (List AV)} {H : Heap} {Q : Qt} (h : t a0_0 a0_1 a0_2 a0_3 a0_4 a0_5 a0_6 a0_7 a0_8 a1_0 a1_1 a1_2 a1_3 a1_4 a1_5 a1_6 a1_7 a1_8 H Q) : C 18 [.agg [.str a0_0, .str a0_1, .int .i64 a0_2, .bool a0_3, .int .i64 a0_4, .int .i64 a0_5, .str a0_6, .int .i64 a0_7, .sl 0 2 a0_8], .agg [.str a1_0, .str a1_1, .int .i64 a1_2, .bool a1_3, .int .i64 a1_4, .int .i64 a1_5, .str a1_6, .int .i64 a1_7, .sl 0 2 a1_8]] H Q := Call_told (E := E0) (t_eq a0_0 a0_1 a0_2 a0_3 a0_4 a0_5 a0_6 a0_7 a0_8 a1_0 a1_1 a1_2 a1_3 a1_4 a1_5 a1_6 a1_7 a1_8 H Q) h
end F18
namespace F19
def t (a0 a1 : ByteArray) (H : Heap) (Q : Qt) : Prop :=
 CP 39 [.str a0] H fun v_1 H_2 =>
 G ((v_1).isBool) (cond (!((v_1).toBool))
 (Q (.bool false) H_2)
 (CP 40 [.str a1] H_2 fun v_3 H_4 =>
 G ((v_3).isBool) (cond (!((v_3).toBool))
 (Q (.bool false) H_4)
 (CP 41 [.str a0] H_4 fun v_5 H_6 =>
 G ((v_5).isSl 1) (CP 42 [.sl 0 1 ((v_5).slXs)] H_6 fun v_7 H_8 =>
 G ((v_7).isBool) (cond ((v_7).toBool)
 (CP 43 [.str a1] H_8 fun v_9 H_10 =>
 G ((v_9).isBool) (cond (!((v_9).toBool))
 (CP 41 [.str a1] H_10 fun v_11 H_12 =>
 G ((v_11).isSl 1) (CP 44 [.sl 0 1 ((v_5).slXs), .sl 0 1 ((v_11).slXs), .int .i64 0, .int .i64 0] H_12 fun v_13 H_14 =>
 G ((v_13).isBool) (Q (.bool ((v_13).toBool)) H_14)))
 (Q (.bool false) H_10)))
 (CP 41 [.str a1] H_8 fun v_15 H_16 =>
 G ((v_15).isSl 1) (CP 44 [.sl 0 1 ((v_5).slXs), .sl 0 1 ((v_15).slXs), .int .i64 0, .int .i64 0] H_16 fun v_17 H_18 =>
 G ((v_17).isBool) (Q (.bool ((v_17).toBool)) H_18)))))))))
theorem t_eq (a0 a1 : ByteArray) (H : Heap) (Q : Qt) : aBody E0 C 19 [.str a0, .str a1] H Q = t a0 a1 H Q := by kernel_rfl
theorem call {a0 a1 : ByteArray} {H : Heap} {Q : Qt} (h : t a0 a1 H Q) : C 19 [.str a0, .str a1] H Q := Call_told (E := E0) (t_eq a0 a1 H Q) h
end F19
namespace F21
def t (a0_0 : Int) (a0_1 : List (List AV)) (a1_0 a1_1 : ByteArray) (a1_2 : Int) (a1_3 : Bool) (a1_4 a1_5 : Int) (a1_6 : ByteArray) (a1_7 : Int) (a1_8 : List (List AV)) (a2 : Int) (H : Heap) (Q : Qt) : Prop :=
 CP 27 [.agg [.str a1_0, .str a1_1, .int .i64 a1_2, .bool a1_3, .int .i64 a1_4, .int .i64 a1_5, .str a1_6, .int .i64 a1_7, .sl 0 2 a1_8]] H fun v_1 H_2 =>
 G ((v_1).isInt .i64) (cond (!(eqI ((v_1).toInt) 0))
 (Q (.tup [.agg [.int .i64 a0_0, .sl 0 9 a0_1], .int .i64 ((v_1).toInt)]) H_2)
 (cond (eqS a1_1 (⟨#[]⟩ : ByteArray))
 (CP 45 [.sl 0 9 a0_1, .str a1_0] H_2 fun v_3 H_4 =>
 G ((v_3).isSl 9) (Q (.tup [.agg [.int .i64 a0_0, .sl 0 9 ((v_3).slXs)], .int .i64 0]) H_4))
 (CP 24 [.agg [.str a1_0, .str a1_1, .int .i64 a1_2, .bool a1_3, .int .i64 a1_4, .int .i64 a1_5, .str a1_6, .int .i64 a1_7, .sl 0 2 a1_8], .int .i64 a2] H_2 fun v_5 H_6 =>
 G ((v_5).isBool) (cond ((v_5).toBool)
 (CP 45 [.sl 0 9 a0_1, .str a1_0] H_6 fun v_7 H_8 =>
 G ((v_7).isSl 9) (Q (.tup [.agg [.int .i64 a0_0, .sl 0 9 ((v_7).slXs)], .int .i64 0]) H_8))
 (CP 46 [.sl 0 9 a0_1, .str a1_0] H_6 fun v_9 H_10 =>
 G ((v_9).isInt .i64) (cond (ltI ((v_9).toInt) 0)
 (cond (leI a0_0 (lenI a0_1))
 (CP 47 [.sl 0 9 a0_1, .int .i64 a2] H_10 fun v_11 H_12 =>
 G ((v_11).isSl 9) (cond (leI a0_0 (lenI ((v_11).slXs)))
 (Q (.tup [.agg [.int .i64 a0_0, .sl 0 9 ((v_11).slXs)], .int .i64 6]) H_12)
 (CP 45 [.sl 0 9 ((v_11).slXs), .str a1_0] H_12 fun v_13 H_14 =>
 G ((v_13).isSl 9) (CP 48 [.sl 0 9 ((v_13).slXs), .agg [.str a1_0, .str a1_1, .int .i64 a1_2, .bool a1_3, .int .i64 a1_4, .int .i64 a1_5, .str a1_6, .int .i64 a1_7, .sl 0 2 a1_8]] H_14 fun v_15 H_16 =>
 G ((v_15).isSl 9) (Q (.tup [.agg [.int .i64 a0_0, .sl 0 9 ((v_15).slXs)], .int .i64 0]) H_16)))))
 (CP 45 [.sl 0 9 a0_1, .str a1_0] H_10 fun v_17 H_18 =>
 G ((v_17).isSl 9) (CP 48 [.sl 0 9 ((v_17).slXs), .agg [.str a1_0, .str a1_1, .int .i64 a1_2, .bool a1_3, .int .i64 a1_4, .int .i64 a1_5, .str a1_6, .int .i64 a1_7, .sl 0 2 a1_8]] H_18 fun v_19 H_20 =>
 G ((v_19).isSl 9) (Q (.tup [.agg [.int .i64 a0_0, .sl 0 9 ((v_19).slXs)], .int .i64 0]) H_20))))
 (CP 45 [.sl 0 9 a0_1, .str a1_0] H_10 fun v_21 H_22 =>
 G ((v_21).isSl 9) (CP 48 [.sl 0 9 ((v_21).slXs), .agg [.str a1_0, .str a1_1, .int .i64 a1_2, .bool a1_3, .int .i64 a1_4, .int .i64 a1_5, .str a1_6, .int .i64 a1_7, .sl 0 2 a1_8]] H_22 fun v_23 H_24 =>
 G ((v_23).isSl 9) (Q (.tup [.agg [.int .i64 a0_0, .sl 0 9 ((v_23).slXs)], .int .i64 0]) H_24)))))))))
theorem t_eq (a0_0 : Int) (a0_1 : List (List AV)) (a1_0 a1_1 : ByteArray) (a1_2 : Int) (a1_3 : Bool) (a1_4 a1_5 : Int) (a1_6 : ByteArray) (a1_7 : Int) (a1_8 : List (List AV)) (a2 : Int) (H : Heap) (Q : Qt) : aBody E0 C 21 [.agg [.int .i64 a0_0, .sl 0 9 a0_1], .agg [.str a1_0, .str a1_1, .int .i64 a1_2, .bool a1_3, .int .i64 a1_4, .int .i64 a1_5, .str a1_6, .int .i64 a1_7, .sl 0 2 a1_8], .int .i64 a2] H Q = t a0_0 a0_1 a1_0 a1_1 a1_2 a1_3 a1_4 a1_5 a1_6 a1_7 a1_8 a2 H Q := by kernel_rfl
theorem call {a0_0 : Int} {a0_1 : List (List AV)} {a1_0 a1_1 : ByteArray} {a1_2 : Int} {a1_3 : Bool} {a1_4 a1_5 : Int} {a1_6 : ByteArray} {a1_7 : Int} {a1_8 : List (List AV)} {a2 : Int} {H : Heap} {Q : Qt} (h : t a0_0 a0_1 a1_0 a1_1 a1_2 a1_3 a1_4 a1_5 a1_6 a1_7 a1_8 a2 H Q) : C 21 [.agg [.int .i64 a0_0, .sl 0 9 a0_1], .agg [.str a1_0, .str a1_1, .int .i64 a1_2, .bool a1_3, .int .i64 a1_4, .int .i64 a1_5, .str a1_6, .int .i64 a1_7, .sl 0 2 a1_8], .int .i64 a2] H Q := Call_told (E := E0) (t_eq a0_0 a0_1 a1_0 a1_1 a1_2 a1_3 a1_4 a1_5 a1_6 a1_7 a1_8 a2 H Q) h
end F21
namespace F22
def t (a0j : Nat) (a1_0 a1_1 : ByteArray) (a1_2 : Int) (a1_3 : Bool) (a1_4 a1_5 : Int) (a1_6 : ByteArray) (a1_7 : Int) (a1_8 : List (List AV)) (a2 : Int) (H : Heap) (Q : Qt) : Prop :=
 CP 49 [.agg [.str a1_0, .str a1_1, .int .i64 a1_2, .bool a1_3, .int .i64 a1_4, .int .i64 a1_5, .str a1_6, .int .i64 a1_7, .sl 0 2 a1_8]] H fun v_1 H_2 =>
 G ((v_1).isInt .i64) (cond (!(eqI ((v_1).toInt) 0))
 (Q (.int .i64 ((v_1).toInt)) H_2)
 (cond (!a1_3)
 (Q (.int .i64 28) H_2)
 (cond (eqS a1_1 (⟨#[]⟩ : ByteArray))
 (G ((H_2.get a0j).isCells) (cond ((ce ((H_2.get a0j).cs) 1).isMap)
 (G ((H_2.get ((ce ((H_2.get a0j).cs) 1).mapJ)).isMapOf [.str] false) (let H_3 : Heap := H_2.set ((ce ((H_2.get a0j).cs) 1).mapJ) (.map (mdel (.str a1_0) (H_2.get ((ce ((H_2.get a0j).cs) 1).mapJ)).es) (H_2.get ((ce ((H_2.get a0j).cs) 1).mapJ)).clock);
 Q (.int .i64 0) H_3))
 (G ((ce ((H_2.get a0j).cs) 1).isNilmap) (False))))
 (CP 32 [.agg [.str a1_0, .str a1_1, .int .i64 a1_2, .bool a1_3, .int .i64 a1_4, .int .i64 a1_5, .str a1_6, .int .i64 a1_7, .sl 0 2 a1_8], .int .i64 a2] H_2 fun v_4 H_5 =>
 G ((v_4).isBool) (cond ((v_4).toBool)
 (G ((H_5.get a0j).isCells) (cond ((ce ((H_5.get a0j).cs) 1).isMap)
 (G ((H_5.get ((ce ((H_5.get a0j).cs) 1).mapJ)).isMapOf [.str] false) (let H_6 : Heap := H_5.set ((ce ((H_5.get a0j).cs) 1).mapJ) (.map (mdel (.str a1_0) (H_5.get ((ce ((H_5.get a0j).cs) 1).mapJ)).es) (H_5.get ((ce ((H_5.get a0j).cs) 1).mapJ)).clock);
 Q (.int .i64 0) H_6))
 (G ((ce ((H_5.get a0j).cs) 1).isNilmap) (False))))
 (G ((H_5.get a0j).isCells) (cond ((ce ((H_5.get a0j).cs) 1).isMap)
 (G ((H_5.get ((ce ((H_5.get a0j).cs) 1).mapJ)).isMapOf [.str] false) (cond (mhas (.str a1_0) (H_5.get ((ce ((H_5.get a0j).cs) 1).mapJ)).es)
 (let q_7 : AV := mget (.str a1_0) (H_5.get ((ce ((H_5.get a0j).cs) 1).mapJ)).es;
 G ((q_7).isAgg && Nat.beq (q_7).aggCs.length 9) (G ((ce ((q_7).aggCs) 0).isStr) (G ((ce ((q_7).aggCs) 1).isStr) (G ((ce ((q_7).aggCs) 2).isInt .i64) (G ((ce ((q_7).aggCs) 3).isBool) (G ((ce ((q_7).aggCs) 4).isInt .i64) (G ((ce ((q_7).aggCs) 5).isInt .i64) (G ((ce ((q_7).aggCs) 6).isStr) (G ((ce ((q_7).aggCs) 7).isInt .i64) (G ((ce ((q_7).aggCs) 8).isSl 2) (G ((H_5.get a0j).isCells) (cond ((ce ((H_5.get a0j).cs) 1).isMap)
 (CP 34 [.agg [.str a1_0, .str a1_1, .int .i64 a1_2, .bool a1_3, .int .i64 a1_4, .int .i64 a1_5, .str a1_6, .int .i64 a1_7, .sl 0 2 a1_8]] H_5 fun v_8 H_9 =>
 G ((v_8).isAgg && Nat.beq (v_8).aggCs.length 9) (G ((((v_8).aggCs).headD .any).isStr) (let q_10 : List AV := ((v_8).aggCs).tail;
 G ((q_10.headD .any).isStr) (G ((q_10.tail.headD .any).isInt .i64) (G ((q_10.tail.tail.headD .any).isBool) (let q_11 : List AV := q_10.tail.tail.tail;
 G ((q_11.headD .any).isInt .i64) (G ((q_11.tail.headD .any).isInt .i64) (G ((q_11.tail.tail.headD .any).isStr) (let q_12 : List AV := q_11.tail.tail.tail;
 G ((q_12.headD .any).isInt .i64) (G ((q_12.tail.headD .any).isSl 2) (G ((H_9.get ((ce ((H_5.get a0j).cs) 1).mapJ)).isMapOf [.str] false) (let H_13 : Heap := H_9.set ((ce ((H_5.get a0j).cs) 1).mapJ) (.map (mput (.str a1_0) (.agg [.str ((((v_8).aggCs).headD .any).toStr), .str ((q_10.headD .any).toStr), .int .i64 ((q_10.tail.headD .any).toInt), .bool ((q_10.tail.tail.headD .any).toBool), .int .i64 ((q_11.headD .any).toInt), .int .i64 ((q_11.tail.headD .any).toInt), .str ((q_11.tail.tail.headD .any).toStr), .int .i64 ((q_12.headD .any).toInt), .sl 0 2 ((q_12.tail.headD .any).slXs)]) (H_9.get ((ce ((H_5.get a0j).cs) 1).mapJ)).clock (H_9.get ((ce ((H_5.get a0j).cs) 1).mapJ)).es) (cond (mhas (.str a1_0) (H_9.get ((ce ((H_5.get a0j).cs) 1).mapJ)).es) (H_9.get ((ce ((H_5.get a0j).cs) 1).mapJ)).clock ((H_9.get ((ce ((H_5.get a0j).cs) 1).mapJ)).clock + 1)));
 Q (.int .i64 0) H_13))))))))))))
 (G ((ce ((H_5.get a0j).cs) 1).isNilmap) (CP 34 [.agg [.str a1_0, .str a1_1, .int .i64 a1_2, .bool a1_3, .int .i64 a1_4, .int .i64 a1_5, .str a1_6, .int .i64 a1_7, .sl 0 2 a1_8]] H_5 fun v_14 H_15 =>
 G ((v_14).isAgg && Nat.beq (v_14).aggCs.length 9) (G ((((v_14).aggCs).headD .any).isStr) (let q_16 : List AV := ((v_14).aggCs).tail;
 G ((q_16.headD .any).isStr) (G ((q_16.tail.headD .any).isInt .i64) (G ((q_16.tail.tail.headD .any).isBool) (let q_17 : List AV := q_16.tail.tail.tail;
 G ((q_17.headD .any).isInt .i64) (G ((q_17.tail.headD .any).isInt .i64) (G ((q_17.tail.tail.headD .any).isStr) (let q_18 : List AV := q_17.tail.tail.tail;
 G ((q_18.headD .any).isInt .i64) (G ((q_18.tail.headD .any).isSl 2) (False))))))))))))))))))))))))
 (G ((H_5.get a0j).isCells) (cond ((ce ((H_5.get a0j).cs) 1).isMap)
 (G ((H_5.get ((ce ((H_5.get a0j).cs) 1).mapJ)).isMap) (G ((H_5.get a0j).isCells) (G ((ce ((H_5.get a0j).cs) 0).isInt .i64) (cond (leI ((ce ((H_5.get a0j).cs) 0).toInt) (lenI (H_5.get ((ce ((H_5.get a0j).cs) 1).mapJ)).es))
 (C 25 [.obj a0j 0, .int .i64 a2] H_5 fun v_19 H_20 =>
 G ((v_19).isInt .i64) (G ((H_20.get a0j).isCells) (cond ((ce ((H_20.get a0j).cs) 1).isMap)
 (G ((H_20.get ((ce ((H_20.get a0j).cs) 1).mapJ)).isMap) (G ((H_20.get a0j).isCells) (G ((ce ((H_20.get a0j).cs) 0).isInt .i64) (cond (leI ((ce ((H_20.get a0j).cs) 0).toInt) (lenI (H_20.get ((ce ((H_20.get a0j).cs) 1).mapJ)).es))
 (Q (.int .i64 6) H_20)
 (G ((H_20.get a0j).isCells) (cond ((ce ((H_20.get a0j).cs) 1).isMap)
 (CP 34 [.agg [.str a1_0, .str a1_1, .int .i64 a1_2, .bool a1_3, .int .i64 a1_4, .int .i64 a1_5, .str a1_6, .int .i64 a1_7, .sl 0 2 a1_8]] H_20 fun v_21 H_22 =>
 G ((v_21).isAgg && Nat.beq (v_21).aggCs.length 9) (G ((((v_21).aggCs).headD .any).isStr) (let q_23 : List AV := ((v_21).aggCs).tail;
 G ((q_23.headD .any).isStr) (G ((q_23.tail.headD .any).isInt .i64) (G ((q_23.tail.tail.headD .any).isBool) (let q_24 : List AV := q_23.tail.tail.tail;
 G ((q_24.headD .any).isInt .i64) (G ((q_24.tail.headD .any).isInt .i64) (G ((q_24.tail.tail.headD .any).isStr) (let q_25 : List AV := q_24.tail.tail.tail;
 G ((q_25.headD .any).isInt .i64) (G ((q_25.tail.headD .any).isSl 2) (G ((H_22.get ((ce ((H_20.get a0j).cs) 1).mapJ)).isMapOf [.str] false) (let H_26 : Heap := H_22.set ((ce ((H_20.get a0j).cs) 1).mapJ) (.map (mput (.str a1_0) (.agg [.str ((((v_21).aggCs).headD .any).toStr), .str ((q_23.headD .any).toStr), .int .i64 ((q_23.tail.headD .any).toInt), .bool ((q_23.tail.tail.headD .any).toBool), .int .i64 ((q_24.headD .any).toInt), .int .i64 ((q_24.tail.headD .any).toInt), .str ((q_24.tail.tail.headD .any).toStr), .int .i64 ((q_25.headD .any).toInt), .sl 0 2 ((q_25.tail.headD .any).slXs)]) (H_22.get ((ce ((H_20.get a0j).cs) 1).mapJ)).clock (H_22.get ((ce ((H_20.get a0j).cs) 1).mapJ)).es) (cond (mhas (.str a1_0) (H_22.get ((ce ((H_20.get a0j).cs) 1).mapJ)).es) (H_22.get ((ce ((H_20.get a0j).cs) 1).mapJ)).clock ((H_22.get ((ce ((H_20.get a0j).cs) 1).mapJ)).clock + 1)));
 Q (.int .i64 0) H_26))))))))))))
 (G ((ce ((H_20.get a0j).cs) 1).isNilmap) (CP 34 [.agg [.str a1_0, .str a1_1, .int .i64 a1_2, .bool a1_3, .int .i64 a1_4, .int .i64 a1_5, .str a1_6, .int .i64 a1_7, .sl 0 2 a1_8]] H_20 fun v_27 H_28 =>
 G ((v_27).isAgg && Nat.beq (v_27).aggCs.length 9) (G ((((v_27).aggCs).headD .any).isStr) (let q_29 : List AV := ((v_27).aggCs).tail;
 G ((q_29.headD .any).isStr) (G ((q_29.tail.headD .any).isInt .i64) (G ((q_29.tail.tail.headD .any).isBool) (let q_30 : List AV := q_29.tail.tail.tail;
 G ((q_30.headD .any).isInt .i64) (G ((q_30.tail.headD .any).isInt .i64) (G ((q_30.tail.tail.headD .any).isStr) (let q_31 : List AV := q_30.tail.tail.tail;
 G ((q_31.headD .any).isInt .i64) (G ((q_31.tail.headD .any).isSl 2) (False))))))))))))))))))
 (G ((ce ((H_20.get a0j).cs) 1).isNilmap) (False)))))
 (G ((H_5.get a0j).isCells) (cond ((ce ((H_5.get a0j).cs) 1).isMap)
 (CP 34 [.agg [.str a1_0, .str a1_1, .int .i64 a1_2, .bool a1_3, .int .i64 a1_4, .int .i64 a1_5, .str a1_6, .int .i64 a1_7, .sl 0 2 a1_8]] H_5 fun v_32 H_33 =>
 G ((v_32).isAgg && Nat.beq (v_32).aggCs.length 9) (G ((((v_32).aggCs).headD .any).isStr) (let q_34 : List AV := ((v_32).aggCs).tail;
 G ((q_34.headD .any).isStr) (G ((q_34.tail.headD .any).isInt .i64) (G ((q_34.tail.tail.headD .any).isBool) (let q_35 : List AV := q_34.tail.tail.tail;
 G ((q_35.headD .any).isInt .i64) (G ((q_35.tail.headD .any).isInt .i64) (G ((q_35.tail.tail.headD .any).isStr) (let q_36 : List AV := q_35.tail.tail.tail;
 G ((q_36.headD .any).isInt .i64) (G ((q_36.tail.headD .any).isSl 2) (G ((H_33.get ((ce ((H_5.get a0j).cs) 1).mapJ)).isMapOf [.str] false) (let H_37 : Heap := H_33.set ((ce ((H_5.get a0j).cs) 1).mapJ) (.map (mput (.str a1_0) (.agg [.str ((((v_32).aggCs).headD .any).toStr), .str ((q_34.headD .any).toStr), .int .i64 ((q_34.tail.headD .any).toInt), .bool ((q_34.tail.tail.headD .any).toBool), .int .i64 ((q_35.headD .any).toInt), .int .i64 ((q_35.tail.headD .any).toInt), .str ((q_35.tail.tail.headD .any).toStr), .int .i64 ((q_36.headD .any).toInt), .sl 0 2 ((q_36.tail.headD .any).slXs)]) (H_33.get ((ce ((H_5.get a0j).cs) 1).mapJ)).clock (H_33.get ((ce ((H_5.get a0j).cs) 1).mapJ)).es) (cond (mhas (.str a1_0) (H_33.get ((ce ((H_5.get a0j).cs) 1).mapJ)).es) (H_33.get ((ce ((H_5.get a0j).cs) 1).mapJ)).clock ((H_33.get ((ce ((H_5.get a0j).cs) 1).mapJ)).clock + 1)));
 Q (.int .i64 0) H_37))))))))))))
 (G ((ce ((H_5.get a0j).cs) 1).isNilmap) (CP 34 [.agg [.str a1_0, .str a1_1, .int .i64 a1_2, .bool a1_3, .int .i64 a1_4, .int .i64 a1_5, .str a1_6, .int .i64 a1_7, .sl 0 2 a1_8]] H_5 fun v_38 H_39 =>
 G ((v_38).isAgg && Nat.beq (v_38).aggCs.length 9) (G ((((v_38).aggCs).headD .any).isStr) (let q_40 : List AV := ((v_38).aggCs).tail;
 G ((q_40.headD .any).isStr) (G ((q_40.tail.headD .any).isInt .i64) (G ((q_40.tail.tail.headD .any).isBool) (let q_41 : List AV := q_40.tail.tail.tail;
 G ((q_41.headD .any).isInt .i64) (G ((q_41.tail.headD .any).isInt .i64) (G ((q_41.tail.tail.headD .any).isStr) (let q_42 : List AV := q_41.tail.tail.tail;
 G ((q_42.headD .any).isInt .i64) (G ((q_42.tail.headD .any).isSl 2) (False))))))))))))))))))
 (G ((ce ((H_5.get a0j).cs) 1).isNilmap) (False))))))
 (G ((ce ((H_5.get a0j).cs) 1).isNilmap) (False)))))))))
theorem t_eq (a0j : Nat) (a1_0 a1_1 : ByteArray) (a1_2 : Int) (a1_3 : Bool) (a1_4 a1_5 : Int) (a1_6 : ByteArray) (a1_7 : Int) (a1_8 : List (List AV)) (a2 : Int) (H : Heap) (Q : Qt) : aBody E0 C 22 [.obj a0j 0, .agg [.str a1_0, .str a1_1, .int .i64 a1_2, .bool a1_3, .int .i64 a1_4, .int .i64 a1_5, .str a1_6, .int .i64 a1_7, .sl 0 2 a1_8], .int .i64 a2] H Q = t a0j a1_0 a1_1 a1_2 a1_3 a1_4 a1_5 a1_6 a1_7 a1_8 a2 H Q := by kernel_rfl
theorem call {a0j : Nat} {a1_0 a1_1 : ByteArray} {a1_2 : Int} {a1_3 : Bool} {a1_4 a1_5 : Int} {a1_6 : ByteArray} {a1_7 : Int} {a1_8 : List (List AV)} {a2 : Int} {H : Heap} {Q : Qt} (h : t a0j a1_0 a1_1 a1_2 a1_3 a1_4 a1_5 a1_6 a1_7 a1_8 a2 H Q) : C 22 [.obj a0j 0, .agg [.str a1_0, .str a1_1, .int .i64 a1_2, .bool a1_3, .int .i64 a1_4, .int .i64 a1_5, .str a1_6, .int .i64 a1_7, .sl 0 2 a1_8], .int .i64 a2] H Q := Call_told (E := E0) (t_eq a0j a1_0 a1_1 a1_2 a1_3 a1_4 a1_5 a1_6 a1_7 a1_8 a2 H Q) h
end F22
namespace F23
def t (a0_0 : Int) (a0_1 : List (List AV)) (a1 : ByteArray) (a2 : Int) (H : Heap) (Q : Qt) : Prop :=
 CP 46 [.sl 0 9 a0_1, .str a1] H fun v_1 H_2 =>
 G ((v_1).isInt .i64) (cond (ltI ((v_1).toInt) 0)
 (Q (.tup [.agg [.str (⟨#[]⟩ : ByteArray), .str (⟨#[]⟩ : ByteArray), .int .i64 0, .bool false, .int .i64 0, .int .i64 0, .str (⟨#[]⟩ : ByteArray), .int .i64 0, .nilsl], .bool false]) H_2)
 (G (leI 0 ((v_1).toInt)) (G (ltI ((v_1).toInt) (lenI a0_1)) (G ((ce (ro a0_1 (((v_1).toInt).toNat)) 0).isStr) (G ((ce (ro a0_1 (((v_1).toInt).toNat)) 1).isStr) (G ((ce (ro a0_1 (((v_1).toInt).toNat)) 2).isInt .i64) (G ((ce (ro a0_1 (((v_1).toInt).toNat)) 3).isBool) (G ((ce (ro a0_1 (((v_1).toInt).toNat)) 4).isInt .i64) (G ((ce (ro a0_1 (((v_1).toInt).toNat)) 5).isInt .i64) (G ((ce (ro a0_1 (((v_1).toInt).toNat)) 6).isStr) (G ((ce (ro a0_1 (((v_1).toInt).toNat)) 7).isInt .i64) (G ((ce (ro a0_1 (((v_1).toInt).toNat)) 8).isSl 2) (CP 24 [.agg [.str ((ce (ro a0_1 (((v_1).toInt).toNat)) 0).toStr), .str ((ce (ro a0_1 (((v_1).toInt).toNat)) 1).toStr), .int .i64 ((ce (ro a0_1 (((v_1).toInt).toNat)) 2).toInt), .bool ((ce (ro a0_1 (((v_1).toInt).toNat)) 3).toBool), .int .i64 ((ce (ro a0_1 (((v_1).toInt).toNat)) 4).toInt), .int .i64 ((ce (ro a0_1 (((v_1).toInt).toNat)) 5).toInt), .str ((ce (ro a0_1 (((v_1).toInt).toNat)) 6).toStr), .int .i64 ((ce (ro a0_1 (((v_1).toInt).toNat)) 7).toInt), .sl 0 2 ((ce (ro a0_1 (((v_1).toInt).toNat)) 8).slXs)], .int .i64 a2] H_2 fun v_3 H_4 =>
 G ((v_3).isBool) (cond ((v_3).toBool)
 (Q (.tup [.agg [.str (⟨#[]⟩ : ByteArray), .str (⟨#[]⟩ : ByteArray), .int .i64 0, .bool false, .int .i64 0, .int .i64 0, .str (⟨#[]⟩ : ByteArray), .int .i64 0, .nilsl], .bool false]) H_4)
 (G (leI 0 ((v_1).toInt)) (G (ltI ((v_1).toInt) (lenI a0_1)) (G ((ce (ro a0_1 (((v_1).toInt).toNat)) 0).isStr) (G ((ce (ro a0_1 (((v_1).toInt).toNat)) 1).isStr) (G ((ce (ro a0_1 (((v_1).toInt).toNat)) 2).isInt .i64) (G ((ce (ro a0_1 (((v_1).toInt).toNat)) 3).isBool) (G ((ce (ro a0_1 (((v_1).toInt).toNat)) 4).isInt .i64) (G ((ce (ro a0_1 (((v_1).toInt).toNat)) 5).isInt .i64) (G ((ce (ro a0_1 (((v_1).toInt).toNat)) 6).isStr) (G ((ce (ro a0_1 (((v_1).toInt).toNat)) 7).isInt .i64) (G ((ce (ro a0_1 (((v_1).toInt).toNat)) 8).isSl 2) (Q (.tup [.agg [.str ((ce (ro a0_1 (((v_1).toInt).toNat)) 0).toStr), .str ((ce (ro a0_1 (((v_1).toInt).toNat)) 1).toStr), .int .i64 ((ce (ro a0_1 (((v_1).toInt).toNat)) 2).toInt), .bool ((ce (ro a0_1 (((v_1).toInt).toNat)) 3).toBool), .int .i64 ((ce (ro a0_1 (((v_1).toInt).toNat)) 4).toInt), .int .i64 ((ce (ro a0_1 (((v_1).toInt).toNat)) 5).toInt), .str ((ce (ro a0_1 (((v_1).toInt).toNat)) 6).toStr), .int .i64 ((ce (ro a0_1 (((v_1).toInt).toNat)) 7).toInt), .sl 0 2 ((ce (ro a0_1 (((v_1).toInt).toNat)) 8).slXs)], .bool true]) H_4))))))))))))))))))))))))))
theorem t_eq (a0_0 : Int) (a0_1 : List (List AV)) (a1 : ByteArray) (a2 : Int) (H : Heap) (Q : Qt) : aBody E0 C 23 [.agg [.int .i64 a0_0, .sl 0 9 a0_1], .str a1, .int .i64 a2] H Q = t a0_0 a0_1 a1 a2 H Q := by kernel_rfl
theorem call {a0_0 : Int} {a0_1 : List (List AV)} {a1 : ByteArray} {a2 : Int} {H : Heap} {Q : Qt} (h : t a0_0 a0_1 a1 a2 H Q) : C 23 [.agg [.int .i64 a0_0, .sl 0 9 a0_1], .str a1, .int .i64 a2] H Q := Call_told (E := E0) (t_eq a0_0 a0_1 a1 a2 H Q) h
end F23
namespace F24
def t (a0_0 a0_1 : ByteArray) (a0_2 : Int) (a0_3 : Bool) (a0_4 a0_5 : Int) (a0_6 : ByteArray) (a0_7 : Int) (a0_8 : List (List AV)) (a1 : Int) (H : Heap) (Q : Qt) : Prop :=
 cond (!(eqI a0_5 0))
 (Q (.bool (leI a0_5 a1)) H)
 (Q (.bool false) H)
theorem t_eq (a0_0 a0_1 : ByteArray) (a0_2 : Int) (a0_3 : Bool) (a0_4 a0_5 : Int) (a0_6 : ByteArray) (a0_7 : Int) (a0_8 : List (List AV)) (a1 : Int) (H : Heap) (Q : Qt) : aBody E0 C 24 [.agg [.str a0_0, .str a0_1, .int .i64 a0_2, .bool a0_3, .int .i64 a0_4, .int .i64 a0_5, .str a0_6, .int .i64 a0_7, .sl 0 2 a0_8], .int .i64 a1] H Q = t a0_0 a0_1 a0_2 a0_3 a0_4 a0_5 a0_6 a0_7 a0_8 a1 H Q := by kernel_rfl
theorem call {a0_0 a0_1 : ByteArray} {a0_2 : Int} {a0_3 : Bool} {a0_4 a0_5 : Int} {a0_6 : ByteArray} {a0_7 : Int} {a0_8 : List (List AV)} {a1 : Int} {H : Heap} {Q : Qt} (h : t a0_0 a0_1 a0_2 a0_3 a0_4 a0_5 a0_6 a0_7 a0_8 a1 H Q) : C 24 [.agg [.str a0_0, .str a0_1, .int .i64 a0_2, .bool a0_3, .int .i64 a0_4, .int .i64 a0_5, .str a0_6, .int .i64 a0_7, .sl 0 2 a0_8], .int .i64 a1] H Q := Call_told (E := E0) (t_eq a0_0 a0_1 a0_2 a0_3 a0_4 a0_5 a0_6 a0_7 a0_8 a1 H Q) h
end F24
namespace F25
def K0 (Q : Qt) : Ex → St → Prop := (contK E0 C (E0.L 25) [.block 0 1, .seq (codeAt (bodyOf E0 25) [1, 1, 1]) 1] (finK E0 25 Q))
def L0 (a0j : Nat) (a1 : Int) (Q : Qt) (x5n : Int) (it0s : List Nat) (it0j it0a it0b : Nat) (Hh : Heap) : Prop := ALoop (fun K s => awp E0 C (E0.L 25) (codeAt (bodyOf E0 25) [1, 1, 0, 1, 0, 0]) 1 s K) (clean [(0, 0), (1, 0), (5, 0), (12, 0)] 1) (K0 Q) ⟨stt 29 [(0, .obj a0j 0), (1, .int .i64 a1), (5, .int .i64 x5n), (12, .ptr 0 0)], [.miter it0j 9 32 it0a it0b it0s], Hh⟩
def r0 (a0j : Nat) (a1 : Int) (Q : Qt) (x5n : Int) (it0s : List Nat) (it0j it0a it0b : Nat) (Hh : Heap) : Prop :=
 G ((Hh.get it0j).isMap && (Nat.ble it0a (Hh.get it0j).clock && (Hh.get it0j).es.all fun e => Nat.blt e.1 it0a)) ((mleft it0s (Hh.get it0j).es = [] → (Q (.int .i64 x5n) Hh)) ∧
 (∀ e_1 : Nat × AV × AV, e_1 ∈ mleft it0s (Hh.get it0j).es → (G ((Hh.get it0j).isMap && Nat.beq (Hh.get it0j).clock ((Hh.get it0j).clock)) (G ((mborn e_1.1 (Hh.get it0j).es).isSome) (let q_2 : AV := mkeyAt e_1.1 (Hh.get it0j).es;
 G ((q_2).isStr) (let q_3 : AV := mvalAt e_1.1 (Hh.get it0j).es;
 G ((q_3).isAgg && Nat.beq (q_3).aggCs.length 9) (G ((ce ((q_3).aggCs) 0).isStr) (G ((ce ((q_3).aggCs) 1).isStr) (G ((ce ((q_3).aggCs) 2).isInt .i64) (G ((ce ((q_3).aggCs) 3).isBool) (G ((ce ((q_3).aggCs) 4).isInt .i64) (G ((ce ((q_3).aggCs) 5).isInt .i64) (G ((ce ((q_3).aggCs) 6).isStr) (G ((ce ((q_3).aggCs) 7).isInt .i64) (G ((ce ((q_3).aggCs) 8).isSl 2) (CP 32 [.agg [.str ((ce ((q_3).aggCs) 0).toStr), .str ((ce ((q_3).aggCs) 1).toStr), .int .i64 ((ce ((q_3).aggCs) 2).toInt), .bool ((ce ((q_3).aggCs) 3).toBool), .int .i64 ((ce ((q_3).aggCs) 4).toInt), .int .i64 ((ce ((q_3).aggCs) 5).toInt), .str ((ce ((q_3).aggCs) 6).toStr), .int .i64 ((ce ((q_3).aggCs) 7).toInt), .sl 0 2 ((ce ((q_3).aggCs) 8).slXs)], .int .i64 a1] Hh fun v_4 H_5 =>
 G ((v_4).isBool) (cond ((v_4).toBool)
 (G ((H_5.get a0j).isCells) (cond ((ce ((H_5.get a0j).cs) 1).isMap)
 (G ((H_5.get ((ce ((H_5.get a0j).cs) 1).mapJ)).isMapOf [.str] false) (let H_6 : Heap := H_5.set ((ce ((H_5.get a0j).cs) 1).mapJ) (.map (mdel (.str ((q_2).toStr)) (H_5.get ((ce ((H_5.get a0j).cs) 1).mapJ)).es) (H_5.get ((ce ((H_5.get a0j).cs) 1).mapJ)).clock);
 L0 a0j a1 Q (addW .i64 x5n 1) (e_1.1 :: it0s) it0j it0a ((Hh.get it0j).clock) H_6))
 (G ((ce ((H_5.get a0j).cs) 1).isNilmap) (False))))
 (L0 a0j a1 Q x5n (e_1.1 :: it0s) it0j it0a ((Hh.get it0j).clock) H_5))))))))))))))))))
theorem r0_eq (a0j : Nat) (a1 : Int) (Q : Qt) (x5n : Int) (it0s : List Nat) (it0j it0a it0b : Nat) (Hh : Heap) : (fun K s => awp E0 C (E0.L 25) (codeAt (bodyOf E0 25) [1, 1, 0, 1, 0, 0]) 1 s K) (ALoopK (fun K s => awp E0 C (E0.L 25) (codeAt (bodyOf E0 25) [1, 1, 0, 1, 0, 0]) 1 s K) (clean [(0, 0), (1, 0), (5, 0), (12, 0)] 1) (K0 Q)) ⟨stt 29 [(0, .obj a0j 0), (1, .int .i64 a1), (5, .int .i64 x5n), (12, .ptr 0 0)], [.miter it0j 9 32 it0a it0b it0s], Hh⟩ = r0 a0j a1 Q x5n it0s it0j it0a it0b Hh := by kernel_rfl
theorem L0_step {a0j : Nat} {a1 : Int} {Q : Qt} {x5n : Int} {it0s : List Nat} {it0j it0a it0b : Nat} {Hh : Heap} (h : r0 a0j a1 Q x5n it0s it0j it0a it0b Hh) : L0 a0j a1 Q x5n it0s it0j it0a it0b Hh := ALoop_told (r0_eq a0j a1 Q x5n it0s it0j it0a it0b Hh) h
def t (a0j : Nat) (a1 : Int) (H : Heap) (Q : Qt) : Prop :=
 G ((H.get a0j).isCells) (cond ((ce ((H.get a0j).cs) 1).isMap)
 (G ((H.get ((ce ((H.get a0j).cs) 1).mapJ)).isMap) (L0 a0j a1 Q 0 [] ((ce ((H.get a0j).cs) 1).mapJ) ((H.get ((ce ((H.get a0j).cs) 1).mapJ)).clock) ((H.get ((ce ((H.get a0j).cs) 1).mapJ)).clock) H))
 (G ((ce ((H.get a0j).cs) 1).isNilmap) (False)))
theorem t_eq (a0j : Nat) (a1 : Int) (H : Heap) (Q : Qt) : aBody E0 C 25 [.obj a0j 0, .int .i64 a1] H Q = t a0j a1 H Q := by kernel_rfl
theorem call {a0j : Nat} {a1 : Int} {H : Heap} {Q : Qt} (h : t a0j a1 H Q) : C 25 [.obj a0j 0, .int .i64 a1] H Q := Call_told (E := E0) (t_eq a0j a1 H Q) h
end F25
namespace F26
def K0 (Q : Qt) : Ex → St → Prop := (contK E0 C (E0.L 26) [.block 0 0, .seq (codeAt (bodyOf E0 26) [1, 1, 1]) 1] (finK E0 26 Q))
def L0 (a0 a1 : List (List AV)) (Q : Qt) (x5i : Int) (Hh : Heap) : Prop := ALoop (fun K s => awp E0 C (E0.L 26) (codeAt (bodyOf E0 26) [1, 1, 0, 1, 0, 0]) 1 s K) (clean [(0, 0), (1, 0), (5, 0)] 0) (K0 Q) ⟨stt 27 [(0, .sl 0 9 a0), (1, .sl 0 9 a1), (5, .int .i64 x5i)], [], Hh⟩
def r0 (a0 a1 : List (List AV)) (Q : Qt) (x5i : Int) (Hh : Heap) : Prop :=
 cond (ltI x5i (lenI a0))
 (G (leI 0 x5i) (G (ltI x5i (lenI a0)) (G ((ce (ro a0 x5i.toNat) 0).isStr) (G ((ce (ro a0 x5i.toNat) 1).isStr) (G ((ce (ro a0 x5i.toNat) 2).isInt .i64) (G ((ce (ro a0 x5i.toNat) 3).isBool) (G ((ce (ro a0 x5i.toNat) 4).isInt .i64) (G ((ce (ro a0 x5i.toNat) 5).isInt .i64) (G ((ce (ro a0 x5i.toNat) 6).isStr) (G ((ce (ro a0 x5i.toNat) 7).isInt .i64) (G ((ce (ro a0 x5i.toNat) 8).isSl 2) (G (leI 0 x5i) (G (ltI x5i (lenI a1)) (G ((ce (ro a1 x5i.toNat) 0).isStr) (G ((ce (ro a1 x5i.toNat) 1).isStr) (G ((ce (ro a1 x5i.toNat) 2).isInt .i64) (G ((ce (ro a1 x5i.toNat) 3).isBool) (G ((ce (ro a1 x5i.toNat) 4).isInt .i64) (G ((ce (ro a1 x5i.toNat) 5).isInt .i64) (G ((ce (ro a1 x5i.toNat) 6).isStr) (G ((ce (ro a1 x5i.toNat) 7).isInt .i64) (G ((ce (ro a1 x5i.toNat) 8).isSl 2) (CP 18 [.agg [.str ((ce (ro a0 x5i.toNat) 0).toStr), .str ((ce (ro a0 x5i.toNat) 1).toStr), .int .i64 ((ce (ro a0 x5i.toNat) 2).toInt), .bool ((ce (ro a0 x5i.toNat) 3).toBool), .int .i64 ((ce (ro a0 x5i.toNat) 4).toInt), .int .i64 ((ce (ro a0 x5i.toNat) 5).toInt), .str ((ce (ro a0 x5i.toNat) 6).toStr), .int .i64 ((ce (ro a0 x5i.toNat) 7).toInt), .sl 0 2 ((ce (ro a0 x5i.toNat) 8).slXs)], .agg [.str ((ce (ro a1 x5i.toNat) 0).toStr), .str ((ce (ro a1 x5i.toNat) 1).toStr), .int .i64 ((ce (ro a1 x5i.toNat) 2).toInt), .bool ((ce (ro a1 x5i.toNat) 3).toBool), .int .i64 ((ce (ro a1 x5i.toNat) 4).toInt), .int .i64 ((ce (ro a1 x5i.toNat) 5).toInt), .str ((ce (ro a1 x5i.toNat) 6).toStr), .int .i64 ((ce (ro a1 x5i.toNat) 7).toInt), .sl 0 2 ((ce (ro a1 x5i.toNat) 8).slXs)]] Hh fun v_1 H_2 =>
 G ((v_1).isBool) (cond (!((v_1).toBool))
 (Q (.bool false) H_2)
 (L0 a0 a1 Q (addW .i64 x5i 1) H_2)))))))))))))))))))))))))
 (Q (.bool true) Hh)
theorem r0_eq (a0 a1 : List (List AV)) (Q : Qt) (x5i : Int) (Hh : Heap) : (fun K s => awp E0 C (E0.L 26) (codeAt (bodyOf E0 26) [1, 1, 0, 1, 0, 0]) 1 s K) (ALoopK (fun K s => awp E0 C (E0.L 26) (codeAt (bodyOf E0 26) [1, 1, 0, 1, 0, 0]) 1 s K) (clean [(0, 0), (1, 0), (5, 0)] 0) (K0 Q)) ⟨stt 27 [(0, .sl 0 9 a0), (1, .sl 0 9 a1), (5, .int .i64 x5i)], [], Hh⟩ = r0 a0 a1 Q x5i Hh := by kernel_rfl
theorem L0_step {a0 a1 : List (List AV)} {Q : Qt} {x5i : Int} {Hh : Heap} (h : r0 a0 a1 Q x5i Hh) : L0 a0 a1 Q x5i Hh := ALoop_told (r0_eq a0 a1 Q x5i Hh) h
def t (a0 a1 : List (List AV)) (H : Heap) (Q : Qt) : Prop :=
 cond (!(eqI (lenI a0) (lenI a1)))
 (Q (.bool false) H)
 (L0 a0 a1 Q 0 H)
theorem t_eq (a0 a1 : List (List AV)) (H : Heap) (Q : Qt) : aBody E0 C 26 [.sl 0 9 a0, .sl 0 9 a1] H Q = t a0 a1 H Q := by kernel_rfl
theorem call {a0 a1 : List (List AV)} {H : Heap} {Q : Qt} (h : t a0 a1 H Q) : C 26 [.sl 0 9 a0, .sl 0 9 a1] H Q := Call_told (E := E0) (t_eq a0 a1 H Q) h
end F26
namespace F27
def t (a0_0 a0_1 : ByteArray) (a0_2 : Int) (a0_3 : Bool) (a0_4 a0_5 : Int) (a0_6 : ByteArray) (a0_7 : Int) (a0_8 : List (List AV)) (H : Heap) (Q : Qt) : Prop :=
 CP 50 [.agg [.str a0_0, .str a0_1, .int .i64 a0_2, .bool a0_3, .int .i64 a0_4, .int .i64 a0_5, .str a0_6, .int .i64 a0_7, .sl 0 2 a0_8]] H fun v_1 H_2 =>
 G ((v_1).isInt .i64) (cond (!(eqI ((v_1).toInt) 0))
 (Q (.int .i64 ((v_1).toInt)) H_2)
 (cond (!a0_3)
 (Q (.int .i64 28) H_2)
 (Q (.int .i64 0) H_2)))
theorem t_eq (a0_0 a0_1 : ByteArray) (a0_2 : Int) (a0_3 : Bool) (a0_4 a0_5 : Int) (a0_6 : ByteArray) (a0_7 : Int) (a0_8 : List (List AV)) (H : Heap) (Q : Qt) : aBody E0 C 27 [.agg [.str a0_0, .str a0_1, .int .i64 a0_2, .bool a0_3, .int .i64 a0_4, .int .i64 a0_5, .str a0_6, .int .i64 a0_7, .sl 0 2 a0_8]] H Q = t a0_0 a0_1 a0_2 a0_3 a0_4 a0_5 a0_6 a0_7 a0_8 H Q := by kernel_rfl
theorem call {a0_0 a0_1 : ByteArray} {a0_2 : Int} {a0_3 : Bool} {a0_4 a0_5 : Int} {a0_6 : ByteArray} {a0_7 : Int} {a0_8 : List (List AV)} {H : Heap} {Q : Qt} (h : t a0_0 a0_1 a0_2 a0_3 a0_4 a0_5 a0_6 a0_7 a0_8 H Q) : C 27 [.agg [.str a0_0, .str a0_1, .int .i64 a0_2, .bool a0_3, .int .i64 a0_4, .int .i64 a0_5, .str a0_6, .int .i64 a0_7, .sl 0 2 a0_8]] H Q := Call_told (E := E0) (t_eq a0_0 a0_1 a0_2 a0_3 a0_4 a0_5 a0_6 a0_7 a0_8 H Q) h
end F27
namespace F28
def K0 (Q : Qt) : Ex → St → Prop := (contK E0 C (E0.L 28) [.block 0 1, .seq (codeAt (bodyOf E0 28) [1, 1, 1]) 1] (finK E0 28 Q))
def L0 (a0_0 : Int) (a0_1 : List (List AV)) (a1 : ByteArray) (a2 : Int) (Q : Qt) (x7out : List (List AV)) (x8i : Int) (Hh : Heap) : Prop := ALoop (fun K s => awp E0 C (E0.L 28) (codeAt (bodyOf E0 28) [1, 1, 0, 1, 0, 0]) 1 s K) (clean [(1, 0), (2, 0), (3, 0), (7, 11), (8, 0)] 1) (K0 Q) ⟨stt 43 [(1, .str a1), (2, .int .i64 a2), (3, .ptr 0 0), (7, .sl 1 9 x7out), (8, .int .i64 x8i)], [.cells [.int .i64 a0_0, .sl 0 9 a0_1]], Hh⟩
def r0 (a0_0 : Int) (a0_1 : List (List AV)) (a1 : ByteArray) (a2 : Int) (Q : Qt) (x7out : List (List AV)) (x8i : Int) (Hh : Heap) : Prop :=
 cond (ltI x8i (lenI a0_1))
 (G (leI 0 x8i) (G (ltI x8i (lenI a0_1)) (G ((ce (ro a0_1 x8i.toNat) 0).isStr) (G ((ce (ro a0_1 x8i.toNat) 1).isStr) (G ((ce (ro a0_1 x8i.toNat) 2).isInt .i64) (G ((ce (ro a0_1 x8i.toNat) 3).isBool) (G ((ce (ro a0_1 x8i.toNat) 4).isInt .i64) (G ((ce (ro a0_1 x8i.toNat) 5).isInt .i64) (G ((ce (ro a0_1 x8i.toNat) 6).isStr) (G ((ce (ro a0_1 x8i.toNat) 7).isInt .i64) (G ((ce (ro a0_1 x8i.toNat) 8).isSl 2) (CP 24 [.agg [.str ((ce (ro a0_1 x8i.toNat) 0).toStr), .str ((ce (ro a0_1 x8i.toNat) 1).toStr), .int .i64 ((ce (ro a0_1 x8i.toNat) 2).toInt), .bool ((ce (ro a0_1 x8i.toNat) 3).toBool), .int .i64 ((ce (ro a0_1 x8i.toNat) 4).toInt), .int .i64 ((ce (ro a0_1 x8i.toNat) 5).toInt), .str ((ce (ro a0_1 x8i.toNat) 6).toStr), .int .i64 ((ce (ro a0_1 x8i.toNat) 7).toInt), .sl 0 2 ((ce (ro a0_1 x8i.toNat) 8).slXs)], .int .i64 a2] Hh fun v_1 H_2 =>
 G ((v_1).isBool) (cond (!((v_1).toBool))
 (G (leI 0 x8i) (G (ltI x8i (lenI a0_1)) (G ((ce (ro a0_1 x8i.toNat) 0).isStr) (CP 19 [.str a1, .str ((ce (ro a0_1 x8i.toNat) 0).toStr)] H_2 fun v_3 H_4 =>
 G ((v_3).isBool) (cond ((v_3).toBool)
 (G (leI 0 x8i) (G (ltI x8i (lenI a0_1)) (G ((ce (ro a0_1 x8i.toNat) 0).isStr) (G ((ce (ro a0_1 x8i.toNat) 1).isStr) (G ((ce (ro a0_1 x8i.toNat) 2).isInt .i64) (G ((ce (ro a0_1 x8i.toNat) 3).isBool) (G ((ce (ro a0_1 x8i.toNat) 4).isInt .i64) (G ((ce (ro a0_1 x8i.toNat) 5).isInt .i64) (G ((ce (ro a0_1 x8i.toNat) 6).isStr) (G ((ce (ro a0_1 x8i.toNat) 7).isInt .i64) (G ((ce (ro a0_1 x8i.toNat) 8).isSl 2) (G (room x7out [[.str ((ce (ro a0_1 x8i.toNat) 0).toStr), .str ((ce (ro a0_1 x8i.toNat) 1).toStr), .int .i64 ((ce (ro a0_1 x8i.toNat) 2).toInt), .bool ((ce (ro a0_1 x8i.toNat) 3).toBool), .int .i64 ((ce (ro a0_1 x8i.toNat) 4).toInt), .int .i64 ((ce (ro a0_1 x8i.toNat) 5).toInt), .str ((ce (ro a0_1 x8i.toNat) 6).toStr), .int .i64 ((ce (ro a0_1 x8i.toNat) 7).toInt), .sl 0 2 ((ce (ro a0_1 x8i.toNat) 8).slXs)]] 112) (L0 a0_0 a0_1 a1 a2 Q (x7out ++ [[.str ((ce (ro a0_1 x8i.toNat) 0).toStr), .str ((ce (ro a0_1 x8i.toNat) 1).toStr), .int .i64 ((ce (ro a0_1 x8i.toNat) 2).toInt), .bool ((ce (ro a0_1 x8i.toNat) 3).toBool), .int .i64 ((ce (ro a0_1 x8i.toNat) 4).toInt), .int .i64 ((ce (ro a0_1 x8i.toNat) 5).toInt), .str ((ce (ro a0_1 x8i.toNat) 6).toStr), .int .i64 ((ce (ro a0_1 x8i.toNat) 7).toInt), .sl 0 2 ((ce (ro a0_1 x8i.toNat) 8).slXs)]]) (addW .i64 x8i 1) H_4)))))))))))))
 (L0 a0_0 a0_1 a1 a2 Q x7out (addW .i64 x8i 1) H_4))))))
 (L0 a0_0 a0_1 a1 a2 Q x7out (addW .i64 x8i 1) H_2))))))))))))))
 (Q (.sl 0 9 x7out) Hh)
theorem r0_eq (a0_0 : Int) (a0_1 : List (List AV)) (a1 : ByteArray) (a2 : Int) (Q : Qt) (x7out : List (List AV)) (x8i : Int) (Hh : Heap) : (fun K s => awp E0 C (E0.L 28) (codeAt (bodyOf E0 28) [1, 1, 0, 1, 0, 0]) 1 s K) (ALoopK (fun K s => awp E0 C (E0.L 28) (codeAt (bodyOf E0 28) [1, 1, 0, 1, 0, 0]) 1 s K) (clean [(1, 0), (2, 0), (3, 0), (7, 11), (8, 0)] 1) (K0 Q)) ⟨stt 43 [(1, .str a1), (2, .int .i64 a2), (3, .ptr 0 0), (7, .sl 1 9 x7out), (8, .int .i64 x8i)], [.cells [.int .i64 a0_0, .sl 0 9 a0_1]], Hh⟩ = r0 a0_0 a0_1 a1 a2 Q x7out x8i Hh := by kernel_rfl
theorem L0_step {a0_0 : Int} {a0_1 : List (List AV)} {a1 : ByteArray} {a2 : Int} {Q : Qt} {x7out : List (List AV)} {x8i : Int} {Hh : Heap} (h : r0 a0_0 a0_1 a1 a2 Q x7out x8i Hh) : L0 a0_0 a0_1 a1 a2 Q x7out x8i Hh := ALoop_told (r0_eq a0_0 a0_1 a1 a2 Q x7out x8i Hh) h
def t (a0_0 : Int) (a0_1 : List (List AV)) (a1 : ByteArray) (a2 : Int) (H : Heap) (Q : Qt) : Prop :=
 L0 a0_0 a0_1 a1 a2 Q [] 0 H
theorem t_eq (a0_0 : Int) (a0_1 : List (List AV)) (a1 : ByteArray) (a2 : Int) (H : Heap) (Q : Qt) : aBody E0 C 28 [.agg [.int .i64 a0_0, .sl 0 9 a0_1], .str a1, .int .i64 a2] H Q = t a0_0 a0_1 a1 a2 H Q := by kernel_rfl
theorem call {a0_0 : Int} {a0_1 : List (List AV)} {a1 : ByteArray} {a2 : Int} {H : Heap} {Q : Qt} (h : t a0_0 a0_1 a1 a2 H Q) : C 28 [.agg [.int .i64 a0_0, .sl 0 9 a0_1], .str a1, .int .i64 a2] H Q := Call_told (E := E0) (t_eq a0_0 a0_1 a1 a2 H Q) h
end F28
namespace F30
def t (a0 : Int) (H : Heap) (Q : Qt) : Prop :=
 cond (ltI a0 0)
 (Q (.int .i64 0) H)
 (Q (.int .i64 a0) H)
theorem t_eq (a0 : Int) (H : Heap) (Q : Qt) : aBody E0 C 30 [.int .i64 a0] H Q = t a0 H Q := by kernel_rfl
theorem call {a0 : Int} {H : Heap} {Q : Qt} (h : t a0 H Q) : C 30 [.int .i64 a0] H Q := Call_told (E := E0) (t_eq a0 H Q) h
end F30
namespace F31
def t (a0_0 : Int) (a0_1 : List (List AV)) (a1 : Int) (H : Heap) (Q : Qt) : Prop :=
 CP 47 [.sl 0 9 a0_1, .int .i64 a1] H fun v_1 H_2 =>
 G ((v_1).isSl 9) (Ands (.n .l .l) (Q (.tup [.agg [.int .i64 a0_0, .sl 0 9 ((v_1).slXs)], .int .i64 (subW .i64 (lenI a0_1) (lenI ((v_1).slXs)))]) H_2))
theorem t_eq (a0_0 : Int) (a0_1 : List (List AV)) (a1 : Int) (H : Heap) (Q : Qt) : aBody E0 C 31 [.agg [.int .i64 a0_0, .sl 0 9 a0_1], .int .i64 a1] H Q = t a0_0 a0_1 a1 H Q := by kernel_rfl
theorem call {a0_0 : Int} {a0_1 : List (List AV)} {a1 : Int} {H : Heap} {Q : Qt} (h : t a0_0 a0_1 a1 H Q) : C 31 [.agg [.int .i64 a0_0, .sl 0 9 a0_1], .int .i64 a1] H Q := Call_told (E := E0) (t_eq a0_0 a0_1 a1 H Q) h
end F31
namespace F32
def t (a0_0 a0_1 : ByteArray) (a0_2 : Int) (a0_3 : Bool) (a0_4 a0_5 : Int) (a0_6 : ByteArray) (a0_7 : Int) (a0_8 : List (List AV)) (a1 : Int) (H : Heap) (Q : Qt) : Prop :=
 cond (!(eqI a0_5 0))
 (Q (.bool (leI a0_5 a1)) H)
 (Q (.bool false) H)
theorem t_eq (a0_0 a0_1 : ByteArray) (a0_2 : Int) (a0_3 : Bool) (a0_4 a0_5 : Int) (a0_6 : ByteArray) (a0_7 : Int) (a0_8 : List (List AV)) (a1 : Int) (H : Heap) (Q : Qt) : aBody E0 C 32 [.agg [.str a0_0, .str a0_1, .int .i64 a0_2, .bool a0_3, .int .i64 a0_4, .int .i64 a0_5, .str a0_6, .int .i64 a0_7, .sl 0 2 a0_8], .int .i64 a1] H Q = t a0_0 a0_1 a0_2 a0_3 a0_4 a0_5 a0_6 a0_7 a0_8 a1 H Q := by kernel_rfl
theorem call {a0_0 a0_1 : ByteArray} {a0_2 : Int} {a0_3 : Bool} {a0_4 a0_5 : Int} {a0_6 : ByteArray} {a0_7 : Int} {a0_8 : List (List AV)} {a1 : Int} {H : Heap} {Q : Qt} (h : t a0_0 a0_1 a0_2 a0_3 a0_4 a0_5 a0_6 a0_7 a0_8 a1 H Q) : C 32 [.agg [.str a0_0, .str a0_1, .int .i64 a0_2, .bool a0_3, .int .i64 a0_4, .int .i64 a0_5, .str a0_6, .int .i64 a0_7, .sl 0 2 a0_8], .int .i64 a1] H Q := Call_told (E := E0) (t_eq a0_0 a0_1 a0_2 a0_3 a0_4 a0_5 a0_6 a0_7 a0_8 a1 H Q) h
end F32
namespace F33
def JR1 (a0 a1 : ByteArray) (Q : Qt) (x21 : Bool) (Hh : Heap) : Prop := AJoin (contK E0 C (E0.L 33) [.seq (codeAt (bodyOf E0 33) [1, 0, 0, 1]) 0, .seq (codeAt (bodyOf E0 33) [1, 0, 1]) 0] (finK E0 33 Q)) ⟨stt 58 [(0, .str a0), (1, .str a1), (21, .bool x21)], [], Hh⟩
def K0 (Q : Qt) : Ex → St → Prop := (contK E0 C (E0.L 33) [.block 0 0, .seq (codeAt (bodyOf E0 33) [1, 0, 1, 1, 1, 1]) 1] (finK E0 33 Q))
def L0 (a0 a1 : ByteArray) (Q : Qt) (x5want x6have x26 : List (List AV)) (x27 x28 : Int) (Hh : Heap) : Prop := ALoop (fun K s => awp E0 C (E0.L 33) (codeAt (bodyOf E0 33) [1, 0, 1, 1, 1, 0, 1, 0, 0]) 1 s K) (clean [(5, 0), (6, 0), (26, 0), (27, 0), (28, 0)] 0) (K0 Q) ⟨stt 58 [(5, .sl 0 1 x5want), (6, .sl 0 1 x6have), (26, .sl 0 1 x26), (27, .int .i64 x27), (28, .int .i64 x28)], [], Hh⟩
def jR1 (a0 a1 : ByteArray) (Q : Qt) (x21 : Bool) (Hh : Heap) : Prop :=
 cond x21
 (Q (.bool false) Hh)
 (CP 54 [.str a0] Hh fun v_7 H_8 =>
 G ((v_7).isSl 1) (CP 54 [.str a1] H_8 fun v_9 H_10 =>
 G ((v_9).isSl 1) (L0 a0 a1 Q ((v_7).slXs) ((v_9).slXs) ((v_7).slXs) (lenI ((v_7).slXs)) 0 H_10)))
theorem JR1_eq (a0 a1 : ByteArray) (Q : Qt) (x21 : Bool) (Hh : Heap) : contK E0 C (E0.L 33) [.seq (codeAt (bodyOf E0 33) [1, 0, 0, 1]) 0, .seq (codeAt (bodyOf E0 33) [1, 0, 1]) 0] (finK E0 33 Q) .normal ⟨stt 58 [(0, .str a0), (1, .str a1), (21, .bool x21)], [], Hh⟩ = jR1 a0 a1 Q x21 Hh := by kernel_rfl
theorem JR1_step {a0 a1 : ByteArray} {Q : Qt} {x21 : Bool} {Hh : Heap} (h : jR1 a0 a1 Q x21 Hh) : JR1 a0 a1 Q x21 Hh := AJoin_told (JR1_eq a0 a1 Q x21 Hh) h
def r0 (a0 a1 : ByteArray) (Q : Qt) (x5want x6have x26 : List (List AV)) (x27 x28 : Int) (Hh : Heap) : Prop :=
 cond (ltI x28 x27)
 (G (leI 0 x28) (G (ltI x28 (lenI x26)) (G ((ce (ro x26 x28.toNat) 0).isStr) (cond (eqS ((ce (ro x26 x28.toNat) 0).toStr) (⟨#[35]⟩ : ByteArray))
 (Q (.bool true) Hh)
 (cond (eqI x28 (lenI x6have))
 (Q (.bool false) Hh)
 (cond (eqS ((ce (ro x26 x28.toNat) 0).toStr) (⟨#[43]⟩ : ByteArray))
 (L0 a0 a1 Q x5want x6have x26 x27 (addW .i64 x28 1) Hh)
 (G (leI 0 x28) (G (ltI x28 (lenI x6have)) (G ((ce (ro x6have x28.toNat) 0).isStr) (cond (eqS ((ce (ro x26 x28.toNat) 0).toStr) ((ce (ro x6have x28.toNat) 0).toStr))
 (L0 a0 a1 Q x5want x6have x26 x27 (addW .i64 x28 1) Hh)
 (Q (.bool false) Hh)))))))))))
 (Q (.bool (eqI (lenI x5want) (lenI x6have))) Hh)
theorem r0_eq (a0 a1 : ByteArray) (Q : Qt) (x5want x6have x26 : List (List AV)) (x27 x28 : Int) (Hh : Heap) : (fun K s => awp E0 C (E0.L 33) (codeAt (bodyOf E0 33) [1, 0, 1, 1, 1, 0, 1, 0, 0]) 1 s K) (ALoopK (fun K s => awp E0 C (E0.L 33) (codeAt (bodyOf E0 33) [1, 0, 1, 1, 1, 0, 1, 0, 0]) 1 s K) (clean [(5, 0), (6, 0), (26, 0), (27, 0), (28, 0)] 0) (K0 Q)) ⟨stt 58 [(5, .sl 0 1 x5want), (6, .sl 0 1 x6have), (26, .sl 0 1 x26), (27, .int .i64 x27), (28, .int .i64 x28)], [], Hh⟩ = r0 a0 a1 Q x5want x6have x26 x27 x28 Hh := by kernel_rfl
theorem L0_step {a0 a1 : ByteArray} {Q : Qt} {x5want x6have x26 : List (List AV)} {x27 x28 : Int} {Hh : Heap} (h : r0 a0 a1 Q x5want x6have x26 x27 x28 Hh) : L0 a0 a1 Q x5want x6have x26 x27 x28 Hh := ALoop_told (r0_eq a0 a1 Q x5want x6have x26 x27 x28 Hh) h
def t (a0 a1 : ByteArray) (H : Heap) (Q : Qt) : Prop :=
 CP 51 [.str a0] H fun v_1 H_2 =>
 G ((v_1).isBool) (cond (!((v_1).toBool))
 (JR1 a0 a1 Q true H_2)
 (CP 52 [.str a1] H_2 fun v_3 H_4 =>
 G ((v_3).isBool) (cond (!((v_3).toBool))
 (JR1 a0 a1 Q true H_4)
 (CP 53 [.str a0, .str a1] H_4 fun v_5 H_6 =>
 G ((v_5).isBool) (JR1 a0 a1 Q ((v_5).toBool) H_6)))))
theorem t_eq (a0 a1 : ByteArray) (H : Heap) (Q : Qt) : aBody E0 C 33 [.str a0, .str a1] H Q = t a0 a1 H Q := by kernel_rfl
theorem call {a0 a1 : ByteArray} {H : Heap} {Q : Qt} (h : t a0 a1 H Q) : C 33 [.str a0, .str a1] H Q := Call_told (E := E0) (t_eq a0 a1 H Q) h
end F33
namespace F34
def t (a0_0 a0_1 : ByteArray) (a0_2 : Int) (a0_3 : Bool) (a0_4 a0_5 : Int) (a0_6 : ByteArray) (a0_7 : Int) (a0_8 : List (List AV)) (H : Heap) (Q : Qt) : Prop :=
 CP 55 [.sl 0 2 a0_8] H fun v_1 H_2 =>
 G ((v_1).isOwn 2) (Q (.agg [.str a0_0, .str a0_1, .int .i64 a0_2, .bool a0_3, .int .i64 a0_4, .int .i64 a0_5, .str a0_6, .int .i64 a0_7, .sl 0 2 ((v_1).slXs)]) H_2)
theorem t_eq (a0_0 a0_1 : ByteArray) (a0_2 : Int) (a0_3 : Bool) (a0_4 a0_5 : Int) (a0_6 : ByteArray) (a0_7 : Int) (a0_8 : List (List AV)) (H : Heap) (Q : Qt) : aBody E0 C 34 [.agg [.str a0_0, .str a0_1, .int .i64 a0_2, .bool a0_3, .int .i64 a0_4, .int .i64 a0_5, .str a0_6, .int .i64 a0_7, .sl 0 2 a0_8]] H Q = t a0_0 a0_1 a0_2 a0_3 a0_4 a0_5 a0_6 a0_7 a0_8 H Q := by kernel_rfl
theorem call {a0_0 a0_1 : ByteArray} {a0_2 : Int} {a0_3 : Bool} {a0_4 a0_5 : Int} {a0_6 : ByteArray} {a0_7 : Int} {a0_8 : List (List AV)} {H : Heap} {Q : Qt} (h : t a0_0 a0_1 a0_2 a0_3 a0_4 a0_5 a0_6 a0_7 a0_8 H Q) : C 34 [.agg [.str a0_0, .str a0_1, .int .i64 a0_2, .bool a0_3, .int .i64 a0_4, .int .i64 a0_5, .str a0_6, .int .i64 a0_7, .sl 0 2 a0_8]] H Q := Call_told (E := E0) (t_eq a0_0 a0_1 a0_2 a0_3 a0_4 a0_5 a0_6 a0_7 a0_8 H Q) h
end F34
namespace F38
def K0 (Q : Qt) : Ex → St → Prop := (contK E0 C (E0.L 38) [.block 0 0, .seq (codeAt (bodyOf E0 38) [1, 1, 1]) 1] (finK E0 38 Q))
def L0 (a0 a1 : List (List AV)) (Q : Qt) (x5i : Int) (Hh : Heap) : Prop := ALoop (fun K s => awp E0 C (E0.L 38) (codeAt (bodyOf E0 38) [1, 1, 0, 1, 0, 0]) 1 s K) (clean [(0, 0), (1, 0), (5, 0)] 0) (K0 Q) ⟨stt 26 [(0, .sl 0 2 a0), (1, .sl 0 2 a1), (5, .int .i64 x5i)], [], Hh⟩
def r0 (a0 a1 : List (List AV)) (Q : Qt) (x5i : Int) (Hh : Heap) : Prop :=
 cond (ltI x5i (lenI a0))
 (G (leI 0 x5i) (G (ltI x5i (lenI a0)) (G ((ce (ro a0 x5i.toNat) 0).isStr) (G ((ce (ro a0 x5i.toNat) 1).isStr) (G (leI 0 x5i) (G (ltI x5i (lenI a1)) (G ((ce (ro a1 x5i.toNat) 0).isStr) (G ((ce (ro a1 x5i.toNat) 1).isStr) (cond (!((eqS ((ce (ro a0 x5i.toNat) 0).toStr) ((ce (ro a1 x5i.toNat) 0).toStr)) && ((eqS ((ce (ro a0 x5i.toNat) 1).toStr) ((ce (ro a1 x5i.toNat) 1).toStr)) && true)))
 (Q (.bool false) Hh)
 (L0 a0 a1 Q (addW .i64 x5i 1) Hh))))))))))
 (Q (.bool true) Hh)
theorem r0_eq (a0 a1 : List (List AV)) (Q : Qt) (x5i : Int) (Hh : Heap) : (fun K s => awp E0 C (E0.L 38) (codeAt (bodyOf E0 38) [1, 1, 0, 1, 0, 0]) 1 s K) (ALoopK (fun K s => awp E0 C (E0.L 38) (codeAt (bodyOf E0 38) [1, 1, 0, 1, 0, 0]) 1 s K) (clean [(0, 0), (1, 0), (5, 0)] 0) (K0 Q)) ⟨stt 26 [(0, .sl 0 2 a0), (1, .sl 0 2 a1), (5, .int .i64 x5i)], [], Hh⟩ = r0 a0 a1 Q x5i Hh := by kernel_rfl
theorem L0_step {a0 a1 : List (List AV)} {Q : Qt} {x5i : Int} {Hh : Heap} (h : r0 a0 a1 Q x5i Hh) : L0 a0 a1 Q x5i Hh := ALoop_told (r0_eq a0 a1 Q x5i Hh) h
def t (a0 a1 : List (List AV)) (H : Heap) (Q : Qt) : Prop :=
 cond (!(eqI (lenI a0) (lenI a1)))
 (Q (.bool false) H)
 (L0 a0 a1 Q 0 H)
theorem t_eq (a0 a1 : List (List AV)) (H : Heap) (Q : Qt) : aBody E0 C 38 [.sl 0 2 a0, .sl 0 2 a1] H Q = t a0 a1 H Q := by kernel_rfl
theorem call {a0 a1 : List (List AV)} {H : Heap} {Q : Qt} (h : t a0 a1 H Q) : C 38 [.sl 0 2 a0, .sl 0 2 a1] H Q := Call_told (E := E0) (t_eq a0 a1 H Q) h
end F38
namespace F39
def K0 (Q : Qt) : Ex → St → Prop := (contK E0 C (E0.L 39) [.block 0 0, .seq (codeAt (bodyOf E0 39) [1, 1, 1, 1]) 1] (finK E0 39 Q))
def L0 (a0 : ByteArray) (Q : Qt) (x3l : List (List AV)) (x4i : Int) (Hh : Heap) : Prop := ALoop (fun K s => awp E0 C (E0.L 39) (codeAt (bodyOf E0 39) [1, 1, 1, 0, 1, 0, 0]) 1 s K) (clean [(3, 0), (4, 0)] 0) (K0 Q) ⟨stt 47 [(3, .sl 0 1 x3l), (4, .int .i64 x4i)], [], Hh⟩
def JR9 (a0 : ByteArray) (Q : Qt) (x3l : List (List AV)) (x4i : Int) (x46 : Bool) (Hh : Heap) : Prop := AJoin (contK E0 C (E0.L 39) [.seq (codeAt (bodyOf E0 39) [1, 1, 1, 0, 1, 0, 0, 1, 0, 0, 1, 1]) 1, .block 1 0, .seq (codeAt (bodyOf E0 39) [1, 1, 1, 0, 1, 0, 0, 1, 1]) 1, .loop (codeAt (bodyOf E0 39) [1, 1, 1, 0, 1, 0, 0]) 1 [(3, 0), (4, 0)] 0, .block 0 0, .seq (codeAt (bodyOf E0 39) [1, 1, 1, 1]) 1] (finK E0 39 Q)) ⟨stt 47 [(3, .sl 0 1 x3l), (4, .int .i64 x4i), (46, .bool x46)], [], Hh⟩
def r0 (a0 : ByteArray) (Q : Qt) (x3l : List (List AV)) (x4i : Int) (Hh : Heap) : Prop :=
 cond (ltI x4i (lenI x3l))
 (G (leI 0 x4i) (G (ltI x4i (lenI x3l)) (G ((ce (ro x3l x4i.toNat) 0).isStr) (CP 60 [.str ((ce (ro x3l x4i.toNat) 0).toStr), .int .u8 43] Hh fun v_5 H_6 =>
 G ((v_5).isBool) (cond ((v_5).toBool)
 (G (leI 0 x4i) (G (ltI x4i (lenI x3l)) (G ((ce (ro x3l x4i.toNat) 0).isStr) (cond (!(eqS ((ce (ro x3l x4i.toNat) 0).toStr) (⟨#[43]⟩ : ByteArray)))
 (Q (.bool false) H_6)
 (G (leI 0 x4i) (G (ltI x4i (lenI x3l)) (G ((ce (ro x3l x4i.toNat) 0).isStr) (CP 60 [.str ((ce (ro x3l x4i.toNat) 0).toStr), .int .u8 35] H_6 fun v_7 H_8 =>
 G ((v_7).isBool) (cond ((v_7).toBool)
 (G (leI 0 x4i) (G (ltI x4i (lenI x3l)) (G ((ce (ro x3l x4i.toNat) 0).isStr) (cond (!(eqS ((ce (ro x3l x4i.toNat) 0).toStr) (⟨#[35]⟩ : ByteArray)))
 (JR9 a0 Q x3l x4i true H_8)
 (JR9 a0 Q x3l x4i (!(eqI x4i (subW .i64 (lenI x3l) 1))) H_8)))))
 (JR9 a0 Q x3l x4i false H_8))))))))))
 (G (leI 0 x4i) (G (ltI x4i (lenI x3l)) (G ((ce (ro x3l x4i.toNat) 0).isStr) (CP 60 [.str ((ce (ro x3l x4i.toNat) 0).toStr), .int .u8 35] H_6 fun v_9 H_10 =>
 G ((v_9).isBool) (cond ((v_9).toBool)
 (G (leI 0 x4i) (G (ltI x4i (lenI x3l)) (G ((ce (ro x3l x4i.toNat) 0).isStr) (cond (!(eqS ((ce (ro x3l x4i.toNat) 0).toStr) (⟨#[35]⟩ : ByteArray)))
 (JR9 a0 Q x3l x4i true H_10)
 (JR9 a0 Q x3l x4i (!(eqI x4i (subW .i64 (lenI x3l) 1))) H_10)))))
 (JR9 a0 Q x3l x4i false H_10)))))))))))
 (Q (.bool true) Hh)
theorem r0_eq (a0 : ByteArray) (Q : Qt) (x3l : List (List AV)) (x4i : Int) (Hh : Heap) : (fun K s => awp E0 C (E0.L 39) (codeAt (bodyOf E0 39) [1, 1, 1, 0, 1, 0, 0]) 1 s K) (ALoopK (fun K s => awp E0 C (E0.L 39) (codeAt (bodyOf E0 39) [1, 1, 1, 0, 1, 0, 0]) 1 s K) (clean [(3, 0), (4, 0)] 0) (K0 Q)) ⟨stt 47 [(3, .sl 0 1 x3l), (4, .int .i64 x4i)], [], Hh⟩ = r0 a0 Q x3l x4i Hh := by kernel_rfl
theorem L0_step {a0 : ByteArray} {Q : Qt} {x3l : List (List AV)} {x4i : Int} {Hh : Heap} (h : r0 a0 Q x3l x4i Hh) : L0 a0 Q x3l x4i Hh := ALoop_told (r0_eq a0 Q x3l x4i Hh) h
def jR9 (a0 : ByteArray) (Q : Qt) (x3l : List (List AV)) (x4i : Int) (x46 : Bool) (Hh : Heap) : Prop :=
 cond x46
 (Q (.bool false) Hh)
 (L0 a0 Q x3l (addW .i64 x4i 1) Hh)
theorem JR9_eq (a0 : ByteArray) (Q : Qt) (x3l : List (List AV)) (x4i : Int) (x46 : Bool) (Hh : Heap) : contK E0 C (E0.L 39) [.seq (codeAt (bodyOf E0 39) [1, 1, 1, 0, 1, 0, 0, 1, 0, 0, 1, 1]) 1, .block 1 0, .seq (codeAt (bodyOf E0 39) [1, 1, 1, 0, 1, 0, 0, 1, 1]) 1, .loop (codeAt (bodyOf E0 39) [1, 1, 1, 0, 1, 0, 0]) 1 [(3, 0), (4, 0)] 0, .block 0 0, .seq (codeAt (bodyOf E0 39) [1, 1, 1, 1]) 1] (finK E0 39 Q) .normal ⟨stt 47 [(3, .sl 0 1 x3l), (4, .int .i64 x4i), (46, .bool x46)], [], Hh⟩ = jR9 a0 Q x3l x4i x46 Hh := by kernel_rfl
theorem JR9_step {a0 : ByteArray} {Q : Qt} {x3l : List (List AV)} {x4i : Int} {x46 : Bool} {Hh : Heap} (h : jR9 a0 Q x3l x4i x46 Hh) : JR9 a0 Q x3l x4i x46 Hh := AJoin_told (JR9_eq a0 Q x3l x4i x46 Hh) h
def t (a0 : ByteArray) (H : Heap) (Q : Qt) : Prop :=
 CP 59 [.str a0] H fun v_1 H_2 =>
 G ((v_1).isBool) (cond (!((v_1).toBool))
 (Q (.bool false) H_2)
 (CP 41 [.str a0] H_2 fun v_3 H_4 =>
 G ((v_3).isSl 1) (L0 a0 Q ((v_3).slXs) 0 H_4)))
theorem t_eq (a0 : ByteArray) (H : Heap) (Q : Qt) : aBody E0 C 39 [.str a0] H Q = t a0 H Q := by kernel_rfl
theorem call {a0 : ByteArray} {H : Heap} {Q : Qt} (h : t a0 H Q) : C 39 [.str a0] H Q := Call_told (E := E0) (t_eq a0 H Q) h
end F39
namespace F40
def t (a0 : ByteArray) (H : Heap) (Q : Qt) : Prop :=
 CP 59 [.str a0] H fun v_1 H_2 =>
 G ((v_1).isBool) (cond ((v_1).toBool)
 (CP 60 [.str a0, .int .u8 43] H_2 fun v_3 H_4 =>
 G ((v_3).isBool) (cond (!((v_3).toBool))
 (CP 60 [.str a0, .int .u8 35] H_4 fun v_5 H_6 =>
 G ((v_5).isBool) (Q (.bool (!((v_5).toBool))) H_6))
 (Q (.bool false) H_4)))
 (Q (.bool false) H_2))
theorem t_eq (a0 : ByteArray) (H : Heap) (Q : Qt) : aBody E0 C 40 [.str a0] H Q = t a0 H Q := by kernel_rfl
theorem call {a0 : ByteArray} {H : Heap} {Q : Qt} (h : t a0 H Q) : C 40 [.str a0] H Q := Call_told (E := E0) (t_eq a0 H Q) h
end F40
namespace F41
def K0 (Q : Qt) : Ex → St → Prop := (contK E0 C (E0.L 41) [.block 0 0, .seq (codeAt (bodyOf E0 41) [1, 1, 1, 1]) 1] (finK E0 41 Q))
def L0 (a0 : ByteArray) (Q : Qt) (x3out : List (List AV)) (x4from x5i : Int) (Hh : Heap) : Prop := ALoop (fun K s => awp E0 C (E0.L 41) (codeAt (bodyOf E0 41) [1, 1, 1, 0, 1, 0, 0]) 1 s K) (clean [(0, 0), (3, 3), (4, 0), (5, 0)] 0) (K0 Q) ⟨stt 31 [(0, .str a0), (3, .sl 1 1 x3out), (4, .int .i64 x4from), (5, .int .i64 x5i)], [], Hh⟩
def r0 (a0 : ByteArray) (Q : Qt) (x3out : List (List AV)) (x4from x5i : Int) (Hh : Heap) : Prop :=
 cond (ltI x5i (sizeI a0))
 (G (leI 0 x5i) (G (ltI x5i (sizeI a0)) (cond (eqI (bt a0 x5i) 47)
 (G (leI 0 x4from) (G (leI x4from x5i) (G (leI x5i (sizeI a0)) (G (room x3out [[.str (a0.extract x4from.toNat x5i.toNat)]] 16) (L0 a0 Q (x3out ++ [[.str (a0.extract x4from.toNat x5i.toNat)]]) (addW .i64 x5i 1) (addW .i64 x5i 1) Hh)))))
 (L0 a0 Q x3out x4from (addW .i64 x5i 1) Hh))))
 (G (leI 0 x4from) (G (leI x4from (sizeI a0)) (G (leI (sizeI a0) (sizeI a0)) (G (room x3out [[.str (a0.extract x4from.toNat ((sizeI a0).toNat))]] 16) (Q (.sl 0 1 (x3out ++ [[.str (a0.extract x4from.toNat ((sizeI a0).toNat))]])) Hh)))))
theorem r0_eq (a0 : ByteArray) (Q : Qt) (x3out : List (List AV)) (x4from x5i : Int) (Hh : Heap) : (fun K s => awp E0 C (E0.L 41) (codeAt (bodyOf E0 41) [1, 1, 1, 0, 1, 0, 0]) 1 s K) (ALoopK (fun K s => awp E0 C (E0.L 41) (codeAt (bodyOf E0 41) [1, 1, 1, 0, 1, 0, 0]) 1 s K) (clean [(0, 0), (3, 3), (4, 0), (5, 0)] 0) (K0 Q)) ⟨stt 31 [(0, .str a0), (3, .sl 1 1 x3out), (4, .int .i64 x4from), (5, .int .i64 x5i)], [], Hh⟩ = r0 a0 Q x3out x4from x5i Hh := by kernel_rfl
theorem L0_step {a0 : ByteArray} {Q : Qt} {x3out : List (List AV)} {x4from x5i : Int} {Hh : Heap} (h : r0 a0 Q x3out x4from x5i Hh) : L0 a0 Q x3out x4from x5i Hh := ALoop_told (r0_eq a0 Q x3out x4from x5i Hh) h
def t (a0 : ByteArray) (H : Heap) (Q : Qt) : Prop :=
 L0 a0 Q [] 0 0 H
theorem t_eq (a0 : ByteArray) (H : Heap) (Q : Qt) : aBody E0 C 41 [.str a0] H Q = t a0 H Q := by kernel_rfl
theorem call {a0 : ByteArray} {H : Heap} {Q : Qt} (h : t a0 H Q) : C 41 [.str a0] H Q := Call_told (E := E0) (t_eq a0 H Q) h
end F41
namespace F42
def t (a0 : List (List AV)) (H : Heap) (Q : Qt) : Prop :=
 G (ltI 0 (lenI a0)) (G ((ce (ro a0 0) 0).isStr) (cond (eqS ((ce (ro a0 0) 0).toStr) (⟨#[43]⟩ : ByteArray))
 (Q (.bool true) H)
 (G (ltI 0 (lenI a0)) (G ((ce (ro a0 0) 0).isStr) (Q (.bool (eqS ((ce (ro a0 0) 0).toStr) (⟨#[35]⟩ : ByteArray))) H)))))
theorem t_eq (a0 : List (List AV)) (H : Heap) (Q : Qt) : aBody E0 C 42 [.sl 0 1 a0] H Q = t a0 H Q := by kernel_rfl
theorem call {a0 : List (List AV)} {H : Heap} {Q : Qt} (h : t a0 H Q) : C 42 [.sl 0 1 a0] H Q := Call_told (E := E0) (t_eq a0 H Q) h
end F42
namespace F43
def t (a0 : ByteArray) (H : Heap) (Q : Qt) : Prop :=
 cond (ltI 0 (sizeI a0))
 (G (ltI 0 (sizeI a0)) (Q (.bool (eqI (bt a0 0) 36)) H))
 (Q (.bool false) H)
theorem t_eq (a0 : ByteArray) (H : Heap) (Q : Qt) : aBody E0 C 43 [.str a0] H Q = t a0 H Q := by kernel_rfl
theorem call {a0 : ByteArray} {H : Heap} {Q : Qt} (h : t a0 H Q) : C 43 [.str a0] H Q := Call_told (E := E0) (t_eq a0 H Q) h
end F43
namespace F44
def t (a0 a1 : List (List AV)) (a2 a3 : Int) (H : Heap) (Q : Qt) : Prop :=
 cond (ltI a2 (lenI a0))
 (G (leI 0 a2) (G (ltI a2 (lenI a0)) (G ((ce (ro a0 a2.toNat) 0).isStr) (cond (eqS ((ce (ro a0 a2.toNat) 0).toStr) (⟨#[35]⟩ : ByteArray))
 (Q (.bool true) H)
 (cond (eqI a2 (lenI a0))
 (cond (eqI a2 (lenI a0))
 (Q (.bool (eqI a3 (lenI a1))) H)
 (Q (.bool false) H))
 (cond (eqI a3 (lenI a1))
 (cond (eqI a2 (lenI a0))
 (Q (.bool (eqI a3 (lenI a1))) H)
 (Q (.bool false) H))
 (G (leI 0 a2) (G (ltI a2 (lenI a0)) (G ((ce (ro a0 a2.toNat) 0).isStr) (cond (eqS ((ce (ro a0 a2.toNat) 0).toStr) (⟨#[43]⟩ : ByteArray))
 (CP 44 [.sl 0 1 a0, .sl 0 1 a1, .int .i64 (addW .i64 a2 1), .int .i64 (addW .i64 a3 1)] H fun v_1 H_2 =>
 G ((v_1).isBool) (Q (.bool ((v_1).toBool)) H_2))
 (G (leI 0 a2) (G (ltI a2 (lenI a0)) (G ((ce (ro a0 a2.toNat) 0).isStr) (G (leI 0 a3) (G (ltI a3 (lenI a1)) (G ((ce (ro a1 a3.toNat) 0).isStr) (cond (eqS ((ce (ro a0 a2.toNat) 0).toStr) ((ce (ro a1 a3.toNat) 0).toStr))
 (CP 44 [.sl 0 1 a0, .sl 0 1 a1, .int .i64 (addW .i64 a2 1), .int .i64 (addW .i64 a3 1)] H fun v_3 H_4 =>
 G ((v_3).isBool) (Q (.bool ((v_3).toBool)) H_4))
 (Q (.bool false) H))))))))))))))))))
 (cond (eqI a2 (lenI a0))
 (cond (eqI a2 (lenI a0))
 (Q (.bool (eqI a3 (lenI a1))) H)
 (Q (.bool false) H))
 (cond (eqI a3 (lenI a1))
 (cond (eqI a2 (lenI a0))
 (Q (.bool (eqI a3 (lenI a1))) H)
 (Q (.bool false) H))
 (G (leI 0 a2) (G (ltI a2 (lenI a0)) (G ((ce (ro a0 a2.toNat) 0).isStr) (cond (eqS ((ce (ro a0 a2.toNat) 0).toStr) (⟨#[43]⟩ : ByteArray))
 (CP 44 [.sl 0 1 a0, .sl 0 1 a1, .int .i64 (addW .i64 a2 1), .int .i64 (addW .i64 a3 1)] H fun v_5 H_6 =>
 G ((v_5).isBool) (Q (.bool ((v_5).toBool)) H_6))
 (G (leI 0 a2) (G (ltI a2 (lenI a0)) (G ((ce (ro a0 a2.toNat) 0).isStr) (G (leI 0 a3) (G (ltI a3 (lenI a1)) (G ((ce (ro a1 a3.toNat) 0).isStr) (cond (eqS ((ce (ro a0 a2.toNat) 0).toStr) ((ce (ro a1 a3.toNat) 0).toStr))
 (CP 44 [.sl 0 1 a0, .sl 0 1 a1, .int .i64 (addW .i64 a2 1), .int .i64 (addW .i64 a3 1)] H fun v_7 H_8 =>
 G ((v_7).isBool) (Q (.bool ((v_7).toBool)) H_8))
 (Q (.bool false) H))))))))))))))
theorem t_eq (a0 a1 : List (List AV)) (a2 a3 : Int) (H : Heap) (Q : Qt) : aBody E0 C 44 [.sl 0 1 a0, .sl 0 1 a1, .int .i64 a2, .int .i64 a3] H Q = t a0 a1 a2 a3 H Q := by kernel_rfl
theorem call {a0 a1 : List (List AV)} {a2 a3 : Int} {H : Heap} {Q : Qt} (h : t a0 a1 a2 a3 H Q) : C 44 [.sl 0 1 a0, .sl 0 1 a1, .int .i64 a2, .int .i64 a3] H Q := Call_told (E := E0) (t_eq a0 a1 a2 a3 H Q) h
end F44
namespace F45
def K0 (Q : Qt) : Ex → St → Prop := (contK E0 C (E0.L 45) [.block 0 0, .seq (codeAt (bodyOf E0 45) [1, 1, 1]) 1] (finK E0 45 Q))
def L0 (a0 : List (List AV)) (a1 : ByteArray) (Q : Qt) (x5out : List (List AV)) (x6i : Int) (Hh : Heap) : Prop := ALoop (fun K s => awp E0 C (E0.L 45) (codeAt (bodyOf E0 45) [1, 1, 0, 1, 0, 0]) 1 s K) (clean [(0, 0), (1, 0), (5, 11), (6, 0)] 0) (K0 Q) ⟨stt 28 [(0, .sl 0 9 a0), (1, .str a1), (5, .sl 1 9 x5out), (6, .int .i64 x6i)], [], Hh⟩
def r0 (a0 : List (List AV)) (a1 : ByteArray) (Q : Qt) (x5out : List (List AV)) (x6i : Int) (Hh : Heap) : Prop :=
 cond (ltI x6i (lenI a0))
 (G (leI 0 x6i) (G (ltI x6i (lenI a0)) (G ((ce (ro a0 x6i.toNat) 0).isStr) (cond (!(eqS ((ce (ro a0 x6i.toNat) 0).toStr) a1))
 (G (leI 0 x6i) (G (ltI x6i (lenI a0)) (G ((ce (ro a0 x6i.toNat) 0).isStr) (G ((ce (ro a0 x6i.toNat) 1).isStr) (G ((ce (ro a0 x6i.toNat) 2).isInt .i64) (G ((ce (ro a0 x6i.toNat) 3).isBool) (G ((ce (ro a0 x6i.toNat) 4).isInt .i64) (G ((ce (ro a0 x6i.toNat) 5).isInt .i64) (G ((ce (ro a0 x6i.toNat) 6).isStr) (G ((ce (ro a0 x6i.toNat) 7).isInt .i64) (G ((ce (ro a0 x6i.toNat) 8).isSl 2) (G (room x5out [[.str ((ce (ro a0 x6i.toNat) 0).toStr), .str ((ce (ro a0 x6i.toNat) 1).toStr), .int .i64 ((ce (ro a0 x6i.toNat) 2).toInt), .bool ((ce (ro a0 x6i.toNat) 3).toBool), .int .i64 ((ce (ro a0 x6i.toNat) 4).toInt), .int .i64 ((ce (ro a0 x6i.toNat) 5).toInt), .str ((ce (ro a0 x6i.toNat) 6).toStr), .int .i64 ((ce (ro a0 x6i.toNat) 7).toInt), .sl 0 2 ((ce (ro a0 x6i.toNat) 8).slXs)]] 112) (L0 a0 a1 Q (x5out ++ [[.str ((ce (ro a0 x6i.toNat) 0).toStr), .str ((ce (ro a0 x6i.toNat) 1).toStr), .int .i64 ((ce (ro a0 x6i.toNat) 2).toInt), .bool ((ce (ro a0 x6i.toNat) 3).toBool), .int .i64 ((ce (ro a0 x6i.toNat) 4).toInt), .int .i64 ((ce (ro a0 x6i.toNat) 5).toInt), .str ((ce (ro a0 x6i.toNat) 6).toStr), .int .i64 ((ce (ro a0 x6i.toNat) 7).toInt), .sl 0 2 ((ce (ro a0 x6i.toNat) 8).slXs)]]) (addW .i64 x6i 1) Hh)))))))))))))
 (L0 a0 a1 Q x5out (addW .i64 x6i 1) Hh)))))
 (Q (.sl 0 9 x5out) Hh)
theorem r0_eq (a0 : List (List AV)) (a1 : ByteArray) (Q : Qt) (x5out : List (List AV)) (x6i : Int) (Hh : Heap) : (fun K s => awp E0 C (E0.L 45) (codeAt (bodyOf E0 45) [1, 1, 0, 1, 0, 0]) 1 s K) (ALoopK (fun K s => awp E0 C (E0.L 45) (codeAt (bodyOf E0 45) [1, 1, 0, 1, 0, 0]) 1 s K) (clean [(0, 0), (1, 0), (5, 11), (6, 0)] 0) (K0 Q)) ⟨stt 28 [(0, .sl 0 9 a0), (1, .str a1), (5, .sl 1 9 x5out), (6, .int .i64 x6i)], [], Hh⟩ = r0 a0 a1 Q x5out x6i Hh := by kernel_rfl
theorem L0_step {a0 : List (List AV)} {a1 : ByteArray} {Q : Qt} {x5out : List (List AV)} {x6i : Int} {Hh : Heap} (h : r0 a0 a1 Q x5out x6i Hh) : L0 a0 a1 Q x5out x6i Hh := ALoop_told (r0_eq a0 a1 Q x5out x6i Hh) h
def t (a0 : List (List AV)) (a1 : ByteArray) (H : Heap) (Q : Qt) : Prop :=
 L0 a0 a1 Q [] 0 H
theorem t_eq (a0 : List (List AV)) (a1 : ByteArray) (H : Heap) (Q : Qt) : aBody E0 C 45 [.sl 0 9 a0, .str a1] H Q = t a0 a1 H Q := by kernel_rfl
theorem call {a0 : List (List AV)} {a1 : ByteArray} {H : Heap} {Q : Qt} (h : t a0 a1 H Q) : C 45 [.sl 0 9 a0, .str a1] H Q := Call_told (E := E0) (t_eq a0 a1 H Q) h
end F45
namespace F46
def K0 (Q : Qt) : Ex → St → Prop := (contK E0 C (E0.L 46) [.block 0 0, .seq (codeAt (bodyOf E0 46) [1, 1]) 1] (finK E0 46 Q))
def L0 (a0 : List (List AV)) (a1 : ByteArray) (Q : Qt) (x5i : Int) (Hh : Heap) : Prop := ALoop (fun K s => awp E0 C (E0.L 46) (codeAt (bodyOf E0 46) [1, 0, 1, 0, 0]) 1 s K) (clean [(0, 0), (1, 0), (5, 0)] 0) (K0 Q) ⟨stt 20 [(0, .sl 0 9 a0), (1, .str a1), (5, .int .i64 x5i)], [], Hh⟩
def r0 (a0 : List (List AV)) (a1 : ByteArray) (Q : Qt) (x5i : Int) (Hh : Heap) : Prop :=
 cond (ltI x5i (lenI a0))
 (G (leI 0 x5i) (G (ltI x5i (lenI a0)) (G ((ce (ro a0 x5i.toNat) 0).isStr) (cond (eqS ((ce (ro a0 x5i.toNat) 0).toStr) a1)
 (Q (.int .i64 x5i) Hh)
 (L0 a0 a1 Q (addW .i64 x5i 1) Hh)))))
 (Q (.int .i64 (-1)) Hh)
theorem r0_eq (a0 : List (List AV)) (a1 : ByteArray) (Q : Qt) (x5i : Int) (Hh : Heap) : (fun K s => awp E0 C (E0.L 46) (codeAt (bodyOf E0 46) [1, 0, 1, 0, 0]) 1 s K) (ALoopK (fun K s => awp E0 C (E0.L 46) (codeAt (bodyOf E0 46) [1, 0, 1, 0, 0]) 1 s K) (clean [(0, 0), (1, 0), (5, 0)] 0) (K0 Q)) ⟨stt 20 [(0, .sl 0 9 a0), (1, .str a1), (5, .int .i64 x5i)], [], Hh⟩ = r0 a0 a1 Q x5i Hh := by kernel_rfl
theorem L0_step {a0 : List (List AV)} {a1 : ByteArray} {Q : Qt} {x5i : Int} {Hh : Heap} (h : r0 a0 a1 Q x5i Hh) : L0 a0 a1 Q x5i Hh := ALoop_told (r0_eq a0 a1 Q x5i Hh) h
def t (a0 : List (List AV)) (a1 : ByteArray) (H : Heap) (Q : Qt) : Prop :=
 L0 a0 a1 Q 0 H
theorem t_eq (a0 : List (List AV)) (a1 : ByteArray) (H : Heap) (Q : Qt) : aBody E0 C 46 [.sl 0 9 a0, .str a1] H Q = t a0 a1 H Q := by kernel_rfl
theorem call {a0 : List (List AV)} {a1 : ByteArray} {H : Heap} {Q : Qt} (h : t a0 a1 H Q) : C 46 [.sl 0 9 a0, .str a1] H Q := Call_told (E := E0) (t_eq a0 a1 H Q) h
end F46
namespace F47
def K0 (Q : Qt) : Ex → St → Prop := (contK E0 C (E0.L 47) [.block 0 0, .seq (codeAt (bodyOf E0 47) [1, 1, 1]) 1] (finK E0 47 Q))
def L0 (a0 : List (List AV)) (a1 : Int) (Q : Qt) (x5out : List (List AV)) (x6i : Int) (Hh : Heap) : Prop := ALoop (fun K s => awp E0 C (E0.L 47) (codeAt (bodyOf E0 47) [1, 1, 0, 1, 0, 0]) 1 s K) (clean [(0, 0), (1, 0), (5, 11), (6, 0)] 0) (K0 Q) ⟨stt 28 [(0, .sl 0 9 a0), (1, .int .i64 a1), (5, .sl 1 9 x5out), (6, .int .i64 x6i)], [], Hh⟩
def r0 (a0 : List (List AV)) (a1 : Int) (Q : Qt) (x5out : List (List AV)) (x6i : Int) (Hh : Heap) : Prop :=
 cond (ltI x6i (lenI a0))
 (G (leI 0 x6i) (G (ltI x6i (lenI a0)) (G ((ce (ro a0 x6i.toNat) 0).isStr) (G ((ce (ro a0 x6i.toNat) 1).isStr) (G ((ce (ro a0 x6i.toNat) 2).isInt .i64) (G ((ce (ro a0 x6i.toNat) 3).isBool) (G ((ce (ro a0 x6i.toNat) 4).isInt .i64) (G ((ce (ro a0 x6i.toNat) 5).isInt .i64) (G ((ce (ro a0 x6i.toNat) 6).isStr) (G ((ce (ro a0 x6i.toNat) 7).isInt .i64) (G ((ce (ro a0 x6i.toNat) 8).isSl 2) (CP 24 [.agg [.str ((ce (ro a0 x6i.toNat) 0).toStr), .str ((ce (ro a0 x6i.toNat) 1).toStr), .int .i64 ((ce (ro a0 x6i.toNat) 2).toInt), .bool ((ce (ro a0 x6i.toNat) 3).toBool), .int .i64 ((ce (ro a0 x6i.toNat) 4).toInt), .int .i64 ((ce (ro a0 x6i.toNat) 5).toInt), .str ((ce (ro a0 x6i.toNat) 6).toStr), .int .i64 ((ce (ro a0 x6i.toNat) 7).toInt), .sl 0 2 ((ce (ro a0 x6i.toNat) 8).slXs)], .int .i64 a1] Hh fun v_1 H_2 =>
 G ((v_1).isBool) (cond (!((v_1).toBool))
 (G (leI 0 x6i) (G (ltI x6i (lenI a0)) (G ((ce (ro a0 x6i.toNat) 0).isStr) (G ((ce (ro a0 x6i.toNat) 1).isStr) (G ((ce (ro a0 x6i.toNat) 2).isInt .i64) (G ((ce (ro a0 x6i.toNat) 3).isBool) (G ((ce (ro a0 x6i.toNat) 4).isInt .i64) (G ((ce (ro a0 x6i.toNat) 5).isInt .i64) (G ((ce (ro a0 x6i.toNat) 6).isStr) (G ((ce (ro a0 x6i.toNat) 7).isInt .i64) (G ((ce (ro a0 x6i.toNat) 8).isSl 2) (G (room x5out [[.str ((ce (ro a0 x6i.toNat) 0).toStr), .str ((ce (ro a0 x6i.toNat) 1).toStr), .int .i64 ((ce (ro a0 x6i.toNat) 2).toInt), .bool ((ce (ro a0 x6i.toNat) 3).toBool), .int .i64 ((ce (ro a0 x6i.toNat) 4).toInt), .int .i64 ((ce (ro a0 x6i.toNat) 5).toInt), .str ((ce (ro a0 x6i.toNat) 6).toStr), .int .i64 ((ce (ro a0 x6i.toNat) 7).toInt), .sl 0 2 ((ce (ro a0 x6i.toNat) 8).slXs)]] 112) (L0 a0 a1 Q (x5out ++ [[.str ((ce (ro a0 x6i.toNat) 0).toStr), .str ((ce (ro a0 x6i.toNat) 1).toStr), .int .i64 ((ce (ro a0 x6i.toNat) 2).toInt), .bool ((ce (ro a0 x6i.toNat) 3).toBool), .int .i64 ((ce (ro a0 x6i.toNat) 4).toInt), .int .i64 ((ce (ro a0 x6i.toNat) 5).toInt), .str ((ce (ro a0 x6i.toNat) 6).toStr), .int .i64 ((ce (ro a0 x6i.toNat) 7).toInt), .sl 0 2 ((ce (ro a0 x6i.toNat) 8).slXs)]]) (addW .i64 x6i 1) H_2)))))))))))))
 (L0 a0 a1 Q x5out (addW .i64 x6i 1) H_2))))))))))))))
 (Q (.sl 0 9 x5out) Hh)
theorem r0_eq (a0 : List (List AV)) (a1 : Int) (Q : Qt) (x5out : List (List AV)) (x6i : Int) (Hh : Heap) : (fun K s => awp E0 C (E0.L 47) (codeAt (bodyOf E0 47) [1, 1, 0, 1, 0, 0]) 1 s K) (ALoopK (fun K s => awp E0 C (E0.L 47) (codeAt (bodyOf E0 47) [1, 1, 0, 1, 0, 0]) 1 s K) (clean [(0, 0), (1, 0), (5, 11), (6, 0)] 0) (K0 Q)) ⟨stt 28 [(0, .sl 0 9 a0), (1, .int .i64 a1), (5, .sl 1 9 x5out), (6, .int .i64 x6i)], [], Hh⟩ = r0 a0 a1 Q x5out x6i Hh := by kernel_rfl
theorem L0_step {a0 : List (List AV)} {a1 : Int} {Q : Qt} {x5out : List (List AV)} {x6i : Int} {Hh : Heap} (h : r0 a0 a1 Q x5out x6i Hh) : L0 a0 a1 Q x5out x6i Hh := ALoop_told (r0_eq a0 a1 Q x5out x6i Hh) h
def t (a0 : List (List AV)) (a1 : Int) (H : Heap) (Q : Qt) : Prop :=
 L0 a0 a1 Q [] 0 H
theorem t_eq (a0 : List (List AV)) (a1 : Int) (H : Heap) (Q : Qt) : aBody E0 C 47 [.sl 0 9 a0, .int .i64 a1] H Q = t a0 a1 H Q := by kernel_rfl
theorem call {a0 : List (List AV)} {a1 : Int} {H : Heap} {Q : Qt} (h : t a0 a1 H Q) : C 47 [.sl 0 9 a0, .int .i64 a1] H Q := Call_told (E := E0) (t_eq a0 a1 H Q) h
end F47
namespace F48
def K0 (Q : Qt) : Ex → St → Prop := (contK E0 C (E0.L 48) [.block 0 1, .seq (codeAt (bodyOf E0 48) [1, 1, 1, 1]) 1] (finK E0 48 Q))
def L0 (a0 : List (List AV)) (a1_0 a1_1 : ByteArray) (a1_2 : Int) (a1_3 : Bool) (a1_4 a1_5 : Int) (a1_6 : ByteArray) (a1_7 : Int) (a1_8 : List (List AV)) (Q : Qt) (x5out : List (List AV)) (x6i : Int) (Hh : Heap) : Prop := ALoop (fun K s => awp E0 C (E0.L 48) (codeAt (bodyOf E0 48) [1, 1, 1, 0, 0, 0]) 1 s K) (clean [(0, 0), (3, 0), (5, 11), (6, 0)] 1) (K0 Q) ⟨stt 39 [(0, .sl 0 9 a0), (3, .ptr 0 0), (5, .sl 1 9 x5out), (6, .int .i64 x6i)], [.cells [.str a1_0, .str a1_1, .int .i64 a1_2, .bool a1_3, .int .i64 a1_4, .int .i64 a1_5, .str a1_6, .int .i64 a1_7, .sl 0 2 a1_8]], Hh⟩
def r0 (a0 : List (List AV)) (a1_0 a1_1 : ByteArray) (a1_2 : Int) (a1_3 : Bool) (a1_4 a1_5 : Int) (a1_6 : ByteArray) (a1_7 : Int) (a1_8 : List (List AV)) (Q : Qt) (x5out : List (List AV)) (x6i : Int) (Hh : Heap) : Prop :=
 cond (ltI x6i (lenI a0))
 (G (leI 0 x6i) (G (ltI x6i (lenI a0)) (G ((ce (ro a0 x6i.toNat) 0).isStr) (cond (ltS ((ce (ro a0 x6i.toNat) 0).toStr) a1_0)
 (G (leI 0 x6i) (G (ltI x6i (lenI a0)) (G ((ce (ro a0 x6i.toNat) 0).isStr) (G ((ce (ro a0 x6i.toNat) 1).isStr) (G ((ce (ro a0 x6i.toNat) 2).isInt .i64) (G ((ce (ro a0 x6i.toNat) 3).isBool) (G ((ce (ro a0 x6i.toNat) 4).isInt .i64) (G ((ce (ro a0 x6i.toNat) 5).isInt .i64) (G ((ce (ro a0 x6i.toNat) 6).isStr) (G ((ce (ro a0 x6i.toNat) 7).isInt .i64) (G ((ce (ro a0 x6i.toNat) 8).isSl 2) (G (room x5out [[.str ((ce (ro a0 x6i.toNat) 0).toStr), .str ((ce (ro a0 x6i.toNat) 1).toStr), .int .i64 ((ce (ro a0 x6i.toNat) 2).toInt), .bool ((ce (ro a0 x6i.toNat) 3).toBool), .int .i64 ((ce (ro a0 x6i.toNat) 4).toInt), .int .i64 ((ce (ro a0 x6i.toNat) 5).toInt), .str ((ce (ro a0 x6i.toNat) 6).toStr), .int .i64 ((ce (ro a0 x6i.toNat) 7).toInt), .sl 0 2 ((ce (ro a0 x6i.toNat) 8).slXs)]] 112) (L0 a0 a1_0 a1_1 a1_2 a1_3 a1_4 a1_5 a1_6 a1_7 a1_8 Q (x5out ++ [[.str ((ce (ro a0 x6i.toNat) 0).toStr), .str ((ce (ro a0 x6i.toNat) 1).toStr), .int .i64 ((ce (ro a0 x6i.toNat) 2).toInt), .bool ((ce (ro a0 x6i.toNat) 3).toBool), .int .i64 ((ce (ro a0 x6i.toNat) 4).toInt), .int .i64 ((ce (ro a0 x6i.toNat) 5).toInt), .str ((ce (ro a0 x6i.toNat) 6).toStr), .int .i64 ((ce (ro a0 x6i.toNat) 7).toInt), .sl 0 2 ((ce (ro a0 x6i.toNat) 8).slXs)]]) (addW .i64 x6i 1) Hh)))))))))))))
 (G (room x5out [[.str a1_0, .str a1_1, .int .i64 a1_2, .bool a1_3, .int .i64 a1_4, .int .i64 a1_5, .str a1_6, .int .i64 a1_7, .sl 0 2 a1_8]] 112) (G (leI 0 x6i) (G (leI x6i (lenI a0)) (G (leI (lenI a0) (lenI a0)) (G (leI (lenI a0) (lenI a0)) (G (room (x5out ++ [[.str a1_0, .str a1_1, .int .i64 a1_2, .bool a1_3, .int .i64 a1_4, .int .i64 a1_5, .str a1_6, .int .i64 a1_7, .sl 0 2 a1_8]]) ((a0.take ((lenI a0).toNat)).drop x6i.toNat) 112) (Q (.sl 0 9 ((x5out ++ [[.str a1_0, .str a1_1, .int .i64 a1_2, .bool a1_3, .int .i64 a1_4, .int .i64 a1_5, .str a1_6, .int .i64 a1_7, .sl 0 2 a1_8]]) ++ ((a0.take ((lenI a0).toNat)).drop x6i.toNat))) Hh)))))))))))
 (G (room x5out [[.str a1_0, .str a1_1, .int .i64 a1_2, .bool a1_3, .int .i64 a1_4, .int .i64 a1_5, .str a1_6, .int .i64 a1_7, .sl 0 2 a1_8]] 112) (G (leI 0 x6i) (G (leI x6i (lenI a0)) (G (leI (lenI a0) (lenI a0)) (G (leI (lenI a0) (lenI a0)) (G (room (x5out ++ [[.str a1_0, .str a1_1, .int .i64 a1_2, .bool a1_3, .int .i64 a1_4, .int .i64 a1_5, .str a1_6, .int .i64 a1_7, .sl 0 2 a1_8]]) ((a0.take ((lenI a0).toNat)).drop x6i.toNat) 112) (Q (.sl 0 9 ((x5out ++ [[.str a1_0, .str a1_1, .int .i64 a1_2, .bool a1_3, .int .i64 a1_4, .int .i64 a1_5, .str a1_6, .int .i64 a1_7, .sl 0 2 a1_8]]) ++ ((a0.take ((lenI a0).toNat)).drop x6i.toNat))) Hh)))))))
theorem r0_eq (a0 : List (List AV)) (a1_0 a1_1 : ByteArray) (a1_2 : Int) (a1_3 : Bool) (a1_4 a1_5 : Int) (a1_6 : ByteArray) (a1_7 : Int) (a1_8 : List (List AV)) (Q : Qt) (x5out : List (List AV)) (x6i : Int) (Hh : Heap) : (fun K s => awp E0 C (E0.L 48) (codeAt (bodyOf E0 48) [1, 1, 1, 0, 0, 0]) 1 s K) (ALoopK (fun K s => awp E0 C (E0.L 48) (codeAt (bodyOf E0 48) [1, 1, 1, 0, 0, 0]) 1 s K) (clean [(0, 0), (3, 0), (5, 11), (6, 0)] 1) (K0 Q)) ⟨stt 39 [(0, .sl 0 9 a0), (3, .ptr 0 0), (5, .sl 1 9 x5out), (6, .int .i64 x6i)], [.cells [.str a1_0, .str a1_1, .int .i64 a1_2, .bool a1_3, .int .i64 a1_4, .int .i64 a1_5, .str a1_6, .int .i64 a1_7, .sl 0 2 a1_8]], Hh⟩ = r0 a0 a1_0 a1_1 a1_2 a1_3 a1_4 a1_5 a1_6 a1_7 a1_8 Q x5out x6i Hh := by kernel_rfl
theorem L0_step {a0 : List (List AV)} {a1_0 a1_1 : ByteArray} {a1_2 : Int} {a1_3 : Bool} {a1_4 a1_5 : Int} {a1_6 : ByteArray} {a1_7 : Int} {a1_8 : List (List AV)} {Q : Qt} {x5out : List (List AV)} {x6i : Int} {Hh : Heap} (h : r0 a0 a1_0 a1_1 a1_2 a1_3 a1_4 a1_5 a1_6 a1_7 a1_8 Q x5out x6i Hh) : L0 a0 a1_0 a1_1 a1_2 a1_3 a1_4 a1_5 a1_6 a1_7 a1_8 Q x5out x6i Hh := ALoop_told (r0_eq a0 a1_0 a1_1 a1_2 a1_3 a1_4 a1_5 a1_6 a1_7 a1_8 Q x5out x6i Hh) h
def t (a0 : List (List AV)) (a1_0 a1_1 : ByteArray) (a1_2 : Int) (a1_3 : Bool) (a1_4 a1_5 : Int) (a1_6 : ByteArray) (a1_7 : Int) (a1_8 : List (List AV)) (H : Heap) (Q : Qt) : Prop :=
 L0 a0 a1_0 a1_1 a1_2 a1_3 a1_4 a1_5 a1_6 a1_7 a1_8 Q [] 0 H
theorem t_eq (a0 : List (List AV)) (a1_0 a1_1 : ByteArray) (a1_2 : Int) (a1_3 : Bool) (a1_4 a1_5 : Int) (a1_6 : ByteArray) (a1_7 : Int) (a1_8 : List (List AV)) (H : Heap) (Q : Qt) : aBody E0 C 48 [.sl 0 9 a0, .agg [.str a1_0, .str a1_1, .int .i64 a1_2, .bool a1_3, .int .i64 a1_4, .int .i64 a1_5, .str a1_6, .int .i64 a1_7, .sl 0 2 a1_8]] H Q = t a0 a1_0 a1_1 a1_2 a1_3 a1_4 a1_5 a1_6 a1_7 a1_8 H Q := by kernel_rfl
theorem call {a0 : List (List AV)} {a1_0 a1_1 : ByteArray} {a1_2 : Int} {a1_3 : Bool} {a1_4 a1_5 : Int} {a1_6 : ByteArray} {a1_7 : Int} {a1_8 : List (List AV)} {H : Heap} {Q : Qt} (h : t a0 a1_0 a1_1 a1_2 a1_3 a1_4 a1_5 a1_6 a1_7 a1_8 H Q) : C 48 [.sl 0 9 a0, .agg [.str a1_0, .str a1_1, .int .i64 a1_2, .bool a1_3, .int .i64 a1_4, .int .i64 a1_5, .str a1_6, .int .i64 a1_7, .sl 0 2 a1_8]] H Q := Call_told (E := E0) (t_eq a0 a1_0 a1_1 a1_2 a1_3 a1_4 a1_5 a1_6 a1_7 a1_8 H Q) h
end F48
namespace F49
def t (a0_0 a0_1 : ByteArray) (a0_2 : Int) (a0_3 : Bool) (a0_4 a0_5 : Int) (a0_6 : ByteArray) (a0_7 : Int) (a0_8 : List (List AV)) (H : Heap) (Q : Qt) : Prop :=
 CP 52 [.str a0_0] H fun v_1 H_2 =>
 G ((v_1).isBool) (cond (!((v_1).toBool))
 (Q (.int .i64 12) H_2)
 (cond (ltI 256 (sizeI a0_1))
 (Q (.int .i64 5) H_2)
 (CP 61 [.int .i64 a0_2, .int .i64 2] H_2 fun v_3 H_4 =>
 G ((v_3).isBool) (cond (!((v_3).toBool))
 (Q (.int .i64 14) H_4)
 (CP 61 [.int .i64 a0_4, .int .i64 9] H_4 fun v_5 H_6 =>
 G ((v_5).isBool) (cond (!((v_5).toBool))
 (cond (!((v_5).toBool))
 (Q (.int .i64 1) H_6)
 (cond (!(eqS a0_6 (⟨#[]⟩ : ByteArray)))
 (CP 62 [.str a0_6] H_6 fun v_7 H_8 =>
 G ((v_7).isBool) (cond (!((v_7).toBool))
 (Q (.int .i64 11) H_8)
 (CP 61 [.int .i64 a0_7, .int .i64 1099511627776] H_8 fun v_9 H_10 =>
 G ((v_9).isBool) (cond (!((v_9).toBool))
 (Q (.int .i64 1) H_10)
 (CP 63 [.sl 0 2 a0_8] H_10 fun v_11 H_12 =>
 G ((v_11).isInt .i64) (Q (.int .i64 ((v_11).toInt)) H_12))))))
 (CP 61 [.int .i64 a0_7, .int .i64 1099511627776] H_6 fun v_13 H_14 =>
 G ((v_13).isBool) (cond (!((v_13).toBool))
 (Q (.int .i64 1) H_14)
 (CP 63 [.sl 0 2 a0_8] H_14 fun v_15 H_16 =>
 G ((v_15).isInt .i64) (Q (.int .i64 ((v_15).toInt)) H_16))))))
 (CP 61 [.int .i64 a0_5, .int .i64 1099511627776] H_6 fun v_17 H_18 =>
 G ((v_17).isBool) (cond (!((v_17).toBool))
 (Q (.int .i64 1) H_18)
 (cond (!(eqS a0_6 (⟨#[]⟩ : ByteArray)))
 (CP 62 [.str a0_6] H_18 fun v_19 H_20 =>
 G ((v_19).isBool) (cond (!((v_19).toBool))
 (Q (.int .i64 11) H_20)
 (CP 61 [.int .i64 a0_7, .int .i64 1099511627776] H_20 fun v_21 H_22 =>
 G ((v_21).isBool) (cond (!((v_21).toBool))
 (Q (.int .i64 1) H_22)
 (CP 63 [.sl 0 2 a0_8] H_22 fun v_23 H_24 =>
 G ((v_23).isInt .i64) (Q (.int .i64 ((v_23).toInt)) H_24))))))
 (CP 61 [.int .i64 a0_7, .int .i64 1099511627776] H_18 fun v_25 H_26 =>
 G ((v_25).isBool) (cond (!((v_25).toBool))
 (Q (.int .i64 1) H_26)
 (CP 63 [.sl 0 2 a0_8] H_26 fun v_27 H_28 =>
 G ((v_27).isInt .i64) (Q (.int .i64 ((v_27).toInt)) H_28)))))))))))))
theorem t_eq (a0_0 a0_1 : ByteArray) (a0_2 : Int) (a0_3 : Bool) (a0_4 a0_5 : Int) (a0_6 : ByteArray) (a0_7 : Int) (a0_8 : List (List AV)) (H : Heap) (Q : Qt) : aBody E0 C 49 [.agg [.str a0_0, .str a0_1, .int .i64 a0_2, .bool a0_3, .int .i64 a0_4, .int .i64 a0_5, .str a0_6, .int .i64 a0_7, .sl 0 2 a0_8]] H Q = t a0_0 a0_1 a0_2 a0_3 a0_4 a0_5 a0_6 a0_7 a0_8 H Q := by kernel_rfl
theorem call {a0_0 a0_1 : ByteArray} {a0_2 : Int} {a0_3 : Bool} {a0_4 a0_5 : Int} {a0_6 : ByteArray} {a0_7 : Int} {a0_8 : List (List AV)} {H : Heap} {Q : Qt} (h : t a0_0 a0_1 a0_2 a0_3 a0_4 a0_5 a0_6 a0_7 a0_8 H Q) : C 49 [.agg [.str a0_0, .str a0_1, .int .i64 a0_2, .bool a0_3, .int .i64 a0_4, .int .i64 a0_5, .str a0_6, .int .i64 a0_7, .sl 0 2 a0_8]] H Q := Call_told (E := E0) (t_eq a0_0 a0_1 a0_2 a0_3 a0_4 a0_5 a0_6 a0_7 a0_8 H Q) h
end F49
namespace F50
def JR7 (a0_0 a0_1 : ByteArray) (a0_2 : Int) (a0_3 : Bool) (a0_4 a0_5 : Int) (a0_6 : ByteArray) (a0_7 : Int) (a0_8 : List (List AV)) (Q : Qt) (x36 : Bool) (Hh : Heap) : Prop := AJoin (contK E0 C (E0.L 50) [.seq (codeAt (bodyOf E0 50) [1, 1, 1, 1, 0, 1]) 0, .seq (codeAt (bodyOf E0 50) [1, 1, 1, 1, 1]) 0] (finK E0 50 Q)) ⟨stt 57 [(1, .ptr 0 0), (36, .bool x36)], [.cells [.str a0_0, .str a0_1, .int .i64 a0_2, .bool a0_3, .int .i64 a0_4, .int .i64 a0_5, .str a0_6, .int .i64 a0_7, .sl 0 2 a0_8]], Hh⟩
def jR7 (a0_0 a0_1 : ByteArray) (a0_2 : Int) (a0_3 : Bool) (a0_4 a0_5 : Int) (a0_6 : ByteArray) (a0_7 : Int) (a0_8 : List (List AV)) (Q : Qt) (x36 : Bool) (Hh : Heap) : Prop :=
 cond x36
 (Q (.int .i64 1) Hh)
 (cond (!(eqS a0_6 (⟨#[]⟩ : ByteArray)))
 (CP 64 [.str a0_6] Hh fun v_3 H_4 =>
 G ((v_3).isBool) (cond (!((v_3).toBool))
 (Q (.int .i64 11) H_4)
 (cond (ltI a0_7 0)
 (Q (.int .i64 1) H_4)
 (cond (ltI 1099511627776 a0_7)
 (Q (.int .i64 1) H_4)
 (CP 65 [.sl 0 2 a0_8] H_4 fun v_5 H_6 =>
 G ((v_5).isInt .i64) (Q (.int .i64 ((v_5).toInt)) H_6))))))
 (cond (ltI a0_7 0)
 (Q (.int .i64 1) Hh)
 (cond (ltI 1099511627776 a0_7)
 (Q (.int .i64 1) Hh)
 (CP 65 [.sl 0 2 a0_8] Hh fun v_7 H_8 =>
 G ((v_7).isInt .i64) (Q (.int .i64 ((v_7).toInt)) H_8)))))
theorem JR7_eq (a0_0 a0_1 : ByteArray) (a0_2 : Int) (a0_3 : Bool) (a0_4 a0_5 : Int) (a0_6 : ByteArray) (a0_7 : Int) (a0_8 : List (List AV)) (Q : Qt) (x36 : Bool) (Hh : Heap) : contK E0 C (E0.L 50) [.seq (codeAt (bodyOf E0 50) [1, 1, 1, 1, 0, 1]) 0, .seq (codeAt (bodyOf E0 50) [1, 1, 1, 1, 1]) 0] (finK E0 50 Q) .normal ⟨stt 57 [(1, .ptr 0 0), (36, .bool x36)], [.cells [.str a0_0, .str a0_1, .int .i64 a0_2, .bool a0_3, .int .i64 a0_4, .int .i64 a0_5, .str a0_6, .int .i64 a0_7, .sl 0 2 a0_8]], Hh⟩ = jR7 a0_0 a0_1 a0_2 a0_3 a0_4 a0_5 a0_6 a0_7 a0_8 Q x36 Hh := by kernel_rfl
theorem JR7_step {a0_0 a0_1 : ByteArray} {a0_2 : Int} {a0_3 : Bool} {a0_4 a0_5 : Int} {a0_6 : ByteArray} {a0_7 : Int} {a0_8 : List (List AV)} {Q : Qt} {x36 : Bool} {Hh : Heap} (h : jR7 a0_0 a0_1 a0_2 a0_3 a0_4 a0_5 a0_6 a0_7 a0_8 Q x36 Hh) : JR7 a0_0 a0_1 a0_2 a0_3 a0_4 a0_5 a0_6 a0_7 a0_8 Q x36 Hh := AJoin_told (JR7_eq a0_0 a0_1 a0_2 a0_3 a0_4 a0_5 a0_6 a0_7 a0_8 Q x36 Hh) h
def t (a0_0 a0_1 : ByteArray) (a0_2 : Int) (a0_3 : Bool) (a0_4 a0_5 : Int) (a0_6 : ByteArray) (a0_7 : Int) (a0_8 : List (List AV)) (H : Heap) (Q : Qt) : Prop :=
 CP 40 [.str a0_0] H fun v_1 H_2 =>
 G ((v_1).isBool) (cond (!((v_1).toBool))
 (Q (.int .i64 12) H_2)
 (cond (ltI 256 (sizeI a0_1))
 (Q (.int .i64 5) H_2)
 (cond (ltI a0_2 0)
 (Q (.int .i64 14) H_2)
 (cond (ltI 2 a0_2)
 (Q (.int .i64 14) H_2)
 (cond (ltI a0_4 0)
 (JR7 a0_0 a0_1 a0_2 a0_3 a0_4 a0_5 a0_6 a0_7 a0_8 Q true H_2)
 (cond (ltI 9 a0_4)
 (JR7 a0_0 a0_1 a0_2 a0_3 a0_4 a0_5 a0_6 a0_7 a0_8 Q true H_2)
 (cond (ltI a0_5 0)
 (JR7 a0_0 a0_1 a0_2 a0_3 a0_4 a0_5 a0_6 a0_7 a0_8 Q true H_2)
 (JR7 a0_0 a0_1 a0_2 a0_3 a0_4 a0_5 a0_6 a0_7 a0_8 Q (ltI 1099511627776 a0_5) H_2))))))))
theorem t_eq (a0_0 a0_1 : ByteArray) (a0_2 : Int) (a0_3 : Bool) (a0_4 a0_5 : Int) (a0_6 : ByteArray) (a0_7 : Int) (a0_8 : List (List AV)) (H : Heap) (Q : Qt) : aBody E0 C 50 [.agg [.str a0_0, .str a0_1, .int .i64 a0_2, .bool a0_3, .int .i64 a0_4, .int .i64 a0_5, .str a0_6, .int .i64 a0_7, .sl 0 2 a0_8]] H Q = t a0_0 a0_1 a0_2 a0_3 a0_4 a0_5 a0_6 a0_7 a0_8 H Q := by kernel_rfl
theorem call {a0_0 a0_1 : ByteArray} {a0_2 : Int} {a0_3 : Bool} {a0_4 a0_5 : Int} {a0_6 : ByteArray} {a0_7 : Int} {a0_8 : List (List AV)} {H : Heap} {Q : Qt} (h : t a0_0 a0_1 a0_2 a0_3 a0_4 a0_5 a0_6 a0_7 a0_8 H Q) : C 50 [.agg [.str a0_0, .str a0_1, .int .i64 a0_2, .bool a0_3, .int .i64 a0_4, .int .i64 a0_5, .str a0_6, .int .i64 a0_7, .sl 0 2 a0_8]] H Q := Call_told (E := E0) (t_eq a0_0 a0_1 a0_2 a0_3 a0_4 a0_5 a0_6 a0_7 a0_8 H Q) h
end F50
namespace F51
def K0 (Q : Qt) : Ex → St → Prop := (contK E0 C (E0.L 51) [.block 0 0, .seq (codeAt (bodyOf E0 51) [1, 0, 1, 1, 1, 1, 1]) 2] (finK E0 51 Q))
def L0 (a0 : ByteArray) (Q : Qt) (x3levels x15 : List (List AV)) (x16 x17 : Int) (Hh : Heap) : Prop := ALoop (fun K s => awp E0 C (E0.L 51) (codeAt (bodyOf E0 51) [1, 0, 1, 1, 1, 1, 0, 1, 0, 0]) 1 s K) (clean [(3, 0), (4, 0), (15, 0), (16, 0), (17, 0)] 0) (K0 Q) ⟨stt 53 [(3, .sl 0 1 x3levels), (4, .bool true), (15, .sl 0 1 x15), (16, .int .i64 x16), (17, .int .i64 x17)], [], Hh⟩
def K1 (Q : Qt) : Ex → St → Prop := (contK E0 C (E0.L 51) [.block 2 1, .block 1 0, .seq (codeAt (bodyOf E0 51) [1, 0, 1, 1, 1, 1, 0, 1, 0, 0, 1, 1, 1]) 2, .loop (codeAt (bodyOf E0 51) [1, 0, 1, 1, 1, 1, 0, 1, 0, 0]) 1 [(3, 0), (4, 0), (15, 0), (16, 0), (17, 0)] 0, .block 0 0, .seq (codeAt (bodyOf E0 51) [1, 0, 1, 1, 1, 1, 1]) 2] (finK E0 51 Q))
def L1 (a0 : ByteArray) (Q : Qt) (x3levels : List (List AV)) (x5i : Int) (x6level : ByteArray) (x15 : List (List AV)) (x16 x17 : Int) (it0s : ByteArray) (it0 : Nat) (Hh : Heap) : Prop := ALoop (fun K s => awp E0 C (E0.L 51) (codeAt (bodyOf E0 51) [1, 0, 1, 1, 1, 1, 0, 1, 0, 0, 1, 1, 0, 0, 1, 1, 0, 0]) 2 s K) (clean [(3, 0), (4, 0), (5, 0), (6, 0), (15, 0), (16, 0), (17, 0), (23, 0)] 1) (K1 Q) ⟨stt 53 [(3, .sl 0 1 x3levels), (4, .bool true), (5, .int .i64 x5i), (6, .str x6level), (15, .sl 0 1 x15), (16, .int .i64 x16), (17, .int .i64 x17), (23, .ptr 0 0)], [.siter it0s it0], Hh⟩
def JR12 (a0 : ByteArray) (Q : Qt) (x3levels : List (List AV)) (x5i : Int) (x6level : ByteArray) (x15 : List (List AV)) (x16 x17 : Int) (x50 : Bool) (it0s : ByteArray) (it0 : Nat) (Hh : Heap) : Prop := AJoin (contK E0 C (E0.L 51) [.seq (codeAt (bodyOf E0 51) [1, 0, 1, 1, 1, 1, 0, 1, 0, 0, 1, 1, 0, 0, 1, 1, 0, 0, 1, 1, 0, 1, 1, 1]) 2, .block 3 1, .loop (codeAt (bodyOf E0 51) [1, 0, 1, 1, 1, 1, 0, 1, 0, 0, 1, 1, 0, 0, 1, 1, 0, 0]) 2 [(3, 0), (4, 0), (5, 0), (6, 0), (15, 0), (16, 0), (17, 0), (23, 0)] 1, .block 2 1, .block 1 0, .seq (codeAt (bodyOf E0 51) [1, 0, 1, 1, 1, 1, 0, 1, 0, 0, 1, 1, 1]) 2, .loop (codeAt (bodyOf E0 51) [1, 0, 1, 1, 1, 1, 0, 1, 0, 0]) 1 [(3, 0), (4, 0), (15, 0), (16, 0), (17, 0)] 0, .block 0 0, .seq (codeAt (bodyOf E0 51) [1, 0, 1, 1, 1, 1, 1]) 2] (finK E0 51 Q)) ⟨stt 53 [(3, .sl 0 1 x3levels), (4, .bool true), (5, .int .i64 x5i), (6, .str x6level), (15, .sl 0 1 x15), (16, .int .i64 x16), (17, .int .i64 x17), (23, .ptr 0 0), (50, .bool x50)], [.siter it0s it0], Hh⟩
def r0 (a0 : ByteArray) (Q : Qt) (x3levels x15 : List (List AV)) (x16 x17 : Int) (Hh : Heap) : Prop :=
 cond (ltI x17 x16)
 (G (leI 0 x17) (G (ltI x17 (lenI x15)) (G ((ce (ro x15 x17.toNat) 0).isStr) (L1 a0 Q x3levels x17 ((ce (ro x15 x17.toNat) 0).toStr) x15 x16 x17 ((ce (ro x15 x17.toNat) 0).toStr) 0 Hh))))
 (Q (.bool true) Hh)
theorem r0_eq (a0 : ByteArray) (Q : Qt) (x3levels x15 : List (List AV)) (x16 x17 : Int) (Hh : Heap) : (fun K s => awp E0 C (E0.L 51) (codeAt (bodyOf E0 51) [1, 0, 1, 1, 1, 1, 0, 1, 0, 0]) 1 s K) (ALoopK (fun K s => awp E0 C (E0.L 51) (codeAt (bodyOf E0 51) [1, 0, 1, 1, 1, 1, 0, 1, 0, 0]) 1 s K) (clean [(3, 0), (4, 0), (15, 0), (16, 0), (17, 0)] 0) (K0 Q)) ⟨stt 53 [(3, .sl 0 1 x3levels), (4, .bool true), (15, .sl 0 1 x15), (16, .int .i64 x16), (17, .int .i64 x17)], [], Hh⟩ = r0 a0 Q x3levels x15 x16 x17 Hh := by kernel_rfl
theorem L0_step {a0 : ByteArray} {Q : Qt} {x3levels x15 : List (List AV)} {x16 x17 : Int} {Hh : Heap} (h : r0 a0 Q x3levels x15 x16 x17 Hh) : L0 a0 Q x3levels x15 x16 x17 Hh := ALoop_told (r0_eq a0 Q x3levels x15 x16 x17 Hh) h
def r1 (a0 : ByteArray) (Q : Qt) (x3levels : List (List AV)) (x5i : Int) (x6level : ByteArray) (x15 : List (List AV)) (x16 x17 : Int) (it0s : ByteArray) (it0 : Nat) (Hh : Heap) : Prop :=
 cond (Nat.blt it0 it0s.size)
 (cond (eqI ((Utf8.decode it0s it0).1 : Int) 43)
 (cond (!(eqI (sizeI x6level) 1))
 (JR12 a0 Q x3levels x5i x6level x15 x16 x17 true it0s (it0 + (Utf8.decode it0s it0).2) Hh)
 (cond (eqI ((Utf8.decode it0s it0).1 : Int) 35)
 (cond (!(eqI (sizeI x6level) 1))
 (JR12 a0 Q x3levels x5i x6level x15 x16 x17 true it0s (it0 + (Utf8.decode it0s it0).2) Hh)
 (JR12 a0 Q x3levels x5i x6level x15 x16 x17 (ltI x5i (subW .i64 (lenI x3levels) 1)) it0s (it0 + (Utf8.decode it0s it0).2) Hh))
 (JR12 a0 Q x3levels x5i x6level x15 x16 x17 false it0s (it0 + (Utf8.decode it0s it0).2) Hh)))
 (cond (eqI ((Utf8.decode it0s it0).1 : Int) 35)
 (cond (!(eqI (sizeI x6level) 1))
 (JR12 a0 Q x3levels x5i x6level x15 x16 x17 true it0s (it0 + (Utf8.decode it0s it0).2) Hh)
 (JR12 a0 Q x3levels x5i x6level x15 x16 x17 (ltI x5i (subW .i64 (lenI x3levels) 1)) it0s (it0 + (Utf8.decode it0s it0).2) Hh))
 (JR12 a0 Q x3levels x5i x6level x15 x16 x17 false it0s (it0 + (Utf8.decode it0s it0).2) Hh)))
 (L0 a0 Q x3levels x15 x16 (addW .i64 x17 1) Hh)
theorem r1_eq (a0 : ByteArray) (Q : Qt) (x3levels : List (List AV)) (x5i : Int) (x6level : ByteArray) (x15 : List (List AV)) (x16 x17 : Int) (it0s : ByteArray) (it0 : Nat) (Hh : Heap) : (fun K s => awp E0 C (E0.L 51) (codeAt (bodyOf E0 51) [1, 0, 1, 1, 1, 1, 0, 1, 0, 0, 1, 1, 0, 0, 1, 1, 0, 0]) 2 s K) (ALoopK (fun K s => awp E0 C (E0.L 51) (codeAt (bodyOf E0 51) [1, 0, 1, 1, 1, 1, 0, 1, 0, 0, 1, 1, 0, 0, 1, 1, 0, 0]) 2 s K) (clean [(3, 0), (4, 0), (5, 0), (6, 0), (15, 0), (16, 0), (17, 0), (23, 0)] 1) (K1 Q)) ⟨stt 53 [(3, .sl 0 1 x3levels), (4, .bool true), (5, .int .i64 x5i), (6, .str x6level), (15, .sl 0 1 x15), (16, .int .i64 x16), (17, .int .i64 x17), (23, .ptr 0 0)], [.siter it0s it0], Hh⟩ = r1 a0 Q x3levels x5i x6level x15 x16 x17 it0s it0 Hh := by kernel_rfl
theorem L1_step {a0 : ByteArray} {Q : Qt} {x3levels : List (List AV)} {x5i : Int} {x6level : ByteArray} {x15 : List (List AV)} {x16 x17 : Int} {it0s : ByteArray} {it0 : Nat} {Hh : Heap} (h : r1 a0 Q x3levels x5i x6level x15 x16 x17 it0s it0 Hh) : L1 a0 Q x3levels x5i x6level x15 x16 x17 it0s it0 Hh := ALoop_told (r1_eq a0 Q x3levels x5i x6level x15 x16 x17 it0s it0 Hh) h
def jR12 (a0 : ByteArray) (Q : Qt) (x3levels : List (List AV)) (x5i : Int) (x6level : ByteArray) (x15 : List (List AV)) (x16 x17 : Int) (x50 : Bool) (it0s : ByteArray) (it0 : Nat) (Hh : Heap) : Prop :=
 cond x50
 (Q (.bool false) Hh)
 (L1 a0 Q x3levels x5i x6level x15 x16 x17 it0s it0 Hh)
theorem JR12_eq (a0 : ByteArray) (Q : Qt) (x3levels : List (List AV)) (x5i : Int) (x6level : ByteArray) (x15 : List (List AV)) (x16 x17 : Int) (x50 : Bool) (it0s : ByteArray) (it0 : Nat) (Hh : Heap) : contK E0 C (E0.L 51) [.seq (codeAt (bodyOf E0 51) [1, 0, 1, 1, 1, 1, 0, 1, 0, 0, 1, 1, 0, 0, 1, 1, 0, 0, 1, 1, 0, 1, 1, 1]) 2, .block 3 1, .loop (codeAt (bodyOf E0 51) [1, 0, 1, 1, 1, 1, 0, 1, 0, 0, 1, 1, 0, 0, 1, 1, 0, 0]) 2 [(3, 0), (4, 0), (5, 0), (6, 0), (15, 0), (16, 0), (17, 0), (23, 0)] 1, .block 2 1, .block 1 0, .seq (codeAt (bodyOf E0 51) [1, 0, 1, 1, 1, 1, 0, 1, 0, 0, 1, 1, 1]) 2, .loop (codeAt (bodyOf E0 51) [1, 0, 1, 1, 1, 1, 0, 1, 0, 0]) 1 [(3, 0), (4, 0), (15, 0), (16, 0), (17, 0)] 0, .block 0 0, .seq (codeAt (bodyOf E0 51) [1, 0, 1, 1, 1, 1, 1]) 2] (finK E0 51 Q) .normal ⟨stt 53 [(3, .sl 0 1 x3levels), (4, .bool true), (5, .int .i64 x5i), (6, .str x6level), (15, .sl 0 1 x15), (16, .int .i64 x16), (17, .int .i64 x17), (23, .ptr 0 0), (50, .bool x50)], [.siter it0s it0], Hh⟩ = jR12 a0 Q x3levels x5i x6level x15 x16 x17 x50 it0s it0 Hh := by kernel_rfl
theorem JR12_step {a0 : ByteArray} {Q : Qt} {x3levels : List (List AV)} {x5i : Int} {x6level : ByteArray} {x15 : List (List AV)} {x16 x17 : Int} {x50 : Bool} {it0s : ByteArray} {it0 : Nat} {Hh : Heap} (h : jR12 a0 Q x3levels x5i x6level x15 x16 x17 x50 it0s it0 Hh) : JR12 a0 Q x3levels x5i x6level x15 x16 x17 x50 it0s it0 Hh := AJoin_told (JR12_eq a0 Q x3levels x5i x6level x15 x16 x17 x50 it0s it0 Hh) h
def t (a0 : ByteArray) (H : Heap) (Q : Qt) : Prop :=
 CP 66 [.str a0] H fun v_1 H_2 =>
 G ((v_1).isBool) (cond (!((v_1).toBool))
 (Q (.bool false) H_2)
 (CP 54 [.str a0] H_2 fun v_3 H_4 =>
 G ((v_3).isSl 1) (L0 a0 Q ((v_3).slXs) ((v_3).slXs) (lenI ((v_3).slXs)) 0 H_4)))
theorem t_eq (a0 : ByteArray) (H : Heap) (Q : Qt) : aBody E0 C 51 [.str a0] H Q = t a0 H Q := by kernel_rfl
theorem call {a0 : ByteArray} {H : Heap} {Q : Qt} (h : t a0 H Q) : C 51 [.str a0] H Q := Call_told (E := E0) (t_eq a0 H Q) h
end F51
namespace F52
def K0 (Q : Qt) : Ex → St → Prop := (contK E0 C (E0.L 52) [.block 0 1, .seq (codeAt (bodyOf E0 52) [1, 1, 1]) 1] (finK E0 52 Q))
def L0 (a0 : ByteArray) (Q : Qt) (it0 : Nat) (Hh : Heap) : Prop := ALoop (fun K s => awp E0 C (E0.L 52) (codeAt (bodyOf E0 52) [1, 1, 0, 1, 0, 0]) 1 s K) (clean [(9, 0)] 1) (K0 Q) ⟨stt 19 [(9, .ptr 0 0)], [.siter a0 it0], Hh⟩
def r0 (a0 : ByteArray) (Q : Qt) (it0 : Nat) (Hh : Heap) : Prop :=
 cond (Nat.blt it0 a0.size)
 (cond (eqI ((Utf8.decode a0 it0).1 : Int) 43)
 (Q (.bool false) Hh)
 (cond (eqI ((Utf8.decode a0 it0).1 : Int) 35)
 (Q (.bool false) Hh)
 (L0 a0 Q (it0 + (Utf8.decode a0 it0).2) Hh)))
 (Q (.bool true) Hh)
theorem r0_eq (a0 : ByteArray) (Q : Qt) (it0 : Nat) (Hh : Heap) : (fun K s => awp E0 C (E0.L 52) (codeAt (bodyOf E0 52) [1, 1, 0, 1, 0, 0]) 1 s K) (ALoopK (fun K s => awp E0 C (E0.L 52) (codeAt (bodyOf E0 52) [1, 1, 0, 1, 0, 0]) 1 s K) (clean [(9, 0)] 1) (K0 Q)) ⟨stt 19 [(9, .ptr 0 0)], [.siter a0 it0], Hh⟩ = r0 a0 Q it0 Hh := by kernel_rfl
theorem L0_step {a0 : ByteArray} {Q : Qt} {it0 : Nat} {Hh : Heap} (h : r0 a0 Q it0 Hh) : L0 a0 Q it0 Hh := ALoop_told (r0_eq a0 Q it0 Hh) h
def t (a0 : ByteArray) (H : Heap) (Q : Qt) : Prop :=
 CP 66 [.str a0] H fun v_1 H_2 =>
 G ((v_1).isBool) (cond (!((v_1).toBool))
 (Q (.bool false) H_2)
 (L0 a0 Q 0 H_2))
theorem t_eq (a0 : ByteArray) (H : Heap) (Q : Qt) : aBody E0 C 52 [.str a0] H Q = t a0 H Q := by kernel_rfl
theorem call {a0 : ByteArray} {H : Heap} {Q : Qt} (h : t a0 H Q) : C 52 [.str a0] H Q := Call_told (E := E0) (t_eq a0 H Q) h
end F52
namespace F53
def t (a0 a1 : ByteArray) (H : Heap) (Q : Qt) : Prop :=
 CP 54 [.str a0] H fun v_1 H_2 =>
 G ((v_1).isSl 1) (G (ltI 0 (lenI ((v_1).slXs))) (G ((ce (ro ((v_1).slXs) 0) 0).isStr) (CP 67 [.str ((ce (ro ((v_1).slXs) 0) 0).toStr)] H_2 fun v_3 H_4 =>
 G ((v_3).isBool) (cond ((v_3).toBool)
 (CP 68 [.str a1] H_4 fun v_5 H_6 =>
 G ((v_5).isBool) (Q (.bool ((v_5).toBool)) H_6))
 (Q (.bool false) H_4)))))
theorem t_eq (a0 a1 : ByteArray) (H : Heap) (Q : Qt) : aBody E0 C 53 [.str a0, .str a1] H Q = t a0 a1 H Q := by kernel_rfl
theorem call {a0 a1 : ByteArray} {H : Heap} {Q : Qt} (h : t a0 a1 H Q) : C 53 [.str a0, .str a1] H Q := Call_told (E := E0) (t_eq a0 a1 H Q) h
end F53
namespace F54
def t (a0 : ByteArray) (H : Heap) (Q : Qt) : Prop :=
 CP 69 [.str a0, .str (⟨#[47]⟩ : ByteArray)] H fun v_1 H_2 =>
 G ((v_1).isSl 1) (Q (.sl 0 1 ((v_1).slXs)) H_2)
theorem t_eq (a0 : ByteArray) (H : Heap) (Q : Qt) : aBody E0 C 54 [.str a0] H Q = t a0 H Q := by kernel_rfl
theorem call {a0 : ByteArray} {H : Heap} {Q : Qt} (h : t a0 H Q) : C 54 [.str a0] H Q := Call_told (E := E0) (t_eq a0 H Q) h
end F54
namespace F55
def t (a0 : List (List AV)) (H : Heap) (Q : Qt) : Prop :=
 ∀ b_1 : Bool, (b_1 = true → a0 = []) → (cond b_1
 (Q (.nilsl) H)
 (G (room [] a0 32) (Q (.sl 1 2 a0) H)))
theorem t_eq (a0 : List (List AV)) (H : Heap) (Q : Qt) : aBody E0 C 55 [.sl 0 2 a0] H Q = t a0 H Q := by kernel_rfl
theorem call {a0 : List (List AV)} {H : Heap} {Q : Qt} (h : t a0 H Q) : C 55 [.sl 0 2 a0] H Q := Call_told (E := E0) (t_eq a0 H Q) h
end F55
namespace F59
def t (a0 : ByteArray) (H : Heap) (Q : Qt) : Prop :=
 cond (leI 1 (sizeI a0))
 (cond (leI (sizeI a0) 64)
 (CP 60 [.str a0, .int .u8 0] H fun v_1 H_2 =>
 G ((v_1).isBool) (cond (!((v_1).toBool))
 (CP 41 [.str a0] H_2 fun v_3 H_4 =>
 G ((v_3).isSl 1) (Q (.bool (leI (lenI ((v_3).slXs)) 8)) H_4))
 (Q (.bool false) H_2)))
 (Q (.bool false) H))
 (Q (.bool false) H)
theorem t_eq (a0 : ByteArray) (H : Heap) (Q : Qt) : aBody E0 C 59 [.str a0] H Q = t a0 H Q := by kernel_rfl
theorem call {a0 : ByteArray} {H : Heap} {Q : Qt} (h : t a0 H Q) : C 59 [.str a0] H Q := Call_told (E := E0) (t_eq a0 H Q) h
end F59
namespace F60
def K0 (Q : Qt) : Ex → St → Prop := (contK E0 C (E0.L 60) [.block 0 0, .seq (codeAt (bodyOf E0 60) [1, 1]) 1] (finK E0 60 Q))
def L0 (a0 : ByteArray) (a1 : Int) (Q : Qt) (x5i : Int) (Hh : Heap) : Prop := ALoop (fun K s => awp E0 C (E0.L 60) (codeAt (bodyOf E0 60) [1, 0, 1, 0, 0]) 1 s K) (clean [(0, 0), (1, 0), (5, 0)] 0) (K0 Q) ⟨stt 17 [(0, .str a0), (1, .int .u8 a1), (5, .int .i64 x5i)], [], Hh⟩
def r0 (a0 : ByteArray) (a1 : Int) (Q : Qt) (x5i : Int) (Hh : Heap) : Prop :=
 cond (ltI x5i (sizeI a0))
 (G (leI 0 x5i) (G (ltI x5i (sizeI a0)) (cond (eqI (bt a0 x5i) a1)
 (Q (.bool true) Hh)
 (L0 a0 a1 Q (addW .i64 x5i 1) Hh))))
 (Q (.bool false) Hh)
theorem r0_eq (a0 : ByteArray) (a1 : Int) (Q : Qt) (x5i : Int) (Hh : Heap) : (fun K s => awp E0 C (E0.L 60) (codeAt (bodyOf E0 60) [1, 0, 1, 0, 0]) 1 s K) (ALoopK (fun K s => awp E0 C (E0.L 60) (codeAt (bodyOf E0 60) [1, 0, 1, 0, 0]) 1 s K) (clean [(0, 0), (1, 0), (5, 0)] 0) (K0 Q)) ⟨stt 17 [(0, .str a0), (1, .int .u8 a1), (5, .int .i64 x5i)], [], Hh⟩ = r0 a0 a1 Q x5i Hh := by kernel_rfl
theorem L0_step {a0 : ByteArray} {a1 : Int} {Q : Qt} {x5i : Int} {Hh : Heap} (h : r0 a0 a1 Q x5i Hh) : L0 a0 a1 Q x5i Hh := ALoop_told (r0_eq a0 a1 Q x5i Hh) h
def t (a0 : ByteArray) (a1 : Int) (H : Heap) (Q : Qt) : Prop :=
 L0 a0 a1 Q 0 H
theorem t_eq (a0 : ByteArray) (a1 : Int) (H : Heap) (Q : Qt) : aBody E0 C 60 [.str a0, .int .u8 a1] H Q = t a0 a1 H Q := by kernel_rfl
theorem call {a0 : ByteArray} {a1 : Int} {H : Heap} {Q : Qt} (h : t a0 a1 H Q) : C 60 [.str a0, .int .u8 a1] H Q := Call_told (E := E0) (t_eq a0 a1 H Q) h
end F60
namespace F61
def t (a0 a1 : Int) (H : Heap) (Q : Qt) : Prop :=
 cond (leI 0 a0)
 (Q (.bool (leI a0 a1)) H)
 (Q (.bool false) H)
theorem t_eq (a0 a1 : Int) (H : Heap) (Q : Qt) : aBody E0 C 61 [.int .i64 a0, .int .i64 a1] H Q = t a0 a1 H Q := by kernel_rfl
theorem call {a0 a1 : Int} {H : Heap} {Q : Qt} (h : t a0 a1 H Q) : C 61 [.int .i64 a0, .int .i64 a1] H Q := Call_told (E := E0) (t_eq a0 a1 H Q) h
end F61
namespace F62
def K0 (Q : Qt) : Ex → St → Prop := (contK E0 C (E0.L 62) [.block 0 1, .seq (codeAt (bodyOf E0 62) [1, 1, 1]) 1] (finK E0 62 Q))
def L0 (a0 : ByteArray) (Q : Qt) (it0 : Nat) (Hh : Heap) : Prop := ALoop (fun K s => awp E0 C (E0.L 62) (codeAt (bodyOf E0 62) [1, 1, 0, 1, 0, 0]) 1 s K) (clean [(15, 0)] 1) (K0 Q) ⟨stt 44 [(15, .ptr 0 0)], [.siter a0 it0], Hh⟩
def r0 (a0 : ByteArray) (Q : Qt) (it0 : Nat) (Hh : Heap) : Prop :=
 cond (Nat.blt it0 a0.size)
 (cond (leI 97 ((Utf8.decode a0 it0).1 : Int))
 (cond (!(leI ((Utf8.decode a0 it0).1 : Int) 122))
 (cond (eqI (it0 : Int) 0)
 (Q (.bool false) Hh)
 (cond (!(eqI ((Utf8.decode a0 it0).1 : Int) 45))
 (cond (ltI ((Utf8.decode a0 it0).1 : Int) 48)
 (Q (.bool false) Hh)
 (cond (ltI 57 ((Utf8.decode a0 it0).1 : Int))
 (Q (.bool false) Hh)
 (L0 a0 Q (it0 + (Utf8.decode a0 it0).2) Hh)))
 (L0 a0 Q (it0 + (Utf8.decode a0 it0).2) Hh)))
 (L0 a0 Q (it0 + (Utf8.decode a0 it0).2) Hh))
 (cond (eqI (it0 : Int) 0)
 (Q (.bool false) Hh)
 (cond (!(eqI ((Utf8.decode a0 it0).1 : Int) 45))
 (cond (ltI ((Utf8.decode a0 it0).1 : Int) 48)
 (Q (.bool false) Hh)
 (cond (ltI 57 ((Utf8.decode a0 it0).1 : Int))
 (Q (.bool false) Hh)
 (L0 a0 Q (it0 + (Utf8.decode a0 it0).2) Hh)))
 (L0 a0 Q (it0 + (Utf8.decode a0 it0).2) Hh))))
 (Q (.bool true) Hh)
theorem r0_eq (a0 : ByteArray) (Q : Qt) (it0 : Nat) (Hh : Heap) : (fun K s => awp E0 C (E0.L 62) (codeAt (bodyOf E0 62) [1, 1, 0, 1, 0, 0]) 1 s K) (ALoopK (fun K s => awp E0 C (E0.L 62) (codeAt (bodyOf E0 62) [1, 1, 0, 1, 0, 0]) 1 s K) (clean [(15, 0)] 1) (K0 Q)) ⟨stt 44 [(15, .ptr 0 0)], [.siter a0 it0], Hh⟩ = r0 a0 Q it0 Hh := by kernel_rfl
theorem L0_step {a0 : ByteArray} {Q : Qt} {it0 : Nat} {Hh : Heap} (h : r0 a0 Q it0 Hh) : L0 a0 Q it0 Hh := ALoop_told (r0_eq a0 Q it0 Hh) h
def t (a0 : ByteArray) (H : Heap) (Q : Qt) : Prop :=
 cond (ltI (sizeI a0) 1)
 (Q (.bool false) H)
 (cond (ltI 16 (sizeI a0))
 (Q (.bool false) H)
 (L0 a0 Q 0 H))
theorem t_eq (a0 : ByteArray) (H : Heap) (Q : Qt) : aBody E0 C 62 [.str a0] H Q = t a0 H Q := by kernel_rfl
theorem call {a0 : ByteArray} {H : Heap} {Q : Qt} (h : t a0 H Q) : C 62 [.str a0] H Q := Call_told (E := E0) (t_eq a0 H Q) h
end F62
namespace F63
def K0 (Q : Qt) : Ex → St → Prop := (contK E0 C (E0.L 63) [.block 0 0, .seq (codeAt (bodyOf E0 63) [1, 1, 1]) 1] (finK E0 63 Q))
def L0 (a0 : List (List AV)) (Q : Qt) (x10 : Int) (Hh : Heap) : Prop := ALoop (fun K s => awp E0 C (E0.L 63) (codeAt (bodyOf E0 63) [1, 1, 0, 1, 0, 0]) 1 s K) (clean [(0, 0), (8, 0), (9, 0), (10, 0)] 0) (K0 Q) ⟨stt 40 [(0, .sl 0 2 a0), (8, .sl 0 2 a0), (9, .int .i64 (lenI a0)), (10, .int .i64 x10)], [], Hh⟩
def r0 (a0 : List (List AV)) (Q : Qt) (x10 : Int) (Hh : Heap) : Prop :=
 cond (ltI x10 (lenI a0))
 (G (leI 0 x10) (G (ltI x10 (lenI a0)) (G ((ce (ro a0 x10.toNat) 0).isStr) (G ((ce (ro a0 x10.toNat) 1).isStr) (CP 81 [.str ((ce (ro a0 x10.toNat) 0).toStr)] Hh fun v_1 H_2 =>
 G ((v_1).isBool) (cond (!((v_1).toBool))
 (Q (.int .i64 16) H_2)
 (cond (ltI 160 (sizeI ((ce (ro a0 x10.toNat) 1).toStr)))
 (Q (.int .i64 5) H_2)
 (cond (ltI 0 x10)
 (G (leI 0 (subW .i64 x10 1)) (G (ltI (subW .i64 x10 1) (lenI a0)) (G ((ce (ro a0 ((subW .i64 x10 1).toNat)) 0).isStr) (cond (!(ltS ((ce (ro a0 ((subW .i64 x10 1).toNat)) 0).toStr) ((ce (ro a0 x10.toNat) 0).toStr)))
 (Q (.int .i64 16) H_2)
 (L0 a0 Q (addW .i64 x10 1) H_2)))))
 (L0 a0 Q (addW .i64 x10 1) H_2)))))))))
 (Q (.int .i64 0) Hh)
theorem r0_eq (a0 : List (List AV)) (Q : Qt) (x10 : Int) (Hh : Heap) : (fun K s => awp E0 C (E0.L 63) (codeAt (bodyOf E0 63) [1, 1, 0, 1, 0, 0]) 1 s K) (ALoopK (fun K s => awp E0 C (E0.L 63) (codeAt (bodyOf E0 63) [1, 1, 0, 1, 0, 0]) 1 s K) (clean [(0, 0), (8, 0), (9, 0), (10, 0)] 0) (K0 Q)) ⟨stt 40 [(0, .sl 0 2 a0), (8, .sl 0 2 a0), (9, .int .i64 (lenI a0)), (10, .int .i64 x10)], [], Hh⟩ = r0 a0 Q x10 Hh := by kernel_rfl
theorem L0_step {a0 : List (List AV)} {Q : Qt} {x10 : Int} {Hh : Heap} (h : r0 a0 Q x10 Hh) : L0 a0 Q x10 Hh := ALoop_told (r0_eq a0 Q x10 Hh) h
def t (a0 : List (List AV)) (H : Heap) (Q : Qt) : Prop :=
 cond (ltI 8 (lenI a0))
 (Q (.int .i64 5) H)
 (L0 a0 Q 0 H)
theorem t_eq (a0 : List (List AV)) (H : Heap) (Q : Qt) : aBody E0 C 63 [.sl 0 2 a0] H Q = t a0 H Q := by kernel_rfl
theorem call {a0 : List (List AV)} {H : Heap} {Q : Qt} (h : t a0 H Q) : C 63 [.sl 0 2 a0] H Q := Call_told (E := E0) (t_eq a0 H Q) h
end F63
namespace F64
def JR1 (a0 : ByteArray) (Q : Qt) (x17 : Bool) (Hh : Heap) : Prop := AJoin (contK E0 C (E0.L 64) [.seq (codeAt (bodyOf E0 64) [1, 0, 1]) 0, .seq (codeAt (bodyOf E0 64) [1, 1]) 0] (finK E0 64 Q)) ⟨stt 42 [(0, .str a0), (17, .bool x17)], [], Hh⟩
def K0 (Q : Qt) : Ex → St → Prop := (contK E0 C (E0.L 64) [.block 0 0, .seq (codeAt (bodyOf E0 64) [1, 1, 1]) 1] (finK E0 64 Q))
def L0 (a0 : ByteArray) (Q : Qt) (x3i : Int) (Hh : Heap) : Prop := ALoop (fun K s => awp E0 C (E0.L 64) (codeAt (bodyOf E0 64) [1, 1, 0, 1, 0, 0]) 1 s K) (clean [(0, 0), (3, 0)] 0) (K0 Q) ⟨stt 42 [(0, .str a0), (3, .int .i64 x3i)], [], Hh⟩
def JR6 (a0 : ByteArray) (Q : Qt) (x3i : Int) (x41 : Bool) (Hh : Heap) : Prop := AJoin (contK E0 C (E0.L 64) [.seq (codeAt (bodyOf E0 64) [1, 1, 0, 1, 0, 0, 1, 0, 0, 1]) 1, .block 1 0, .seq (codeAt (bodyOf E0 64) [1, 1, 0, 1, 0, 0, 1, 1]) 1, .loop (codeAt (bodyOf E0 64) [1, 1, 0, 1, 0, 0]) 1 [(0, 0), (3, 0)] 0, .block 0 0, .seq (codeAt (bodyOf E0 64) [1, 1, 1]) 1] (finK E0 64 Q)) ⟨stt 42 [(0, .str a0), (3, .int .i64 x3i), (41, .bool x41)], [], Hh⟩
def jR1 (a0 : ByteArray) (Q : Qt) (x17 : Bool) (Hh : Heap) : Prop :=
 cond x17
 (Q (.bool false) Hh)
 (L0 a0 Q 0 Hh)
theorem JR1_eq (a0 : ByteArray) (Q : Qt) (x17 : Bool) (Hh : Heap) : contK E0 C (E0.L 64) [.seq (codeAt (bodyOf E0 64) [1, 0, 1]) 0, .seq (codeAt (bodyOf E0 64) [1, 1]) 0] (finK E0 64 Q) .normal ⟨stt 42 [(0, .str a0), (17, .bool x17)], [], Hh⟩ = jR1 a0 Q x17 Hh := by kernel_rfl
theorem JR1_step {a0 : ByteArray} {Q : Qt} {x17 : Bool} {Hh : Heap} (h : jR1 a0 Q x17 Hh) : JR1 a0 Q x17 Hh := AJoin_told (JR1_eq a0 Q x17 Hh) h
def r0 (a0 : ByteArray) (Q : Qt) (x3i : Int) (Hh : Heap) : Prop :=
 cond (ltI x3i (sizeI a0))
 (G (leI 0 x3i) (G (ltI x3i (sizeI a0)) (CP 82 [.int .u8 (bt a0 x3i)] Hh fun v_3 H_4 =>
 G ((v_3).isBool) (cond (!((v_3).toBool))
 (G (leI 0 x3i) (G (ltI x3i (sizeI a0)) (CP 83 [.int .u8 (bt a0 x3i)] H_4 fun v_5 H_6 =>
 G ((v_5).isBool) (cond (!((v_5).toBool))
 (G (leI 0 x3i) (G (ltI x3i (sizeI a0)) (JR6 a0 Q x3i (!(eqI (bt a0 x3i) 45)) H_6)))
 (JR6 a0 Q x3i false H_6)))))
 (JR6 a0 Q x3i false H_4)))))
 (Q (.bool true) Hh)
theorem r0_eq (a0 : ByteArray) (Q : Qt) (x3i : Int) (Hh : Heap) : (fun K s => awp E0 C (E0.L 64) (codeAt (bodyOf E0 64) [1, 1, 0, 1, 0, 0]) 1 s K) (ALoopK (fun K s => awp E0 C (E0.L 64) (codeAt (bodyOf E0 64) [1, 1, 0, 1, 0, 0]) 1 s K) (clean [(0, 0), (3, 0)] 0) (K0 Q)) ⟨stt 42 [(0, .str a0), (3, .int .i64 x3i)], [], Hh⟩ = r0 a0 Q x3i Hh := by kernel_rfl
theorem L0_step {a0 : ByteArray} {Q : Qt} {x3i : Int} {Hh : Heap} (h : r0 a0 Q x3i Hh) : L0 a0 Q x3i Hh := ALoop_told (r0_eq a0 Q x3i Hh) h
def jR6 (a0 : ByteArray) (Q : Qt) (x3i : Int) (x41 : Bool) (Hh : Heap) : Prop :=
 cond x41
 (Q (.bool false) Hh)
 (L0 a0 Q (addW .i64 x3i 1) Hh)
theorem JR6_eq (a0 : ByteArray) (Q : Qt) (x3i : Int) (x41 : Bool) (Hh : Heap) : contK E0 C (E0.L 64) [.seq (codeAt (bodyOf E0 64) [1, 1, 0, 1, 0, 0, 1, 0, 0, 1]) 1, .block 1 0, .seq (codeAt (bodyOf E0 64) [1, 1, 0, 1, 0, 0, 1, 1]) 1, .loop (codeAt (bodyOf E0 64) [1, 1, 0, 1, 0, 0]) 1 [(0, 0), (3, 0)] 0, .block 0 0, .seq (codeAt (bodyOf E0 64) [1, 1, 1]) 1] (finK E0 64 Q) .normal ⟨stt 42 [(0, .str a0), (3, .int .i64 x3i), (41, .bool x41)], [], Hh⟩ = jR6 a0 Q x3i x41 Hh := by kernel_rfl
theorem JR6_step {a0 : ByteArray} {Q : Qt} {x3i : Int} {x41 : Bool} {Hh : Heap} (h : jR6 a0 Q x3i x41 Hh) : JR6 a0 Q x3i x41 Hh := AJoin_told (JR6_eq a0 Q x3i x41 Hh) h
def t (a0 : ByteArray) (H : Heap) (Q : Qt) : Prop :=
 cond (ltI (sizeI a0) 1)
 (JR1 a0 Q true H)
 (cond (ltI 16 (sizeI a0))
 (JR1 a0 Q true H)
 (G (ltI 0 (sizeI a0)) (CP 82 [.int .u8 (bt a0 0)] H fun v_1 H_2 =>
 G ((v_1).isBool) (JR1 a0 Q (!((v_1).toBool)) H_2))))
theorem t_eq (a0 : ByteArray) (H : Heap) (Q : Qt) : aBody E0 C 64 [.str a0] H Q = t a0 H Q := by kernel_rfl
theorem call {a0 : ByteArray} {H : Heap} {Q : Qt} (h : t a0 H Q) : C 64 [.str a0] H Q := Call_told (E := E0) (t_eq a0 H Q) h
end F64
namespace F65
def K0 (Q : Qt) : Ex → St → Prop := (contK E0 C (E0.L 65) [.block 0 0, .seq (codeAt (bodyOf E0 65) [1, 1, 1]) 1] (finK E0 65 Q))
def L0 (a0 : List (List AV)) (Q : Qt) (x3i : Int) (Hh : Heap) : Prop := ALoop (fun K s => awp E0 C (E0.L 65) (codeAt (bodyOf E0 65) [1, 1, 0, 1, 0, 0]) 1 s K) (clean [(0, 0), (3, 0)] 0) (K0 Q) ⟨stt 43 [(0, .sl 0 2 a0), (3, .int .i64 x3i)], [], Hh⟩
def r0 (a0 : List (List AV)) (Q : Qt) (x3i : Int) (Hh : Heap) : Prop :=
 cond (ltI x3i (lenI a0))
 (G (leI 0 x3i) (G (ltI x3i (lenI a0)) (G ((ce (ro a0 x3i.toNat) 0).isStr) (CP 84 [.str ((ce (ro a0 x3i.toNat) 0).toStr)] Hh fun v_1 H_2 =>
 G ((v_1).isBool) (cond (!((v_1).toBool))
 (Q (.int .i64 16) H_2)
 (G (leI 0 x3i) (G (ltI x3i (lenI a0)) (G ((ce (ro a0 x3i.toNat) 1).isStr) (cond (ltI 160 (sizeI ((ce (ro a0 x3i.toNat) 1).toStr)))
 (Q (.int .i64 5) H_2)
 (cond (ltI 0 x3i)
 (G (leI 0 x3i) (G (ltI x3i (lenI a0)) (G ((ce (ro a0 x3i.toNat) 0).isStr) (G (leI 0 (subW .i64 x3i 1)) (G (ltI (subW .i64 x3i 1) (lenI a0)) (G ((ce (ro a0 ((subW .i64 x3i 1).toNat)) 0).isStr) (cond (!(ltS ((ce (ro a0 ((subW .i64 x3i 1).toNat)) 0).toStr) ((ce (ro a0 x3i.toNat) 0).toStr)))
 (Q (.int .i64 16) H_2)
 (L0 a0 Q (addW .i64 x3i 1) H_2))))))))
 (L0 a0 Q (addW .i64 x3i 1) H_2)))))))))))
 (Q (.int .i64 0) Hh)
theorem r0_eq (a0 : List (List AV)) (Q : Qt) (x3i : Int) (Hh : Heap) : (fun K s => awp E0 C (E0.L 65) (codeAt (bodyOf E0 65) [1, 1, 0, 1, 0, 0]) 1 s K) (ALoopK (fun K s => awp E0 C (E0.L 65) (codeAt (bodyOf E0 65) [1, 1, 0, 1, 0, 0]) 1 s K) (clean [(0, 0), (3, 0)] 0) (K0 Q)) ⟨stt 43 [(0, .sl 0 2 a0), (3, .int .i64 x3i)], [], Hh⟩ = r0 a0 Q x3i Hh := by kernel_rfl
theorem L0_step {a0 : List (List AV)} {Q : Qt} {x3i : Int} {Hh : Heap} (h : r0 a0 Q x3i Hh) : L0 a0 Q x3i Hh := ALoop_told (r0_eq a0 Q x3i Hh) h
def t (a0 : List (List AV)) (H : Heap) (Q : Qt) : Prop :=
 cond (ltI 8 (lenI a0))
 (Q (.int .i64 5) H)
 (L0 a0 Q 0 H)
theorem t_eq (a0 : List (List AV)) (H : Heap) (Q : Qt) : aBody E0 C 65 [.sl 0 2 a0] H Q = t a0 H Q := by kernel_rfl
theorem call {a0 : List (List AV)} {H : Heap} {Q : Qt} (h : t a0 H Q) : C 65 [.sl 0 2 a0] H Q := Call_told (E := E0) (t_eq a0 H Q) h
end F65
namespace F66
def K0 (Q : Qt) : Ex → St → Prop := (contK E0 C (E0.L 66) [.block 0 1, .seq (codeAt (bodyOf E0 66) [1, 1, 1, 1]) 1] (finK E0 66 Q))
def L0 (a0 : ByteArray) (Q : Qt) (x3levels : Int) (it0 : Nat) (Hh : Heap) : Prop := ALoop (fun K s => awp E0 C (E0.L 66) (codeAt (bodyOf E0 66) [1, 1, 1, 0, 1, 0, 0]) 1 s K) (clean [(3, 0), (15, 0)] 1) (K0 Q) ⟨stt 28 [(3, .int .i64 x3levels), (15, .ptr 0 0)], [.siter a0 it0], Hh⟩
def r0 (a0 : ByteArray) (Q : Qt) (x3levels : Int) (it0 : Nat) (Hh : Heap) : Prop :=
 cond (Nat.blt it0 a0.size)
 (cond (eqI ((Utf8.decode a0 it0).1 : Int) 0)
 (Q (.bool false) Hh)
 (cond (eqI ((Utf8.decode a0 it0).1 : Int) 47)
 (L0 a0 Q (addW .i64 x3levels 1) (it0 + (Utf8.decode a0 it0).2) Hh)
 (L0 a0 Q x3levels (it0 + (Utf8.decode a0 it0).2) Hh)))
 (Q (.bool (leI x3levels 8)) Hh)
theorem r0_eq (a0 : ByteArray) (Q : Qt) (x3levels : Int) (it0 : Nat) (Hh : Heap) : (fun K s => awp E0 C (E0.L 66) (codeAt (bodyOf E0 66) [1, 1, 1, 0, 1, 0, 0]) 1 s K) (ALoopK (fun K s => awp E0 C (E0.L 66) (codeAt (bodyOf E0 66) [1, 1, 1, 0, 1, 0, 0]) 1 s K) (clean [(3, 0), (15, 0)] 1) (K0 Q)) ⟨stt 28 [(3, .int .i64 x3levels), (15, .ptr 0 0)], [.siter a0 it0], Hh⟩ = r0 a0 Q x3levels it0 Hh := by kernel_rfl
theorem L0_step {a0 : ByteArray} {Q : Qt} {x3levels : Int} {it0 : Nat} {Hh : Heap} (h : r0 a0 Q x3levels it0 Hh) : L0 a0 Q x3levels it0 Hh := ALoop_told (r0_eq a0 Q x3levels it0 Hh) h
def t (a0 : ByteArray) (H : Heap) (Q : Qt) : Prop :=
 cond (ltI (sizeI a0) 1)
 (Q (.bool false) H)
 (cond (ltI 64 (sizeI a0))
 (Q (.bool false) H)
 (L0 a0 Q 1 0 H))
theorem t_eq (a0 : ByteArray) (H : Heap) (Q : Qt) : aBody E0 C 66 [.str a0] H Q = t a0 H Q := by kernel_rfl
theorem call {a0 : ByteArray} {H : Heap} {Q : Qt} (h : t a0 H Q) : C 66 [.str a0] H Q := Call_told (E := E0) (t_eq a0 H Q) h
end F66
namespace F67
def t (a0 : ByteArray) (H : Heap) (Q : Qt) : Prop :=
 cond (eqS a0 (⟨#[43]⟩ : ByteArray))
 (Q (.bool true) H)
 (Q (.bool (eqS a0 (⟨#[35]⟩ : ByteArray))) H)
theorem t_eq (a0 : ByteArray) (H : Heap) (Q : Qt) : aBody E0 C 67 [.str a0] H Q = t a0 H Q := by kernel_rfl
theorem call {a0 : ByteArray} {H : Heap} {Q : Qt} (h : t a0 H Q) : C 67 [.str a0] H Q := Call_told (E := E0) (t_eq a0 H Q) h
end F67
namespace F68
def t (a0 : ByteArray) (H : Heap) (Q : Qt) : Prop :=
 cond (ltI 0 (sizeI a0))
 (G (ltI 0 (sizeI a0)) (Q (.bool (eqI (bt a0 0) 36)) H))
 (Q (.bool false) H)
theorem t_eq (a0 : ByteArray) (H : Heap) (Q : Qt) : aBody E0 C 68 [.str a0] H Q = t a0 H Q := by kernel_rfl
theorem call {a0 : ByteArray} {H : Heap} {Q : Qt} (h : t a0 H Q) : C 68 [.str a0] H Q := Call_told (E := E0) (t_eq a0 H Q) h
end F68
namespace F69
def t (a0 a1 : ByteArray) (H : Heap) (Q : Qt) : Prop :=
 CP 85 [.str a0, .str a1, .int .i64 0, .int .i64 (-1)] H fun v_1 H_2 =>
 G ((v_1).isSl 1) (Q (.sl 0 1 ((v_1).slXs)) H_2)
theorem t_eq (a0 a1 : ByteArray) (H : Heap) (Q : Qt) : aBody E0 C 69 [.str a0, .str a1] H Q = t a0 a1 H Q := by kernel_rfl
theorem call {a0 a1 : ByteArray} {H : Heap} {Q : Qt} (h : t a0 a1 H Q) : C 69 [.str a0, .str a1] H Q := Call_told (E := E0) (t_eq a0 a1 H Q) h
end F69
namespace F81
def K0 (Q : Qt) : Ex → St → Prop := (contK E0 C (E0.L 81) [.block 0 0, .seq (codeAt (bodyOf E0 81) [1, 1, 1]) 1] (finK E0 81 Q))
def L0 (a0 : ByteArray) (Q : Qt) (x3i : Int) (Hh : Heap) : Prop := ALoop (fun K s => awp E0 C (E0.L 81) (codeAt (bodyOf E0 81) [1, 1, 0, 1, 0, 0]) 1 s K) (clean [(0, 0), (3, 0)] 0) (K0 Q) ⟨stt 40 [(0, .str a0), (3, .int .i64 x3i)], [], Hh⟩
def JR7 (a0 : ByteArray) (Q : Qt) (x3i : Int) (x39 : Bool) (Hh : Heap) : Prop := AJoin (contK E0 C (E0.L 81) [.seq (codeAt (bodyOf E0 81) [1, 1, 0, 1, 0, 0, 1, 0, 0, 1, 1]) 1, .block 1 0, .seq (codeAt (bodyOf E0 81) [1, 1, 0, 1, 0, 0, 1, 1]) 1, .loop (codeAt (bodyOf E0 81) [1, 1, 0, 1, 0, 0]) 1 [(0, 0), (3, 0)] 0, .block 0 0, .seq (codeAt (bodyOf E0 81) [1, 1, 1]) 1] (finK E0 81 Q)) ⟨stt 40 [(0, .str a0), (3, .int .i64 x3i), (39, .bool x39)], [], Hh⟩
def r0 (a0 : ByteArray) (Q : Qt) (x3i : Int) (Hh : Heap) : Prop :=
 cond (ltI x3i (sizeI a0))
 (G (leI 0 x3i) (G (ltI x3i (sizeI a0)) (cond (ltI (bt a0 x3i) 97)
 (cond (ltI (bt a0 x3i) 48)
 (JR7 a0 Q x3i (!(eqI (bt a0 x3i) 45)) Hh)
 (cond (ltI 57 (bt a0 x3i))
 (JR7 a0 Q x3i (!(eqI (bt a0 x3i) 45)) Hh)
 (JR7 a0 Q x3i false Hh)))
 (cond (ltI 122 (bt a0 x3i))
 (cond (ltI (bt a0 x3i) 48)
 (JR7 a0 Q x3i (!(eqI (bt a0 x3i) 45)) Hh)
 (cond (ltI 57 (bt a0 x3i))
 (JR7 a0 Q x3i (!(eqI (bt a0 x3i) 45)) Hh)
 (JR7 a0 Q x3i false Hh)))
 (JR7 a0 Q x3i false Hh)))))
 (Q (.bool true) Hh)
theorem r0_eq (a0 : ByteArray) (Q : Qt) (x3i : Int) (Hh : Heap) : (fun K s => awp E0 C (E0.L 81) (codeAt (bodyOf E0 81) [1, 1, 0, 1, 0, 0]) 1 s K) (ALoopK (fun K s => awp E0 C (E0.L 81) (codeAt (bodyOf E0 81) [1, 1, 0, 1, 0, 0]) 1 s K) (clean [(0, 0), (3, 0)] 0) (K0 Q)) ⟨stt 40 [(0, .str a0), (3, .int .i64 x3i)], [], Hh⟩ = r0 a0 Q x3i Hh := by kernel_rfl
theorem L0_step {a0 : ByteArray} {Q : Qt} {x3i : Int} {Hh : Heap} (h : r0 a0 Q x3i Hh) : L0 a0 Q x3i Hh := ALoop_told (r0_eq a0 Q x3i Hh) h
def jR7 (a0 : ByteArray) (Q : Qt) (x3i : Int) (x39 : Bool) (Hh : Heap) : Prop :=
 cond x39
 (Q (.bool false) Hh)
 (L0 a0 Q (addW .i64 x3i 1) Hh)
theorem JR7_eq (a0 : ByteArray) (Q : Qt) (x3i : Int) (x39 : Bool) (Hh : Heap) : contK E0 C (E0.L 81) [.seq (codeAt (bodyOf E0 81) [1, 1, 0, 1, 0, 0, 1, 0, 0, 1, 1]) 1, .block 1 0, .seq (codeAt (bodyOf E0 81) [1, 1, 0, 1, 0, 0, 1, 1]) 1, .loop (codeAt (bodyOf E0 81) [1, 1, 0, 1, 0, 0]) 1 [(0, 0), (3, 0)] 0, .block 0 0, .seq (codeAt (bodyOf E0 81) [1, 1, 1]) 1] (finK E0 81 Q) .normal ⟨stt 40 [(0, .str a0), (3, .int .i64 x3i), (39, .bool x39)], [], Hh⟩ = jR7 a0 Q x3i x39 Hh := by kernel_rfl
theorem JR7_step {a0 : ByteArray} {Q : Qt} {x3i : Int} {x39 : Bool} {Hh : Heap} (h : jR7 a0 Q x3i x39 Hh) : JR7 a0 Q x3i x39 Hh := AJoin_told (JR7_eq a0 Q x3i x39 Hh) h
def t (a0 : ByteArray) (H : Heap) (Q : Qt) : Prop :=
 cond (ltI (sizeI a0) 1)
 (Q (.bool false) H)
 (cond (ltI 16 (sizeI a0))
 (Q (.bool false) H)
 (L0 a0 Q 0 H))
theorem t_eq (a0 : ByteArray) (H : Heap) (Q : Qt) : aBody E0 C 81 [.str a0] H Q = t a0 H Q := by kernel_rfl
theorem call {a0 : ByteArray} {H : Heap} {Q : Qt} (h : t a0 H Q) : C 81 [.str a0] H Q := Call_told (E := E0) (t_eq a0 H Q) h
end F81
namespace F82
def t (a0 : Int) (H : Heap) (Q : Qt) : Prop :=
 cond (leI 97 a0)
 (Q (.bool (leI a0 122)) H)
 (Q (.bool false) H)
theorem t_eq (a0 : Int) (H : Heap) (Q : Qt) : aBody E0 C 82 [.int .u8 a0] H Q = t a0 H Q := by kernel_rfl
theorem call {a0 : Int} {H : Heap} {Q : Qt} (h : t a0 H Q) : C 82 [.int .u8 a0] H Q := Call_told (E := E0) (t_eq a0 H Q) h
end F82
namespace F83
def t (a0 : Int) (H : Heap) (Q : Qt) : Prop :=
 cond (leI 48 a0)
 (Q (.bool (leI a0 57)) H)
 (Q (.bool false) H)
theorem t_eq (a0 : Int) (H : Heap) (Q : Qt) : aBody E0 C 83 [.int .u8 a0] H Q = t a0 H Q := by kernel_rfl
theorem call {a0 : Int} {H : Heap} {Q : Qt} (h : t a0 H Q) : C 83 [.int .u8 a0] H Q := Call_told (E := E0) (t_eq a0 H Q) h
end F83
namespace F84
def K0 (Q : Qt) : Ex → St → Prop := (contK E0 C (E0.L 84) [.block 0 0, .seq (codeAt (bodyOf E0 84) [1, 1, 1]) 1] (finK E0 84 Q))
def L0 (a0 : ByteArray) (Q : Qt) (x3i : Int) (Hh : Heap) : Prop := ALoop (fun K s => awp E0 C (E0.L 84) (codeAt (bodyOf E0 84) [1, 1, 0, 1, 0, 0]) 1 s K) (clean [(0, 0), (3, 0)] 0) (K0 Q) ⟨stt 42 [(0, .str a0), (3, .int .i64 x3i)], [], Hh⟩
def JR7 (a0 : ByteArray) (Q : Qt) (x3i : Int) (x41 : Bool) (Hh : Heap) : Prop := AJoin (contK E0 C (E0.L 84) [.seq (codeAt (bodyOf E0 84) [1, 1, 0, 1, 0, 0, 1, 0, 0, 1, 1]) 1, .block 1 0, .seq (codeAt (bodyOf E0 84) [1, 1, 0, 1, 0, 0, 1, 1]) 1, .loop (codeAt (bodyOf E0 84) [1, 1, 0, 1, 0, 0]) 1 [(0, 0), (3, 0)] 0, .block 0 0, .seq (codeAt (bodyOf E0 84) [1, 1, 1]) 1] (finK E0 84 Q)) ⟨stt 42 [(0, .str a0), (3, .int .i64 x3i), (41, .bool x41)], [], Hh⟩
def r0 (a0 : ByteArray) (Q : Qt) (x3i : Int) (Hh : Heap) : Prop :=
 cond (ltI x3i (sizeI a0))
 (G (leI 0 x3i) (G (ltI x3i (sizeI a0)) (cond (leI 97 (bt a0 x3i))
 (cond (!(leI (bt a0 x3i) 122))
 (cond (leI 48 (bt a0 x3i))
 (cond (!(leI (bt a0 x3i) 57))
 (JR7 a0 Q x3i (!(eqI (bt a0 x3i) 45)) Hh)
 (JR7 a0 Q x3i false Hh))
 (JR7 a0 Q x3i (!(eqI (bt a0 x3i) 45)) Hh))
 (JR7 a0 Q x3i false Hh))
 (cond (leI 48 (bt a0 x3i))
 (cond (!(leI (bt a0 x3i) 57))
 (JR7 a0 Q x3i (!(eqI (bt a0 x3i) 45)) Hh)
 (JR7 a0 Q x3i false Hh))
 (JR7 a0 Q x3i (!(eqI (bt a0 x3i) 45)) Hh)))))
 (Q (.bool true) Hh)
theorem r0_eq (a0 : ByteArray) (Q : Qt) (x3i : Int) (Hh : Heap) : (fun K s => awp E0 C (E0.L 84) (codeAt (bodyOf E0 84) [1, 1, 0, 1, 0, 0]) 1 s K) (ALoopK (fun K s => awp E0 C (E0.L 84) (codeAt (bodyOf E0 84) [1, 1, 0, 1, 0, 0]) 1 s K) (clean [(0, 0), (3, 0)] 0) (K0 Q)) ⟨stt 42 [(0, .str a0), (3, .int .i64 x3i)], [], Hh⟩ = r0 a0 Q x3i Hh := by kernel_rfl
theorem L0_step {a0 : ByteArray} {Q : Qt} {x3i : Int} {Hh : Heap} (h : r0 a0 Q x3i Hh) : L0 a0 Q x3i Hh := ALoop_told (r0_eq a0 Q x3i Hh) h
def jR7 (a0 : ByteArray) (Q : Qt) (x3i : Int) (x41 : Bool) (Hh : Heap) : Prop :=
 cond x41
 (Q (.bool false) Hh)
 (L0 a0 Q (addW .i64 x3i 1) Hh)
theorem JR7_eq (a0 : ByteArray) (Q : Qt) (x3i : Int) (x41 : Bool) (Hh : Heap) : contK E0 C (E0.L 84) [.seq (codeAt (bodyOf E0 84) [1, 1, 0, 1, 0, 0, 1, 0, 0, 1, 1]) 1, .block 1 0, .seq (codeAt (bodyOf E0 84) [1, 1, 0, 1, 0, 0, 1, 1]) 1, .loop (codeAt (bodyOf E0 84) [1, 1, 0, 1, 0, 0]) 1 [(0, 0), (3, 0)] 0, .block 0 0, .seq (codeAt (bodyOf E0 84) [1, 1, 1]) 1] (finK E0 84 Q) .normal ⟨stt 42 [(0, .str a0), (3, .int .i64 x3i), (41, .bool x41)], [], Hh⟩ = jR7 a0 Q x3i x41 Hh := by kernel_rfl
theorem JR7_step {a0 : ByteArray} {Q : Qt} {x3i : Int} {x41 : Bool} {Hh : Heap} (h : jR7 a0 Q x3i x41 Hh) : JR7 a0 Q x3i x41 Hh := AJoin_told (JR7_eq a0 Q x3i x41 Hh) h
def t (a0 : ByteArray) (H : Heap) (Q : Qt) : Prop :=
 cond (ltI (sizeI a0) 1)
 (Q (.bool false) H)
 (cond (ltI 16 (sizeI a0))
 (Q (.bool false) H)
 (L0 a0 Q 0 H))
theorem t_eq (a0 : ByteArray) (H : Heap) (Q : Qt) : aBody E0 C 84 [.str a0] H Q = t a0 H Q := by kernel_rfl
theorem call {a0 : ByteArray} {H : Heap} {Q : Qt} (h : t a0 H Q) : C 84 [.str a0] H Q := Call_told (E := E0) (t_eq a0 H Q) h
end F84
namespace F85
def K0 (Q : Qt) : Ex → St → Prop := (contK E0 C (E0.L 85) [.block 0 0, .seq (codeAt (bodyOf E0 85) [1, 1, 1, 1, 1, 1, 1, 1, 1]) 1] (finK E0 85 Q))
def L0 (a0 a1 : ByteArray) (a2 a3 : Int) (Q : Qt) (x0s : ByteArray) (x3n : Int) (x9a : List (List AV)) (x10i : Int) (Hh : Heap) : Prop := ALoop (fun K s => awp E0 C (E0.L 85) (codeAt (bodyOf E0 85) [1, 1, 1, 1, 1, 1, 1, 1, 0, 0, 0]) 1 s K) (clean [(0, 0), (1, 0), (2, 0), (3, 0), (9, 0), (10, 0)] 0) (K0 Q) ⟨stt 66 [(0, .str x0s), (1, .str a1), (2, .int .i64 a2), (3, .int .i64 x3n), (9, .sl 1 1 x9a), (10, .int .i64 x10i)], [], Hh⟩
def r0 (a0 a1 : ByteArray) (a2 a3 : Int) (Q : Qt) (x0s : ByteArray) (x3n : Int) (x9a : List (List AV)) (x10i : Int) (Hh : Heap) : Prop :=
 cond (ltI x10i x3n)
 (CP 93 [.str x0s, .str a1] Hh fun v_5 H_6 =>
 G ((v_5).isInt .i64) (cond (ltI ((v_5).toInt) 0)
 (G (leI 0 x10i) (G (ltI x10i (lenI x9a)) (G (leI 0 (addW .i64 x10i 1)) (G (leI (addW .i64 x10i 1) (addW .i64 x10i 1)) (G (leI (addW .i64 x10i 1) (lenI (x9a.set x10i.toNat ((ro x9a x10i.toNat).set 0 (.str x0s))))) (Q (.sl 0 1 (((x9a.set x10i.toNat ((ro x9a x10i.toNat).set 0 (.str x0s))).take ((addW .i64 x10i 1).toNat)).drop 0)) H_6))))))
 (G (leI 0 (addW .i64 ((v_5).toInt) a2)) (G (leI (addW .i64 ((v_5).toInt) a2) (sizeI x0s)) (G (leI 0 x10i) (G (ltI x10i (lenI x9a)) (G (leI 0 (addW .i64 ((v_5).toInt) (sizeI a1))) (G (leI (addW .i64 ((v_5).toInt) (sizeI a1)) (sizeI x0s)) (G (leI (sizeI x0s) (sizeI x0s)) (L0 a0 a1 a2 a3 Q (x0s.extract ((addW .i64 ((v_5).toInt) (sizeI a1)).toNat) ((sizeI x0s).toNat)) x3n (x9a.set x10i.toNat ((ro x9a x10i.toNat).set 0 (.str (x0s.extract 0 ((addW .i64 ((v_5).toInt) a2).toNat))))) (addW .i64 x10i 1) H_6))))))))))
 (G (leI 0 x10i) (G (ltI x10i (lenI x9a)) (G (leI 0 (addW .i64 x10i 1)) (G (leI (addW .i64 x10i 1) (addW .i64 x10i 1)) (G (leI (addW .i64 x10i 1) (lenI (x9a.set x10i.toNat ((ro x9a x10i.toNat).set 0 (.str x0s))))) (Q (.sl 0 1 (((x9a.set x10i.toNat ((ro x9a x10i.toNat).set 0 (.str x0s))).take ((addW .i64 x10i 1).toNat)).drop 0)) Hh))))))
theorem r0_eq (a0 a1 : ByteArray) (a2 a3 : Int) (Q : Qt) (x0s : ByteArray) (x3n : Int) (x9a : List (List AV)) (x10i : Int) (Hh : Heap) : (fun K s => awp E0 C (E0.L 85) (codeAt (bodyOf E0 85) [1, 1, 1, 1, 1, 1, 1, 1, 0, 0, 0]) 1 s K) (ALoopK (fun K s => awp E0 C (E0.L 85) (codeAt (bodyOf E0 85) [1, 1, 1, 1, 1, 1, 1, 1, 0, 0, 0]) 1 s K) (clean [(0, 0), (1, 0), (2, 0), (3, 0), (9, 0), (10, 0)] 0) (K0 Q)) ⟨stt 66 [(0, .str x0s), (1, .str a1), (2, .int .i64 a2), (3, .int .i64 x3n), (9, .sl 1 1 x9a), (10, .int .i64 x10i)], [], Hh⟩ = r0 a0 a1 a2 a3 Q x0s x3n x9a x10i Hh := by kernel_rfl
theorem L0_step {a0 a1 : ByteArray} {a2 a3 : Int} {Q : Qt} {x0s : ByteArray} {x3n : Int} {x9a : List (List AV)} {x10i : Int} {Hh : Heap} (h : r0 a0 a1 a2 a3 Q x0s x3n x9a x10i Hh) : L0 a0 a1 a2 a3 Q x0s x3n x9a x10i Hh := ALoop_told (r0_eq a0 a1 a2 a3 Q x0s x3n x9a x10i Hh) h
def t (a0 a1 : ByteArray) (a2 a3 : Int) (H : Heap) (Q : Qt) : Prop :=
 cond (eqI a3 0)
 (Q (.nilsl) H)
 (cond (eqS a1 (⟨#[]⟩ : ByteArray))
 (CP 91 [.str a0, .int .i64 a3] H fun v_1 H_2 =>
 G ((v_1).isSl 1) (Q (.sl 0 1 ((v_1).slXs)) H_2))
 (cond (ltI a3 0)
 (CP 92 [.str a0, .str a1] H fun v_3 H_4 =>
 G ((v_3).isInt .i64) (G (leI 0 (cond (ltI (addW .i64 (sizeI a0) 1) (addW .i64 ((v_3).toInt) 1)) (addW .i64 (sizeI a0) 1) (addW .i64 ((v_3).toInt) 1))) (G (eqI (cond (ltI (addW .i64 (sizeI a0) 1) (addW .i64 ((v_3).toInt) 1)) (addW .i64 (sizeI a0) 1) (addW .i64 ((v_3).toInt) 1)) (cond (ltI (addW .i64 (sizeI a0) 1) (addW .i64 ((v_3).toInt) 1)) (addW .i64 (sizeI a0) 1) (addW .i64 ((v_3).toInt) 1))) (G (roomN (cond (ltI (addW .i64 (sizeI a0) 1) (addW .i64 ((v_3).toInt) 1)) (addW .i64 (sizeI a0) 1) (addW .i64 ((v_3).toInt) 1)) 16) (L0 a0 a1 a2 a3 Q a0 (subW .i64 (cond (ltI (addW .i64 (sizeI a0) 1) (addW .i64 ((v_3).toInt) 1)) (addW .i64 (sizeI a0) 1) (addW .i64 ((v_3).toInt) 1)) 1) (List.replicate ((cond (ltI (addW .i64 (sizeI a0) 1) (addW .i64 ((v_3).toInt) 1)) (addW .i64 (sizeI a0) 1) (addW .i64 ((v_3).toInt) 1)).toNat) ([.str (⟨#[]⟩ : ByteArray)] : List AV)) 0 H_4)))))
 (G (leI 0 (cond (ltI (addW .i64 (sizeI a0) 1) a3) (addW .i64 (sizeI a0) 1) a3)) (G (eqI (cond (ltI (addW .i64 (sizeI a0) 1) a3) (addW .i64 (sizeI a0) 1) a3) (cond (ltI (addW .i64 (sizeI a0) 1) a3) (addW .i64 (sizeI a0) 1) a3)) (G (roomN (cond (ltI (addW .i64 (sizeI a0) 1) a3) (addW .i64 (sizeI a0) 1) a3) 16) (L0 a0 a1 a2 a3 Q a0 (subW .i64 (cond (ltI (addW .i64 (sizeI a0) 1) a3) (addW .i64 (sizeI a0) 1) a3) 1) (List.replicate ((cond (ltI (addW .i64 (sizeI a0) 1) a3) (addW .i64 (sizeI a0) 1) a3).toNat) ([.str (⟨#[]⟩ : ByteArray)] : List AV)) 0 H))))))
theorem t_eq (a0 a1 : ByteArray) (a2 a3 : Int) (H : Heap) (Q : Qt) : aBody E0 C 85 [.str a0, .str a1, .int .i64 a2, .int .i64 a3] H Q = t a0 a1 a2 a3 H Q := by kernel_rfl
theorem call {a0 a1 : ByteArray} {a2 a3 : Int} {H : Heap} {Q : Qt} (h : t a0 a1 a2 a3 H Q) : C 85 [.str a0, .str a1, .int .i64 a2, .int .i64 a3] H Q := Call_told (E := E0) (t_eq a0 a1 a2 a3 H Q) h
end F85
namespace F93
def t (a0 a1 : ByteArray) (H : Heap) (Q : Qt) : Prop :=
 CP 98 [.str a0, .str a1] H fun v_1 H_2 =>
 G ((v_1).isInt .i64) (Q (.int .i64 ((v_1).toInt)) H_2)
theorem t_eq (a0 a1 : ByteArray) (H : Heap) (Q : Qt) : aBody E0 C 93 [.str a0, .str a1] H Q = t a0 a1 H Q := by kernel_rfl
theorem call {a0 a1 : ByteArray} {H : Heap} {Q : Qt} (h : t a0 a1 H Q) : C 93 [.str a0, .str a1] H Q := Call_told (E := E0) (t_eq a0 a1 H Q) h
end F93
end Go.Proofs.YtgmkkjmdflhbnaaDoor.Ab
end
section
namespace Go.Proofs.YtgmkkjmdflhbnaaDoor.Ab
open Go
theorem cnt_spec {s : ByteArray} {c : UInt8} {Q : AV → Heap → Prop} {H : Heap} (hQ : Q (.int .i64 (Lib.countByte (bs s) c : Nat)) H) : C 92 [.str s, .str ⟨#[c]⟩] H Q := by
  refine Call_intro (E := E0) ?_
  show ∃ Q' : AV → Heap → Prop, (∀ v H, Q' v H → Q v H) ∧ E0.leaf 92 [.str s, .str ⟨#[c]⟩] H Q'
  exact ⟨Q, fun _ _ h => h, .inr (.inl ⟨rfl, _, ⟨s, c, rfl, rfl⟩, ⟨rfl, rfl⟩, hQ⟩)⟩
theorem idx_spec {s : ByteArray} {c : UInt8} {Q : AV → Heap → Prop} {H : Heap} (hQ : Q (.int .i64 (Lib.indexByte (bs s) c)) H) : C 98 [.str s, .str ⟨#[c]⟩] H Q := by
  refine Call_intro (E := E0) ?_
  show ∃ Q' : AV → Heap → Prop, (∀ v H, Q' v H → Q v H) ∧ E0.leaf 98 [.str s, .str ⟨#[c]⟩] H Q'
  exact ⟨Q, fun _ _ h => h, .inr (.inr ⟨rfl, _, ⟨s, c, rfl, rfl⟩, ⟨rfl, rfl⟩, hQ⟩)⟩
theorem one_inj {c d : UInt8} (h : (⟨#[c]⟩ : ByteArray) = ⟨#[d]⟩) : c = d := by
  have := congrArg (fun b : ByteArray => b.data.toList) h
  simpa using this
namespace CntP
open Classical in
noncomputable def P : List AV → Option AV
  | [.str s, .str t] => if h : ∃ c : UInt8, t = ⟨#[c]⟩ then some (.int .i64 (Lib.countByte (bs s) (Classical.choose h) : Nat)) else none
  | _ => none
theorem of {s : ByteArray} {c : UInt8} : P [.str s, .str ⟨#[c]⟩] = some (.int .i64 (Lib.countByte (bs s) c : Nat)) := by
  have hx : ∃ d : UInt8, (⟨#[c]⟩ : ByteArray) = ⟨#[d]⟩ := ⟨c, rfl⟩
  unfold P
  simp only
  rw [dif_pos hx, ← one_inj (Classical.choose_spec hx)]
theorem ls {β : Type} {v : β} {args : List AV} {H : Heap} {k : AV → Option β} {K : AV → Heap → Prop} (h : ∀ w H, k w = some v → K w H) : (P args).bind k = some v → C 92 args H K := by
  unfold P
  split
  · split
    · rename_i hx
      have := Classical.choose_spec hx
      generalize Classical.choose hx = c at this ⊢
      subst this
      intro e
      exact cnt_spec (h _ H e)
    · exact nofun
  · exact nofun
end CntP
namespace IdxP
open Classical in
noncomputable def P : List AV → Option AV
  | [.str s, .str t] => if h : ∃ c : UInt8, t = ⟨#[c]⟩ then some (.int .i64 (Lib.indexByte (bs s) (Classical.choose h))) else none
  | _ => none
theorem of {s : ByteArray} {c : UInt8} : P [.str s, .str ⟨#[c]⟩] = some (.int .i64 (Lib.indexByte (bs s) c)) := by
  have hx : ∃ d : UInt8, (⟨#[c]⟩ : ByteArray) = ⟨#[d]⟩ := ⟨c, rfl⟩
  unfold P
  simp only
  rw [dif_pos hx, ← one_inj (Classical.choose_spec hx)]
theorem ls {β : Type} {v : β} {args : List AV} {H : Heap} {k : AV → Option β} {K : AV → Heap → Prop} (h : ∀ w H, k w = some v → K w H) : (P args).bind k = some v → C 98 args H K := by
  unfold P
  split
  · split
    · rename_i hx
      have := Classical.choose_spec hx
      generalize Classical.choose hx = c at this ⊢
      subst this
      intro e
      exact idx_spec (h _ H e)
    · exact nofun
  · exact nofun
end IdxP
namespace Dum91
def P (_ : List AV) : Option AV := none
theorem ls {β : Type} {v : β} {args : List AV} {H : Heap} {k : AV → Option β} {K : AV → Heap → Prop} (_ : ∀ w H, k w = some v → K w H) : (P args).bind k = some v → C 91 args H K := nofun
end Dum91
def strs (l : List (List UInt8)) : List (List AV) := l.map fun z => [.str ⟨z.toArray⟩]
theorem strs_len {l : List (List UInt8)} : (strs l).length = l.length := by simp [strs]
theorem strs_lenI {l : List (List UInt8)} : lenI (strs l) = (l.length : Int) := by simp [lenI, strs]
theorem strs_at {l pre post : List (List UInt8)} {x : List UInt8} (h : l = pre ++ x :: post) : ro (strs l) (pre.length : Int).toNat = [.str ⟨x.toArray⟩] := by subst h; simp [ro, strs]
theorem str_eq {a b : List UInt8} : eqS ⟨a.toArray⟩ ⟨b.toArray⟩ = decide (a = b) := by
  unfold eqS
  rw [decide_eq_decide]
  constructor
  · intro h
    have := congrArg (fun b : ByteArray => b.data.toList) h
    simpa using this
  · rintro rfl; rfl
def mtL : List (List UInt8) → List (List UInt8) → Bool
  | [], n => n.isEmpty
  | f :: fs, n => decide (f = [35]) || (match n with | [] => false | x :: xs => (decide (f = [43]) || decide (f = x)) && mtL fs xs)
theorem lev_spec {F N : List (List UInt8)} (hF : F.length ≤ 100000) (hN : N.length ≤ 100000) : ∀ (fs : List (List UInt8)) (pre preN ns : List (List UInt8)), F = pre ++ fs → N = preN ++ ns → ∀ {Q : AV → Heap → Prop} {H : Heap}, (∀ H, Q (.bool (mtL fs ns)) H) →
    C 44 [.sl 0 1 (strs F), .sl 0 1 (strs N), .int .i64 (pre.length : Int), .int .i64 (preN.length : Int)] H Q := by
  intro fs
  induction fs with
  | nil =>
    intro pre preN ns h1 h2 Q H hQ
    refine F44.call ?_
    unfold F44.t
    simp only [strs_lenI]
    have e1 : F.length = pre.length := by rw [h1]; simp
    have e2 : N.length = preN.length + ns.length := by rw [h2]; simp
    rw [cond_lt, if_neg (by omega), cond_eq, if_pos (by omega), cond_eq, if_pos (by omega)]
    have : eqI (preN.length : Int) (N.length : Int) = mtL [] ns := by
      unfold eqI mtL
      cases ns with
      | nil => simp at e2 ⊢; omega
      | cons x ns => simp at e2 ⊢; omega
    rw [this]
    exact hQ H
  | cons f fs ih =>
    intro pre preN ns h1 h2 Q H hQ
    refine F44.call ?_
    unfold F44.t
    have e1 : F.length = pre.length + (fs.length + 1) := by rw [h1]; simp
    have e2 : N.length = preN.length + ns.length := by rw [h2]; simp
    have i1 : ∀ p : Prop, G (leI 0 (pre.length : Int)) p = p := fun p => by rw [G_le]; simp
    have i2 : ∀ p : Prop, G (ltI (pre.length : Int) (F.length : Int)) p = p := fun p => by rw [G_lt]; simp; omega
    have i3 : ∀ p : Prop, G (leI 0 (preN.length : Int)) p = p := fun p => by rw [G_le]; simp
    simp only [strs_lenI, strs_at h1, ce_0, G_str, toStr_str, i1, i2, i3]
    have f35 : eqS ⟨f.toArray⟩ ⟨#[35]⟩ = decide (f = [35]) := str_eq (b := [35])
    have f43 : eqS ⟨f.toArray⟩ ⟨#[43]⟩ = decide (f = [43]) := str_eq (b := [43])
    simp only [f35, f43]
    rw [cond_lt, if_pos (by omega), cond_eq, if_neg (by omega)]
    cases h35 : decide (f = [35])
    · simp only [cond_false]
      cases ns with
      | nil =>
        have h0 : preN.length = N.length := by simp at e2; omega
        rw [cond_eq, if_pos (by omega), cond_eq, if_neg (by omega)]
        have := hQ H
        simp only [mtL, h35, Bool.false_or] at this
        exact this
      | cons x ns =>
        have hl : N.length = preN.length + (ns.length + 1) := by simpa using e2
        have i4 : ∀ p : Prop, G (ltI (preN.length : Int) (N.length : Int)) p = p := fun p => by rw [G_lt]; simp; omega
        have a1 : addW .i64 (pre.length : Int) 1 = ((pre ++ [f]).length : Int) := add1 (by omega)
        have a2 : addW .i64 (preN.length : Int) 1 = ((preN ++ [x]).length : Int) := add1 (by omega)
        have ih' := @ih (pre ++ [f]) (preN ++ [x]) ns (by rw [h1]; simp) (by rw [h2]; simp)
        rw [cond_eq, if_neg (by omega)]
        simp only [i4, strs_at h2, ce_0, G_str, toStr_str, str_eq]
        rw [a1, a2]
        have hm : mtL (f :: fs) (x :: ns) = ((decide (f = [43]) || decide (f = x)) && mtL fs ns) := by simp only [mtL, h35, Bool.false_or]
        rw [hm] at hQ
        have go : (∀ H, Q (.bool (mtL fs ns)) H) → CP 44 [.sl 0 1 (strs F), .sl 0 1 (strs N), .int .i64 ((pre ++ [f]).length : Int), .int .i64 ((preN ++ [x]).length : Int)] H fun v H' => G v.isBool (Q (.bool v.toBool) H') := fun hq =>
          impP (A := True) (fun _ => ih' (Q := fun v H' => G v.isBool (Q (.bool v.toBool) (H.past H'))) fun H' => hq _) trivial
        cases h43 : decide (f = [43]) <;> simp only [cond_true, cond_false]
        · cases hx : decide (f = x) <;> simp only [cond_true, cond_false]
          · rw [h43, hx] at hQ; exact hQ H
          · rw [h43, hx] at hQ; exact go (by simpa using hQ)
        · rw [h43] at hQ; exact go (by simpa using hQ)
    · simp only [cond_true]
      have := hQ H
      simp only [mtL, h35, Bool.true_or] at this
      exact this
namespace LevP
open Classical in
noncomputable def P : List AV → Option AV
  | [.sl 0 1 f, .sl 0 1 n, .int .i64 0, .int .i64 0] => if h : ∃ p : List (List UInt8) × List (List UInt8), (f = strs p.1 ∧ n = strs p.2) ∧ p.1.length ≤ 100000 ∧ p.2.length ≤ 100000 then some (.bool (mtL (Classical.choose h).1 (Classical.choose h).2)) else none
  | _ => none
theorem strs_inj {a b : List (List UInt8)} (h : strs a = strs b) : a = b := by
  unfold strs at h
  refine (List.map_inj_right (f := fun z : List UInt8 => [AV.str ⟨z.toArray⟩]) fun x y e => ?_).1 h
  simp only [List.cons.injEq, AV.str.injEq, and_true] at e
  have := congrArg (fun b : ByteArray => b.data.toList) e
  simpa using this
theorem of {F N : List (List UInt8)} (hF : F.length ≤ 100000) (hN : N.length ≤ 100000) : P [.sl 0 1 (strs F), .sl 0 1 (strs N), .int .i64 0, .int .i64 0] = some (.bool (mtL F N)) := by
  have hx : ∃ p : List (List UInt8) × List (List UInt8), (strs F = strs p.1 ∧ strs N = strs p.2) ∧ p.1.length ≤ 100000 ∧ p.2.length ≤ 100000 := ⟨(F, N), ⟨rfl, rfl⟩, hF, hN⟩
  unfold P
  simp only
  rw [dif_pos hx]
  obtain ⟨⟨h1, h2⟩, _⟩ := Classical.choose_spec hx
  rw [← strs_inj h1, ← strs_inj h2]
theorem ls {β : Type} {v : β} {args : List AV} {H : Heap} {k : AV → Option β} {K : AV → Heap → Prop} (h : ∀ w H, k w = some v → K w H) : (P args).bind k = some v → C 44 args H K := by
  unfold P
  split
  · split
    · rename_i hx
      obtain ⟨⟨h1, h2⟩, h3, h4⟩ := Classical.choose_spec hx
      generalize Classical.choose hx = p at h1 h2 h3 h4 ⊢
      subst h1 h2
      intro e
      exact lev_spec h3 h4 p.1 [] [] p.2 rfl rfl (fun H => h _ H e)
    · exact nofun
  · exact nofun
end LevP
end Go.Proofs.YtgmkkjmdflhbnaaDoor.Ab
end
