/- The table of types of this seat's program, as the frame reads it. Printed by wip/dev/types.py. -/
import Derived.Test.YtfnjdegejgocfaaDoorRc
set_option linter.unusedVariables false
namespace Go.Proofs.YtfnjdegejgocfaaDoor.Rf
open Go
/-- int64 -/
@[reducible] def y2 : Ty := .int .i64
def d2 : TD := ⟨.int .i64, 8, y2, [(.int .i64 0)]⟩
theorem k2 : TOk Tryd.prog 2 d2 := ⟨info_of Tryd.typeInfo2 rfl rfl rfl rfl, ⟨Tryd.underlying2, rfl⟩, rfl, rfl⟩
/-- int -/
@[reducible] def y3 : Ty := .int .i64
def d3 : TD := ⟨.int .i64, 8, y3, [(.int .i64 0)]⟩
theorem k3 : TOk Tryd.prog 3 d3 := ⟨info_of Tryd.typeInfo3 rfl rfl rfl rfl, ⟨Tryd.underlying3, rfl⟩, rfl, rfl⟩
/-- bool -/
@[reducible] def y4 : Ty := .bool
def d4 : TD := ⟨.bool, 1, y4, [(.bool false)]⟩
theorem k4 : TOk Tryd.prog 4 d4 := ⟨info_of Tryd.typeInfo4 rfl rfl rfl rfl, ⟨Tryd.underlying4, rfl⟩, rfl, rfl⟩
/-- uint8 -/
@[reducible] def y5 : Ty := .int .u8
def d5 : TD := ⟨.int .u8, 1, y5, [(.int .u8 0)]⟩
theorem k5 : TOk Tryd.prog 5 d5 := ⟨info_of Tryd.typeInfo5 rfl rfl rfl rfl, ⟨Tryd.underlying5, rfl⟩, rfl, rfl⟩
/-- abi.BoundsErrorCode -/
@[reducible] def y6 : Ty := .int .u8
def d6 : TD := ⟨.int .u8, 1, y6, [(.int .u8 0)]⟩
theorem k6 : TOk Tryd.prog 6 d6 := ⟨info_of Tryd.typeInfo6 rfl rfl rfl rfl, ⟨Tryd.underlying6, rfl⟩, rfl, rfl⟩
/-- struct { x int64; y int; signed bool; code abi.BoundsErrorCode } -/
@[reducible] def y7 : Ty := .st (.pair y2 (.pair y3 (.pair y4 (y6))))
def d7 : TD := ⟨.struct [(2, 0), (3, 1), (4, 2), (6, 3)], 24, y7, [(.int .i64 0), (.int .i64 0), (.bool false), (.int .u8 0)]⟩
theorem k7 : TOk Tryd.prog 7 d7 := ⟨info_of Tryd.typeInfo7 rfl rfl rfl rfl, ⟨_, Tryd.underlying7, rfl⟩, rfl, rfl⟩
/-- runtime.boundsError -/
@[reducible] def y8 : Ty := .st (.pair y2 (.pair y3 (.pair y4 (y6))))
def d8 : TD := ⟨.struct [(2, 0), (3, 1), (4, 2), (6, 3)], 24, y8, [(.int .i64 0), (.int .i64 0), (.bool false), (.int .u8 0)]⟩
theorem k8 : TOk Tryd.prog 8 d8 := ⟨info_of Tryd.typeInfo8 rfl rfl rfl rfl, ⟨_, Tryd.underlying8, rfl⟩, rfl, rfl⟩
/-- string -/
@[reducible] def y9 : Ty := .str
def d9 : TD := ⟨.str, 16, y9, [(.string ByteArray.empty)]⟩
theorem k9 : TOk Tryd.prog 9 d9 := ⟨info_of Tryd.typeInfo9 rfl rfl rfl rfl, ⟨Tryd.underlying9, rfl⟩, rfl, rfl⟩
/-- runtime.errorString -/
@[reducible] def y10 : Ty := .str
def d10 : TD := ⟨.str, 16, y10, [(.string ByteArray.empty)]⟩
theorem k10 : TOk Tryd.prog 10 d10 := ⟨info_of Tryd.typeInfo10 rfl rfl rfl rfl, ⟨Tryd.underlying10, rfl⟩, rfl, rfl⟩
/-- runtime.plainError -/
@[reducible] def y11 : Ty := .str
def d11 : TD := ⟨.str, 16, y11, [(.string ByteArray.empty)]⟩
theorem k11 : TOk Tryd.prog 11 d11 := ⟨info_of Tryd.typeInfo11 rfl rfl rfl rfl, ⟨Tryd.underlying11, rfl⟩, rfl, rfl⟩
/-- uintptr -/
@[reducible] def y12 : Ty := .int .u64
def d12 : TD := ⟨.int .u64, 8, y12, [(.int .u64 0)]⟩
theorem k12 : TOk Tryd.prog 12 d12 := ⟨info_of Tryd.typeInfo12 rfl rfl rfl rfl, ⟨Tryd.underlying12, rfl⟩, rfl, rfl⟩
/-- struct { msg string; addr uintptr } -/
@[reducible] def y13 : Ty := .st (.pair y9 (y12))
def d13 : TD := ⟨.struct [(9, 0), (12, 1)], 24, y13, [(.string ByteArray.empty), (.int .u64 0)]⟩
theorem k13 : TOk Tryd.prog 13 d13 := ⟨info_of Tryd.typeInfo13 rfl rfl rfl rfl, ⟨_, Tryd.underlying13, rfl⟩, rfl, rfl⟩
/-- runtime.errorAddressString -/
@[reducible] def y14 : Ty := .st (.pair y9 (y12))
def d14 : TD := ⟨.struct [(9, 0), (12, 1)], 24, y14, [(.string ByteArray.empty), (.int .u64 0)]⟩
theorem k14 : TOk Tryd.prog 14 d14 := ⟨info_of Tryd.typeInfo14 rfl rfl rfl rfl, ⟨_, Tryd.underlying14, rfl⟩, rfl, rfl⟩
/-- int32 -/
@[reducible] def y21 : Ty := .int .i32
def d21 : TD := ⟨.int .i32, 4, y21, [(.int .i32 0)]⟩
theorem k21 : TOk Tryd.prog 21 d21 := ⟨info_of Tryd.typeInfo21 rfl rfl rfl rfl, ⟨Tryd.underlying21, rfl⟩, rfl, rfl⟩
/-- []int -/
@[reducible] def y26 : Ty := .sl y3
def d26 : TD := ⟨.slice 3, 24, y26, [(.slice none 0 0)]⟩
theorem k26 : TOk Tryd.prog 26 d26 := ⟨info_of Tryd.typeInfo26 rfl rfl rfl rfl, Tryd.underlying26, rfl, rfl⟩
/-- [256]uint8 -/
@[reducible] def y36 : Ty := .arr 256 y5
def d36 : TD := ⟨.array 256 5, 256, y36, List.replicate 256 (.int .u8 0)⟩
theorem k36 : TOk Tryd.prog 36 d36 := ⟨info_of (z := .agg d36.zero.toArray) Tryd.typeInfo36 (by kernel_rfl) (by kernel_rfl) (by kernel_rfl) (by kernel_rfl), Tryd.underlying36, (by kernel_rfl), (by kernel_rfl)⟩
/-- []uint8 -/
@[reducible] def y53 : Ty := .sl y5
def d53 : TD := ⟨.slice 5, 24, y53, [(.slice none 0 0)]⟩
theorem k53 : TOk Tryd.prog 53 d53 := ⟨info_of Tryd.typeInfo53 rfl rfl rfl rfl, Tryd.underlying53, rfl, rfl⟩
/-- []string -/
@[reducible] def y57 : Ty := .sl y9
def d57 : TD := ⟨.slice 9, 24, y57, [(.slice none 0 0)]⟩
theorem k57 : TOk Tryd.prog 57 d57 := ⟨info_of Tryd.typeInfo57 rfl rfl rfl rfl, Tryd.underlying57, rfl, rfl⟩
/-- struct { Kind int; N int } -/
@[reducible] def y69 : Ty := .st (.pair y3 (y3))
def d69 : TD := ⟨.struct [(3, 0), (3, 1)], 16, y69, [(.int .i64 0), (.int .i64 0)]⟩
theorem k69 : TOk Tryd.prog 69 d69 := ⟨info_of Tryd.typeInfo69 rfl rfl rfl rfl, ⟨_, Tryd.underlying69, rfl⟩, rfl, rfl⟩
/-- resolve.Action -/
@[reducible] def y70 : Ty := .st (.pair y3 (y3))
def d70 : TD := ⟨.struct [(3, 0), (3, 1)], 16, y70, [(.int .i64 0), (.int .i64 0)]⟩
theorem k70 : TOk Tryd.prog 70 d70 := ⟨info_of Tryd.typeInfo70 rfl rfl rfl rfl, ⟨_, Tryd.underlying70, rfl⟩, rfl, rfl⟩
/-- bosketref27.Action -/
@[reducible] def y74 : Ty := .st (.pair y3 (y3))
def d74 : TD := ⟨.struct [(3, 0), (3, 1)], 16, y74, [(.int .i64 0), (.int .i64 0)]⟩
theorem k74 : TOk Tryd.prog 74 d74 := ⟨info_of Tryd.typeInfo74 rfl rfl rfl rfl, ⟨_, Tryd.underlying74, rfl⟩, rfl, rfl⟩
/-- uint64 -/
@[reducible] def y79 : Ty := .int .u64
def d79 : TD := ⟨.int .u64, 8, y79, [(.int .u64 0)]⟩
theorem k79 : TOk Tryd.prog 79 d79 := ⟨info_of Tryd.typeInfo79 rfl rfl rfl rfl, ⟨Tryd.underlying79, rfl⟩, rfl, rfl⟩
/-- api.Errno -/
@[reducible] def y85 : Ty := .int .i64
def d85 : TD := ⟨.int .i64, 8, y85, [(.int .i64 0)]⟩
theorem k85 : TOk Tryd.prog 85 d85 := ⟨info_of Tryd.typeInfo85 rfl rfl rfl rfl, ⟨Tryd.underlying85, rfl⟩, rfl, rfl⟩
/-- uint -/
@[reducible] def y101 : Ty := .int .u64
def d101 : TD := ⟨.int .u64, 8, y101, [(.int .u64 0)]⟩
theorem k101 : TOk Tryd.prog 101 d101 := ⟨info_of Tryd.typeInfo101 rfl rfl rfl rfl, ⟨Tryd.underlying101, rfl⟩, rfl, rfl⟩
/-- []bool -/
@[reducible] def y102 : Ty := .sl y4
def d102 : TD := ⟨.slice 4, 24, y102, [(.slice none 0 0)]⟩
theorem k102 : TOk Tryd.prog 102 d102 := ⟨info_of Tryd.typeInfo102 rfl rfl rfl rfl, Tryd.underlying102, rfl, rfl⟩
/-- uint32 -/
@[reducible] def y103 : Ty := .int .u32
def d103 : TD := ⟨.int .u32, 4, y103, [(.int .u32 0)]⟩
theorem k103 : TOk Tryd.prog 103 d103 := ⟨info_of Tryd.typeInfo103 rfl rfl rfl rfl, ⟨Tryd.underlying103, rfl⟩, rfl, rfl⟩
/-- struct { lo uint8; hi uint8 } -/
@[reducible] def y106 : Ty := .st (.pair y5 (y5))
def d106 : TD := ⟨.struct [(5, 0), (5, 1)], 2, y106, [(.int .u8 0), (.int .u8 0)]⟩
theorem k106 : TOk Tryd.prog 106 d106 := ⟨info_of Tryd.typeInfo106 rfl rfl rfl rfl, ⟨_, Tryd.underlying106, rfl⟩, rfl, rfl⟩
/-- utf8.acceptRange -/
@[reducible] def y107 : Ty := .st (.pair y5 (y5))
def d107 : TD := ⟨.struct [(5, 0), (5, 1)], 2, y107, [(.int .u8 0), (.int .u8 0)]⟩
theorem k107 : TOk Tryd.prog 107 d107 := ⟨info_of Tryd.typeInfo107 rfl rfl rfl rfl, ⟨_, Tryd.underlying107, rfl⟩, rfl, rfl⟩
/-- [16]utf8.acceptRange -/
@[reducible] def y108 : Ty := .arr 16 y107
def d108 : TD := ⟨.array 16 107, 32, y108, List.replicate 32 (.int .u8 0)⟩
theorem k108 : TOk Tryd.prog 108 d108 := ⟨info_of Tryd.typeInfo108 rfl rfl rfl rfl, Tryd.underlying108, rfl, rfl⟩
/-- abi.TFlag -/
@[reducible] def y115 : Ty := .int .u8
def d115 : TD := ⟨.int .u8, 1, y115, [(.int .u8 0)]⟩
theorem k115 : TOk Tryd.prog 115 d115 := ⟨info_of Tryd.typeInfo115 rfl rfl rfl rfl, ⟨Tryd.underlying115, rfl⟩, rfl, rfl⟩
/-- abi.Kind -/
@[reducible] def y116 : Ty := .int .u8
def d116 : TD := ⟨.int .u8, 1, y116, [(.int .u8 0)]⟩
theorem k116 : TOk Tryd.prog 116 d116 := ⟨info_of Tryd.typeInfo116 rfl rfl rfl rfl, ⟨Tryd.underlying116, rfl⟩, rfl, rfl⟩
/-- *uint8 -/
@[reducible] def y118 : Ty := .ptr y5
def d118 : TD := ⟨.pointer 5, 8, y118, [(.pointer none)]⟩
theorem k118 : TOk Tryd.prog 118 d118 := ⟨info_of Tryd.typeInfo118 rfl rfl rfl rfl, Tryd.underlying118, rfl, rfl⟩
/-- abi.NameOff -/
@[reducible] def y119 : Ty := .int .i32
def d119 : TD := ⟨.int .i32, 4, y119, [(.int .i32 0)]⟩
theorem k119 : TOk Tryd.prog 119 d119 := ⟨info_of Tryd.typeInfo119 rfl rfl rfl rfl, ⟨Tryd.underlying119, rfl⟩, rfl, rfl⟩
/-- abi.TypeOff -/
@[reducible] def y120 : Ty := .int .i32
def d120 : TD := ⟨.int .i32, 4, y120, [(.int .i32 0)]⟩
theorem k120 : TOk Tryd.prog 120 d120 := ⟨info_of Tryd.typeInfo120 rfl rfl rfl rfl, ⟨Tryd.underlying120, rfl⟩, rfl, rfl⟩
/-- [][]int -/
@[reducible] def y22 : Ty := .sl y26
def d22 : TD := ⟨.slice 26, 24, y22, [(.slice none 0 0)]⟩
theorem k22 : TOk Tryd.prog 22 d22 := ⟨info_of Tryd.typeInfo22 rfl rfl rfl rfl, Tryd.underlying22, rfl, rfl⟩
/-- struct { Class [256]uint8; Next [][]int; Mark []int } -/
@[reducible] def y37 : Ty := .st (.pair y36 (.pair y22 (y26)))
def d37 : TD := ⟨.struct [(36, 0), (22, 256), (26, 257)], 304, y37, List.replicate 256 (.int .u8 0) ++ [(.slice none 0 0), (.slice none 0 0)]⟩
theorem k37 : TOk Tryd.prog 37 d37 := ⟨info_of (z := .agg d37.zero.toArray) Tryd.typeInfo37 (by kernel_rfl) (by kernel_rfl) (by kernel_rfl) (by kernel_rfl), ⟨_, Tryd.underlying37, rfl⟩, (by kernel_rfl), (by kernel_rfl)⟩
/-- api.DFA -/
@[reducible] def y38 : Ty := .st (.pair y36 (.pair y22 (y26)))
def d38 : TD := ⟨.struct [(36, 0), (22, 256), (26, 257)], 304, y38, List.replicate 256 (.int .u8 0) ++ [(.slice none 0 0), (.slice none 0 0)]⟩
theorem k38 : TOk Tryd.prog 38 d38 := ⟨info_of (z := .agg d38.zero.toArray) Tryd.typeInfo38 (by kernel_rfl) (by kernel_rfl) (by kernel_rfl) (by kernel_rfl), ⟨_, Tryd.underlying38, rfl⟩, (by kernel_rfl), (by kernel_rfl)⟩
/-- [][][]int -/
@[reducible] def y65 : Ty := .sl y22
def d65 : TD := ⟨.slice 22, 24, y65, [(.slice none 0 0)]⟩
theorem k65 : TOk Tryd.prog 65 d65 := ⟨info_of Tryd.typeInfo65 rfl rfl rfl rfl, Tryd.underlying65, rfl, rfl⟩
/-- []resolve.Action -/
@[reducible] def y68 : Ty := .sl y70
def d68 : TD := ⟨.slice 70, 24, y68, [(.slice none 0 0)]⟩
theorem k68 : TOk Tryd.prog 68 d68 := ⟨info_of Tryd.typeInfo68 rfl rfl rfl rfl, Tryd.underlying68, rfl, rfl⟩
/-- []bosketref27.Action -/
@[reducible] def y73 : Ty := .sl y74
def d73 : TD := ⟨.slice 74, 24, y73, [(.slice none 0 0)]⟩
theorem k73 : TOk Tryd.prog 73 d73 := ⟨info_of Tryd.typeInfo73 rfl rfl rfl rfl, Tryd.underlying73, rfl, rfl⟩
/-- [][]resolve.Action -/
@[reducible] def y39 : Ty := .sl y68
def d39 : TD := ⟨.slice 68, 24, y39, [(.slice none 0 0)]⟩
theorem k39 : TOk Tryd.prog 39 d39 := ⟨info_of Tryd.typeInfo39 rfl rfl rfl rfl, Tryd.underlying39, rfl, rfl⟩
/-- struct { Actions [][]resolve.Action; Gotos [][]int; Sorts []int; Lens []int } -/
@[reducible] def y40 : Ty := .st (.pair y39 (.pair y22 (.pair y26 (y26))))
def d40 : TD := ⟨.struct [(39, 0), (22, 1), (26, 2), (26, 3)], 96, y40, [(.slice none 0 0), (.slice none 0 0), (.slice none 0 0), (.slice none 0 0)]⟩
theorem k40 : TOk Tryd.prog 40 d40 := ⟨info_of Tryd.typeInfo40 rfl rfl rfl rfl, ⟨_, Tryd.underlying40, rfl⟩, rfl, rfl⟩
/-- table.Table -/
@[reducible] def y41 : Ty := .st (.pair y39 (.pair y22 (.pair y26 (y26))))
def d41 : TD := ⟨.struct [(39, 0), (22, 1), (26, 2), (26, 3)], 96, y41, [(.slice none 0 0), (.slice none 0 0), (.slice none 0 0), (.slice none 0 0)]⟩
theorem k41 : TOk Tryd.prog 41 d41 := ⟨info_of Tryd.typeInfo41 rfl rfl rfl rfl, ⟨_, Tryd.underlying41, rfl⟩, rfl, rfl⟩
/-- struct { Name string; D api.DFA; T table.Table } -/
@[reducible] def y42 : Ty := .st (.pair y9 (.pair y38 (y41)))
def d42 : TD := ⟨.struct [(9, 0), (38, 1), (41, 259)], 416, y42, [(.string ByteArray.empty)] ++ List.replicate 256 (.int .u8 0) ++ [(.slice none 0 0), (.slice none 0 0), (.slice none 0 0), (.slice none 0 0), (.slice none 0 0), (.slice none 0 0)]⟩
theorem k42 : TOk Tryd.prog 42 d42 := ⟨info_of (z := .agg d42.zero.toArray) Tryd.typeInfo42 (by kernel_rfl) (by kernel_rfl) (by kernel_rfl) (by kernel_rfl), ⟨_, Tryd.underlying42, rfl⟩, (by kernel_rfl), (by kernel_rfl)⟩
/-- emit.Tables -/
@[reducible] def y43 : Ty := .st (.pair y9 (.pair y38 (y41)))
def d43 : TD := ⟨.struct [(9, 0), (38, 1), (41, 259)], 416, y43, [(.string ByteArray.empty)] ++ List.replicate 256 (.int .u8 0) ++ [(.slice none 0 0), (.slice none 0 0), (.slice none 0 0), (.slice none 0 0), (.slice none 0 0), (.slice none 0 0)]⟩
theorem k43 : TOk Tryd.prog 43 d43 := ⟨info_of (z := .agg d43.zero.toArray) Tryd.typeInfo43 (by kernel_rfl) (by kernel_rfl) (by kernel_rfl) (by kernel_rfl), ⟨_, Tryd.underlying43, rfl⟩, (by kernel_rfl), (by kernel_rfl)⟩
/-- [][]bosketref27.Action -/
@[reducible] def y46 : Ty := .sl y73
def d46 : TD := ⟨.slice 73, 24, y46, [(.slice none 0 0)]⟩
theorem k46 : TOk Tryd.prog 46 d46 := ⟨info_of Tryd.typeInfo46 rfl rfl rfl rfl, Tryd.underlying46, rfl, rfl⟩
/-- struct { Actions [][]bosketref27.Action; Gotos [][]int; Sorts []int; Lens []int } -/
@[reducible] def y47 : Ty := .st (.pair y46 (.pair y22 (.pair y26 (y26))))
def d47 : TD := ⟨.struct [(46, 0), (22, 1), (26, 2), (26, 3)], 96, y47, [(.slice none 0 0), (.slice none 0 0), (.slice none 0 0), (.slice none 0 0)]⟩
theorem k47 : TOk Tryd.prog 47 d47 := ⟨info_of Tryd.typeInfo47 rfl rfl rfl rfl, ⟨_, Tryd.underlying47, rfl⟩, rfl, rfl⟩
/-- bosketref28.Table -/
@[reducible] def y48 : Ty := .st (.pair y46 (.pair y22 (.pair y26 (y26))))
def d48 : TD := ⟨.struct [(46, 0), (22, 1), (26, 2), (26, 3)], 96, y48, [(.slice none 0 0), (.slice none 0 0), (.slice none 0 0), (.slice none 0 0)]⟩
theorem k48 : TOk Tryd.prog 48 d48 := ⟨info_of Tryd.typeInfo48 rfl rfl rfl rfl, ⟨_, Tryd.underlying48, rfl⟩, rfl, rfl⟩
def tab : List (Nat × TD) := [(2, d2), (3, d3), (4, d4), (5, d5), (6, d6), (7, d7), (8, d8), (9, d9), (10, d10), (11, d11), (12, d12), (13, d13), (14, d14), (21, d21), (22, d22), (26, d26), (36, d36), (37, d37), (38, d38), (39, d39), (40, d40), (41, d41), (42, d42), (43, d43), (46, d46), (47, d47), (48, d48), (53, d53), (57, d57), (65, d65), (68, d68), (69, d69), (70, d70), (73, d73), (74, d74), (79, d79), (85, d85), (101, d101), (102, d102), (103, d103), (106, d106), (107, d107), (108, d108), (115, d115), (116, d116), (118, d118), (119, d119), (120, d120)]
theorem tab_ok : TabOk Tryd.prog (lookT tab) := lookT_ok ((by exact ⟨k2, k3, k4, k5, k6, k7, k8, k9, k10, k11, k12, k13, k14, k21, k22, k26, k36, k37, k38, k39, k40, k41, k42, k43, k46, k47, k48, k53, k57, k65, k68, k69, k70, k73, k74, k79, k85, k101, k102, k103, k106, k107, k108, k115, k116, k118, k119, k120, trivial⟩))
end Go.Proofs.YtfnjdegejgocfaaDoor.Rf
