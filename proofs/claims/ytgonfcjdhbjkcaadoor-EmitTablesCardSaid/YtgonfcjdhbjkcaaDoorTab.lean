/- The table of types of this seat's program, as the frame reads it. Printed by wip/dev/types.py. -/
import Derived.Test.YtgonfcjdhbjkcaaDoorRc
set_option linter.unusedVariables false
namespace Go.Proofs.YtgonfcjdhbjkcaaDoor.Rf
open Go
/-- int64 -/
@[reducible] def y2 : Ty := .int .i64
def d2 : TD := ⟨.int .i64, 8, y2, [(.int .i64 0)]⟩
theorem k2 : TOk Tryd.prog 2 d2 := ⟨info_of Tryd.typeInfo2 rfl rfl rfl rfl, ⟨Tryd.underlying2, rfl⟩, rfl, rfl, zi_of rfl Tryd.typeInfo2 rfl⟩
/-- int -/
@[reducible] def y3 : Ty := .int .i64
def d3 : TD := ⟨.int .i64, 8, y3, [(.int .i64 0)]⟩
theorem k3 : TOk Tryd.prog 3 d3 := ⟨info_of Tryd.typeInfo3 rfl rfl rfl rfl, ⟨Tryd.underlying3, rfl⟩, rfl, rfl, zi_of rfl Tryd.typeInfo3 rfl⟩
/-- bool -/
@[reducible] def y4 : Ty := .bool
def d4 : TD := ⟨.bool, 1, y4, [(.bool false)]⟩
theorem k4 : TOk Tryd.prog 4 d4 := ⟨info_of Tryd.typeInfo4 rfl rfl rfl rfl, ⟨Tryd.underlying4, rfl⟩, rfl, rfl, zi_no rfl⟩
/-- uint8 -/
@[reducible] def y5 : Ty := .int .u8
def d5 : TD := ⟨.int .u8, 1, y5, [(.int .u8 0)]⟩
theorem k5 : TOk Tryd.prog 5 d5 := ⟨info_of Tryd.typeInfo5 rfl rfl rfl rfl, ⟨Tryd.underlying5, rfl⟩, rfl, rfl, zi_of rfl Tryd.typeInfo5 rfl⟩
/-- abi.BoundsErrorCode -/
@[reducible] def y6 : Ty := .int .u8
def d6 : TD := ⟨.int .u8, 1, y6, [(.int .u8 0)]⟩
theorem k6 : TOk Tryd.prog 6 d6 := ⟨info_of Tryd.typeInfo6 rfl rfl rfl rfl, ⟨Tryd.underlying6, rfl⟩, rfl, rfl, zi_of rfl Tryd.typeInfo6 rfl⟩
/-- struct { x int64; y int; signed bool; code abi.BoundsErrorCode } -/
@[reducible] def y7 : Ty := .st (.pair y2 (.pair y3 (.pair y4 (y6))))
def d7 : TD := ⟨.struct [(2, 0), (3, 1), (4, 2), (6, 3)], 24, y7, [(.int .i64 0), (.int .i64 0), (.bool false), (.int .u8 0)]⟩
theorem k7 : TOk Tryd.prog 7 d7 := ⟨info_of Tryd.typeInfo7 rfl rfl rfl rfl, ⟨_, Tryd.underlying7, rfl⟩, rfl, rfl, zi_no rfl⟩
/-- runtime.boundsError -/
@[reducible] def y8 : Ty := .st (.pair y2 (.pair y3 (.pair y4 (y6))))
def d8 : TD := ⟨.struct [(2, 0), (3, 1), (4, 2), (6, 3)], 24, y8, [(.int .i64 0), (.int .i64 0), (.bool false), (.int .u8 0)]⟩
theorem k8 : TOk Tryd.prog 8 d8 := ⟨info_of Tryd.typeInfo8 rfl rfl rfl rfl, ⟨_, Tryd.underlying8, rfl⟩, rfl, rfl, zi_no rfl⟩
/-- string -/
@[reducible] def y9 : Ty := .str
def d9 : TD := ⟨.str, 16, y9, [(.string ByteArray.empty)]⟩
theorem k9 : TOk Tryd.prog 9 d9 := ⟨info_of Tryd.typeInfo9 rfl rfl rfl rfl, ⟨Tryd.underlying9, rfl⟩, rfl, rfl, zi_no rfl⟩
/-- runtime.errorString -/
@[reducible] def y10 : Ty := .str
def d10 : TD := ⟨.str, 16, y10, [(.string ByteArray.empty)]⟩
theorem k10 : TOk Tryd.prog 10 d10 := ⟨info_of Tryd.typeInfo10 rfl rfl rfl rfl, ⟨Tryd.underlying10, rfl⟩, rfl, rfl, zi_no rfl⟩
/-- runtime.plainError -/
@[reducible] def y11 : Ty := .str
def d11 : TD := ⟨.str, 16, y11, [(.string ByteArray.empty)]⟩
theorem k11 : TOk Tryd.prog 11 d11 := ⟨info_of Tryd.typeInfo11 rfl rfl rfl rfl, ⟨Tryd.underlying11, rfl⟩, rfl, rfl, zi_no rfl⟩
/-- uintptr -/
@[reducible] def y12 : Ty := .int .u64
def d12 : TD := ⟨.int .u64, 8, y12, [(.int .u64 0)]⟩
theorem k12 : TOk Tryd.prog 12 d12 := ⟨info_of Tryd.typeInfo12 rfl rfl rfl rfl, ⟨Tryd.underlying12, rfl⟩, rfl, rfl, zi_of rfl Tryd.typeInfo12 rfl⟩
/-- struct { msg string; addr uintptr } -/
@[reducible] def y13 : Ty := .st (.pair y9 (y12))
def d13 : TD := ⟨.struct [(9, 0), (12, 1)], 24, y13, [(.string ByteArray.empty), (.int .u64 0)]⟩
theorem k13 : TOk Tryd.prog 13 d13 := ⟨info_of Tryd.typeInfo13 rfl rfl rfl rfl, ⟨_, Tryd.underlying13, rfl⟩, rfl, rfl, zi_no rfl⟩
/-- runtime.errorAddressString -/
@[reducible] def y14 : Ty := .st (.pair y9 (y12))
def d14 : TD := ⟨.struct [(9, 0), (12, 1)], 24, y14, [(.string ByteArray.empty), (.int .u64 0)]⟩
theorem k14 : TOk Tryd.prog 14 d14 := ⟨info_of Tryd.typeInfo14 rfl rfl rfl rfl, ⟨_, Tryd.underlying14, rfl⟩, rfl, rfl, zi_no rfl⟩
/-- int32 -/
@[reducible] def y21 : Ty := .int .i32
def d21 : TD := ⟨.int .i32, 4, y21, [(.int .i32 0)]⟩
theorem k21 : TOk Tryd.prog 21 d21 := ⟨info_of Tryd.typeInfo21 rfl rfl rfl rfl, ⟨Tryd.underlying21, rfl⟩, rfl, rfl, zi_of rfl Tryd.typeInfo21 rfl⟩
/-- [256]uint8 -/
@[reducible] def y22 : Ty := .arr 256 y5
def d22 : TD := ⟨.array 256 5, 256, y22, List.replicate 256 (.int .u8 0)⟩
theorem k22 : TOk Tryd.prog 22 d22 := ⟨info_of (z := .agg d22.zero.toArray) Tryd.typeInfo22 (by kernel_rfl) (by kernel_rfl) (by kernel_rfl) (by kernel_rfl), Tryd.underlying22, (by kernel_rfl), (by kernel_rfl), zi_no rfl⟩
/-- []int -/
@[reducible] def y24 : Ty := .sl y3
def d24 : TD := ⟨.slice 3, 24, y24, [(.slice none 0 0)]⟩
theorem k24 : TOk Tryd.prog 24 d24 := ⟨info_of Tryd.typeInfo24 rfl rfl rfl rfl, Tryd.underlying24, rfl, rfl, zi_no rfl⟩
/-- struct { Kind int; N int } -/
@[reducible] def y51 : Ty := .st (.pair y3 (y3))
def d51 : TD := ⟨.struct [(3, 0), (3, 1)], 16, y51, [(.int .i64 0), (.int .i64 0)]⟩
theorem k51 : TOk Tryd.prog 51 d51 := ⟨info_of Tryd.typeInfo51 rfl rfl rfl rfl, ⟨_, Tryd.underlying51, rfl⟩, rfl, rfl, zi_no rfl⟩
/-- resolve.Action -/
@[reducible] def y52 : Ty := .st (.pair y3 (y3))
def d52 : TD := ⟨.struct [(3, 0), (3, 1)], 16, y52, [(.int .i64 0), (.int .i64 0)]⟩
theorem k52 : TOk Tryd.prog 52 d52 := ⟨info_of Tryd.typeInfo52 rfl rfl rfl rfl, ⟨_, Tryd.underlying52, rfl⟩, rfl, rfl, zi_no rfl⟩
/-- bosketref27.Action -/
@[reducible] def y53 : Ty := .st (.pair y3 (y3))
def d53 : TD := ⟨.struct [(3, 0), (3, 1)], 16, y53, [(.int .i64 0), (.int .i64 0)]⟩
theorem k53 : TOk Tryd.prog 53 d53 := ⟨info_of Tryd.typeInfo53 rfl rfl rfl rfl, ⟨_, Tryd.underlying53, rfl⟩, rfl, rfl, zi_no rfl⟩
/-- []string -/
@[reducible] def y54 : Ty := .sl y9
def d54 : TD := ⟨.slice 9, 24, y54, [(.slice none 0 0)]⟩
theorem k54 : TOk Tryd.prog 54 d54 := ⟨info_of Tryd.typeInfo54 rfl rfl rfl rfl, Tryd.underlying54, rfl, rfl, zi_no rfl⟩
/-- api.Errno -/
@[reducible] def y60 : Ty := .int .i64
def d60 : TD := ⟨.int .i64, 8, y60, [(.int .i64 0)]⟩
theorem k60 : TOk Tryd.prog 60 d60 := ⟨info_of Tryd.typeInfo60 rfl rfl rfl rfl, ⟨Tryd.underlying60, rfl⟩, rfl, rfl, zi_of rfl Tryd.typeInfo60 rfl⟩
/-- []uint8 -/
@[reducible] def y71 : Ty := .sl y5
def d71 : TD := ⟨.slice 5, 24, y71, [(.slice none 0 0)]⟩
theorem k71 : TOk Tryd.prog 71 d71 := ⟨info_of Tryd.typeInfo71 rfl rfl rfl rfl, Tryd.underlying71, rfl, rfl, zi_no rfl⟩
/-- []bool -/
@[reducible] def y87 : Ty := .sl y4
def d87 : TD := ⟨.slice 4, 24, y87, [(.slice none 0 0)]⟩
theorem k87 : TOk Tryd.prog 87 d87 := ⟨info_of Tryd.typeInfo87 rfl rfl rfl rfl, Tryd.underlying87, rfl, rfl, zi_no rfl⟩
/-- uint64 -/
@[reducible] def y96 : Ty := .int .u64
def d96 : TD := ⟨.int .u64, 8, y96, [(.int .u64 0)]⟩
theorem k96 : TOk Tryd.prog 96 d96 := ⟨info_of Tryd.typeInfo96 rfl rfl rfl rfl, ⟨Tryd.underlying96, rfl⟩, rfl, rfl, zi_of rfl Tryd.typeInfo96 rfl⟩
/-- uint -/
@[reducible] def y99 : Ty := .int .u64
def d99 : TD := ⟨.int .u64, 8, y99, [(.int .u64 0)]⟩
theorem k99 : TOk Tryd.prog 99 d99 := ⟨info_of Tryd.typeInfo99 rfl rfl rfl rfl, ⟨Tryd.underlying99, rfl⟩, rfl, rfl, zi_of rfl Tryd.typeInfo99 rfl⟩
/-- uint32 -/
@[reducible] def y101 : Ty := .int .u32
def d101 : TD := ⟨.int .u32, 4, y101, [(.int .u32 0)]⟩
theorem k101 : TOk Tryd.prog 101 d101 := ⟨info_of Tryd.typeInfo101 rfl rfl rfl rfl, ⟨Tryd.underlying101, rfl⟩, rfl, rfl, zi_of rfl Tryd.typeInfo101 rfl⟩
/-- struct { lo uint8; hi uint8 } -/
@[reducible] def y108 : Ty := .st (.pair y5 (y5))
def d108 : TD := ⟨.struct [(5, 0), (5, 1)], 2, y108, [(.int .u8 0), (.int .u8 0)]⟩
theorem k108 : TOk Tryd.prog 108 d108 := ⟨info_of Tryd.typeInfo108 rfl rfl rfl rfl, ⟨_, Tryd.underlying108, rfl⟩, rfl, rfl, zi_no rfl⟩
/-- utf8.acceptRange -/
@[reducible] def y109 : Ty := .st (.pair y5 (y5))
def d109 : TD := ⟨.struct [(5, 0), (5, 1)], 2, y109, [(.int .u8 0), (.int .u8 0)]⟩
theorem k109 : TOk Tryd.prog 109 d109 := ⟨info_of Tryd.typeInfo109 rfl rfl rfl rfl, ⟨_, Tryd.underlying109, rfl⟩, rfl, rfl, zi_no rfl⟩
/-- [16]utf8.acceptRange -/
@[reducible] def y110 : Ty := .arr 16 y109
def d110 : TD := ⟨.array 16 109, 32, y110, List.replicate 32 (.int .u8 0)⟩
theorem k110 : TOk Tryd.prog 110 d110 := ⟨info_of Tryd.typeInfo110 rfl rfl rfl rfl, Tryd.underlying110, rfl, rfl, zi_no rfl⟩
/-- abi.TFlag -/
@[reducible] def y117 : Ty := .int .u8
def d117 : TD := ⟨.int .u8, 1, y117, [(.int .u8 0)]⟩
theorem k117 : TOk Tryd.prog 117 d117 := ⟨info_of Tryd.typeInfo117 rfl rfl rfl rfl, ⟨Tryd.underlying117, rfl⟩, rfl, rfl, zi_of rfl Tryd.typeInfo117 rfl⟩
/-- abi.Kind -/
@[reducible] def y118 : Ty := .int .u8
def d118 : TD := ⟨.int .u8, 1, y118, [(.int .u8 0)]⟩
theorem k118 : TOk Tryd.prog 118 d118 := ⟨info_of Tryd.typeInfo118 rfl rfl rfl rfl, ⟨Tryd.underlying118, rfl⟩, rfl, rfl, zi_of rfl Tryd.typeInfo118 rfl⟩
/-- *uint8 -/
@[reducible] def y120 : Ty := .ptr y5
def d120 : TD := ⟨.pointer 5, 8, y120, [(.pointer none)]⟩
theorem k120 : TOk Tryd.prog 120 d120 := ⟨info_of Tryd.typeInfo120 rfl rfl rfl rfl, Tryd.underlying120, rfl, rfl, zi_no rfl⟩
/-- abi.NameOff -/
@[reducible] def y121 : Ty := .int .i32
def d121 : TD := ⟨.int .i32, 4, y121, [(.int .i32 0)]⟩
theorem k121 : TOk Tryd.prog 121 d121 := ⟨info_of Tryd.typeInfo121 rfl rfl rfl rfl, ⟨Tryd.underlying121, rfl⟩, rfl, rfl, zi_of rfl Tryd.typeInfo121 rfl⟩
/-- abi.TypeOff -/
@[reducible] def y122 : Ty := .int .i32
def d122 : TD := ⟨.int .i32, 4, y122, [(.int .i32 0)]⟩
theorem k122 : TOk Tryd.prog 122 d122 := ⟨info_of Tryd.typeInfo122 rfl rfl rfl rfl, ⟨Tryd.underlying122, rfl⟩, rfl, rfl, zi_of rfl Tryd.typeInfo122 rfl⟩
/-- [][]int -/
@[reducible] def y23 : Ty := .sl y24
def d23 : TD := ⟨.slice 24, 24, y23, [(.slice none 0 0)]⟩
theorem k23 : TOk Tryd.prog 23 d23 := ⟨info_of Tryd.typeInfo23 rfl rfl rfl rfl, Tryd.underlying23, rfl, rfl, zi_no rfl⟩
/-- struct { Class [256]uint8; Next [][]int; Mark []int } -/
@[reducible] def y25 : Ty := .st (.pair y22 (.pair y23 (y24)))
def d25 : TD := ⟨.struct [(22, 0), (23, 256), (24, 257)], 304, y25, List.replicate 256 (.int .u8 0) ++ [(.slice none 0 0), (.slice none 0 0)]⟩
theorem k25 : TOk Tryd.prog 25 d25 := ⟨info_of (z := .agg d25.zero.toArray) Tryd.typeInfo25 (by kernel_rfl) (by kernel_rfl) (by kernel_rfl) (by kernel_rfl), ⟨_, Tryd.underlying25, rfl⟩, (by kernel_rfl), (by kernel_rfl), zi_no rfl⟩
/-- api.DFA -/
@[reducible] def y26 : Ty := .st (.pair y22 (.pair y23 (y24)))
def d26 : TD := ⟨.struct [(22, 0), (23, 256), (24, 257)], 304, y26, List.replicate 256 (.int .u8 0) ++ [(.slice none 0 0), (.slice none 0 0)]⟩
theorem k26 : TOk Tryd.prog 26 d26 := ⟨info_of (z := .agg d26.zero.toArray) Tryd.typeInfo26 (by kernel_rfl) (by kernel_rfl) (by kernel_rfl) (by kernel_rfl), ⟨_, Tryd.underlying26, rfl⟩, (by kernel_rfl), (by kernel_rfl), zi_no rfl⟩
/-- []resolve.Action -/
@[reducible] def y49 : Ty := .sl y52
def d49 : TD := ⟨.slice 52, 24, y49, [(.slice none 0 0)]⟩
theorem k49 : TOk Tryd.prog 49 d49 := ⟨info_of Tryd.typeInfo49 rfl rfl rfl rfl, Tryd.underlying49, rfl, rfl, zi_no rfl⟩
/-- []bosketref27.Action -/
@[reducible] def y50 : Ty := .sl y53
def d50 : TD := ⟨.slice 53, 24, y50, [(.slice none 0 0)]⟩
theorem k50 : TOk Tryd.prog 50 d50 := ⟨info_of Tryd.typeInfo50 rfl rfl rfl rfl, Tryd.underlying50, rfl, rfl, zi_no rfl⟩
/-- [][][]int -/
@[reducible] def y62 : Ty := .sl y23
def d62 : TD := ⟨.slice 23, 24, y62, [(.slice none 0 0)]⟩
theorem k62 : TOk Tryd.prog 62 d62 := ⟨info_of Tryd.typeInfo62 rfl rfl rfl rfl, Tryd.underlying62, rfl, rfl, zi_no rfl⟩
/-- [][]resolve.Action -/
@[reducible] def y27 : Ty := .sl y49
def d27 : TD := ⟨.slice 49, 24, y27, [(.slice none 0 0)]⟩
theorem k27 : TOk Tryd.prog 27 d27 := ⟨info_of Tryd.typeInfo27 rfl rfl rfl rfl, Tryd.underlying27, rfl, rfl, zi_no rfl⟩
/-- struct { Actions [][]resolve.Action; Gotos [][]int; Sorts []int; Lens []int } -/
@[reducible] def y28 : Ty := .st (.pair y27 (.pair y23 (.pair y24 (y24))))
def d28 : TD := ⟨.struct [(27, 0), (23, 1), (24, 2), (24, 3)], 96, y28, [(.slice none 0 0), (.slice none 0 0), (.slice none 0 0), (.slice none 0 0)]⟩
theorem k28 : TOk Tryd.prog 28 d28 := ⟨info_of Tryd.typeInfo28 rfl rfl rfl rfl, ⟨_, Tryd.underlying28, rfl⟩, rfl, rfl, zi_no rfl⟩
/-- table.Table -/
@[reducible] def y29 : Ty := .st (.pair y27 (.pair y23 (.pair y24 (y24))))
def d29 : TD := ⟨.struct [(27, 0), (23, 1), (24, 2), (24, 3)], 96, y29, [(.slice none 0 0), (.slice none 0 0), (.slice none 0 0), (.slice none 0 0)]⟩
theorem k29 : TOk Tryd.prog 29 d29 := ⟨info_of Tryd.typeInfo29 rfl rfl rfl rfl, ⟨_, Tryd.underlying29, rfl⟩, rfl, rfl, zi_no rfl⟩
/-- [][]bosketref27.Action -/
@[reducible] def y33 : Ty := .sl y50
def d33 : TD := ⟨.slice 50, 24, y33, [(.slice none 0 0)]⟩
theorem k33 : TOk Tryd.prog 33 d33 := ⟨info_of Tryd.typeInfo33 rfl rfl rfl rfl, Tryd.underlying33, rfl, rfl, zi_no rfl⟩
/-- struct { Actions [][]bosketref27.Action; Gotos [][]int; Sorts []int; Lens []int } -/
@[reducible] def y34 : Ty := .st (.pair y33 (.pair y23 (.pair y24 (y24))))
def d34 : TD := ⟨.struct [(33, 0), (23, 1), (24, 2), (24, 3)], 96, y34, [(.slice none 0 0), (.slice none 0 0), (.slice none 0 0), (.slice none 0 0)]⟩
theorem k34 : TOk Tryd.prog 34 d34 := ⟨info_of Tryd.typeInfo34 rfl rfl rfl rfl, ⟨_, Tryd.underlying34, rfl⟩, rfl, rfl, zi_no rfl⟩
/-- bosketref28.Table -/
@[reducible] def y35 : Ty := .st (.pair y33 (.pair y23 (.pair y24 (y24))))
def d35 : TD := ⟨.struct [(33, 0), (23, 1), (24, 2), (24, 3)], 96, y35, [(.slice none 0 0), (.slice none 0 0), (.slice none 0 0), (.slice none 0 0)]⟩
theorem k35 : TOk Tryd.prog 35 d35 := ⟨info_of Tryd.typeInfo35 rfl rfl rfl rfl, ⟨_, Tryd.underlying35, rfl⟩, rfl, rfl, zi_no rfl⟩
/-- struct { Name string; D api.DFA; T table.Table } -/
@[reducible] def y37 : Ty := .st (.pair y9 (.pair y26 (y29)))
def d37 : TD := ⟨.struct [(9, 0), (26, 1), (29, 259)], 416, y37, [(.string ByteArray.empty)] ++ List.replicate 256 (.int .u8 0) ++ [(.slice none 0 0), (.slice none 0 0), (.slice none 0 0), (.slice none 0 0), (.slice none 0 0), (.slice none 0 0)]⟩
theorem k37 : TOk Tryd.prog 37 d37 := ⟨info_of (z := .agg d37.zero.toArray) Tryd.typeInfo37 (by kernel_rfl) (by kernel_rfl) (by kernel_rfl) (by kernel_rfl), ⟨_, Tryd.underlying37, rfl⟩, (by kernel_rfl), (by kernel_rfl), zi_no rfl⟩
/-- emit.Tables -/
@[reducible] def y38 : Ty := .st (.pair y9 (.pair y26 (y29)))
def d38 : TD := ⟨.struct [(9, 0), (26, 1), (29, 259)], 416, y38, [(.string ByteArray.empty)] ++ List.replicate 256 (.int .u8 0) ++ [(.slice none 0 0), (.slice none 0 0), (.slice none 0 0), (.slice none 0 0), (.slice none 0 0), (.slice none 0 0)]⟩
theorem k38 : TOk Tryd.prog 38 d38 := ⟨info_of (z := .agg d38.zero.toArray) Tryd.typeInfo38 (by kernel_rfl) (by kernel_rfl) (by kernel_rfl) (by kernel_rfl), ⟨_, Tryd.underlying38, rfl⟩, (by kernel_rfl), (by kernel_rfl), zi_no rfl⟩
def tab : List (Nat × TD) := [(2, d2), (3, d3), (4, d4), (5, d5), (6, d6), (7, d7), (8, d8), (9, d9), (10, d10), (11, d11), (12, d12), (13, d13), (14, d14), (21, d21), (22, d22), (23, d23), (24, d24), (25, d25), (26, d26), (27, d27), (28, d28), (29, d29), (33, d33), (34, d34), (35, d35), (37, d37), (38, d38), (49, d49), (50, d50), (51, d51), (52, d52), (53, d53), (54, d54), (60, d60), (62, d62), (71, d71), (87, d87), (96, d96), (99, d99), (101, d101), (108, d108), (109, d109), (110, d110), (117, d117), (118, d118), (120, d120), (121, d121), (122, d122)]
theorem tab_ok : TabOk Tryd.prog (lookT tab) := lookT_ok ((by exact ⟨k2, k3, k4, k5, k6, k7, k8, k9, k10, k11, k12, k13, k14, k21, k22, k23, k24, k25, k26, k27, k28, k29, k33, k34, k35, k37, k38, k49, k50, k51, k52, k53, k54, k60, k62, k71, k87, k96, k99, k101, k108, k109, k110, k117, k118, k120, k121, k122, trivial⟩))
end Go.Proofs.YtgonfcjdhbjkcaaDoor.Rf
