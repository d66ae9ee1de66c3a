/- The table of types of this seat's program, as the frame reads it. Printed by wip/dev/types.py. -/
import Derived.Test.YtfnjdegejgocfaaRc
set_option linter.unusedVariables false
namespace Go.Proofs.Ytfnjdegejgocfaa.Rf
open Go
/-- int64 -/
@[reducible] def y2 : Ty := .int .i64
def d2 : TD := ⟨.int .i64, 8, y2, [(.int .i64 0)]⟩
theorem k2 : TOk Try.prog 2 d2 := ⟨info_of Try.typeInfo2 rfl rfl rfl rfl, ⟨Try.underlying2, rfl⟩, rfl, rfl, zi_of rfl Try.typeInfo2 rfl⟩
/-- int -/
@[reducible] def y3 : Ty := .int .i64
def d3 : TD := ⟨.int .i64, 8, y3, [(.int .i64 0)]⟩
theorem k3 : TOk Try.prog 3 d3 := ⟨info_of Try.typeInfo3 rfl rfl rfl rfl, ⟨Try.underlying3, rfl⟩, rfl, rfl, zi_of rfl Try.typeInfo3 rfl⟩
/-- bool -/
@[reducible] def y4 : Ty := .bool
def d4 : TD := ⟨.bool, 1, y4, [(.bool false)]⟩
theorem k4 : TOk Try.prog 4 d4 := ⟨info_of Try.typeInfo4 rfl rfl rfl rfl, ⟨Try.underlying4, rfl⟩, rfl, rfl, zi_no rfl⟩
/-- uint8 -/
@[reducible] def y5 : Ty := .int .u8
def d5 : TD := ⟨.int .u8, 1, y5, [(.int .u8 0)]⟩
theorem k5 : TOk Try.prog 5 d5 := ⟨info_of Try.typeInfo5 rfl rfl rfl rfl, ⟨Try.underlying5, rfl⟩, rfl, rfl, zi_of rfl Try.typeInfo5 rfl⟩
/-- abi.BoundsErrorCode -/
@[reducible] def y6 : Ty := .int .u8
def d6 : TD := ⟨.int .u8, 1, y6, [(.int .u8 0)]⟩
theorem k6 : TOk Try.prog 6 d6 := ⟨info_of Try.typeInfo6 rfl rfl rfl rfl, ⟨Try.underlying6, rfl⟩, rfl, rfl, zi_of rfl Try.typeInfo6 rfl⟩
/-- struct { x int64; y int; signed bool; code abi.BoundsErrorCode } -/
@[reducible] def y7 : Ty := .st (.pair y2 (.pair y3 (.pair y4 (y6))))
def d7 : TD := ⟨.struct [(2, 0), (3, 1), (4, 2), (6, 3)], 24, y7, [(.int .i64 0), (.int .i64 0), (.bool false), (.int .u8 0)]⟩
theorem k7 : TOk Try.prog 7 d7 := ⟨info_of Try.typeInfo7 rfl rfl rfl rfl, ⟨_, Try.underlying7, rfl⟩, rfl, rfl, zi_no rfl⟩
/-- runtime.boundsError -/
@[reducible] def y8 : Ty := .st (.pair y2 (.pair y3 (.pair y4 (y6))))
def d8 : TD := ⟨.struct [(2, 0), (3, 1), (4, 2), (6, 3)], 24, y8, [(.int .i64 0), (.int .i64 0), (.bool false), (.int .u8 0)]⟩
theorem k8 : TOk Try.prog 8 d8 := ⟨info_of Try.typeInfo8 rfl rfl rfl rfl, ⟨_, Try.underlying8, rfl⟩, rfl, rfl, zi_no rfl⟩
/-- string -/
@[reducible] def y9 : Ty := .str
def d9 : TD := ⟨.str, 16, y9, [(.string ByteArray.empty)]⟩
theorem k9 : TOk Try.prog 9 d9 := ⟨info_of Try.typeInfo9 rfl rfl rfl rfl, ⟨Try.underlying9, rfl⟩, rfl, rfl, zi_no rfl⟩
/-- runtime.errorString -/
@[reducible] def y10 : Ty := .str
def d10 : TD := ⟨.str, 16, y10, [(.string ByteArray.empty)]⟩
theorem k10 : TOk Try.prog 10 d10 := ⟨info_of Try.typeInfo10 rfl rfl rfl rfl, ⟨Try.underlying10, rfl⟩, rfl, rfl, zi_no rfl⟩
/-- runtime.plainError -/
@[reducible] def y11 : Ty := .str
def d11 : TD := ⟨.str, 16, y11, [(.string ByteArray.empty)]⟩
theorem k11 : TOk Try.prog 11 d11 := ⟨info_of Try.typeInfo11 rfl rfl rfl rfl, ⟨Try.underlying11, rfl⟩, rfl, rfl, zi_no rfl⟩
/-- uintptr -/
@[reducible] def y12 : Ty := .int .u64
def d12 : TD := ⟨.int .u64, 8, y12, [(.int .u64 0)]⟩
theorem k12 : TOk Try.prog 12 d12 := ⟨info_of Try.typeInfo12 rfl rfl rfl rfl, ⟨Try.underlying12, rfl⟩, rfl, rfl, zi_of rfl Try.typeInfo12 rfl⟩
/-- struct { msg string; addr uintptr } -/
@[reducible] def y13 : Ty := .st (.pair y9 (y12))
def d13 : TD := ⟨.struct [(9, 0), (12, 1)], 24, y13, [(.string ByteArray.empty), (.int .u64 0)]⟩
theorem k13 : TOk Try.prog 13 d13 := ⟨info_of Try.typeInfo13 rfl rfl rfl rfl, ⟨_, Try.underlying13, rfl⟩, rfl, rfl, zi_no rfl⟩
/-- runtime.errorAddressString -/
@[reducible] def y14 : Ty := .st (.pair y9 (y12))
def d14 : TD := ⟨.struct [(9, 0), (12, 1)], 24, y14, [(.string ByteArray.empty), (.int .u64 0)]⟩
theorem k14 : TOk Try.prog 14 d14 := ⟨info_of Try.typeInfo14 rfl rfl rfl rfl, ⟨_, Try.underlying14, rfl⟩, rfl, rfl, zi_no rfl⟩
/-- int32 -/
@[reducible] def y21 : Ty := .int .i32
def d21 : TD := ⟨.int .i32, 4, y21, [(.int .i32 0)]⟩
theorem k21 : TOk Try.prog 21 d21 := ⟨info_of Try.typeInfo21 rfl rfl rfl rfl, ⟨Try.underlying21, rfl⟩, rfl, rfl, zi_of rfl Try.typeInfo21 rfl⟩
/-- []string -/
@[reducible] def y23 : Ty := .sl y9
def d23 : TD := ⟨.slice 9, 24, y23, [(.slice none 0 0)]⟩
theorem k23 : TOk Try.prog 23 d23 := ⟨info_of Try.typeInfo23 rfl rfl rfl rfl, Try.underlying23, rfl, rfl, zi_no rfl⟩
/-- []int -/
@[reducible] def y30 : Ty := .sl y3
def d30 : TD := ⟨.slice 3, 24, y30, [(.slice none 0 0)]⟩
theorem k30 : TOk Try.prog 30 d30 := ⟨info_of Try.typeInfo30 rfl rfl rfl rfl, Try.underlying30, rfl, rfl, zi_no rfl⟩
/-- struct { Side int; Rules []int } -/
@[reducible] def y31 : Ty := .st (.pair y3 (y30))
def d31 : TD := ⟨.struct [(3, 0), (30, 1)], 32, y31, [(.int .i64 0), (.slice none 0 0)]⟩
theorem k31 : TOk Try.prog 31 d31 := ⟨info_of Try.typeInfo31 rfl rfl rfl rfl, ⟨_, Try.underlying31, rfl⟩, rfl, rfl, zi_no rfl⟩
/-- api.Level -/
@[reducible] def y32 : Ty := .st (.pair y3 (y30))
def d32 : TD := ⟨.struct [(3, 0), (30, 1)], 32, y32, [(.int .i64 0), (.slice none 0 0)]⟩
theorem k32 : TOk Try.prog 32 d32 := ⟨info_of Try.typeInfo32 rfl rfl rfl rfl, ⟨_, Try.underlying32, rfl⟩, rfl, rfl, zi_no rfl⟩
/-- api.Errno -/
@[reducible] def y38 : Ty := .int .i64
def d38 : TD := ⟨.int .i64, 8, y38, [(.int .i64 0)]⟩
theorem k38 : TOk Try.prog 38 d38 := ⟨info_of Try.typeInfo38 rfl rfl rfl rfl, ⟨Try.underlying38, rfl⟩, rfl, rfl, zi_of rfl Try.typeInfo38 rfl⟩
/-- struct { Kind int; N int } -/
@[reducible] def y46 : Ty := .st (.pair y3 (y3))
def d46 : TD := ⟨.struct [(3, 0), (3, 1)], 16, y46, [(.int .i64 0), (.int .i64 0)]⟩
theorem k46 : TOk Try.prog 46 d46 := ⟨info_of Try.typeInfo46 rfl rfl rfl rfl, ⟨_, Try.underlying46, rfl⟩, rfl, rfl, zi_no rfl⟩
/-- resolve.Action -/
@[reducible] def y47 : Ty := .st (.pair y3 (y3))
def d47 : TD := ⟨.struct [(3, 0), (3, 1)], 16, y47, [(.int .i64 0), (.int .i64 0)]⟩
theorem k47 : TOk Try.prog 47 d47 := ⟨info_of Try.typeInfo47 rfl rfl rfl rfl, ⟨_, Try.underlying47, rfl⟩, rfl, rfl, zi_no rfl⟩
/-- bosketref27.Action -/
@[reducible] def y49 : Ty := .st (.pair y3 (y3))
def d49 : TD := ⟨.struct [(3, 0), (3, 1)], 16, y49, [(.int .i64 0), (.int .i64 0)]⟩
theorem k49 : TOk Try.prog 49 d49 := ⟨info_of Try.typeInfo49 rfl rfl rfl rfl, ⟨_, Try.underlying49, rfl⟩, rfl, rfl, zi_no rfl⟩
/-- []bool -/
@[reducible] def y53 : Ty := .sl y4
def d53 : TD := ⟨.slice 4, 24, y53, [(.slice none 0 0)]⟩
theorem k53 : TOk Try.prog 53 d53 := ⟨info_of Try.typeInfo53 rfl rfl rfl rfl, Try.underlying53, rfl, rfl, zi_no rfl⟩
/-- [2]int -/
@[reducible] def y58 : Ty := .arr 2 y3
def d58 : TD := ⟨.array 2 3, 16, y58, [(.int .i64 0), (.int .i64 0)]⟩
theorem k58 : TOk Try.prog 58 d58 := ⟨info_of Try.typeInfo58 rfl rfl rfl rfl, Try.underlying58, rfl, rfl, zi_no rfl⟩
/-- struct { L []int; Most int; Lost int; Shut bool } -/
@[reducible] def y60 : Ty := .st (.pair y30 (.pair y3 (.pair y3 (y4))))
def d60 : TD := ⟨.struct [(30, 0), (3, 1), (3, 2), (4, 3)], 48, y60, [(.slice none 0 0), (.int .i64 0), (.int .i64 0), (.bool false)]⟩
theorem k60 : TOk Try.prog 60 d60 := ⟨info_of Try.typeInfo60 rfl rfl rfl rfl, ⟨_, Try.underlying60, rfl⟩, rfl, rfl, zi_no rfl⟩
/-- bosketref01.Feed -/
@[reducible] def y61 : Ty := .st (.pair y30 (.pair y3 (.pair y3 (y4))))
def d61 : TD := ⟨.struct [(30, 0), (3, 1), (3, 2), (4, 3)], 48, y61, [(.slice none 0 0), (.int .i64 0), (.int .i64 0), (.bool false)]⟩
theorem k61 : TOk Try.prog 61 d61 := ⟨info_of Try.typeInfo61 rfl rfl rfl rfl, ⟨_, Try.underlying61, rfl⟩, rfl, rfl, zi_no rfl⟩
/-- struct { Kind int; V int; Other bool } -/
@[reducible] def y62 : Ty := .st (.pair y3 (.pair y3 (y4)))
def d62 : TD := ⟨.struct [(3, 0), (3, 1), (4, 2)], 24, y62, [(.int .i64 0), (.int .i64 0), (.bool false)]⟩
theorem k62 : TOk Try.prog 62 d62 := ⟨info_of Try.typeInfo62 rfl rfl rfl rfl, ⟨_, Try.underlying62, rfl⟩, rfl, rfl, zi_no rfl⟩
/-- bosketlaw01.Op -/
@[reducible] def y63 : Ty := .st (.pair y3 (.pair y3 (y4)))
def d63 : TD := ⟨.struct [(3, 0), (3, 1), (4, 2)], 24, y63, [(.int .i64 0), (.int .i64 0), (.bool false)]⟩
theorem k63 : TOk Try.prog 63 d63 := ⟨info_of Try.typeInfo63 rfl rfl rfl rfl, ⟨_, Try.underlying63, rfl⟩, rfl, rfl, zi_no rfl⟩
/-- [][]int -/
@[reducible] def y81 : Ty := .sl y30
def d81 : TD := ⟨.slice 30, 24, y81, [(.slice none 0 0)]⟩
theorem k81 : TOk Try.prog 81 d81 := ⟨info_of Try.typeInfo81 rfl rfl rfl rfl, Try.underlying81, rfl, rfl, zi_no rfl⟩
/-- struct { Sort bool; N int } -/
@[reducible] def y104 : Ty := .st (.pair y4 (y3))
def d104 : TD := ⟨.struct [(4, 0), (3, 1)], 16, y104, [(.bool false), (.int .i64 0)]⟩
theorem k104 : TOk Try.prog 104 d104 := ⟨info_of Try.typeInfo104 rfl rfl rfl rfl, ⟨_, Try.underlying104, rfl⟩, rfl, rfl, zi_no rfl⟩
/-- api.Sym -/
@[reducible] def y105 : Ty := .st (.pair y4 (y3))
def d105 : TD := ⟨.struct [(4, 0), (3, 1)], 16, y105, [(.bool false), (.int .i64 0)]⟩
theorem k105 : TOk Try.prog 105 d105 := ⟨info_of Try.typeInfo105 rfl rfl rfl rfl, ⟨_, Try.underlying105, rfl⟩, rfl, rfl, zi_no rfl⟩
/-- chan int -/
@[reducible] def y107 : Ty := .chan
def d107 : TD := ⟨.chan 3, 8, y107, [(.chan none)]⟩
theorem k107 : TOk Try.prog 107 d107 := ⟨info_of Try.typeInfo107 rfl rfl rfl rfl, ⟨_, Try.underlying107⟩, rfl, rfl, zi_no rfl⟩
/-- struct { box chan int; shut bool; lost int } -/
@[reducible] def y108 : Ty := .st (.pair y107 (.pair y4 (y3)))
def d108 : TD := ⟨.struct [(107, 0), (4, 1), (3, 2)], 24, y108, [(.chan none), (.bool false), (.int .i64 0)]⟩
theorem k108 : TOk Try.prog 108 d108 := ⟨info_of Try.typeInfo108 rfl rfl rfl rfl, ⟨_, Try.underlying108, rfl⟩, rfl, rfl, zi_no rfl⟩
/-- feed.Feed -/
@[reducible] def y109 : Ty := .st (.pair y107 (.pair y4 (y3)))
def d109 : TD := ⟨.struct [(107, 0), (4, 1), (3, 2)], 24, y109, [(.chan none), (.bool false), (.int .i64 0)]⟩
theorem k109 : TOk Try.prog 109 d109 := ⟨info_of Try.typeInfo109 rfl rfl rfl rfl, ⟨_, Try.underlying109, rfl⟩, rfl, rfl, zi_no rfl⟩
/-- []resolve.Action -/
@[reducible] def y116 : Ty := .sl y47
def d116 : TD := ⟨.slice 47, 24, y116, [(.slice none 0 0)]⟩
theorem k116 : TOk Try.prog 116 d116 := ⟨info_of Try.typeInfo116 rfl rfl rfl rfl, Try.underlying116, rfl, rfl, zi_no rfl⟩
/-- []bosketref27.Action -/
@[reducible] def y118 : Ty := .sl y49
def d118 : TD := ⟨.slice 49, 24, y118, [(.slice none 0 0)]⟩
theorem k118 : TOk Try.prog 118 d118 := ⟨info_of Try.typeInfo118 rfl rfl rfl rfl, Try.underlying118, rfl, rfl, zi_no rfl⟩
/-- [][]bool -/
@[reducible] def y125 : Ty := .sl y53
def d125 : TD := ⟨.slice 53, 24, y125, [(.slice none 0 0)]⟩
theorem k125 : TOk Try.prog 125 d125 := ⟨info_of Try.typeInfo125 rfl rfl rfl rfl, Try.underlying125, rfl, rfl, zi_no rfl⟩
/-- struct { Name string; Kind int; Regex string } -/
@[reducible] def y127 : Ty := .st (.pair y9 (.pair y3 (y9)))
def d127 : TD := ⟨.struct [(9, 0), (3, 1), (9, 2)], 40, y127, [(.string ByteArray.empty), (.int .i64 0), (.string ByteArray.empty)]⟩
theorem k127 : TOk Try.prog 127 d127 := ⟨info_of Try.typeInfo127 rfl rfl rfl rfl, ⟨_, Try.underlying127, rfl⟩, rfl, rfl, zi_no rfl⟩
/-- api.Rule -/
@[reducible] def y128 : Ty := .st (.pair y9 (.pair y3 (y9)))
def d128 : TD := ⟨.struct [(9, 0), (3, 1), (9, 2)], 40, y128, [(.string ByteArray.empty), (.int .i64 0), (.string ByteArray.empty)]⟩
theorem k128 : TOk Try.prog 128 d128 := ⟨info_of Try.typeInfo128 rfl rfl rfl rfl, ⟨_, Try.underlying128, rfl⟩, rfl, rfl, zi_no rfl⟩
/-- []uint8 -/
@[reducible] def y129 : Ty := .sl y5
def d129 : TD := ⟨.slice 5, 24, y129, [(.slice none 0 0)]⟩
theorem k129 : TOk Try.prog 129 d129 := ⟨info_of Try.typeInfo129 rfl rfl rfl rfl, Try.underlying129, rfl, rfl, zi_no rfl⟩
/-- uint64 -/
@[reducible] def y138 : Ty := .int .u64
def d138 : TD := ⟨.int .u64, 8, y138, [(.int .u64 0)]⟩
theorem k138 : TOk Try.prog 138 d138 := ⟨info_of Try.typeInfo138 rfl rfl rfl rfl, ⟨Try.underlying138, rfl⟩, rfl, rfl, zi_of rfl Try.typeInfo138 rfl⟩
/-- uint32 -/
@[reducible] def y145 : Ty := .int .u32
def d145 : TD := ⟨.int .u32, 4, y145, [(.int .u32 0)]⟩
theorem k145 : TOk Try.prog 145 d145 := ⟨info_of Try.typeInfo145 rfl rfl rfl rfl, ⟨Try.underlying145, rfl⟩, rfl, rfl, zi_of rfl Try.typeInfo145 rfl⟩
/-- abi.TFlag -/
@[reducible] def y146 : Ty := .int .u8
def d146 : TD := ⟨.int .u8, 1, y146, [(.int .u8 0)]⟩
theorem k146 : TOk Try.prog 146 d146 := ⟨info_of Try.typeInfo146 rfl rfl rfl rfl, ⟨Try.underlying146, rfl⟩, rfl, rfl, zi_of rfl Try.typeInfo146 rfl⟩
/-- abi.Kind -/
@[reducible] def y147 : Ty := .int .u8
def d147 : TD := ⟨.int .u8, 1, y147, [(.int .u8 0)]⟩
theorem k147 : TOk Try.prog 147 d147 := ⟨info_of Try.typeInfo147 rfl rfl rfl rfl, ⟨Try.underlying147, rfl⟩, rfl, rfl, zi_of rfl Try.typeInfo147 rfl⟩
/-- *uint8 -/
@[reducible] def y149 : Ty := .ptr y5
def d149 : TD := ⟨.pointer 5, 8, y149, [(.pointer none)]⟩
theorem k149 : TOk Try.prog 149 d149 := ⟨info_of Try.typeInfo149 rfl rfl rfl rfl, Try.underlying149, rfl, rfl, zi_no rfl⟩
/-- abi.NameOff -/
@[reducible] def y150 : Ty := .int .i32
def d150 : TD := ⟨.int .i32, 4, y150, [(.int .i32 0)]⟩
theorem k150 : TOk Try.prog 150 d150 := ⟨info_of Try.typeInfo150 rfl rfl rfl rfl, ⟨Try.underlying150, rfl⟩, rfl, rfl, zi_of rfl Try.typeInfo150 rfl⟩
/-- abi.TypeOff -/
@[reducible] def y151 : Ty := .int .i32
def d151 : TD := ⟨.int .i32, 4, y151, [(.int .i32 0)]⟩
theorem k151 : TOk Try.prog 151 d151 := ⟨info_of Try.typeInfo151 rfl rfl rfl rfl, ⟨Try.underlying151, rfl⟩, rfl, rfl, zi_of rfl Try.typeInfo151 rfl⟩
/-- []api.Rule -/
@[reducible] def y22 : Ty := .sl y128
def d22 : TD := ⟨.slice 128, 24, y22, [(.slice none 0 0)]⟩
theorem k22 : TOk Try.prog 22 d22 := ⟨info_of Try.typeInfo22 rfl rfl rfl rfl, Try.underlying22, rfl, rfl, zi_no rfl⟩
/-- []api.Level -/
@[reducible] def y25 : Ty := .sl y32
def d25 : TD := ⟨.slice 32, 24, y25, [(.slice none 0 0)]⟩
theorem k25 : TOk Try.prog 25 d25 := ⟨info_of Try.typeInfo25 rfl rfl rfl rfl, Try.underlying25, rfl, rfl, zi_no rfl⟩
/-- *feed.Feed -/
@[reducible] def y37 : Ty := .ptr y109
def d37 : TD := ⟨.pointer 109, 8, y37, [(.pointer none)]⟩
theorem k37 : TOk Try.prog 37 d37 := ⟨info_of Try.typeInfo37 rfl rfl rfl rfl, Try.underlying37, rfl, rfl, zi_no rfl⟩
/-- []api.Sym -/
@[reducible] def y55 : Ty := .sl y105
def d55 : TD := ⟨.slice 105, 24, y55, [(.slice none 0 0)]⟩
theorem k55 : TOk Try.prog 55 d55 := ⟨info_of Try.typeInfo55 rfl rfl rfl rfl, Try.underlying55, rfl, rfl, zi_no rfl⟩
/-- struct { Sort int; Con string; Body []api.Sym; Paren bool; Prec int; Hints []int } -/
@[reducible] def y56 : Ty := .st (.pair y3 (.pair y9 (.pair y55 (.pair y4 (.pair y3 (y30))))))
def d56 : TD := ⟨.struct [(3, 0), (9, 1), (55, 2), (4, 3), (3, 4), (30, 5)], 88, y56, [(.int .i64 0), (.string ByteArray.empty), (.slice none 0 0), (.bool false), (.int .i64 0), (.slice none 0 0)]⟩
theorem k56 : TOk Try.prog 56 d56 := ⟨info_of Try.typeInfo56 rfl rfl rfl rfl, ⟨_, Try.underlying56, rfl⟩, rfl, rfl, zi_no rfl⟩
/-- api.Prod -/
@[reducible] def y57 : Ty := .st (.pair y3 (.pair y9 (.pair y55 (.pair y4 (.pair y3 (y30))))))
def d57 : TD := ⟨.struct [(3, 0), (9, 1), (55, 2), (4, 3), (3, 4), (30, 5)], 88, y57, [(.int .i64 0), (.string ByteArray.empty), (.slice none 0 0), (.bool false), (.int .i64 0), (.slice none 0 0)]⟩
theorem k57 : TOk Try.prog 57 d57 := ⟨info_of Try.typeInfo57 rfl rfl rfl rfl, ⟨_, Try.underlying57, rfl⟩, rfl, rfl, zi_no rfl⟩
/-- []bosketlaw01.Op -/
@[reducible] def y59 : Ty := .sl y63
def d59 : TD := ⟨.slice 63, 24, y59, [(.slice none 0 0)]⟩
theorem k59 : TOk Try.prog 59 d59 := ⟨info_of Try.typeInfo59 rfl rfl rfl rfl, Try.underlying59, rfl, rfl, zi_no rfl⟩
/-- [][]resolve.Action -/
@[reducible] def y80 : Ty := .sl y116
def d80 : TD := ⟨.slice 116, 24, y80, [(.slice none 0 0)]⟩
theorem k80 : TOk Try.prog 80 d80 := ⟨info_of Try.typeInfo80 rfl rfl rfl rfl, Try.underlying80, rfl, rfl, zi_no rfl⟩
/-- struct { Actions [][]resolve.Action; Gotos [][]int; Sorts []int; Lens []int } -/
@[reducible] def y82 : Ty := .st (.pair y80 (.pair y81 (.pair y30 (y30))))
def d82 : TD := ⟨.struct [(80, 0), (81, 1), (30, 2), (30, 3)], 96, y82, [(.slice none 0 0), (.slice none 0 0), (.slice none 0 0), (.slice none 0 0)]⟩
theorem k82 : TOk Try.prog 82 d82 := ⟨info_of Try.typeInfo82 rfl rfl rfl rfl, ⟨_, Try.underlying82, rfl⟩, rfl, rfl, zi_no rfl⟩
/-- table.Table -/
@[reducible] def y83 : Ty := .st (.pair y80 (.pair y81 (.pair y30 (y30))))
def d83 : TD := ⟨.struct [(80, 0), (81, 1), (30, 2), (30, 3)], 96, y83, [(.slice none 0 0), (.slice none 0 0), (.slice none 0 0), (.slice none 0 0)]⟩
theorem k83 : TOk Try.prog 83 d83 := ⟨info_of Try.typeInfo83 rfl rfl rfl rfl, ⟨_, Try.underlying83, rfl⟩, rfl, rfl, zi_no rfl⟩
/-- [][]bosketref27.Action -/
@[reducible] def y89 : Ty := .sl y118
def d89 : TD := ⟨.slice 118, 24, y89, [(.slice none 0 0)]⟩
theorem k89 : TOk Try.prog 89 d89 := ⟨info_of Try.typeInfo89 rfl rfl rfl rfl, Try.underlying89, rfl, rfl, zi_no rfl⟩
/-- struct { Actions [][]bosketref27.Action; Gotos [][]int; Sorts []int; Lens []int } -/
@[reducible] def y90 : Ty := .st (.pair y89 (.pair y81 (.pair y30 (y30))))
def d90 : TD := ⟨.struct [(89, 0), (81, 1), (30, 2), (30, 3)], 96, y90, [(.slice none 0 0), (.slice none 0 0), (.slice none 0 0), (.slice none 0 0)]⟩
theorem k90 : TOk Try.prog 90 d90 := ⟨info_of Try.typeInfo90 rfl rfl rfl rfl, ⟨_, Try.underlying90, rfl⟩, rfl, rfl, zi_no rfl⟩
/-- bosketref28.Table -/
@[reducible] def y91 : Ty := .st (.pair y89 (.pair y81 (.pair y30 (y30))))
def d91 : TD := ⟨.struct [(89, 0), (81, 1), (30, 2), (30, 3)], 96, y91, [(.slice none 0 0), (.slice none 0 0), (.slice none 0 0), (.slice none 0 0)]⟩
theorem k91 : TOk Try.prog 91 d91 := ⟨info_of Try.typeInfo91 rfl rfl rfl rfl, ⟨_, Try.underlying91, rfl⟩, rfl, rfl, zi_no rfl⟩
/-- struct { t table.Table; stack []int; done bool } -/
@[reducible] def y120 : Ty := .st (.pair y83 (.pair y30 (y4)))
def d120 : TD := ⟨.struct [(83, 0), (30, 4), (4, 5)], 128, y120, [(.slice none 0 0), (.slice none 0 0), (.slice none 0 0), (.slice none 0 0), (.slice none 0 0), (.bool false)]⟩
theorem k120 : TOk Try.prog 120 d120 := ⟨info_of Try.typeInfo120 rfl rfl rfl rfl, ⟨_, Try.underlying120, rfl⟩, rfl, rfl, zi_no rfl⟩
/-- drive.Machine -/
@[reducible] def y121 : Ty := .st (.pair y83 (.pair y30 (y4)))
def d121 : TD := ⟨.struct [(83, 0), (30, 4), (4, 5)], 128, y121, [(.slice none 0 0), (.slice none 0 0), (.slice none 0 0), (.slice none 0 0), (.slice none 0 0), (.bool false)]⟩
theorem k121 : TOk Try.prog 121 d121 := ⟨info_of Try.typeInfo121 rfl rfl rfl rfl, ⟨_, Try.underlying121, rfl⟩, rfl, rfl, zi_no rfl⟩
/-- [][]api.Sym -/
@[reducible] def y131 : Ty := .sl y55
def d131 : TD := ⟨.slice 55, 24, y131, [(.slice none 0 0)]⟩
theorem k131 : TOk Try.prog 131 d131 := ⟨info_of Try.typeInfo131 rfl rfl rfl rfl, Try.underlying131, rfl, rfl, zi_no rfl⟩
/-- []api.Prod -/
@[reducible] def y24 : Ty := .sl y57
def d24 : TD := ⟨.slice 57, 24, y24, [(.slice none 0 0)]⟩
theorem k24 : TOk Try.prog 24 d24 := ⟨info_of Try.typeInfo24 rfl rfl rfl rfl, Try.underlying24, rfl, rfl, zi_no rfl⟩
/-- struct { Rules []api.Rule; Sorts []string; Prods []api.Prod; Levels []api.Level; Start int } -/
@[reducible] def y26 : Ty := .st (.pair y22 (.pair y23 (.pair y24 (.pair y25 (y3)))))
def d26 : TD := ⟨.struct [(22, 0), (23, 1), (24, 2), (25, 3), (3, 4)], 104, y26, [(.slice none 0 0), (.slice none 0 0), (.slice none 0 0), (.slice none 0 0), (.int .i64 0)]⟩
theorem k26 : TOk Try.prog 26 d26 := ⟨info_of Try.typeInfo26 rfl rfl rfl rfl, ⟨_, Try.underlying26, rfl⟩, rfl, rfl, zi_no rfl⟩
/-- api.Grammar -/
@[reducible] def y27 : Ty := .st (.pair y22 (.pair y23 (.pair y24 (.pair y25 (y3)))))
def d27 : TD := ⟨.struct [(22, 0), (23, 1), (24, 2), (25, 3), (3, 4)], 104, y27, [(.slice none 0 0), (.slice none 0 0), (.slice none 0 0), (.slice none 0 0), (.int .i64 0)]⟩
theorem k27 : TOk Try.prog 27 d27 := ⟨info_of Try.typeInfo27 rfl rfl rfl rfl, ⟨_, Try.underlying27, rfl⟩, rfl, rfl, zi_no rfl⟩
/-- *drive.Machine -/
@[reducible] def y94 : Ty := .ptr y121
def d94 : TD := ⟨.pointer 121, 8, y94, [(.pointer none)]⟩
theorem k94 : TOk Try.prog 94 d94 := ⟨info_of Try.typeInfo94 rfl rfl rfl rfl, Try.underlying94, rfl, rfl, zi_no rfl⟩
def tab : List (Nat × TD) := [(2, d2), (3, d3), (4, d4), (5, d5), (6, d6), (7, d7), (8, d8), (9, d9), (10, d10), (11, d11), (12, d12), (13, d13), (14, d14), (21, d21), (22, d22), (23, d23), (24, d24), (25, d25), (26, d26), (27, d27), (30, d30), (31, d31), (32, d32), (37, d37), (38, d38), (46, d46), (47, d47), (49, d49), (53, d53), (55, d55), (56, d56), (57, d57), (58, d58), (59, d59), (60, d60), (61, d61), (62, d62), (63, d63), (80, d80), (81, d81), (82, d82), (83, d83), (89, d89), (90, d90), (91, d91), (94, d94), (104, d104), (105, d105), (107, d107), (108, d108), (109, d109), (116, d116), (118, d118), (120, d120), (121, d121), (125, d125), (127, d127), (128, d128), (129, d129), (131, d131), (138, d138), (145, d145), (146, d146), (147, d147), (149, d149), (150, d150), (151, d151)]
theorem tab_ok : TabOk Try.prog (lookT tab) := lookT_ok ((by exact ⟨k2, k3, k4, k5, k6, k7, k8, k9, k10, k11, k12, k13, k14, k21, k22, k23, k24, k25, k26, k27, k30, k31, k32, k37, k38, k46, k47, k49, k53, k55, k56, k57, k58, k59, k60, k61, k62, k63, k80, k81, k82, k83, k89, k90, k91, k94, k104, k105, k107, k108, k109, k116, k118, k120, k121, k125, k127, k128, k129, k131, k138, k145, k146, k147, k149, k150, k151, trivial⟩))
end Go.Proofs.Ytfnjdegejgocfaa.Rf
