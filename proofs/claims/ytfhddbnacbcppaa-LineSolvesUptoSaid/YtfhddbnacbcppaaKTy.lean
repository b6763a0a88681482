import Derived.Test.YtfhddbnacbcppaaKPgO
import Derived.Test.YtfhddbnacbcppaaProg
import Derived.KernelRfl
set_option linter.unusedSimpArgs false
set_option linter.unusedVariables false
set_option linter.unnecessarySimpa false
namespace Go.Proofs.Ytfhddbnacbcppaa
open Go.PG
@[go_sem] theorem tT1 : tab Try.prog 1 = some ⟨1, 8, false, .nilfn, .other⟩ := by kernel_rfl   -- func()
@[go_sem] theorem tT2 : tab Try.prog 2 = some ⟨1, 8, false, .int .i64 0, .int .i64⟩ := by kernel_rfl   -- int64
@[go_sem] theorem tT3 : tab Try.prog 3 = some ⟨1, 8, false, .int .i64 0, .int .i64⟩ := by kernel_rfl   -- int
@[go_sem] theorem tT4 : tab Try.prog 4 = some ⟨1, 1, false, .bool false, .bool⟩ := by kernel_rfl   -- bool
@[go_sem] theorem tT5 : tab Try.prog 5 = some ⟨1, 1, false, .int .u8 0, .int .u8⟩ := by kernel_rfl   -- uint8
@[go_sem] theorem tT9 : tab Try.prog 9 = some ⟨1, 16, false, .str ⟨#[]⟩, .str⟩ := by kernel_rfl   -- string
@[go_sem] theorem tT21 : tab Try.prog 21 = some ⟨1, 4, false, .int .i32 0, .int .i32⟩ := by kernel_rfl   -- int32
@[go_sem] theorem tT22 : tab Try.prog 22 = some ⟨1, 24, false, .nil, .slice 38⟩ := by kernel_rfl   -- []line.Row
@[go_sem] theorem tT23 : tab Try.prog 23 = some ⟨1, 24, false, .nil, .slice 3⟩ := by kernel_rfl   -- []int
@[go_sem] theorem tT24 : tab Try.prog 24 = some ⟨2, 32, true, .agg [.nil, .int .i64 0], .struct [(0, 23), (1, 3)]⟩ := by kernel_rfl   -- struct { Num []int; Den int }
@[go_sem] theorem tT25 : tab Try.prog 25 = some ⟨2, 32, true, .agg [.nil, .int .i64 0], .struct [(0, 23), (1, 3)]⟩ := by kernel_rfl   -- line.Point
@[go_sem] theorem tT26 : tab Try.prog 26 = some ⟨1, 8, false, .int .i64 0, .int .i64⟩ := by kernel_rfl   -- api.Errno
@[go_sem] theorem tT28 : tab Try.prog 28 = some ⟨1, 8, false, .nilfn, .other⟩ := by kernel_rfl   -- func([]line.Row, int) (line.Point, []int, bool, api.Errno)
@[go_sem] theorem tT29 : tab Try.prog 29 = some ⟨1, 8, false, .nilfn, .other⟩ := by kernel_rfl   -- func([]line.Row, int) api.Errno
@[go_sem] theorem tT30 : tab Try.prog 30 = some ⟨1, 8, false, .nilfn, .other⟩ := by kernel_rfl   -- func() bool
@[go_sem] theorem tT31 : tab Try.prog 31 = some ⟨1, 8, false, .nilfn, .other⟩ := by kernel_rfl   -- func([]line.Row, int, []int) bool
@[go_sem] theorem tT32 : tab Try.prog 32 = some ⟨1, 8, false, .nilfn, .other⟩ := by kernel_rfl   -- func([]line.Row, int, line.Point) bool
@[go_sem] theorem tT33 : tab Try.prog 33 = some ⟨1, 8, false, .nilfn, .other⟩ := by kernel_rfl   -- func([]line.Row, int) bool
@[go_sem] theorem tT34 : tab Try.prog 34 = some ⟨1, 8, false, .nilfn, .other⟩ := by kernel_rfl   -- func(int, int) int
@[go_sem] theorem tT35 : tab Try.prog 35 = some ⟨1, 8, false, .nilfn, .other⟩ := by kernel_rfl   -- func(int, []int) []line.Row
@[go_sem] theorem tT36 : tab Try.prog 36 = some ⟨1, 8, false, .nilfn, .other⟩ := by kernel_rfl   -- func([]line.Row) []line.Row
@[go_sem] theorem tT37 : tab Try.prog 37 = some ⟨2, 32, true, .agg [.nil, .int .i64 0], .struct [(0, 23), (1, 3)]⟩ := by kernel_rfl   -- struct { Coef []int; Most int }
@[go_sem] theorem tT38 : tab Try.prog 38 = some ⟨2, 32, true, .agg [.nil, .int .i64 0], .struct [(0, 23), (1, 3)]⟩ := by kernel_rfl   -- line.Row
@[go_sem] theorem tT39 : tab Try.prog 39 = some ⟨1, 8, false, .nilfn, .other⟩ := by kernel_rfl   -- func([]line.Row)
@[go_sem] theorem tT40 : tab Try.prog 40 = some ⟨1, 8, false, .nilfn, .other⟩ := by kernel_rfl   -- func([]int) []int
@[go_sem] theorem tT41 : tab Try.prog 41 = some ⟨1, 8, false, .nilfn, .other⟩ := by kernel_rfl   -- func([]int, int) bool
@[go_sem] theorem tT42 : tab Try.prog 42 = some ⟨1, 24, false, .nil, .slice 55⟩ := by kernel_rfl   -- []api.Party
@[go_sem] theorem tT43 : tab Try.prog 43 = some ⟨1, 24, false, .nil, .slice 49⟩ := by kernel_rfl   -- []api.Datum
@[go_sem] theorem tT44 : tab Try.prog 44 = some ⟨3, 56, true, .agg [.int .i64 0, .nil, .nil], .struct [(0, 3), (1, 42), (2, 43)]⟩ := by kernel_rfl   -- struct { Day int; Parties []api.Party; Data []api.Datum }
@[go_sem] theorem tT45 : tab Try.prog 45 = some ⟨3, 56, true, .agg [.int .i64 0, .nil, .nil], .struct [(0, 3), (1, 42), (2, 43)]⟩ := by kernel_rfl   -- api.View
@[go_sem] theorem tT46 : tab Try.prog 46 = some ⟨2, 16, true, .agg [.int .i64 0, .int .i64 0], .struct [(0, 3), (1, 3)]⟩ := by kernel_rfl   -- struct { Kind int; N int }
@[go_sem] theorem tT47 : tab Try.prog 47 = some ⟨2, 16, true, .agg [.int .i64 0, .int .i64 0], .struct [(0, 3), (1, 3)]⟩ := by kernel_rfl   -- api.Value
@[go_sem] theorem tT48 : tab Try.prog 48 = some ⟨4, 40, true, .agg [.int .i64 0, .str ⟨#[]⟩, .int .i64 0, .int .i64 0], .struct [(0, 3), (1, 9), (2, 47)]⟩ := by kernel_rfl   -- struct { Who int; Attr string; Val api.Value }
@[go_sem] theorem tT49 : tab Try.prog 49 = some ⟨4, 40, true, .agg [.int .i64 0, .str ⟨#[]⟩, .int .i64 0, .int .i64 0], .struct [(0, 3), (1, 9), (2, 47)]⟩ := by kernel_rfl   -- api.Datum
@[go_sem] theorem tT50 : tab Try.prog 50 = some ⟨1, 8, false, .nilfn, .other⟩ := by kernel_rfl   -- func(api.View, api.Datum) api.View
@[go_sem] theorem tT51 : tab Try.prog 51 = some ⟨1, 8, false, .nilfn, .other⟩ := by kernel_rfl   -- func(api.Datum, api.Datum) bool
@[go_sem] theorem tT52 : tab Try.prog 52 = some ⟨1, 8, false, .nilfn, .other⟩ := by kernel_rfl   -- func([]api.Datum, int, ...api.Datum) []api.Datum
@[go_sem] theorem tT53 : tab Try.prog 53 = some ⟨1, 8, false, .nilfn, .other⟩ := by kernel_rfl   -- func([]api.Party, []api.Party) bool
@[go_sem] theorem tT54 : tab Try.prog 54 = some ⟨2, 16, true, .agg [.int .i64 0, .int .i64 0], .struct [(0, 3), (1, 3)]⟩ := by kernel_rfl   -- struct { ID int; House int }
@[go_sem] theorem tT55 : tab Try.prog 55 = some ⟨2, 16, true, .agg [.int .i64 0, .int .i64 0], .struct [(0, 3), (1, 3)]⟩ := by kernel_rfl   -- api.Party
@[go_sem] theorem tT56 : tab Try.prog 56 = some ⟨1, 8, false, .nilfn, .other⟩ := by kernel_rfl   -- func([]api.Datum, []api.Datum) bool
@[go_sem] theorem tT57 : tab Try.prog 57 = some ⟨1, 8, false, .nilfn, .other⟩ := by kernel_rfl   -- func(api.View, int, string) api.Value
@[go_sem] theorem tT58 : tab Try.prog 58 = some ⟨1, 8, false, .nilfn, .other⟩ := by kernel_rfl   -- func(api.View, api.View) bool
@[go_sem] theorem tT59 : tab Try.prog 59 = some ⟨1, 8, false, .nilfn, .other⟩ := by kernel_rfl   -- func(api.View) api.View
@[go_sem] theorem tT60 : tab Try.prog 60 = some ⟨1, 8, false, .nilfn, .other⟩ := by kernel_rfl   -- func(api.View, api.Datum) bool
@[go_sem] theorem tT61 : tab Try.prog 61 = some ⟨1, 8, false, .nilfn, .other⟩ := by kernel_rfl   -- func([]line.Row, int, line.Point, []int) bool
@[go_sem] theorem tT62 : tab Try.prog 62 = some ⟨1, 8, false, .nilp, .ptr 64⟩ := by kernel_rfl   -- *mootmake.Stream
@[go_sem] theorem tT63 : tab Try.prog 63 = some ⟨1, 24, true, .agg [.nil], .struct [(0, 23)]⟩ := by kernel_rfl   -- struct { L []int }
@[go_sem] theorem tT64 : tab Try.prog 64 = some ⟨1, 24, true, .agg [.nil], .struct [(0, 23)]⟩ := by kernel_rfl   -- mootmake.Stream
@[go_sem] theorem tT65 : tab Try.prog 65 = some ⟨1, 8, false, .nilfn, .other⟩ := by kernel_rfl   -- func(int) int
@[go_sem] theorem tT66 : tab Try.prog 66 = some ⟨1, 8, false, .nilfn, .other⟩ := by kernel_rfl   -- func([]line.Row, func(line.Row) bool) []line.Row
@[go_sem] theorem tT67 : tab Try.prog 67 = some ⟨1, 8, false, .nilfn, .other⟩ := by kernel_rfl   -- func(line.Row) bool
@[go_sem] theorem tT68 : tab Try.prog 68 = some ⟨1, 8, false, .nilfn, .other⟩ := by kernel_rfl   -- func([]int, []int, int) bool
@[go_sem] theorem tT69 : tab Try.prog 69 = some ⟨1, 24, false, .nil, .slice 71⟩ := by kernel_rfl   -- []line.row
@[go_sem] theorem tT70 : tab Try.prog 70 = some ⟨3, 56, true, .agg [.nil, .int .i64 0, .nil], .struct [(0, 38), (2, 23)]⟩ := by kernel_rfl   -- struct { line.Row; by []int }
@[go_sem] theorem tT71 : tab Try.prog 71 = some ⟨3, 56, true, .agg [.nil, .int .i64 0, .nil], .struct [(0, 38), (2, 23)]⟩ := by kernel_rfl   -- line.row
@[go_sem] theorem tT72 : tab Try.prog 72 = some ⟨1, 24, false, .nil, .slice 69⟩ := by kernel_rfl   -- [][]line.row
@[go_sem] theorem tT73 : tab Try.prog 73 = some ⟨1, 8, false, .nilfn, .other⟩ := by kernel_rfl   -- func([]line.row, int) []line.row
@[go_sem] theorem tT74 : tab Try.prog 74 = some ⟨1, 24, false, .nil, .slice 76⟩ := by kernel_rfl   -- []line.frac
@[go_sem] theorem tT75 : tab Try.prog 75 = some ⟨2, 16, true, .agg [.int .i64 0, .int .i64 0], .struct [(0, 3), (1, 3)]⟩ := by kernel_rfl   -- struct { n int; d int }
@[go_sem] theorem tT76 : tab Try.prog 76 = some ⟨2, 16, true, .agg [.int .i64 0, .int .i64 0], .struct [(0, 3), (1, 3)]⟩ := by kernel_rfl   -- line.frac
@[go_sem] theorem tT77 : tab Try.prog 77 = some ⟨1, 8, false, .nilfn, .other⟩ := by kernel_rfl   -- func([]line.row, int, []line.frac) line.frac
@[go_sem] theorem tT78 : tab Try.prog 78 = some ⟨1, 8, false, .nilfn, .other⟩ := by kernel_rfl   -- func([]api.Party) []api.Party
@[go_sem] theorem tT79 : tab Try.prog 79 = some ⟨1, 8, false, .nilfn, .other⟩ := by kernel_rfl   -- func(api.Datum, api.Datum) int
@[go_sem] theorem tT80 : tab Try.prog 80 = some ⟨1, 8, false, .nilfn, .other⟩ := by kernel_rfl   -- func([]api.Datum, int)
@[go_sem] theorem tT81 : tab Try.prog 81 = some ⟨1, 8, false, .nilfn, .other⟩ := by kernel_rfl   -- func(int) api.View
@[go_sem] theorem tT82 : tab Try.prog 82 = some ⟨1, 8, false, .nilfn, .other⟩ := by kernel_rfl   -- func(api.View) api.Errno
@[go_sem] theorem tT83 : tab Try.prog 83 = some ⟨1, 8, false, .nilfn, .other⟩ := by kernel_rfl   -- func([]api.Datum, func(api.Datum) bool) int
@[go_sem] theorem tT84 : tab Try.prog 84 = some ⟨1, 8, false, .nilfn, .other⟩ := by kernel_rfl   -- func(api.Datum) bool
@[go_sem] theorem tT85 : tab Try.prog 85 = some ⟨1, 8, false, .nilfn, .other⟩ := by kernel_rfl   -- func([]api.Datum) []api.Datum
@[go_sem] theorem tT86 : tab Try.prog 86 = some ⟨1, 8, false, .nilfn, .other⟩ := by kernel_rfl   -- func([]line.Row, func(line.Row) bool) int
@[go_sem] theorem tT87 : tab Try.prog 87 = some ⟨1, 8, false, .nilfn, .other⟩ := by kernel_rfl   -- func(line.row, int, line.row, int) line.row
@[go_sem] theorem tT88 : tab Try.prog 88 = some ⟨1, 8, false, .nilfn, .other⟩ := by kernel_rfl   -- func(int, int) line.frac
@[go_sem] theorem tT89 : tab Try.prog 89 = some ⟨1, 8, false, .nilfn, .other⟩ := by kernel_rfl   -- func([]line.frac, func(line.frac, line.frac) int) line.frac
@[go_sem] theorem tT90 : tab Try.prog 90 = some ⟨1, 8, false, .nilfn, .other⟩ := by kernel_rfl   -- func(line.frac, line.frac) int
@[go_sem] theorem tT91 : tab Try.prog 91 = some ⟨1, 8, false, .nilfn, .other⟩ := by kernel_rfl   -- func(...int) int
@[go_sem] theorem tT92 : tab Try.prog 92 = some ⟨1, 8, false, .nilfn, .other⟩ := by kernel_rfl   -- func(string, string) int
@[go_sem] theorem tT93 : tab Try.prog 93 = some ⟨1, 8, false, .nilfn, .other⟩ := by kernel_rfl   -- func() api.View
@[go_sem] theorem tT94 : tab Try.prog 94 = some ⟨1, 8, false, .nilfn, .other⟩ := by kernel_rfl   -- func([]api.Party, func(api.Party) bool) bool
@[go_sem] theorem tT95 : tab Try.prog 95 = some ⟨1, 8, false, .nilfn, .other⟩ := by kernel_rfl   -- func(api.Party) bool
@[go_sem] theorem tT96 : tab Try.prog 96 = some ⟨1, 8, false, .nilfn, .other⟩ := by kernel_rfl   -- func(line.frac, line.frac) bool
@[go_sem] theorem tT97 : tab Try.prog 97 = some ⟨1, 8, false, .nilfn, .other⟩ := by kernel_rfl   -- func(int) bool
@[go_sem] theorem tT98 : tab Try.prog 98 = some ⟨1, 8, false, .nilfn, .other⟩ := by kernel_rfl   -- func(string) bool
@[go_sem] theorem tT99 : tab Try.prog 99 = some ⟨1, 8, false, .nilfn, .other⟩ := by kernel_rfl   -- func([]api.Datum)
@[go_sem] theorem tT100 : tab Try.prog 100 = some ⟨1, 8, false, .nilfn, .other⟩ := by kernel_rfl   -- func([]api.Party, func(api.Party) bool) int
@[go_sem] theorem tT101 : tab Try.prog 101 = some ⟨1, 8, false, .int .u64 0, .int .u64⟩ := by kernel_rfl   -- uint64
@[go_sem] theorem tT102 : tab Try.prog 102 = some ⟨3, 24, true, .agg [.bool false, .int .u64 0, .int .u64 0], .struct [(0, 4), (1, 101), (2, 101)]⟩ := by kernel_rfl   -- struct { neg bool; hi uint64; lo uint64 }
@[go_sem] theorem tT103 : tab Try.prog 103 = some ⟨3, 24, true, .agg [.bool false, .int .u64 0, .int .u64 0], .struct [(0, 4), (1, 101), (2, 101)]⟩ := by kernel_rfl   -- line.product
@[go_sem] theorem tT104 : tab Try.prog 104 = some ⟨1, 8, false, .nilfn, .other⟩ := by kernel_rfl   -- func(int, int) line.product
@[go_sem] theorem tT106 : tab Try.prog 106 = some ⟨1, 8, false, .nilfn, .other⟩ := by kernel_rfl   -- func(uint64, uint64) (uint64, uint64)
@[go_sem] theorem tT107 : tab Try.prog 107 = some ⟨1, 8, false, .int .u64 0, .int .u64⟩ := by kernel_rfl   -- uint
@[go_sem] theorem tT108 : tab Try.prog 108 = some ⟨1, 8, false, .nilfn, .other⟩ := by kernel_rfl   -- func() string
@[go_sem] theorem tT114 : tab Try.prog 114 = some ⟨1, 8, false, .nilfn, .other⟩ := by kernel_rfl   -- func() int
@[go_sem] theorem tT115 : tab Try.prog 115 = some ⟨1, 4, false, .int .u32 0, .int .u32⟩ := by kernel_rfl   -- uint32
@[go_sem] theorem tT118 : tab Try.prog 118 = some ⟨1, 8, false, .nilfn, .other⟩ := by kernel_rfl   -- func(unsafe.Pointer, unsafe.Pointer) bool
@[go_sem] theorem tT119 : tab Try.prog 119 = some ⟨1, 8, false, .nilp, .ptr 5⟩ := by kernel_rfl   -- *uint8
@[go_sem] theorem tT124 : tab Try.prog 124 = some ⟨1, 8, false, .nilp, .other⟩ := by kernel_rfl   -- unsafe.Pointer
end Go.Proofs.Ytfhddbnacbcppaa
