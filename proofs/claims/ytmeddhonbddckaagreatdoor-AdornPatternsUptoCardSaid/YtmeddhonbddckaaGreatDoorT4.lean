/- the table of types, row by row. -/
import Derived.Test.YtmeddhonbddckaaGreatDoorT1
set_option linter.all false
namespace Go.Proofs.Tryz
open Go Go.GL
abbrev tb := tbL tbRows
theorem tb0 : tb 0 = ⟨.other, 1, 0, [.undef], [], false⟩ := rfl
theorem tb1 : tb 1 = ⟨.func, 1, 8, [.nilfn], [], false⟩ := rfl
theorem tb2 : tb 2 = ⟨.int .i64, 1, 8, [.data (.int .i64 0)], [.int .i64], false⟩ := rfl
theorem tb3 : tb 3 = ⟨.int .i64, 1, 8, [.data (.int .i64 0)], [.int .i64], false⟩ := rfl
theorem tb4 : tb 4 = ⟨.bool, 1, 1, [.data (.bool false)], [.bool], false⟩ := rfl
theorem tb5 : tb 5 = ⟨.int .u8, 1, 1, [.data (.int .u8 0)], [.int .u8], false⟩ := rfl
theorem tb6 : tb 6 = ⟨.int .u8, 1, 1, [.data (.int .u8 0)], [.int .u8], false⟩ := rfl
theorem tb7 : tb 7 = ⟨.struct [(0, 1, false), (1, 1, false), (2, 1, false), (3, 1, false)], 4, 24, [.data (.int .i64 0), .data (.int .i64 0), .data (.bool false), .data (.int .u8 0)], [.int .i64, .int .i64, .bool, .int .u8], false⟩ := rfl
theorem tb8 : tb 8 = ⟨.struct [(0, 1, false), (1, 1, false), (2, 1, false), (3, 1, false)], 4, 24, [.data (.int .i64 0), .data (.int .i64 0), .data (.bool false), .data (.int .u8 0)], [.int .i64, .int .i64, .bool, .int .u8], false⟩ := rfl
theorem tb9 : tb 9 = ⟨.str, 1, 16, [.data (.str ⟨#[]⟩)], [.str], true⟩ := rfl
theorem tb10 : tb 10 = ⟨.str, 1, 16, [.data (.str ⟨#[]⟩)], [.str], false⟩ := rfl
theorem tb11 : tb 11 = ⟨.str, 1, 16, [.data (.str ⟨#[]⟩)], [.str], false⟩ := rfl
theorem tb12 : tb 12 = ⟨.int .u64, 1, 8, [.data (.int .u64 0)], [.int .u64], false⟩ := rfl
theorem tb13 : tb 13 = ⟨.struct [(0, 1, false), (1, 1, false)], 2, 24, [.data (.str ⟨#[]⟩), .data (.int .u64 0)], [], false⟩ := rfl
theorem tb14 : tb 14 = ⟨.struct [(0, 1, false), (1, 1, false)], 2, 24, [.data (.str ⟨#[]⟩), .data (.int .u64 0)], [], false⟩ := rfl
theorem tb15 : tb 15 = ⟨.ptr 239, 1, 8, [.nilptr], [], false⟩ := rfl
theorem tb16 : tb 16 = ⟨.ptr 242, 1, 8, [.nilptr], [], false⟩ := rfl
theorem tb17 : tb 17 = ⟨.ptr 251, 1, 8, [.nilptr], [], false⟩ := rfl
theorem tb18 : tb 18 = ⟨.struct [(0, 1, false)], 1, 8, [.nilptr], [], false⟩ := rfl
theorem tb19 : tb 19 = ⟨.struct [(0, 1, false)], 1, 8, [.nilptr], [], false⟩ := rfl
theorem tb20 : tb 20 = ⟨.iface, 1, 16, [.niliface], [], false⟩ := rfl
theorem tb21 : tb 21 = ⟨.int .i32, 1, 4, [.data (.int .i32 0)], [.int .i32], false⟩ := rfl
theorem tb22 : tb 22 = ⟨.slice 37, 1, 24, [.data (.slice true 0 [])], [], false⟩ := rfl
theorem tb23 : tb 23 = ⟨.struct [(0, 1, false), (1, 1, false)], 2, 40, [.data (.str ⟨#[]⟩), .data (.slice true 0 [])], [], false⟩ := rfl
theorem tb24 : tb 24 = ⟨.struct [(0, 1, false), (1, 1, false)], 2, 40, [.data (.str ⟨#[]⟩), .data (.slice true 0 [])], [], false⟩ := rfl
theorem tb25 : tb 25 = ⟨.slice 9, 1, 24, [.data (.slice true 0 [])], [], false⟩ := rfl
theorem tb26 : tb 26 = ⟨.struct [(0, 1, false), (1, 1, false)], 2, 32, [.data (.str ⟨#[]⟩), .data (.str ⟨#[]⟩)], [.str, .str], false⟩ := rfl
theorem tb27 : tb 27 = ⟨.struct [(0, 1, false), (1, 1, false)], 2, 32, [.data (.str ⟨#[]⟩), .data (.str ⟨#[]⟩)], [.str, .str], true⟩ := rfl
theorem tb28 : tb 28 = ⟨.func, 1, 8, [.nilfn], [], false⟩ := rfl
theorem tb29 : tb 29 = ⟨.int .i8, 1, 1, [.data (.int .i8 0)], [.int .i8], false⟩ := rfl
theorem tb30 : tb 30 = ⟨.int .i8, 1, 1, [.data (.int .i8 0)], [.int .i8], false⟩ := rfl
theorem tb31 : tb 31 = ⟨.int .i8, 1, 1, [.data (.int .i8 0)], [.int .i8], false⟩ := rfl
theorem tb32 : tb 32 = ⟨.int .i8, 1, 1, [.data (.int .i8 0)], [.int .i8], false⟩ := rfl
theorem tb33 : tb 33 = ⟨.int .i8, 1, 1, [.data (.int .i8 0)], [.int .i8], false⟩ := rfl
theorem tb34 : tb 34 = ⟨.struct [(0, 1, false), (1, 1, false), (2, 1, false)], 3, 32, [.data (.int .i8 0), .data (.int .i64 0), .data (.str ⟨#[]⟩)], [.int .i8, .int .i64, .str], false⟩ := rfl
theorem tb35 : tb 35 = ⟨.struct [(0, 1, false), (1, 1, false), (2, 1, false)], 3, 32, [.data (.int .i8 0), .data (.int .i64 0), .data (.str ⟨#[]⟩)], [.int .i8, .int .i64, .str], false⟩ := rfl
theorem tb36 : tb 36 = ⟨.struct [(0, 1, false), (1, 3, true)], 4, 48, [.data (.str ⟨#[]⟩), .data (.int .i8 0), .data (.int .i64 0), .data (.str ⟨#[]⟩)], [.str, .int .i8, .int .i64, .str], false⟩ := rfl
theorem tb37 : tb 37 = ⟨.struct [(0, 1, false), (1, 3, true)], 4, 48, [.data (.str ⟨#[]⟩), .data (.int .i8 0), .data (.int .i64 0), .data (.str ⟨#[]⟩)], [.str, .int .i8, .int .i64, .str], false⟩ := rfl
theorem tb38 : tb 38 = ⟨.slice 40, 1, 24, [.data (.slice true 0 [])], [], false⟩ := rfl
theorem tb39 : tb 39 = ⟨.struct [(0, 1, false), (1, 4, true), (5, 1, false)], 6, 80, [.data (.int .i8 0), .data (.str ⟨#[]⟩), .data (.int .i8 0), .data (.int .i64 0), .data (.str ⟨#[]⟩), .data (.slice true 0 [])], [], false⟩ := rfl
theorem tb40 : tb 40 = ⟨.struct [(0, 1, false), (1, 4, true), (5, 1, false)], 6, 80, [.data (.int .i8 0), .data (.str ⟨#[]⟩), .data (.int .i8 0), .data (.int .i64 0), .data (.str ⟨#[]⟩), .data (.slice true 0 [])], [], false⟩ := rfl
theorem tb41 : tb 41 = ⟨.struct [(0, 1, false), (1, 2, true), (3, 1, false), (4, 6, true), (10, 6, true)], 16, 216, [.data (.int .i8 0), .data (.str ⟨#[]⟩), .data (.slice true 0 []), .data (.int .i8 0), .data (.int .i8 0), .data (.str ⟨#[]⟩), .data (.int .i8 0), .data (.int .i64 0), .data (.str ⟨#[]⟩), .data (.slice true 0 []), .data (.int .i8 0), .data (.str ⟨#[]⟩), .data (.int .i8 0), .data (.int .i64 0), .data (.str ⟨#[]⟩), .data (.slice true 0 [])], [], false⟩ := rfl
theorem tb42 : tb 42 = ⟨.struct [(0, 1, false), (1, 2, true), (3, 1, false), (4, 6, true), (10, 6, true)], 16, 216, [.data (.int .i8 0), .data (.str ⟨#[]⟩), .data (.slice true 0 []), .data (.int .i8 0), .data (.int .i8 0), .data (.str ⟨#[]⟩), .data (.int .i8 0), .data (.int .i64 0), .data (.str ⟨#[]⟩), .data (.slice true 0 []), .data (.int .i8 0), .data (.str ⟨#[]⟩), .data (.int .i8 0), .data (.int .i64 0), .data (.str ⟨#[]⟩), .data (.slice true 0 [])], [], false⟩ := rfl
theorem tb43 : tb 43 = ⟨.slice 42, 1, 24, [.data (.slice true 0 [])], [], false⟩ := rfl
theorem tb44 : tb 44 = ⟨.func, 1, 8, [.nilfn], [], false⟩ := rfl
theorem tb45 : tb 45 = ⟨.func, 1, 8, [.nilfn], [], false⟩ := rfl
theorem tb46 : tb 46 = ⟨.func, 1, 8, [.nilfn], [], false⟩ := rfl
theorem tb47 : tb 47 = ⟨.func, 1, 8, [.nilfn], [], false⟩ := rfl
theorem tb48 : tb 48 = ⟨.func, 1, 8, [.nilfn], [], false⟩ := rfl
theorem tb49 : tb 49 = ⟨.func, 1, 8, [.nilfn], [], false⟩ := rfl
theorem tb50 : tb 50 = ⟨.func, 1, 8, [.nilfn], [], false⟩ := rfl
theorem tb51 : tb 51 = ⟨.func, 1, 8, [.nilfn], [], false⟩ := rfl
theorem tb52 : tb 52 = ⟨.slice 66, 1, 24, [.data (.slice true 0 [])], [], false⟩ := rfl
theorem tb53 : tb 53 = ⟨.func, 1, 8, [.nilfn], [], false⟩ := rfl
theorem tb54 : tb 54 = ⟨.slice 138, 1, 24, [.data (.slice true 0 [])], [], false⟩ := rfl
theorem tb55 : tb 55 = ⟨.struct [(0, 1, false), (1, 2, true), (3, 1, false)], 4, 88, [.data (.slice true 0 []), .data (.str ⟨#[]⟩), .data (.slice true 0 []), .data (.slice true 0 [])], [], false⟩ := rfl
theorem tb56 : tb 56 = ⟨.struct [(0, 1, false), (1, 2, true), (3, 1, false)], 4, 88, [.data (.slice true 0 []), .data (.str ⟨#[]⟩), .data (.slice true 0 []), .data (.slice true 0 [])], [], false⟩ := rfl
theorem tb57 : tb 57 = ⟨.slice 27, 1, 24, [.data (.slice true 0 [])], [], false⟩ := rfl
theorem tb58 : tb 58 = ⟨.int .i64, 1, 8, [.data (.int .i64 0)], [.int .i64], false⟩ := rfl
theorem tb59 : tb 59 = ⟨.other, 1, 0, [.undef], [], false⟩ := rfl
theorem tb60 : tb 60 = ⟨.func, 1, 8, [.nilfn], [], false⟩ := rfl
theorem tb61 : tb 61 = ⟨.func, 1, 8, [.nilfn], [], false⟩ := rfl
theorem tb62 : tb 62 = ⟨.func, 1, 8, [.nilfn], [], false⟩ := rfl
theorem tb63 : tb 63 = ⟨.func, 1, 8, [.nilfn], [], false⟩ := rfl
theorem tb64 : tb 64 = ⟨.slice 100, 1, 24, [.data (.slice true 0 [])], [], false⟩ := rfl
theorem tb65 : tb 65 = ⟨.struct [(0, 1, false), (1, 1, false), (2, 1, false)], 3, 64, [.data (.str ⟨#[]⟩), .data (.slice true 0 []), .data (.slice true 0 [])], [], false⟩ := rfl
theorem tb66 : tb 66 = ⟨.struct [(0, 1, false), (1, 1, false), (2, 1, false)], 3, 64, [.data (.str ⟨#[]⟩), .data (.slice true 0 []), .data (.slice true 0 [])], [], false⟩ := rfl
theorem tb67 : tb 67 = ⟨.func, 1, 8, [.nilfn], [], false⟩ := rfl
theorem tb68 : tb 68 = ⟨.func, 1, 8, [.nilfn], [], false⟩ := rfl
theorem tb69 : tb 69 = ⟨.func, 1, 8, [.nilfn], [], false⟩ := rfl
theorem tb70 : tb 70 = ⟨.func, 1, 8, [.nilfn], [], false⟩ := rfl
theorem tb71 : tb 71 = ⟨.func, 1, 8, [.nilfn], [], false⟩ := rfl
theorem tb72 : tb 72 = ⟨.other, 1, 0, [.undef], [], false⟩ := rfl
theorem tb73 : tb 73 = ⟨.func, 1, 8, [.nilfn], [], false⟩ := rfl
theorem tb74 : tb 74 = ⟨.func, 1, 8, [.nilfn], [], false⟩ := rfl
theorem tb75 : tb 75 = ⟨.func, 1, 8, [.nilfn], [], false⟩ := rfl
theorem tb76 : tb 76 = ⟨.func, 1, 8, [.nilfn], [], false⟩ := rfl
theorem tb77 : tb 77 = ⟨.func, 1, 8, [.nilfn], [], false⟩ := rfl
theorem tb78 : tb 78 = ⟨.slice 5, 1, 24, [.data (.slice true 0 [])], [], false⟩ := rfl
theorem tb79 : tb 79 = ⟨.func, 1, 8, [.nilfn], [], false⟩ := rfl
theorem tb80 : tb 80 = ⟨.other, 1, 0, [.undef], [], false⟩ := rfl
theorem tb81 : tb 81 = ⟨.func, 1, 8, [.nilfn], [], false⟩ := rfl
theorem tb82 : tb 82 = ⟨.map 9 3, 1, 8, [.nilmap], [], false⟩ := rfl
theorem tb83 : tb 83 = ⟨.other, 1, 0, [.undef], [], false⟩ := rfl
theorem tb84 : tb 84 = ⟨.func, 1, 8, [.nilfn], [], false⟩ := rfl
theorem tb85 : tb 85 = ⟨.ptr 91, 1, 8, [.nilptr], [], false⟩ := rfl
theorem tb86 : tb 86 = ⟨.map 9 52, 1, 8, [.nilmap], [], false⟩ := rfl
theorem tb87 : tb 87 = ⟨.map 27 3, 1, 8, [.nilmap], [], false⟩ := rfl
theorem tb88 : tb 88 = ⟨.struct [(0, 1, false), (1, 1, false)], 2, 32, [.data (.slice true 0 []), .nilmap], [], false⟩ := rfl
theorem tb89 : tb 89 = ⟨.struct [(0, 1, false), (1, 1, false)], 2, 32, [.data (.slice true 0 []), .nilmap], [], false⟩ := rfl
theorem tb90 : tb 90 = ⟨.struct [(0, 2, true), (2, 1, false), (3, 1, false)], 4, 64, [.data (.slice true 0 []), .nilmap, .nilmap, .data (.slice true 0 [])], [], false⟩ := rfl
theorem tb91 : tb 91 = ⟨.struct [(0, 2, true), (2, 1, false), (3, 1, false)], 4, 64, [.data (.slice true 0 []), .nilmap, .nilmap, .data (.slice true 0 [])], [], false⟩ := rfl
theorem tb92 : tb 92 = ⟨.func, 1, 8, [.nilfn], [], false⟩ := rfl
theorem tb93 : tb 93 = ⟨.func, 1, 8, [.nilfn], [], false⟩ := rfl
theorem tb94 : tb 94 = ⟨.func, 1, 8, [.nilfn], [], false⟩ := rfl
theorem tb95 : tb 95 = ⟨.func, 1, 8, [.nilfn], [], false⟩ := rfl
theorem tb96 : tb 96 = ⟨.slice 4, 1, 24, [.data (.slice true 0 [])], [], false⟩ := rfl
theorem tb97 : tb 97 = ⟨.func, 1, 8, [.nilfn], [], false⟩ := rfl
theorem tb98 : tb 98 = ⟨.int .i8, 1, 1, [.data (.int .i8 0)], [.int .i8], false⟩ := rfl
theorem tb99 : tb 99 = ⟨.struct [(0, 1, false), (1, 4, true)], 5, 56, [.data (.int .i8 0), .data (.str ⟨#[]⟩), .data (.int .i8 0), .data (.int .i64 0), .data (.str ⟨#[]⟩)], [.int .i8, .str, .int .i8, .int .i64, .str], false⟩ := rfl
theorem tb100 : tb 100 = ⟨.struct [(0, 1, false), (1, 4, true)], 5, 56, [.data (.int .i8 0), .data (.str ⟨#[]⟩), .data (.int .i8 0), .data (.int .i64 0), .data (.str ⟨#[]⟩)], [.int .i8, .str, .int .i8, .int .i64, .str], false⟩ := rfl
theorem tb101 : tb 101 = ⟨.func, 1, 8, [.nilfn], [], false⟩ := rfl
theorem tb102 : tb 102 = ⟨.func, 1, 8, [.nilfn], [], false⟩ := rfl
theorem tb103 : tb 103 = ⟨.ptr 24, 1, 8, [.nilptr], [], false⟩ := rfl
theorem tb104 : tb 104 = ⟨.func, 1, 8, [.nilfn], [], false⟩ := rfl
theorem tb105 : tb 105 = ⟨.func, 1, 8, [.nilfn], [], false⟩ := rfl
theorem tb106 : tb 106 = ⟨.func, 1, 8, [.nilfn], [], false⟩ := rfl
theorem tb107 : tb 107 = ⟨.func, 1, 8, [.nilfn], [], false⟩ := rfl
theorem tb108 : tb 108 = ⟨.func, 1, 8, [.nilfn], [], false⟩ := rfl
theorem tb109 : tb 109 = ⟨.func, 1, 8, [.nilfn], [], false⟩ := rfl
theorem tb110 : tb 110 = ⟨.func, 1, 8, [.nilfn], [], false⟩ := rfl
theorem tb111 : tb 111 = ⟨.slice 118, 1, 24, [.data (.slice true 0 [])], [], false⟩ := rfl
theorem tb112 : tb 112 = ⟨.other, 1, 0, [.undef], [], false⟩ := rfl
theorem tb113 : tb 113 = ⟨.func, 1, 8, [.nilfn], [], false⟩ := rfl
theorem tb114 : tb 114 = ⟨.struct [(0, 1, false)], 1, 24, [.data (.slice true 0 [])], [], false⟩ := rfl
theorem tb115 : tb 115 = ⟨.struct [(0, 1, false)], 1, 24, [.data (.slice true 0 [])], [], false⟩ := rfl
theorem tb116 : tb 116 = ⟨.func, 1, 8, [.nilfn], [], false⟩ := rfl
theorem tb117 : tb 117 = ⟨.struct [(0, 1, false), (1, 1, false)], 2, 24, [.data (.str ⟨#[]⟩), .data (.int .i64 0)], [.str, .int .i64], false⟩ := rfl
theorem tb118 : tb 118 = ⟨.struct [(0, 1, false), (1, 1, false)], 2, 24, [.data (.str ⟨#[]⟩), .data (.int .i64 0)], [.str, .int .i64], false⟩ := rfl
theorem tb119 : tb 119 = ⟨.ptr 89, 1, 8, [.nilptr], [], false⟩ := rfl
theorem tb120 : tb 120 = ⟨.func, 1, 8, [.nilfn], [], false⟩ := rfl
theorem tb121 : tb 121 = ⟨.func, 1, 8, [.nilfn], [], false⟩ := rfl
theorem tb122 : tb 122 = ⟨.func, 1, 8, [.nilfn], [], false⟩ := rfl
theorem tb123 : tb 123 = ⟨.func, 1, 8, [.nilfn], [], false⟩ := rfl
theorem tb124 : tb 124 = ⟨.func, 1, 8, [.nilfn], [], false⟩ := rfl
theorem tb125 : tb 125 = ⟨.func, 1, 8, [.nilfn], [], false⟩ := rfl
theorem tb126 : tb 126 = ⟨.func, 1, 8, [.nilfn], [], false⟩ := rfl
theorem tb127 : tb 127 = ⟨.func, 1, 8, [.nilfn], [], false⟩ := rfl
theorem tb128 : tb 128 = ⟨.func, 1, 8, [.nilfn], [], false⟩ := rfl
theorem tb129 : tb 129 = ⟨.func, 1, 8, [.nilfn], [], false⟩ := rfl
theorem tb130 : tb 130 = ⟨.func, 1, 8, [.nilfn], [], false⟩ := rfl
theorem tb131 : tb 131 = ⟨.ptr 42, 1, 8, [.nilptr], [], false⟩ := rfl
theorem tb132 : tb 132 = ⟨.func, 1, 8, [.nilfn], [], false⟩ := rfl
theorem tb133 : tb 133 = ⟨.ptr 37, 1, 8, [.nilptr], [], false⟩ := rfl
theorem tb134 : tb 134 = ⟨.func, 1, 8, [.nilfn], [], false⟩ := rfl
theorem tb135 : tb 135 = ⟨.func, 1, 8, [.nilfn], [], false⟩ := rfl
theorem tb136 : tb 136 = ⟨.slice 35, 1, 24, [.data (.slice true 0 [])], [], false⟩ := rfl
theorem tb137 : tb 137 = ⟨.struct [(0, 1, false), (1, 1, false)], 2, 40, [.data (.str ⟨#[]⟩), .data (.slice true 0 [])], [], false⟩ := rfl
theorem tb138 : tb 138 = ⟨.struct [(0, 1, false), (1, 1, false)], 2, 40, [.data (.str ⟨#[]⟩), .data (.slice true 0 [])], [], false⟩ := rfl
theorem tb139 : tb 139 = ⟨.func, 1, 8, [.nilfn], [], false⟩ := rfl
theorem tb140 : tb 140 = ⟨.func, 1, 8, [.nilfn], [], false⟩ := rfl
theorem tb141 : tb 141 = ⟨.func, 1, 8, [.nilfn], [], false⟩ := rfl
theorem tb142 : tb 142 = ⟨.func, 1, 8, [.nilfn], [], false⟩ := rfl
theorem tb143 : tb 143 = ⟨.map 9 3, 1, 8, [.nilmap], [], false⟩ := rfl
theorem tb144 : tb 144 = ⟨.func, 1, 8, [.nilfn], [], false⟩ := rfl
theorem tb145 : tb 145 = ⟨.func, 1, 8, [.nilfn], [], false⟩ := rfl
theorem tb146 : tb 146 = ⟨.func, 1, 8, [.nilfn], [], false⟩ := rfl
theorem tb147 : tb 147 = ⟨.func, 1, 8, [.nilfn], [], false⟩ := rfl
theorem tb148 : tb 148 = ⟨.func, 1, 8, [.nilfn], [], false⟩ := rfl
theorem tb149 : tb 149 = ⟨.func, 1, 8, [.nilfn], [], false⟩ := rfl
theorem tb150 : tb 150 = ⟨.func, 1, 8, [.nilfn], [], false⟩ := rfl
theorem tb151 : tb 151 = ⟨.func, 1, 8, [.nilfn], [], false⟩ := rfl
theorem tb152 : tb 152 = ⟨.func, 1, 8, [.nilfn], [], false⟩ := rfl
theorem tb153 : tb 153 = ⟨.func, 1, 8, [.nilfn], [], false⟩ := rfl
theorem tb154 : tb 154 = ⟨.func, 1, 8, [.nilfn], [], false⟩ := rfl
theorem tb155 : tb 155 = ⟨.func, 1, 8, [.nilfn], [], false⟩ := rfl
theorem tb156 : tb 156 = ⟨.func, 1, 8, [.nilfn], [], false⟩ := rfl
theorem tb157 : tb 157 = ⟨.func, 1, 8, [.nilfn], [], false⟩ := rfl
theorem tb158 : tb 158 = ⟨.func, 1, 8, [.nilfn], [], false⟩ := rfl
theorem tb159 : tb 159 = ⟨.ptr 66, 1, 8, [.nilptr], [], false⟩ := rfl
theorem tb160 : tb 160 = ⟨.func, 1, 8, [.nilfn], [], false⟩ := rfl
theorem tb161 : tb 161 = ⟨.ptr 40, 1, 8, [.nilptr], [], false⟩ := rfl
theorem tb162 : tb 162 = ⟨.ptr 184, 1, 8, [.nilptr], [], false⟩ := rfl
theorem tb163 : tb 163 = ⟨.func, 1, 8, [.nilfn], [], false⟩ := rfl
theorem tb164 : tb 164 = ⟨.func, 1, 8, [.nilfn], [], false⟩ := rfl
theorem tb165 : tb 165 = ⟨.func, 1, 8, [.nilfn], [], false⟩ := rfl
theorem tb166 : tb 166 = ⟨.func, 1, 8, [.nilfn], [], false⟩ := rfl
theorem tb167 : tb 167 = ⟨.func, 1, 8, [.nilfn], [], false⟩ := rfl
theorem tb168 : tb 168 = ⟨.func, 1, 8, [.nilfn], [], false⟩ := rfl
theorem tb169 : tb 169 = ⟨.map 9 170, 1, 8, [.nilmap], [], false⟩ := rfl
theorem tb170 : tb 170 = ⟨.struct [], 0, 0, [], [], false⟩ := rfl
theorem tb171 : tb 171 = ⟨.slice 175, 1, 24, [.data (.slice true 0 [])], [], false⟩ := rfl
theorem tb172 : tb 172 = ⟨.func, 1, 8, [.nilfn], [], false⟩ := rfl
theorem tb173 : tb 173 = ⟨.int .i8, 1, 1, [.data (.int .i8 0)], [.int .i8], false⟩ := rfl
theorem tb174 : tb 174 = ⟨.struct [(0, 1, false), (1, 1, false), (2, 1, false), (3, 1, false)], 4, 48, [.data (.str ⟨#[]⟩), .data (.str ⟨#[]⟩), .data (.int .i8 0), .data (.int .i64 0)], [.str, .str, .int .i8, .int .i64], false⟩ := rfl
theorem tb175 : tb 175 = ⟨.struct [(0, 1, false), (1, 1, false), (2, 1, false), (3, 1, false)], 4, 48, [.data (.str ⟨#[]⟩), .data (.str ⟨#[]⟩), .data (.int .i8 0), .data (.int .i64 0)], [.str, .str, .int .i8, .int .i64], false⟩ := rfl
theorem tb176 : tb 176 = ⟨.other, 1, 0, [.undef], [], false⟩ := rfl
theorem tb177 : tb 177 = ⟨.func, 1, 8, [.nilfn], [], false⟩ := rfl
theorem tb178 : tb 178 = ⟨.func, 1, 8, [.nilfn], [], false⟩ := rfl
theorem tb179 : tb 179 = ⟨.func, 1, 8, [.nilfn], [], false⟩ := rfl
theorem tb180 : tb 180 = ⟨.func, 1, 8, [.nilfn], [], false⟩ := rfl
theorem tb181 : tb 181 = ⟨.func, 1, 8, [.nilfn], [], false⟩ := rfl
theorem tb182 : tb 182 = ⟨.func, 1, 8, [.nilfn], [], false⟩ := rfl
theorem tb183 : tb 183 = ⟨.struct [(0, 1, false), (1, 1, false)], 2, 32, [.data (.slice true 0 []), .nilmap], [], false⟩ := rfl
theorem tb184 : tb 184 = ⟨.struct [(0, 1, false), (1, 1, false)], 2, 32, [.data (.slice true 0 []), .nilmap], [], false⟩ := rfl
theorem tb185 : tb 185 = ⟨.slice 191, 1, 24, [.data (.slice true 0 [])], [], false⟩ := rfl
theorem tb186 : tb 186 = ⟨.struct [(0, 1, false)], 1, 24, [.data (.slice true 0 [])], [], false⟩ := rfl
theorem tb187 : tb 187 = ⟨.struct [(0, 1, false)], 1, 24, [.data (.slice true 0 [])], [], false⟩ := rfl
theorem tb188 : tb 188 = ⟨.func, 1, 8, [.nilfn], [], false⟩ := rfl
theorem tb189 : tb 189 = ⟨.func, 1, 8, [.nilfn], [], false⟩ := rfl
theorem tb190 : tb 190 = ⟨.struct [(0, 1, false), (1, 1, false), (2, 1, false), (3, 1, false)], 4, 80, [.data (.str ⟨#[]⟩), .data (.str ⟨#[]⟩), .data (.slice true 0 []), .data (.slice true 0 [])], [], false⟩ := rfl
theorem tb191 : tb 191 = ⟨.struct [(0, 1, false), (1, 1, false), (2, 1, false), (3, 1, false)], 4, 80, [.data (.str ⟨#[]⟩), .data (.str ⟨#[]⟩), .data (.slice true 0 []), .data (.slice true 0 [])], [], false⟩ := rfl
theorem tb192 : tb 192 = ⟨.func, 1, 8, [.nilfn], [], false⟩ := rfl
theorem tb193 : tb 193 = ⟨.func, 1, 8, [.nilfn], [], false⟩ := rfl
theorem tb194 : tb 194 = ⟨.func, 1, 8, [.nilfn], [], false⟩ := rfl
theorem tb195 : tb 195 = ⟨.func, 1, 8, [.nilfn], [], false⟩ := rfl
theorem tb196 : tb 196 = ⟨.func, 1, 8, [.nilfn], [], false⟩ := rfl
theorem tb197 : tb 197 = ⟨.int .u64, 1, 8, [.data (.int .u64 0)], [.int .u64], false⟩ := rfl
theorem tb198 : tb 198 = ⟨.func, 1, 8, [.nilfn], [], false⟩ := rfl
theorem tb199 : tb 199 = ⟨.func, 1, 8, [.nilfn], [], false⟩ := rfl
theorem tb200 : tb 200 = ⟨.func, 1, 8, [.nilfn], [], false⟩ := rfl
theorem tb201 : tb 201 = otherT := rfl
theorem tb202 : tb 202 = ⟨.int .u64, 1, 8, [.data (.int .u64 0)], [.int .u64], false⟩ := rfl
theorem tb203 : tb 203 = ⟨.func, 1, 8, [.nilfn], [], false⟩ := rfl
theorem tb204 : tb 204 = ⟨.func, 1, 8, [.nilfn], [], false⟩ := rfl
theorem tb205 : tb 205 = ⟨.other, 1, 0, [.undef], [], false⟩ := rfl
theorem tb206 : tb 206 = ⟨.func, 1, 8, [.nilfn], [], false⟩ := rfl
theorem tb207 : tb 207 = ⟨.func, 1, 8, [.nilfn], [], false⟩ := rfl
theorem tb208 : tb 208 = ⟨.func, 1, 8, [.nilfn], [], false⟩ := rfl
theorem tb209 : tb 209 = ⟨.ptr 187, 1, 8, [.nilptr], [], false⟩ := rfl
theorem tb210 : tb 210 = ⟨.func, 1, 8, [.nilfn], [], false⟩ := rfl
theorem tb211 : tb 211 = ⟨.int .i64, 1, 8, [.data (.int .i64 0)], [.int .i64], false⟩ := rfl
theorem tb212 : tb 212 = ⟨.other, 1, 0, [.undef], [], false⟩ := rfl
theorem tb213 : tb 213 = ⟨.func, 1, 8, [.nilfn], [], false⟩ := rfl
theorem tb214 : tb 214 = ⟨.func, 1, 8, [.nilfn], [], false⟩ := rfl
theorem tb215 : tb 215 = ⟨.func, 1, 8, [.nilfn], [], false⟩ := rfl
theorem tb216 : tb 216 = ⟨.func, 1, 8, [.nilfn], [], false⟩ := rfl
theorem tb217 : tb 217 = ⟨.func, 1, 8, [.nilfn], [], false⟩ := rfl
theorem tb218 : tb 218 = ⟨.int .u32, 1, 4, [.data (.int .u32 0)], [.int .u32], false⟩ := rfl
theorem tb219 : tb 219 = ⟨.func, 1, 8, [.nilfn], [], false⟩ := rfl
theorem tb220 : tb 220 = ⟨.func, 1, 8, [.nilfn], [], false⟩ := rfl
theorem tb221 : tb 221 = ⟨.func, 1, 8, [.nilfn], [], false⟩ := rfl
theorem tb222 : tb 222 = otherT := rfl
theorem tb223 : tb 223 = otherT := rfl
theorem tb224 : tb 224 = ⟨.func, 1, 8, [.nilfn], [], false⟩ := rfl
theorem tb225 : tb 225 = ⟨.func, 1, 8, [.nilfn], [], false⟩ := rfl
theorem tb226 : tb 226 = ⟨.int .u64, 1, 8, [.data (.int .u64 0)], [.int .u64], false⟩ := rfl
theorem tb227 : tb 227 = ⟨.func, 1, 8, [.nilfn], [], false⟩ := rfl
theorem tb228 : tb 228 = ⟨.func, 1, 8, [.nilfn], [], false⟩ := rfl
theorem tb229 : tb 229 = ⟨.func, 1, 8, [.nilfn], [], false⟩ := rfl
theorem tb230 : tb 230 = ⟨.ptr 3, 1, 8, [.nilptr], [], false⟩ := rfl
theorem tb231 : tb 231 = ⟨.func, 1, 8, [.nilfn], [], false⟩ := rfl
theorem tb232 : tb 232 = ⟨.ptr 226, 1, 8, [.nilptr], [], false⟩ := rfl
theorem tb233 : tb 233 = ⟨.other, 1, 0, [.undef], [], false⟩ := rfl
theorem tb234 : tb 234 = ⟨.func, 1, 8, [.nilfn], [], false⟩ := rfl
theorem tb235 : tb 235 = otherT := rfl
theorem tb236 : tb 236 = otherT := rfl
theorem tb237 : tb 237 = ⟨.func, 1, 8, [.nilfn], [], false⟩ := rfl
theorem tb238 : tb 238 = ⟨.struct [(0, 1, false), (1, 1, false), (2, 1, false), (3, 1, false)], 4, 40, [.nilptr, .nilptr, .nilptr, .data (.str ⟨#[]⟩)], [], false⟩ := rfl
theorem tb239 : tb 239 = ⟨.struct [(0, 1, false), (1, 1, false), (2, 1, false), (3, 1, false)], 4, 40, [.nilptr, .nilptr, .nilptr, .data (.str ⟨#[]⟩)], [], false⟩ := rfl
theorem tb240 : tb 240 = otherT := rfl
theorem tb241 : tb 241 = ⟨.struct [(0, 0, true)], 0, 0, [], [], false⟩ := rfl
theorem tb242 : tb 242 = ⟨.struct [(0, 0, true)], 0, 0, [], [], false⟩ := rfl
theorem tb243 : tb 243 = ⟨.func, 1, 8, [.nilfn], [], false⟩ := rfl
theorem tb244 : tb 244 = ⟨.int .u8, 1, 1, [.data (.int .u8 0)], [.int .u8], false⟩ := rfl
theorem tb245 : tb 245 = ⟨.int .u8, 1, 1, [.data (.int .u8 0)], [.int .u8], false⟩ := rfl
theorem tb246 : tb 246 = ⟨.func, 1, 8, [.nilfn], [], false⟩ := rfl
theorem tb247 : tb 247 = ⟨.ptr 5, 1, 8, [.nilptr], [], false⟩ := rfl
theorem tb248 : tb 248 = ⟨.int .i32, 1, 4, [.data (.int .i32 0)], [.int .i32], false⟩ := rfl
theorem tb249 : tb 249 = ⟨.int .i32, 1, 4, [.data (.int .i32 0)], [.int .i32], false⟩ := rfl
theorem tb250 : tb 250 = ⟨.struct [(0, 1, false), (1, 1, false), (2, 1, false), (3, 1, false), (4, 1, false), (5, 1, false), (6, 1, false), (7, 1, false), (8, 1, false), (9, 1, false), (10, 1, false)], 11, 48, [.data (.int .u64 0), .data (.int .u64 0), .data (.int .u32 0), .data (.int .u8 0), .data (.int .u8 0), .data (.int .u8 0), .data (.int .u8 0), .nilfn, .nilptr, .data (.int .i32 0), .data (.int .i32 0)], [], false⟩ := rfl
theorem tb251 : tb 251 = ⟨.struct [(0, 1, false), (1, 1, false), (2, 1, false), (3, 1, false), (4, 1, false), (5, 1, false), (6, 1, false), (7, 1, false), (8, 1, false), (9, 1, false), (10, 1, false)], 11, 48, [.data (.int .u64 0), .data (.int .u64 0), .data (.int .u32 0), .data (.int .u8 0), .data (.int .u8 0), .data (.int .u8 0), .data (.int .u8 0), .nilfn, .nilptr, .data (.int .i32 0), .data (.int .i32 0)], [], false⟩ := rfl
theorem tb252 : tb 252 = ⟨.other, 1, 8, [.nilptr], [], false⟩ := rfl
end Go.Proofs.Tryz
