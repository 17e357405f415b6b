/- the seat's types, printed by mktb.py. -/
import Derived.Test.YtmeddhonbddckaaGreatDoorKG3
import Derived.Test.YtmeddhonbddckaaGreatDoorProg
import Derived.DeepKeys4
set_option linter.all false
namespace Go.Proofs.Tryz
open Go Go.GL
def tbRows : List TyI := [
  ⟨.other, 1, 0, [.undef], [], false⟩,
  ⟨.func, 1, 8, [.nilfn], [], false⟩,
  ⟨.int .i64, 1, 8, [.data (.int .i64 0)], [.int .i64], false⟩,
  ⟨.int .i64, 1, 8, [.data (.int .i64 0)], [.int .i64], false⟩,
  ⟨.bool, 1, 1, [.data (.bool false)], [.bool], false⟩,
  ⟨.int .u8, 1, 1, [.data (.int .u8 0)], [.int .u8], false⟩,
  ⟨.int .u8, 1, 1, [.data (.int .u8 0)], [.int .u8], false⟩,
  ⟨.struct [(0, 1, false), (1, 1, false), (2, 1, false), (3, 1, false)], 4, 24, [.data (.int .i64 0), .data (.int .i64 0), .data (.bool false), .data (.int .u8 0)], [.int .i64, .int .i64, .bool, .int .u8], false⟩,
  ⟨.struct [(0, 1, false), (1, 1, false), (2, 1, false), (3, 1, false)], 4, 24, [.data (.int .i64 0), .data (.int .i64 0), .data (.bool false), .data (.int .u8 0)], [.int .i64, .int .i64, .bool, .int .u8], false⟩,
  ⟨.str, 1, 16, [.data (.str ⟨#[]⟩)], [.str], true⟩,
  ⟨.str, 1, 16, [.data (.str ⟨#[]⟩)], [.str], false⟩,
  ⟨.str, 1, 16, [.data (.str ⟨#[]⟩)], [.str], false⟩,
  ⟨.int .u64, 1, 8, [.data (.int .u64 0)], [.int .u64], false⟩,
  ⟨.struct [(0, 1, false), (1, 1, false)], 2, 24, [.data (.str ⟨#[]⟩), .data (.int .u64 0)], [], false⟩,
  ⟨.struct [(0, 1, false), (1, 1, false)], 2, 24, [.data (.str ⟨#[]⟩), .data (.int .u64 0)], [], false⟩,
  ⟨.ptr 239, 1, 8, [.nilptr], [], false⟩,
  ⟨.ptr 242, 1, 8, [.nilptr], [], false⟩,
  ⟨.ptr 251, 1, 8, [.nilptr], [], false⟩,
  ⟨.struct [(0, 1, false)], 1, 8, [.nilptr], [], false⟩,
  ⟨.struct [(0, 1, false)], 1, 8, [.nilptr], [], false⟩,
  ⟨.iface, 1, 16, [.niliface], [], false⟩,
  ⟨.int .i32, 1, 4, [.data (.int .i32 0)], [.int .i32], false⟩,
  ⟨.slice 37, 1, 24, [.data (.slice true 0 [])], [], false⟩,
  ⟨.struct [(0, 1, false), (1, 1, false)], 2, 40, [.data (.str ⟨#[]⟩), .data (.slice true 0 [])], [], false⟩,
  ⟨.struct [(0, 1, false), (1, 1, false)], 2, 40, [.data (.str ⟨#[]⟩), .data (.slice true 0 [])], [], false⟩,
  ⟨.slice 9, 1, 24, [.data (.slice true 0 [])], [], false⟩,
  ⟨.struct [(0, 1, false), (1, 1, false)], 2, 32, [.data (.str ⟨#[]⟩), .data (.str ⟨#[]⟩)], [.str, .str], false⟩,
  ⟨.struct [(0, 1, false), (1, 1, false)], 2, 32, [.data (.str ⟨#[]⟩), .data (.str ⟨#[]⟩)], [.str, .str], true⟩,
  ⟨.func, 1, 8, [.nilfn], [], false⟩,
  ⟨.int .i8, 1, 1, [.data (.int .i8 0)], [.int .i8], false⟩,
  ⟨.int .i8, 1, 1, [.data (.int .i8 0)], [.int .i8], false⟩,
  ⟨.int .i8, 1, 1, [.data (.int .i8 0)], [.int .i8], false⟩,
  ⟨.int .i8, 1, 1, [.data (.int .i8 0)], [.int .i8], false⟩,
  ⟨.int .i8, 1, 1, [.data (.int .i8 0)], [.int .i8], false⟩,
  ⟨.struct [(0, 1, false), (1, 1, false), (2, 1, false)], 3, 32, [.data (.int .i8 0), .data (.int .i64 0), .data (.str ⟨#[]⟩)], [.int .i8, .int .i64, .str], false⟩,
  ⟨.struct [(0, 1, false), (1, 1, false), (2, 1, false)], 3, 32, [.data (.int .i8 0), .data (.int .i64 0), .data (.str ⟨#[]⟩)], [.int .i8, .int .i64, .str], false⟩,
  ⟨.struct [(0, 1, false), (1, 3, true)], 4, 48, [.data (.str ⟨#[]⟩), .data (.int .i8 0), .data (.int .i64 0), .data (.str ⟨#[]⟩)], [.str, .int .i8, .int .i64, .str], false⟩,
  ⟨.struct [(0, 1, false), (1, 3, true)], 4, 48, [.data (.str ⟨#[]⟩), .data (.int .i8 0), .data (.int .i64 0), .data (.str ⟨#[]⟩)], [.str, .int .i8, .int .i64, .str], false⟩,
  ⟨.slice 40, 1, 24, [.data (.slice true 0 [])], [], false⟩,
  ⟨.struct [(0, 1, false), (1, 4, true), (5, 1, false)], 6, 80, [.data (.int .i8 0), .data (.str ⟨#[]⟩), .data (.int .i8 0), .data (.int .i64 0), .data (.str ⟨#[]⟩), .data (.slice true 0 [])], [], false⟩,
  ⟨.struct [(0, 1, false), (1, 4, true), (5, 1, false)], 6, 80, [.data (.int .i8 0), .data (.str ⟨#[]⟩), .data (.int .i8 0), .data (.int .i64 0), .data (.str ⟨#[]⟩), .data (.slice true 0 [])], [], false⟩,
  ⟨.struct [(0, 1, false), (1, 2, true), (3, 1, false), (4, 6, true), (10, 6, true)], 16, 216, [.data (.int .i8 0), .data (.str ⟨#[]⟩), .data (.slice true 0 []), .data (.int .i8 0), .data (.int .i8 0), .data (.str ⟨#[]⟩), .data (.int .i8 0), .data (.int .i64 0), .data (.str ⟨#[]⟩), .data (.slice true 0 []), .data (.int .i8 0), .data (.str ⟨#[]⟩), .data (.int .i8 0), .data (.int .i64 0), .data (.str ⟨#[]⟩), .data (.slice true 0 [])], [], false⟩,
  ⟨.struct [(0, 1, false), (1, 2, true), (3, 1, false), (4, 6, true), (10, 6, true)], 16, 216, [.data (.int .i8 0), .data (.str ⟨#[]⟩), .data (.slice true 0 []), .data (.int .i8 0), .data (.int .i8 0), .data (.str ⟨#[]⟩), .data (.int .i8 0), .data (.int .i64 0), .data (.str ⟨#[]⟩), .data (.slice true 0 []), .data (.int .i8 0), .data (.str ⟨#[]⟩), .data (.int .i8 0), .data (.int .i64 0), .data (.str ⟨#[]⟩), .data (.slice true 0 [])], [], false⟩,
  ⟨.slice 42, 1, 24, [.data (.slice true 0 [])], [], false⟩,
  ⟨.func, 1, 8, [.nilfn], [], false⟩,
  ⟨.func, 1, 8, [.nilfn], [], false⟩,
  ⟨.func, 1, 8, [.nilfn], [], false⟩,
  ⟨.func, 1, 8, [.nilfn], [], false⟩,
  ⟨.func, 1, 8, [.nilfn], [], false⟩,
  ⟨.func, 1, 8, [.nilfn], [], false⟩,
  ⟨.func, 1, 8, [.nilfn], [], false⟩,
  ⟨.func, 1, 8, [.nilfn], [], false⟩,
  ⟨.slice 66, 1, 24, [.data (.slice true 0 [])], [], false⟩,
  ⟨.func, 1, 8, [.nilfn], [], false⟩,
  ⟨.slice 138, 1, 24, [.data (.slice true 0 [])], [], false⟩,
  ⟨.struct [(0, 1, false), (1, 2, true), (3, 1, false)], 4, 88, [.data (.slice true 0 []), .data (.str ⟨#[]⟩), .data (.slice true 0 []), .data (.slice true 0 [])], [], false⟩,
  ⟨.struct [(0, 1, false), (1, 2, true), (3, 1, false)], 4, 88, [.data (.slice true 0 []), .data (.str ⟨#[]⟩), .data (.slice true 0 []), .data (.slice true 0 [])], [], false⟩,
  ⟨.slice 27, 1, 24, [.data (.slice true 0 [])], [], false⟩,
  ⟨.int .i64, 1, 8, [.data (.int .i64 0)], [.int .i64], false⟩,
  ⟨.other, 1, 0, [.undef], [], false⟩,
  ⟨.func, 1, 8, [.nilfn], [], false⟩,
  ⟨.func, 1, 8, [.nilfn], [], false⟩,
  ⟨.func, 1, 8, [.nilfn], [], false⟩,
  ⟨.func, 1, 8, [.nilfn], [], false⟩,
  ⟨.slice 100, 1, 24, [.data (.slice true 0 [])], [], false⟩,
  ⟨.struct [(0, 1, false), (1, 1, false), (2, 1, false)], 3, 64, [.data (.str ⟨#[]⟩), .data (.slice true 0 []), .data (.slice true 0 [])], [], false⟩,
  ⟨.struct [(0, 1, false), (1, 1, false), (2, 1, false)], 3, 64, [.data (.str ⟨#[]⟩), .data (.slice true 0 []), .data (.slice true 0 [])], [], false⟩,
  ⟨.func, 1, 8, [.nilfn], [], false⟩,
  ⟨.func, 1, 8, [.nilfn], [], false⟩,
  ⟨.func, 1, 8, [.nilfn], [], false⟩,
  ⟨.func, 1, 8, [.nilfn], [], false⟩,
  ⟨.func, 1, 8, [.nilfn], [], false⟩,
  ⟨.other, 1, 0, [.undef], [], false⟩,
  ⟨.func, 1, 8, [.nilfn], [], false⟩,
  ⟨.func, 1, 8, [.nilfn], [], false⟩,
  ⟨.func, 1, 8, [.nilfn], [], false⟩,
  ⟨.func, 1, 8, [.nilfn], [], false⟩,
  ⟨.func, 1, 8, [.nilfn], [], false⟩,
  ⟨.slice 5, 1, 24, [.data (.slice true 0 [])], [], false⟩,
  ⟨.func, 1, 8, [.nilfn], [], false⟩,
  ⟨.other, 1, 0, [.undef], [], false⟩,
  ⟨.func, 1, 8, [.nilfn], [], false⟩,
  ⟨.map 9 3, 1, 8, [.nilmap], [], false⟩,
  ⟨.other, 1, 0, [.undef], [], false⟩,
  ⟨.func, 1, 8, [.nilfn], [], false⟩,
  ⟨.ptr 91, 1, 8, [.nilptr], [], false⟩,
  ⟨.map 9 52, 1, 8, [.nilmap], [], false⟩,
  ⟨.map 27 3, 1, 8, [.nilmap], [], false⟩,
  ⟨.struct [(0, 1, false), (1, 1, false)], 2, 32, [.data (.slice true 0 []), .nilmap], [], false⟩,
  ⟨.struct [(0, 1, false), (1, 1, false)], 2, 32, [.data (.slice true 0 []), .nilmap], [], false⟩,
  ⟨.struct [(0, 2, true), (2, 1, false), (3, 1, false)], 4, 64, [.data (.slice true 0 []), .nilmap, .nilmap, .data (.slice true 0 [])], [], false⟩,
  ⟨.struct [(0, 2, true), (2, 1, false), (3, 1, false)], 4, 64, [.data (.slice true 0 []), .nilmap, .nilmap, .data (.slice true 0 [])], [], false⟩,
  ⟨.func, 1, 8, [.nilfn], [], false⟩,
  ⟨.func, 1, 8, [.nilfn], [], false⟩,
  ⟨.func, 1, 8, [.nilfn], [], false⟩,
  ⟨.func, 1, 8, [.nilfn], [], false⟩,
  ⟨.slice 4, 1, 24, [.data (.slice true 0 [])], [], false⟩,
  ⟨.func, 1, 8, [.nilfn], [], false⟩,
  ⟨.int .i8, 1, 1, [.data (.int .i8 0)], [.int .i8], false⟩,
  ⟨.struct [(0, 1, false), (1, 4, true)], 5, 56, [.data (.int .i8 0), .data (.str ⟨#[]⟩), .data (.int .i8 0), .data (.int .i64 0), .data (.str ⟨#[]⟩)], [.int .i8, .str, .int .i8, .int .i64, .str], false⟩,
  ⟨.struct [(0, 1, false), (1, 4, true)], 5, 56, [.data (.int .i8 0), .data (.str ⟨#[]⟩), .data (.int .i8 0), .data (.int .i64 0), .data (.str ⟨#[]⟩)], [.int .i8, .str, .int .i8, .int .i64, .str], false⟩,
  ⟨.func, 1, 8, [.nilfn], [], false⟩,
  ⟨.func, 1, 8, [.nilfn], [], false⟩,
  ⟨.ptr 24, 1, 8, [.nilptr], [], false⟩,
  ⟨.func, 1, 8, [.nilfn], [], false⟩,
  ⟨.func, 1, 8, [.nilfn], [], false⟩,
  ⟨.func, 1, 8, [.nilfn], [], false⟩,
  ⟨.func, 1, 8, [.nilfn], [], false⟩,
  ⟨.func, 1, 8, [.nilfn], [], false⟩,
  ⟨.func, 1, 8, [.nilfn], [], false⟩,
  ⟨.func, 1, 8, [.nilfn], [], false⟩,
  ⟨.slice 118, 1, 24, [.data (.slice true 0 [])], [], false⟩,
  ⟨.other, 1, 0, [.undef], [], false⟩,
  ⟨.func, 1, 8, [.nilfn], [], false⟩,
  ⟨.struct [(0, 1, false)], 1, 24, [.data (.slice true 0 [])], [], false⟩,
  ⟨.struct [(0, 1, false)], 1, 24, [.data (.slice true 0 [])], [], false⟩,
  ⟨.func, 1, 8, [.nilfn], [], false⟩,
  ⟨.struct [(0, 1, false), (1, 1, false)], 2, 24, [.data (.str ⟨#[]⟩), .data (.int .i64 0)], [.str, .int .i64], false⟩,
  ⟨.struct [(0, 1, false), (1, 1, false)], 2, 24, [.data (.str ⟨#[]⟩), .data (.int .i64 0)], [.str, .int .i64], false⟩,
  ⟨.ptr 89, 1, 8, [.nilptr], [], false⟩,
  ⟨.func, 1, 8, [.nilfn], [], false⟩,
  ⟨.func, 1, 8, [.nilfn], [], false⟩,
  ⟨.func, 1, 8, [.nilfn], [], false⟩,
  ⟨.func, 1, 8, [.nilfn], [], false⟩,
  ⟨.func, 1, 8, [.nilfn], [], false⟩,
  ⟨.func, 1, 8, [.nilfn], [], false⟩,
  ⟨.func, 1, 8, [.nilfn], [], false⟩,
  ⟨.func, 1, 8, [.nilfn], [], false⟩,
  ⟨.func, 1, 8, [.nilfn], [], false⟩,
  ⟨.func, 1, 8, [.nilfn], [], false⟩,
  ⟨.func, 1, 8, [.nilfn], [], false⟩,
  ⟨.ptr 42, 1, 8, [.nilptr], [], false⟩,
  ⟨.func, 1, 8, [.nilfn], [], false⟩,
  ⟨.ptr 37, 1, 8, [.nilptr], [], false⟩,
  ⟨.func, 1, 8, [.nilfn], [], false⟩,
  ⟨.func, 1, 8, [.nilfn], [], false⟩,
  ⟨.slice 35, 1, 24, [.data (.slice true 0 [])], [], false⟩,
  ⟨.struct [(0, 1, false), (1, 1, false)], 2, 40, [.data (.str ⟨#[]⟩), .data (.slice true 0 [])], [], false⟩,
  ⟨.struct [(0, 1, false), (1, 1, false)], 2, 40, [.data (.str ⟨#[]⟩), .data (.slice true 0 [])], [], false⟩,
  ⟨.func, 1, 8, [.nilfn], [], false⟩,
  ⟨.func, 1, 8, [.nilfn], [], false⟩,
  ⟨.func, 1, 8, [.nilfn], [], false⟩,
  ⟨.func, 1, 8, [.nilfn], [], false⟩,
  ⟨.map 9 3, 1, 8, [.nilmap], [], false⟩,
  ⟨.func, 1, 8, [.nilfn], [], false⟩,
  ⟨.func, 1, 8, [.nilfn], [], false⟩,
  ⟨.func, 1, 8, [.nilfn], [], false⟩,
  ⟨.func, 1, 8, [.nilfn], [], false⟩,
  ⟨.func, 1, 8, [.nilfn], [], false⟩,
  ⟨.func, 1, 8, [.nilfn], [], false⟩,
  ⟨.func, 1, 8, [.nilfn], [], false⟩,
  ⟨.func, 1, 8, [.nilfn], [], false⟩,
  ⟨.func, 1, 8, [.nilfn], [], false⟩,
  ⟨.func, 1, 8, [.nilfn], [], false⟩,
  ⟨.func, 1, 8, [.nilfn], [], false⟩,
  ⟨.func, 1, 8, [.nilfn], [], false⟩,
  ⟨.func, 1, 8, [.nilfn], [], false⟩,
  ⟨.func, 1, 8, [.nilfn], [], false⟩,
  ⟨.func, 1, 8, [.nilfn], [], false⟩,
  ⟨.ptr 66, 1, 8, [.nilptr], [], false⟩,
  ⟨.func, 1, 8, [.nilfn], [], false⟩,
  ⟨.ptr 40, 1, 8, [.nilptr], [], false⟩,
  ⟨.ptr 184, 1, 8, [.nilptr], [], false⟩,
  ⟨.func, 1, 8, [.nilfn], [], false⟩,
  ⟨.func, 1, 8, [.nilfn], [], false⟩,
  ⟨.func, 1, 8, [.nilfn], [], false⟩,
  ⟨.func, 1, 8, [.nilfn], [], false⟩,
  ⟨.func, 1, 8, [.nilfn], [], false⟩,
  ⟨.func, 1, 8, [.nilfn], [], false⟩,
  ⟨.map 9 170, 1, 8, [.nilmap], [], false⟩,
  ⟨.struct [], 0, 0, [], [], false⟩,
  ⟨.slice 175, 1, 24, [.data (.slice true 0 [])], [], false⟩,
  ⟨.func, 1, 8, [.nilfn], [], false⟩,
  ⟨.int .i8, 1, 1, [.data (.int .i8 0)], [.int .i8], false⟩,
  ⟨.struct [(0, 1, false), (1, 1, false), (2, 1, false), (3, 1, false)], 4, 48, [.data (.str ⟨#[]⟩), .data (.str ⟨#[]⟩), .data (.int .i8 0), .data (.int .i64 0)], [.str, .str, .int .i8, .int .i64], false⟩,
  ⟨.struct [(0, 1, false), (1, 1, false), (2, 1, false), (3, 1, false)], 4, 48, [.data (.str ⟨#[]⟩), .data (.str ⟨#[]⟩), .data (.int .i8 0), .data (.int .i64 0)], [.str, .str, .int .i8, .int .i64], false⟩,
  ⟨.other, 1, 0, [.undef], [], false⟩,
  ⟨.func, 1, 8, [.nilfn], [], false⟩,
  ⟨.func, 1, 8, [.nilfn], [], false⟩,
  ⟨.func, 1, 8, [.nilfn], [], false⟩,
  ⟨.func, 1, 8, [.nilfn], [], false⟩,
  ⟨.func, 1, 8, [.nilfn], [], false⟩,
  ⟨.func, 1, 8, [.nilfn], [], false⟩,
  ⟨.struct [(0, 1, false), (1, 1, false)], 2, 32, [.data (.slice true 0 []), .nilmap], [], false⟩,
  ⟨.struct [(0, 1, false), (1, 1, false)], 2, 32, [.data (.slice true 0 []), .nilmap], [], false⟩,
  ⟨.slice 191, 1, 24, [.data (.slice true 0 [])], [], false⟩,
  ⟨.struct [(0, 1, false)], 1, 24, [.data (.slice true 0 [])], [], false⟩,
  ⟨.struct [(0, 1, false)], 1, 24, [.data (.slice true 0 [])], [], false⟩,
  ⟨.func, 1, 8, [.nilfn], [], false⟩,
  ⟨.func, 1, 8, [.nilfn], [], false⟩,
  ⟨.struct [(0, 1, false), (1, 1, false), (2, 1, false), (3, 1, false)], 4, 80, [.data (.str ⟨#[]⟩), .data (.str ⟨#[]⟩), .data (.slice true 0 []), .data (.slice true 0 [])], [], false⟩,
  ⟨.struct [(0, 1, false), (1, 1, false), (2, 1, false), (3, 1, false)], 4, 80, [.data (.str ⟨#[]⟩), .data (.str ⟨#[]⟩), .data (.slice true 0 []), .data (.slice true 0 [])], [], false⟩,
  ⟨.func, 1, 8, [.nilfn], [], false⟩,
  ⟨.func, 1, 8, [.nilfn], [], false⟩,
  ⟨.func, 1, 8, [.nilfn], [], false⟩,
  ⟨.func, 1, 8, [.nilfn], [], false⟩,
  ⟨.func, 1, 8, [.nilfn], [], false⟩,
  ⟨.int .u64, 1, 8, [.data (.int .u64 0)], [.int .u64], false⟩,
  ⟨.func, 1, 8, [.nilfn], [], false⟩,
  ⟨.func, 1, 8, [.nilfn], [], false⟩,
  ⟨.func, 1, 8, [.nilfn], [], false⟩,
  otherT,
  ⟨.int .u64, 1, 8, [.data (.int .u64 0)], [.int .u64], false⟩,
  ⟨.func, 1, 8, [.nilfn], [], false⟩,
  ⟨.func, 1, 8, [.nilfn], [], false⟩,
  ⟨.other, 1, 0, [.undef], [], false⟩,
  ⟨.func, 1, 8, [.nilfn], [], false⟩,
  ⟨.func, 1, 8, [.nilfn], [], false⟩,
  ⟨.func, 1, 8, [.nilfn], [], false⟩,
  ⟨.ptr 187, 1, 8, [.nilptr], [], false⟩,
  ⟨.func, 1, 8, [.nilfn], [], false⟩,
  ⟨.int .i64, 1, 8, [.data (.int .i64 0)], [.int .i64], false⟩,
  ⟨.other, 1, 0, [.undef], [], false⟩,
  ⟨.func, 1, 8, [.nilfn], [], false⟩,
  ⟨.func, 1, 8, [.nilfn], [], false⟩,
  ⟨.func, 1, 8, [.nilfn], [], false⟩,
  ⟨.func, 1, 8, [.nilfn], [], false⟩,
  ⟨.func, 1, 8, [.nilfn], [], false⟩,
  ⟨.int .u32, 1, 4, [.data (.int .u32 0)], [.int .u32], false⟩,
  ⟨.func, 1, 8, [.nilfn], [], false⟩,
  ⟨.func, 1, 8, [.nilfn], [], false⟩,
  ⟨.func, 1, 8, [.nilfn], [], false⟩,
  otherT,
  otherT,
  ⟨.func, 1, 8, [.nilfn], [], false⟩,
  ⟨.func, 1, 8, [.nilfn], [], false⟩,
  ⟨.int .u64, 1, 8, [.data (.int .u64 0)], [.int .u64], false⟩,
  ⟨.func, 1, 8, [.nilfn], [], false⟩,
  ⟨.func, 1, 8, [.nilfn], [], false⟩,
  ⟨.func, 1, 8, [.nilfn], [], false⟩,
  ⟨.ptr 3, 1, 8, [.nilptr], [], false⟩,
  ⟨.func, 1, 8, [.nilfn], [], false⟩,
  ⟨.ptr 226, 1, 8, [.nilptr], [], false⟩,
  ⟨.other, 1, 0, [.undef], [], false⟩,
  ⟨.func, 1, 8, [.nilfn], [], false⟩,
  otherT,
  otherT,
  ⟨.func, 1, 8, [.nilfn], [], false⟩,
  ⟨.struct [(0, 1, false), (1, 1, false), (2, 1, false), (3, 1, false)], 4, 40, [.nilptr, .nilptr, .nilptr, .data (.str ⟨#[]⟩)], [], false⟩,
  ⟨.struct [(0, 1, false), (1, 1, false), (2, 1, false), (3, 1, false)], 4, 40, [.nilptr, .nilptr, .nilptr, .data (.str ⟨#[]⟩)], [], false⟩,
  otherT,
  ⟨.struct [(0, 0, true)], 0, 0, [], [], false⟩,
  ⟨.struct [(0, 0, true)], 0, 0, [], [], false⟩,
  ⟨.func, 1, 8, [.nilfn], [], false⟩,
  ⟨.int .u8, 1, 1, [.data (.int .u8 0)], [.int .u8], false⟩,
  ⟨.int .u8, 1, 1, [.data (.int .u8 0)], [.int .u8], false⟩,
  ⟨.func, 1, 8, [.nilfn], [], false⟩,
  ⟨.ptr 5, 1, 8, [.nilptr], [], false⟩,
  ⟨.int .i32, 1, 4, [.data (.int .i32 0)], [.int .i32], false⟩,
  ⟨.int .i32, 1, 4, [.data (.int .i32 0)], [.int .i32], false⟩,
  ⟨.struct [(0, 1, false), (1, 1, false), (2, 1, false), (3, 1, false), (4, 1, false), (5, 1, false), (6, 1, false), (7, 1, false), (8, 1, false), (9, 1, false), (10, 1, false)], 11, 48, [.data (.int .u64 0), .data (.int .u64 0), .data (.int .u32 0), .data (.int .u8 0), .data (.int .u8 0), .data (.int .u8 0), .data (.int .u8 0), .nilfn, .nilptr, .data (.int .i32 0), .data (.int .i32 0)], [], false⟩,
  ⟨.struct [(0, 1, false), (1, 1, false), (2, 1, false), (3, 1, false), (4, 1, false), (5, 1, false), (6, 1, false), (7, 1, false), (8, 1, false), (9, 1, false), (10, 1, false)], 11, 48, [.data (.int .u64 0), .data (.int .u64 0), .data (.int .u32 0), .data (.int .u8 0), .data (.int .u8 0), .data (.int .u8 0), .data (.int .u8 0), .nilfn, .nilptr, .data (.int .i32 0), .data (.int .i32 0)], [], false⟩,
  ⟨.other, 1, 8, [.nilptr], [], false⟩
]
def tbKeys : List TypeId := [9, 27]
theorem tb_rows : (List.range 253).map (tbOf prog tbKeys) = tbRows := by kernel_rfl
theorem mixed : prog.follows .mixedOrders = true := by kernel_rfl
end Go.Proofs.Tryz

/- the table of types, row by row. -/
namespace Go.Proofs.Tryz
open Go Go.GL
abbrev tb := tbL tbRows
theorem tb0 : tb 0 = ⟨.other, 1, 0, [.undef], [], false⟩ := rfl
theorem tb1 : tb 1 = ⟨.func, 1, 8, [.nilfn], [], false⟩ := rfl
theorem tb2 : tb 2 = ⟨.int .i64, 1, 8, [.data (.int .i64 0)], [.int .i64], false⟩ := rfl
theorem tb3 : tb 3 = ⟨.int .i64, 1, 8, [.data (.int .i64 0)], [.int .i64], false⟩ := rfl
theorem tb4 : tb 4 = ⟨.bool, 1, 1, [.data (.bool false)], [.bool], false⟩ := rfl
theorem tb5 : tb 5 = ⟨.int .u8, 1, 1, [.data (.int .u8 0)], [.int .u8], false⟩ := rfl
theorem tb6 : tb 6 = ⟨.int .u8, 1, 1, [.data (.int .u8 0)], [.int .u8], false⟩ := rfl
theorem tb7 : tb 7 = ⟨.struct [(0, 1, false), (1, 1, false), (2, 1, false), (3, 1, false)], 4, 24, [.data (.int .i64 0), .data (.int .i64 0), .data (.bool false), .data (.int .u8 0)], [.int .i64, .int .i64, .bool, .int .u8], false⟩ := rfl
theorem tb8 : tb 8 = ⟨.struct [(0, 1, false), (1, 1, false), (2, 1, false), (3, 1, false)], 4, 24, [.data (.int .i64 0), .data (.int .i64 0), .data (.bool false), .data (.int .u8 0)], [.int .i64, .int .i64, .bool, .int .u8], false⟩ := rfl
theorem tb9 : tb 9 = ⟨.str, 1, 16, [.data (.str ⟨#[]⟩)], [.str], true⟩ := rfl
theorem tb10 : tb 10 = ⟨.str, 1, 16, [.data (.str ⟨#[]⟩)], [.str], false⟩ := rfl
theorem tb11 : tb 11 = ⟨.str, 1, 16, [.data (.str ⟨#[]⟩)], [.str], false⟩ := rfl
theorem tb12 : tb 12 = ⟨.int .u64, 1, 8, [.data (.int .u64 0)], [.int .u64], false⟩ := rfl
theorem tb13 : tb 13 = ⟨.struct [(0, 1, false), (1, 1, false)], 2, 24, [.data (.str ⟨#[]⟩), .data (.int .u64 0)], [], false⟩ := rfl
theorem tb14 : tb 14 = ⟨.struct [(0, 1, false), (1, 1, false)], 2, 24, [.data (.str ⟨#[]⟩), .data (.int .u64 0)], [], false⟩ := rfl
theorem tb15 : tb 15 = ⟨.ptr 239, 1, 8, [.nilptr], [], false⟩ := rfl
theorem tb16 : tb 16 = ⟨.ptr 242, 1, 8, [.nilptr], [], false⟩ := rfl
theorem tb17 : tb 17 = ⟨.ptr 251, 1, 8, [.nilptr], [], false⟩ := rfl
theorem tb18 : tb 18 = ⟨.struct [(0, 1, false)], 1, 8, [.nilptr], [], false⟩ := rfl
theorem tb19 : tb 19 = ⟨.struct [(0, 1, false)], 1, 8, [.nilptr], [], false⟩ := rfl
theorem tb20 : tb 20 = ⟨.iface, 1, 16, [.niliface], [], false⟩ := rfl
theorem tb21 : tb 21 = ⟨.int .i32, 1, 4, [.data (.int .i32 0)], [.int .i32], false⟩ := rfl
theorem tb22 : tb 22 = ⟨.slice 37, 1, 24, [.data (.slice true 0 [])], [], false⟩ := rfl
theorem tb23 : tb 23 = ⟨.struct [(0, 1, false), (1, 1, false)], 2, 40, [.data (.str ⟨#[]⟩), .data (.slice true 0 [])], [], false⟩ := rfl
theorem tb24 : tb 24 = ⟨.struct [(0, 1, false), (1, 1, false)], 2, 40, [.data (.str ⟨#[]⟩), .data (.slice true 0 [])], [], false⟩ := rfl
theorem tb25 : tb 25 = ⟨.slice 9, 1, 24, [.data (.slice true 0 [])], [], false⟩ := rfl
theorem tb26 : tb 26 = ⟨.struct [(0, 1, false), (1, 1, false)], 2, 32, [.data (.str ⟨#[]⟩), .data (.str ⟨#[]⟩)], [.str, .str], false⟩ := rfl
theorem tb27 : tb 27 = ⟨.struct [(0, 1, false), (1, 1, false)], 2, 32, [.data (.str ⟨#[]⟩), .data (.str ⟨#[]⟩)], [.str, .str], true⟩ := rfl
theorem tb28 : tb 28 = ⟨.func, 1, 8, [.nilfn], [], false⟩ := rfl
theorem tb29 : tb 29 = ⟨.int .i8, 1, 1, [.data (.int .i8 0)], [.int .i8], false⟩ := rfl
theorem tb30 : tb 30 = ⟨.int .i8, 1, 1, [.data (.int .i8 0)], [.int .i8], false⟩ := rfl
theorem tb31 : tb 31 = ⟨.int .i8, 1, 1, [.data (.int .i8 0)], [.int .i8], false⟩ := rfl
theorem tb32 : tb 32 = ⟨.int .i8, 1, 1, [.data (.int .i8 0)], [.int .i8], false⟩ := rfl
theorem tb33 : tb 33 = ⟨.int .i8, 1, 1, [.data (.int .i8 0)], [.int .i8], false⟩ := rfl
theorem tb34 : tb 34 = ⟨.struct [(0, 1, false), (1, 1, false), (2, 1, false)], 3, 32, [.data (.int .i8 0), .data (.int .i64 0), .data (.str ⟨#[]⟩)], [.int .i8, .int .i64, .str], false⟩ := rfl
theorem tb35 : tb 35 = ⟨.struct [(0, 1, false), (1, 1, false), (2, 1, false)], 3, 32, [.data (.int .i8 0), .data (.int .i64 0), .data (.str ⟨#[]⟩)], [.int .i8, .int .i64, .str], false⟩ := rfl
theorem tb36 : tb 36 = ⟨.struct [(0, 1, false), (1, 3, true)], 4, 48, [.data (.str ⟨#[]⟩), .data (.int .i8 0), .data (.int .i64 0), .data (.str ⟨#[]⟩)], [.str, .int .i8, .int .i64, .str], false⟩ := rfl
theorem tb37 : tb 37 = ⟨.struct [(0, 1, false), (1, 3, true)], 4, 48, [.data (.str ⟨#[]⟩), .data (.int .i8 0), .data (.int .i64 0), .data (.str ⟨#[]⟩)], [.str, .int .i8, .int .i64, .str], false⟩ := rfl
theorem tb38 : tb 38 = ⟨.slice 40, 1, 24, [.data (.slice true 0 [])], [], false⟩ := rfl
theorem tb39 : tb 39 = ⟨.struct [(0, 1, false), (1, 4, true), (5, 1, false)], 6, 80, [.data (.int .i8 0), .data (.str ⟨#[]⟩), .data (.int .i8 0), .data (.int .i64 0), .data (.str ⟨#[]⟩), .data (.slice true 0 [])], [], false⟩ := rfl
theorem tb40 : tb 40 = ⟨.struct [(0, 1, false), (1, 4, true), (5, 1, false)], 6, 80, [.data (.int .i8 0), .data (.str ⟨#[]⟩), .data (.int .i8 0), .data (.int .i64 0), .data (.str ⟨#[]⟩), .data (.slice true 0 [])], [], false⟩ := rfl
theorem tb41 : tb 41 = ⟨.struct [(0, 1, false), (1, 2, true), (3, 1, false), (4, 6, true), (10, 6, true)], 16, 216, [.data (.int .i8 0), .data (.str ⟨#[]⟩), .data (.slice true 0 []), .data (.int .i8 0), .data (.int .i8 0), .data (.str ⟨#[]⟩), .data (.int .i8 0), .data (.int .i64 0), .data (.str ⟨#[]⟩), .data (.slice true 0 []), .data (.int .i8 0), .data (.str ⟨#[]⟩), .data (.int .i8 0), .data (.int .i64 0), .data (.str ⟨#[]⟩), .data (.slice true 0 [])], [], false⟩ := rfl
theorem tb42 : tb 42 = ⟨.struct [(0, 1, false), (1, 2, true), (3, 1, false), (4, 6, true), (10, 6, true)], 16, 216, [.data (.int .i8 0), .data (.str ⟨#[]⟩), .data (.slice true 0 []), .data (.int .i8 0), .data (.int .i8 0), .data (.str ⟨#[]⟩), .data (.int .i8 0), .data (.int .i64 0), .data (.str ⟨#[]⟩), .data (.slice true 0 []), .data (.int .i8 0), .data (.str ⟨#[]⟩), .data (.int .i8 0), .data (.int .i64 0), .data (.str ⟨#[]⟩), .data (.slice true 0 [])], [], false⟩ := rfl
theorem tb43 : tb 43 = ⟨.slice 42, 1, 24, [.data (.slice true 0 [])], [], false⟩ := rfl
theorem tb44 : tb 44 = ⟨.func, 1, 8, [.nilfn], [], false⟩ := rfl
theorem tb45 : tb 45 = ⟨.func, 1, 8, [.nilfn], [], false⟩ := rfl
theorem tb46 : tb 46 = ⟨.func, 1, 8, [.nilfn], [], false⟩ := rfl
theorem tb47 : tb 47 = ⟨.func, 1, 8, [.nilfn], [], false⟩ := rfl
theorem tb48 : tb 48 = ⟨.func, 1, 8, [.nilfn], [], false⟩ := rfl
theorem tb49 : tb 49 = ⟨.func, 1, 8, [.nilfn], [], false⟩ := rfl
theorem tb50 : tb 50 = ⟨.func, 1, 8, [.nilfn], [], false⟩ := rfl
theorem tb51 : tb 51 = ⟨.func, 1, 8, [.nilfn], [], false⟩ := rfl
theorem tb52 : tb 52 = ⟨.slice 66, 1, 24, [.data (.slice true 0 [])], [], false⟩ := rfl
theorem tb53 : tb 53 = ⟨.func, 1, 8, [.nilfn], [], false⟩ := rfl
theorem tb54 : tb 54 = ⟨.slice 138, 1, 24, [.data (.slice true 0 [])], [], false⟩ := rfl
theorem tb55 : tb 55 = ⟨.struct [(0, 1, false), (1, 2, true), (3, 1, false)], 4, 88, [.data (.slice true 0 []), .data (.str ⟨#[]⟩), .data (.slice true 0 []), .data (.slice true 0 [])], [], false⟩ := rfl
theorem tb56 : tb 56 = ⟨.struct [(0, 1, false), (1, 2, true), (3, 1, false)], 4, 88, [.data (.slice true 0 []), .data (.str ⟨#[]⟩), .data (.slice true 0 []), .data (.slice true 0 [])], [], false⟩ := rfl
theorem tb57 : tb 57 = ⟨.slice 27, 1, 24, [.data (.slice true 0 [])], [], false⟩ := rfl
theorem tb58 : tb 58 = ⟨.int .i64, 1, 8, [.data (.int .i64 0)], [.int .i64], false⟩ := rfl
theorem tb59 : tb 59 = ⟨.other, 1, 0, [.undef], [], false⟩ := rfl
theorem tb60 : tb 60 = ⟨.func, 1, 8, [.nilfn], [], false⟩ := rfl
theorem tb61 : tb 61 = ⟨.func, 1, 8, [.nilfn], [], false⟩ := rfl
theorem tb62 : tb 62 = ⟨.func, 1, 8, [.nilfn], [], false⟩ := rfl
theorem tb63 : tb 63 = ⟨.func, 1, 8, [.nilfn], [], false⟩ := rfl
theorem tb64 : tb 64 = ⟨.slice 100, 1, 24, [.data (.slice true 0 [])], [], false⟩ := rfl
theorem tb65 : tb 65 = ⟨.struct [(0, 1, false), (1, 1, false), (2, 1, false)], 3, 64, [.data (.str ⟨#[]⟩), .data (.slice true 0 []), .data (.slice true 0 [])], [], false⟩ := rfl
theorem tb66 : tb 66 = ⟨.struct [(0, 1, false), (1, 1, false), (2, 1, false)], 3, 64, [.data (.str ⟨#[]⟩), .data (.slice true 0 []), .data (.slice true 0 [])], [], false⟩ := rfl
theorem tb67 : tb 67 = ⟨.func, 1, 8, [.nilfn], [], false⟩ := rfl
theorem tb68 : tb 68 = ⟨.func, 1, 8, [.nilfn], [], false⟩ := rfl
theorem tb69 : tb 69 = ⟨.func, 1, 8, [.nilfn], [], false⟩ := rfl
theorem tb70 : tb 70 = ⟨.func, 1, 8, [.nilfn], [], false⟩ := rfl
theorem tb71 : tb 71 = ⟨.func, 1, 8, [.nilfn], [], false⟩ := rfl
theorem tb72 : tb 72 = ⟨.other, 1, 0, [.undef], [], false⟩ := rfl
theorem tb73 : tb 73 = ⟨.func, 1, 8, [.nilfn], [], false⟩ := rfl
theorem tb74 : tb 74 = ⟨.func, 1, 8, [.nilfn], [], false⟩ := rfl
theorem tb75 : tb 75 = ⟨.func, 1, 8, [.nilfn], [], false⟩ := rfl
theorem tb76 : tb 76 = ⟨.func, 1, 8, [.nilfn], [], false⟩ := rfl
theorem tb77 : tb 77 = ⟨.func, 1, 8, [.nilfn], [], false⟩ := rfl
theorem tb78 : tb 78 = ⟨.slice 5, 1, 24, [.data (.slice true 0 [])], [], false⟩ := rfl
theorem tb79 : tb 79 = ⟨.func, 1, 8, [.nilfn], [], false⟩ := rfl
theorem tb80 : tb 80 = ⟨.other, 1, 0, [.undef], [], false⟩ := rfl
theorem tb81 : tb 81 = ⟨.func, 1, 8, [.nilfn], [], false⟩ := rfl
theorem tb82 : tb 82 = ⟨.map 9 3, 1, 8, [.nilmap], [], false⟩ := rfl
theorem tb83 : tb 83 = ⟨.other, 1, 0, [.undef], [], false⟩ := rfl
theorem tb84 : tb 84 = ⟨.func, 1, 8, [.nilfn], [], false⟩ := rfl
theorem tb85 : tb 85 = ⟨.ptr 91, 1, 8, [.nilptr], [], false⟩ := rfl
theorem tb86 : tb 86 = ⟨.map 9 52, 1, 8, [.nilmap], [], false⟩ := rfl
theorem tb87 : tb 87 = ⟨.map 27 3, 1, 8, [.nilmap], [], false⟩ := rfl
theorem tb88 : tb 88 = ⟨.struct [(0, 1, false), (1, 1, false)], 2, 32, [.data (.slice true 0 []), .nilmap], [], false⟩ := rfl
theorem tb89 : tb 89 = ⟨.struct [(0, 1, false), (1, 1, false)], 2, 32, [.data (.slice true 0 []), .nilmap], [], false⟩ := rfl
theorem tb90 : tb 90 = ⟨.struct [(0, 2, true), (2, 1, false), (3, 1, false)], 4, 64, [.data (.slice true 0 []), .nilmap, .nilmap, .data (.slice true 0 [])], [], false⟩ := rfl
theorem tb91 : tb 91 = ⟨.struct [(0, 2, true), (2, 1, false), (3, 1, false)], 4, 64, [.data (.slice true 0 []), .nilmap, .nilmap, .data (.slice true 0 [])], [], false⟩ := rfl
theorem tb92 : tb 92 = ⟨.func, 1, 8, [.nilfn], [], false⟩ := rfl
theorem tb93 : tb 93 = ⟨.func, 1, 8, [.nilfn], [], false⟩ := rfl
theorem tb94 : tb 94 = ⟨.func, 1, 8, [.nilfn], [], false⟩ := rfl
theorem tb95 : tb 95 = ⟨.func, 1, 8, [.nilfn], [], false⟩ := rfl
theorem tb96 : tb 96 = ⟨.slice 4, 1, 24, [.data (.slice true 0 [])], [], false⟩ := rfl
theorem tb97 : tb 97 = ⟨.func, 1, 8, [.nilfn], [], false⟩ := rfl
theorem tb98 : tb 98 = ⟨.int .i8, 1, 1, [.data (.int .i8 0)], [.int .i8], false⟩ := rfl
theorem tb99 : tb 99 = ⟨.struct [(0, 1, false), (1, 4, true)], 5, 56, [.data (.int .i8 0), .data (.str ⟨#[]⟩), .data (.int .i8 0), .data (.int .i64 0), .data (.str ⟨#[]⟩)], [.int .i8, .str, .int .i8, .int .i64, .str], false⟩ := rfl
theorem tb100 : tb 100 = ⟨.struct [(0, 1, false), (1, 4, true)], 5, 56, [.data (.int .i8 0), .data (.str ⟨#[]⟩), .data (.int .i8 0), .data (.int .i64 0), .data (.str ⟨#[]⟩)], [.int .i8, .str, .int .i8, .int .i64, .str], false⟩ := rfl
theorem tb101 : tb 101 = ⟨.func, 1, 8, [.nilfn], [], false⟩ := rfl
theorem tb102 : tb 102 = ⟨.func, 1, 8, [.nilfn], [], false⟩ := rfl
theorem tb103 : tb 103 = ⟨.ptr 24, 1, 8, [.nilptr], [], false⟩ := rfl
theorem tb104 : tb 104 = ⟨.func, 1, 8, [.nilfn], [], false⟩ := rfl
theorem tb105 : tb 105 = ⟨.func, 1, 8, [.nilfn], [], false⟩ := rfl
theorem tb106 : tb 106 = ⟨.func, 1, 8, [.nilfn], [], false⟩ := rfl
theorem tb107 : tb 107 = ⟨.func, 1, 8, [.nilfn], [], false⟩ := rfl
theorem tb108 : tb 108 = ⟨.func, 1, 8, [.nilfn], [], false⟩ := rfl
theorem tb109 : tb 109 = ⟨.func, 1, 8, [.nilfn], [], false⟩ := rfl
theorem tb110 : tb 110 = ⟨.func, 1, 8, [.nilfn], [], false⟩ := rfl
theorem tb111 : tb 111 = ⟨.slice 118, 1, 24, [.data (.slice true 0 [])], [], false⟩ := rfl
theorem tb112 : tb 112 = ⟨.other, 1, 0, [.undef], [], false⟩ := rfl
theorem tb113 : tb 113 = ⟨.func, 1, 8, [.nilfn], [], false⟩ := rfl
theorem tb114 : tb 114 = ⟨.struct [(0, 1, false)], 1, 24, [.data (.slice true 0 [])], [], false⟩ := rfl
theorem tb115 : tb 115 = ⟨.struct [(0, 1, false)], 1, 24, [.data (.slice true 0 [])], [], false⟩ := rfl
theorem tb116 : tb 116 = ⟨.func, 1, 8, [.nilfn], [], false⟩ := rfl
theorem tb117 : tb 117 = ⟨.struct [(0, 1, false), (1, 1, false)], 2, 24, [.data (.str ⟨#[]⟩), .data (.int .i64 0)], [.str, .int .i64], false⟩ := rfl
theorem tb118 : tb 118 = ⟨.struct [(0, 1, false), (1, 1, false)], 2, 24, [.data (.str ⟨#[]⟩), .data (.int .i64 0)], [.str, .int .i64], false⟩ := rfl
theorem tb119 : tb 119 = ⟨.ptr 89, 1, 8, [.nilptr], [], false⟩ := rfl
theorem tb120 : tb 120 = ⟨.func, 1, 8, [.nilfn], [], false⟩ := rfl
theorem tb121 : tb 121 = ⟨.func, 1, 8, [.nilfn], [], false⟩ := rfl
theorem tb122 : tb 122 = ⟨.func, 1, 8, [.nilfn], [], false⟩ := rfl
theorem tb123 : tb 123 = ⟨.func, 1, 8, [.nilfn], [], false⟩ := rfl
theorem tb124 : tb 124 = ⟨.func, 1, 8, [.nilfn], [], false⟩ := rfl
theorem tb125 : tb 125 = ⟨.func, 1, 8, [.nilfn], [], false⟩ := rfl
theorem tb126 : tb 126 = ⟨.func, 1, 8, [.nilfn], [], false⟩ := rfl
theorem tb127 : tb 127 = ⟨.func, 1, 8, [.nilfn], [], false⟩ := rfl
theorem tb128 : tb 128 = ⟨.func, 1, 8, [.nilfn], [], false⟩ := rfl
theorem tb129 : tb 129 = ⟨.func, 1, 8, [.nilfn], [], false⟩ := rfl
theorem tb130 : tb 130 = ⟨.func, 1, 8, [.nilfn], [], false⟩ := rfl
theorem tb131 : tb 131 = ⟨.ptr 42, 1, 8, [.nilptr], [], false⟩ := rfl
theorem tb132 : tb 132 = ⟨.func, 1, 8, [.nilfn], [], false⟩ := rfl
theorem tb133 : tb 133 = ⟨.ptr 37, 1, 8, [.nilptr], [], false⟩ := rfl
theorem tb134 : tb 134 = ⟨.func, 1, 8, [.nilfn], [], false⟩ := rfl
theorem tb135 : tb 135 = ⟨.func, 1, 8, [.nilfn], [], false⟩ := rfl
theorem tb136 : tb 136 = ⟨.slice 35, 1, 24, [.data (.slice true 0 [])], [], false⟩ := rfl
theorem tb137 : tb 137 = ⟨.struct [(0, 1, false), (1, 1, false)], 2, 40, [.data (.str ⟨#[]⟩), .data (.slice true 0 [])], [], false⟩ := rfl
theorem tb138 : tb 138 = ⟨.struct [(0, 1, false), (1, 1, false)], 2, 40, [.data (.str ⟨#[]⟩), .data (.slice true 0 [])], [], false⟩ := rfl
theorem tb139 : tb 139 = ⟨.func, 1, 8, [.nilfn], [], false⟩ := rfl
theorem tb140 : tb 140 = ⟨.func, 1, 8, [.nilfn], [], false⟩ := rfl
theorem tb141 : tb 141 = ⟨.func, 1, 8, [.nilfn], [], false⟩ := rfl
theorem tb142 : tb 142 = ⟨.func, 1, 8, [.nilfn], [], false⟩ := rfl
theorem tb143 : tb 143 = ⟨.map 9 3, 1, 8, [.nilmap], [], false⟩ := rfl
theorem tb144 : tb 144 = ⟨.func, 1, 8, [.nilfn], [], false⟩ := rfl
theorem tb145 : tb 145 = ⟨.func, 1, 8, [.nilfn], [], false⟩ := rfl
theorem tb146 : tb 146 = ⟨.func, 1, 8, [.nilfn], [], false⟩ := rfl
theorem tb147 : tb 147 = ⟨.func, 1, 8, [.nilfn], [], false⟩ := rfl
theorem tb148 : tb 148 = ⟨.func, 1, 8, [.nilfn], [], false⟩ := rfl
theorem tb149 : tb 149 = ⟨.func, 1, 8, [.nilfn], [], false⟩ := rfl
theorem tb150 : tb 150 = ⟨.func, 1, 8, [.nilfn], [], false⟩ := rfl
theorem tb151 : tb 151 = ⟨.func, 1, 8, [.nilfn], [], false⟩ := rfl
theorem tb152 : tb 152 = ⟨.func, 1, 8, [.nilfn], [], false⟩ := rfl
theorem tb153 : tb 153 = ⟨.func, 1, 8, [.nilfn], [], false⟩ := rfl
theorem tb154 : tb 154 = ⟨.func, 1, 8, [.nilfn], [], false⟩ := rfl
theorem tb155 : tb 155 = ⟨.func, 1, 8, [.nilfn], [], false⟩ := rfl
theorem tb156 : tb 156 = ⟨.func, 1, 8, [.nilfn], [], false⟩ := rfl
theorem tb157 : tb 157 = ⟨.func, 1, 8, [.nilfn], [], false⟩ := rfl
theorem tb158 : tb 158 = ⟨.func, 1, 8, [.nilfn], [], false⟩ := rfl
theorem tb159 : tb 159 = ⟨.ptr 66, 1, 8, [.nilptr], [], false⟩ := rfl
theorem tb160 : tb 160 = ⟨.func, 1, 8, [.nilfn], [], false⟩ := rfl
theorem tb161 : tb 161 = ⟨.ptr 40, 1, 8, [.nilptr], [], false⟩ := rfl
theorem tb162 : tb 162 = ⟨.ptr 184, 1, 8, [.nilptr], [], false⟩ := rfl
theorem tb163 : tb 163 = ⟨.func, 1, 8, [.nilfn], [], false⟩ := rfl
theorem tb164 : tb 164 = ⟨.func, 1, 8, [.nilfn], [], false⟩ := rfl
theorem tb165 : tb 165 = ⟨.func, 1, 8, [.nilfn], [], false⟩ := rfl
theorem tb166 : tb 166 = ⟨.func, 1, 8, [.nilfn], [], false⟩ := rfl
theorem tb167 : tb 167 = ⟨.func, 1, 8, [.nilfn], [], false⟩ := rfl
theorem tb168 : tb 168 = ⟨.func, 1, 8, [.nilfn], [], false⟩ := rfl
theorem tb169 : tb 169 = ⟨.map 9 170, 1, 8, [.nilmap], [], false⟩ := rfl
theorem tb170 : tb 170 = ⟨.struct [], 0, 0, [], [], false⟩ := rfl
theorem tb171 : tb 171 = ⟨.slice 175, 1, 24, [.data (.slice true 0 [])], [], false⟩ := rfl
theorem tb172 : tb 172 = ⟨.func, 1, 8, [.nilfn], [], false⟩ := rfl
theorem tb173 : tb 173 = ⟨.int .i8, 1, 1, [.data (.int .i8 0)], [.int .i8], false⟩ := rfl
theorem tb174 : tb 174 = ⟨.struct [(0, 1, false), (1, 1, false), (2, 1, false), (3, 1, false)], 4, 48, [.data (.str ⟨#[]⟩), .data (.str ⟨#[]⟩), .data (.int .i8 0), .data (.int .i64 0)], [.str, .str, .int .i8, .int .i64], false⟩ := rfl
theorem tb175 : tb 175 = ⟨.struct [(0, 1, false), (1, 1, false), (2, 1, false), (3, 1, false)], 4, 48, [.data (.str ⟨#[]⟩), .data (.str ⟨#[]⟩), .data (.int .i8 0), .data (.int .i64 0)], [.str, .str, .int .i8, .int .i64], false⟩ := rfl
theorem tb176 : tb 176 = ⟨.other, 1, 0, [.undef], [], false⟩ := rfl
theorem tb177 : tb 177 = ⟨.func, 1, 8, [.nilfn], [], false⟩ := rfl
theorem tb178 : tb 178 = ⟨.func, 1, 8, [.nilfn], [], false⟩ := rfl
theorem tb179 : tb 179 = ⟨.func, 1, 8, [.nilfn], [], false⟩ := rfl
theorem tb180 : tb 180 = ⟨.func, 1, 8, [.nilfn], [], false⟩ := rfl
theorem tb181 : tb 181 = ⟨.func, 1, 8, [.nilfn], [], false⟩ := rfl
theorem tb182 : tb 182 = ⟨.func, 1, 8, [.nilfn], [], false⟩ := rfl
theorem tb183 : tb 183 = ⟨.struct [(0, 1, false), (1, 1, false)], 2, 32, [.data (.slice true 0 []), .nilmap], [], false⟩ := rfl
theorem tb184 : tb 184 = ⟨.struct [(0, 1, false), (1, 1, false)], 2, 32, [.data (.slice true 0 []), .nilmap], [], false⟩ := rfl
theorem tb185 : tb 185 = ⟨.slice 191, 1, 24, [.data (.slice true 0 [])], [], false⟩ := rfl
theorem tb186 : tb 186 = ⟨.struct [(0, 1, false)], 1, 24, [.data (.slice true 0 [])], [], false⟩ := rfl
theorem tb187 : tb 187 = ⟨.struct [(0, 1, false)], 1, 24, [.data (.slice true 0 [])], [], false⟩ := rfl
theorem tb188 : tb 188 = ⟨.func, 1, 8, [.nilfn], [], false⟩ := rfl
theorem tb189 : tb 189 = ⟨.func, 1, 8, [.nilfn], [], false⟩ := rfl
theorem tb190 : tb 190 = ⟨.struct [(0, 1, false), (1, 1, false), (2, 1, false), (3, 1, false)], 4, 80, [.data (.str ⟨#[]⟩), .data (.str ⟨#[]⟩), .data (.slice true 0 []), .data (.slice true 0 [])], [], false⟩ := rfl
theorem tb191 : tb 191 = ⟨.struct [(0, 1, false), (1, 1, false), (2, 1, false), (3, 1, false)], 4, 80, [.data (.str ⟨#[]⟩), .data (.str ⟨#[]⟩), .data (.slice true 0 []), .data (.slice true 0 [])], [], false⟩ := rfl
theorem tb192 : tb 192 = ⟨.func, 1, 8, [.nilfn], [], false⟩ := rfl
theorem tb193 : tb 193 = ⟨.func, 1, 8, [.nilfn], [], false⟩ := rfl
theorem tb194 : tb 194 = ⟨.func, 1, 8, [.nilfn], [], false⟩ := rfl
theorem tb195 : tb 195 = ⟨.func, 1, 8, [.nilfn], [], false⟩ := rfl
theorem tb196 : tb 196 = ⟨.func, 1, 8, [.nilfn], [], false⟩ := rfl
theorem tb197 : tb 197 = ⟨.int .u64, 1, 8, [.data (.int .u64 0)], [.int .u64], false⟩ := rfl
theorem tb198 : tb 198 = ⟨.func, 1, 8, [.nilfn], [], false⟩ := rfl
theorem tb199 : tb 199 = ⟨.func, 1, 8, [.nilfn], [], false⟩ := rfl
theorem tb200 : tb 200 = ⟨.func, 1, 8, [.nilfn], [], false⟩ := rfl
theorem tb201 : tb 201 = otherT := rfl
theorem tb202 : tb 202 = ⟨.int .u64, 1, 8, [.data (.int .u64 0)], [.int .u64], false⟩ := rfl
theorem tb203 : tb 203 = ⟨.func, 1, 8, [.nilfn], [], false⟩ := rfl
theorem tb204 : tb 204 = ⟨.func, 1, 8, [.nilfn], [], false⟩ := rfl
theorem tb205 : tb 205 = ⟨.other, 1, 0, [.undef], [], false⟩ := rfl
theorem tb206 : tb 206 = ⟨.func, 1, 8, [.nilfn], [], false⟩ := rfl
theorem tb207 : tb 207 = ⟨.func, 1, 8, [.nilfn], [], false⟩ := rfl
theorem tb208 : tb 208 = ⟨.func, 1, 8, [.nilfn], [], false⟩ := rfl
theorem tb209 : tb 209 = ⟨.ptr 187, 1, 8, [.nilptr], [], false⟩ := rfl
theorem tb210 : tb 210 = ⟨.func, 1, 8, [.nilfn], [], false⟩ := rfl
theorem tb211 : tb 211 = ⟨.int .i64, 1, 8, [.data (.int .i64 0)], [.int .i64], false⟩ := rfl
theorem tb212 : tb 212 = ⟨.other, 1, 0, [.undef], [], false⟩ := rfl
theorem tb213 : tb 213 = ⟨.func, 1, 8, [.nilfn], [], false⟩ := rfl
theorem tb214 : tb 214 = ⟨.func, 1, 8, [.nilfn], [], false⟩ := rfl
theorem tb215 : tb 215 = ⟨.func, 1, 8, [.nilfn], [], false⟩ := rfl
theorem tb216 : tb 216 = ⟨.func, 1, 8, [.nilfn], [], false⟩ := rfl
theorem tb217 : tb 217 = ⟨.func, 1, 8, [.nilfn], [], false⟩ := rfl
theorem tb218 : tb 218 = ⟨.int .u32, 1, 4, [.data (.int .u32 0)], [.int .u32], false⟩ := rfl
theorem tb219 : tb 219 = ⟨.func, 1, 8, [.nilfn], [], false⟩ := rfl
theorem tb220 : tb 220 = ⟨.func, 1, 8, [.nilfn], [], false⟩ := rfl
theorem tb221 : tb 221 = ⟨.func, 1, 8, [.nilfn], [], false⟩ := rfl
theorem tb222 : tb 222 = otherT := rfl
theorem tb223 : tb 223 = otherT := rfl
theorem tb224 : tb 224 = ⟨.func, 1, 8, [.nilfn], [], false⟩ := rfl
theorem tb225 : tb 225 = ⟨.func, 1, 8, [.nilfn], [], false⟩ := rfl
theorem tb226 : tb 226 = ⟨.int .u64, 1, 8, [.data (.int .u64 0)], [.int .u64], false⟩ := rfl
theorem tb227 : tb 227 = ⟨.func, 1, 8, [.nilfn], [], false⟩ := rfl
theorem tb228 : tb 228 = ⟨.func, 1, 8, [.nilfn], [], false⟩ := rfl
theorem tb229 : tb 229 = ⟨.func, 1, 8, [.nilfn], [], false⟩ := rfl
theorem tb230 : tb 230 = ⟨.ptr 3, 1, 8, [.nilptr], [], false⟩ := rfl
theorem tb231 : tb 231 = ⟨.func, 1, 8, [.nilfn], [], false⟩ := rfl
theorem tb232 : tb 232 = ⟨.ptr 226, 1, 8, [.nilptr], [], false⟩ := rfl
theorem tb233 : tb 233 = ⟨.other, 1, 0, [.undef], [], false⟩ := rfl
theorem tb234 : tb 234 = ⟨.func, 1, 8, [.nilfn], [], false⟩ := rfl
theorem tb235 : tb 235 = otherT := rfl
theorem tb236 : tb 236 = otherT := rfl
theorem tb237 : tb 237 = ⟨.func, 1, 8, [.nilfn], [], false⟩ := rfl
theorem tb238 : tb 238 = ⟨.struct [(0, 1, false), (1, 1, false), (2, 1, false), (3, 1, false)], 4, 40, [.nilptr, .nilptr, .nilptr, .data (.str ⟨#[]⟩)], [], false⟩ := rfl
theorem tb239 : tb 239 = ⟨.struct [(0, 1, false), (1, 1, false), (2, 1, false), (3, 1, false)], 4, 40, [.nilptr, .nilptr, .nilptr, .data (.str ⟨#[]⟩)], [], false⟩ := rfl
theorem tb240 : tb 240 = otherT := rfl
theorem tb241 : tb 241 = ⟨.struct [(0, 0, true)], 0, 0, [], [], false⟩ := rfl
theorem tb242 : tb 242 = ⟨.struct [(0, 0, true)], 0, 0, [], [], false⟩ := rfl
theorem tb243 : tb 243 = ⟨.func, 1, 8, [.nilfn], [], false⟩ := rfl
theorem tb244 : tb 244 = ⟨.int .u8, 1, 1, [.data (.int .u8 0)], [.int .u8], false⟩ := rfl
theorem tb245 : tb 245 = ⟨.int .u8, 1, 1, [.data (.int .u8 0)], [.int .u8], false⟩ := rfl
theorem tb246 : tb 246 = ⟨.func, 1, 8, [.nilfn], [], false⟩ := rfl
theorem tb247 : tb 247 = ⟨.ptr 5, 1, 8, [.nilptr], [], false⟩ := rfl
theorem tb248 : tb 248 = ⟨.int .i32, 1, 4, [.data (.int .i32 0)], [.int .i32], false⟩ := rfl
theorem tb249 : tb 249 = ⟨.int .i32, 1, 4, [.data (.int .i32 0)], [.int .i32], false⟩ := rfl
theorem tb250 : tb 250 = ⟨.struct [(0, 1, false), (1, 1, false), (2, 1, false), (3, 1, false), (4, 1, false), (5, 1, false), (6, 1, false), (7, 1, false), (8, 1, false), (9, 1, false), (10, 1, false)], 11, 48, [.data (.int .u64 0), .data (.int .u64 0), .data (.int .u32 0), .data (.int .u8 0), .data (.int .u8 0), .data (.int .u8 0), .data (.int .u8 0), .nilfn, .nilptr, .data (.int .i32 0), .data (.int .i32 0)], [], false⟩ := rfl
theorem tb251 : tb 251 = ⟨.struct [(0, 1, false), (1, 1, false), (2, 1, false), (3, 1, false), (4, 1, false), (5, 1, false), (6, 1, false), (7, 1, false), (8, 1, false), (9, 1, false), (10, 1, false)], 11, 48, [.data (.int .u64 0), .data (.int .u64 0), .data (.int .u32 0), .data (.int .u8 0), .data (.int .u8 0), .data (.int .u8 0), .data (.int .u8 0), .nilfn, .nilptr, .data (.int .i32 0), .data (.int .i32 0)], [], false⟩ := rfl
theorem tb252 : tb 252 = ⟨.other, 1, 8, [.nilptr], [], false⟩ := rfl
end Go.Proofs.Tryz

/- where the functions stand. -/
namespace Go.Proofs.Tryz
open Go Go.GL
theorem at3 : FnAt prog 3 44 [.tmp 6] (f3.body.getD .skip) := ⟨f3, func3, by decide, rfl, rfl, rfl⟩
theorem at4 : FnAt prog 4 250 [.tmp 4] (f4.body.getD .skip) := ⟨f4, func4, by decide, rfl, rfl, rfl⟩
theorem at5 : FnAt prog 5 178 [.tmp 4] (f5.body.getD .skip) := ⟨f5, func5, by decide, rfl, rfl, rfl⟩
theorem at6 : FnAt prog 6 7 [.tmp 2] (f6.body.getD .skip) := ⟨f6, func6, by decide, rfl, rfl, rfl⟩
theorem at7 : FnAt prog 7 8 [.cell 2 24] (f7.body.getD .skip) := ⟨f7, func7, by decide, rfl, rfl, rfl⟩
theorem at8 : FnAt prog 8 31 [.tmp 2] (f8.body.getD .skip) := ⟨f8, func8, by decide, rfl, rfl, rfl⟩
theorem at9 : FnAt prog 9 43 [.tmp 4] (f9.body.getD .skip) := ⟨f9, func9, by decide, rfl, rfl, rfl⟩
theorem at10 : FnAt prog 10 37 [.tmp 4] (f10.body.getD .skip) := ⟨f10, func10, by decide, rfl, rfl, rfl⟩
theorem at11 : FnAt prog 11 17 [.tmp 4] (f11.body.getD .skip) := ⟨f11, func11, by decide, rfl, rfl, rfl⟩
theorem at12 : FnAt prog 12 20 [.tmp 4] (f12.body.getD .skip) := ⟨f12, func12, by decide, rfl, rfl, rfl⟩
theorem at13 : FnAt prog 13 10 [.tmp 2] (f13.body.getD .skip) := ⟨f13, func13, by decide, rfl, rfl, rfl⟩
theorem at14 : FnAt prog 14 10 [.tmp 2] (f14.body.getD .skip) := ⟨f14, func14, by decide, rfl, rfl, rfl⟩
theorem at15 : FnAt prog 15 72 [.tmp 0] (f15.body.getD .skip) := ⟨f15, func15, by decide, rfl, rfl, rfl⟩
theorem at16 : FnAt prog 16 95 [.tmp 2] (f16.body.getD .skip) := ⟨f16, func16, by decide, rfl, rfl, rfl⟩
theorem at17 : FnAt prog 17 153 [.cell 4 56, .tmp 5, .tmp 6] (f17.body.getD .skip) := ⟨f17, func17, by decide, rfl, rfl, rfl⟩
theorem at18 : FnAt prog 18 23 [.tmp 4] (f18.body.getD .skip) := ⟨f18, func18, by decide, rfl, rfl, rfl⟩
theorem at19 : FnAt prog 19 17 [.tmp 4] (f19.body.getD .skip) := ⟨f19, func19, by decide, rfl, rfl, rfl⟩
theorem at20 : FnAt prog 20 26 [.tmp 4] (f20.body.getD .skip) := ⟨f20, func20, by decide, rfl, rfl, rfl⟩
theorem at21 : FnAt prog 21 20 [.tmp 4] (f21.body.getD .skip) := ⟨f21, func21, by decide, rfl, rfl, rfl⟩
theorem at22 : FnAt prog 22 26 [.tmp 4] (f22.body.getD .skip) := ⟨f22, func22, by decide, rfl, rfl, rfl⟩
theorem at23 : FnAt prog 23 55 [.tmp 4] (f23.body.getD .skip) := ⟨f23, func23, by decide, rfl, rfl, rfl⟩
theorem at24 : FnAt prog 24 63 [.cell 4 66] (f24.body.getD .skip) := ⟨f24, func24, by decide, rfl, rfl, rfl⟩
theorem at25 : FnAt prog 25 89 [.tmp 6] (f25.body.getD .skip) := ⟨f25, func25, by decide, rfl, rfl, rfl⟩
theorem at26 : FnAt prog 26 30 [.cell 2 24, .tmp 3] (f26.body.getD .skip) := ⟨f26, func26, by decide, rfl, rfl, rfl⟩
theorem at27 : FnAt prog 27 5 [.tmp 2] (f27.body.getD .skip) := ⟨f27, func27, by decide, rfl, rfl, rfl⟩
theorem at28 : FnAt prog 28 35 [.tmp 4] (f28.body.getD .skip) := ⟨f28, func28, by decide, rfl, rfl, rfl⟩
theorem at29 : FnAt prog 29 31 [.tmp 2] (f29.body.getD .skip) := ⟨f29, func29, by decide, rfl, rfl, rfl⟩
theorem at30 : FnAt prog 30 5 [.tmp 2] (f30.body.getD .skip) := ⟨f30, func30, by decide, rfl, rfl, rfl⟩
theorem at31 : FnAt prog 31 9 [.tmp 4] (f31.body.getD .skip) := ⟨f31, func31, by decide, rfl, rfl, rfl⟩
theorem at32 : FnAt prog 32 18 [.tmp 4] (f32.body.getD .skip) := ⟨f32, func32, by decide, rfl, rfl, rfl⟩
theorem at33 : FnAt prog 33 20 [.tmp 4] (f33.body.getD .skip) := ⟨f33, func33, by decide, rfl, rfl, rfl⟩
theorem at34 : FnAt prog 34 26 [.tmp 4] (f34.body.getD .skip) := ⟨f34, func34, by decide, rfl, rfl, rfl⟩
theorem at35 : FnAt prog 35 9 [.tmp 4] (f35.body.getD .skip) := ⟨f35, func35, by decide, rfl, rfl, rfl⟩
theorem at36 : FnAt prog 36 41 [.tmp 0, .cell 1 24] (f36.body.getD .skip) := ⟨f36, func36, by decide, rfl, rfl, rfl⟩
theorem at37 : FnAt prog 37 20 [.tmp 2] (f37.body.getD .skip) := ⟨f37, func37, by decide, rfl, rfl, rfl⟩
theorem at38 : FnAt prog 38 66 [.tmp 4] (f38.body.getD .skip) := ⟨f38, func38, by decide, rfl, rfl, rfl⟩
theorem at39 : FnAt prog 39 8 [.tmp 2] (f39.body.getD .skip) := ⟨f39, func39, by decide, rfl, rfl, rfl⟩
theorem at40 : FnAt prog 40 49 [.tmp 4] (f40.body.getD .skip) := ⟨f40, func40, by decide, rfl, rfl, rfl⟩
theorem at41 : FnAt prog 41 119 [] (f41.body.getD .skip) := ⟨f41, func41, by decide, rfl, rfl, rfl⟩
theorem at42 : FnAt prog 42 50 [] (f42.body.getD .skip) := ⟨f42, func42, by decide, rfl, rfl, rfl⟩
theorem at43 : FnAt prog 43 53 [.tmp 2] (f43.body.getD .skip) := ⟨f43, func43, by decide, rfl, rfl, rfl⟩
theorem at44 : FnAt prog 44 26 [.tmp 4] (f44.body.getD .skip) := ⟨f44, func44, by decide, rfl, rfl, rfl⟩
theorem at45 : FnAt prog 45 28 [.tmp 6] (f45.body.getD .skip) := ⟨f45, func45, by decide, rfl, rfl, rfl⟩
theorem at46 : FnAt prog 46 5 [.tmp 2] (f46.body.getD .skip) := ⟨f46, func46, by decide, rfl, rfl, rfl⟩
theorem at47 : FnAt prog 47 10 [.tmp 2] (f47.body.getD .skip) := ⟨f47, func47, by decide, rfl, rfl, rfl⟩
theorem at48 : FnAt prog 48 29 [.tmp 4] (f48.body.getD .skip) := ⟨f48, func48, by decide, rfl, rfl, rfl⟩
theorem at49 : FnAt prog 49 6 [.cell 2 37] (f49.body.getD .skip) := ⟨f49, func49, by decide, rfl, rfl, rfl⟩
theorem at50 : FnAt prog 50 6 [.tmp 2] (f50.body.getD .skip) := ⟨f50, func50, by decide, rfl, rfl, rfl⟩
theorem at51 : FnAt prog 51 19 [.tmp 4] (f51.body.getD .skip) := ⟨f51, func51, by decide, rfl, rfl, rfl⟩
theorem at52 : FnAt prog 52 10 [.tmp 4] (f52.body.getD .skip) := ⟨f52, func52, by decide, rfl, rfl, rfl⟩
theorem at53 : FnAt prog 53 13 [.cell 6 42] (f53.body.getD .skip) := ⟨f53, func53, by decide, rfl, rfl, rfl⟩
theorem at54 : FnAt prog 54 45 [.tmp 4] (f54.body.getD .skip) := ⟨f54, func54, by decide, rfl, rfl, rfl⟩
theorem at55 : FnAt prog 55 19 [.tmp 2] (f55.body.getD .skip) := ⟨f55, func55, by decide, rfl, rfl, rfl⟩
theorem at56 : FnAt prog 56 42 [.tmp 4, .tmp 5] (f56.body.getD .skip) := ⟨f56, func56, by decide, rfl, rfl, rfl⟩
theorem at57 : FnAt prog 57 8 [.tmp 4] (f57.body.getD .skip) := ⟨f57, func57, by decide, rfl, rfl, rfl⟩
theorem at58 : FnAt prog 58 10 [.tmp 2] (f58.body.getD .skip) := ⟨f58, func58, by decide, rfl, rfl, rfl⟩
theorem at59 : FnAt prog 59 8 [.tmp 2] (f59.body.getD .skip) := ⟨f59, func59, by decide, rfl, rfl, rfl⟩
theorem at60 : FnAt prog 60 8 [.tmp 2] (f60.body.getD .skip) := ⟨f60, func60, by decide, rfl, rfl, rfl⟩
theorem at61 : FnAt prog 61 69 [.tmp 4] (f61.body.getD .skip) := ⟨f61, func61, by decide, rfl, rfl, rfl⟩
theorem at62 : FnAt prog 62 18 [.cell 2 42] (f62.body.getD .skip) := ⟨f62, func62, by decide, rfl, rfl, rfl⟩
theorem at63 : FnAt prog 63 33 [.tmp 6] (f63.body.getD .skip) := ⟨f63, func63, by decide, rfl, rfl, rfl⟩
theorem at64 : FnAt prog 64 5 [.tmp 2] (f64.body.getD .skip) := ⟨f64, func64, by decide, rfl, rfl, rfl⟩
theorem at65 : FnAt prog 65 15 [.tmp 2] (f65.body.getD .skip) := ⟨f65, func65, by decide, rfl, rfl, rfl⟩
theorem at66 : FnAt prog 66 28 [.tmp 2] (f66.body.getD .skip) := ⟨f66, func66, by decide, rfl, rfl, rfl⟩
theorem at67 : FnAt prog 67 58 [.tmp 2] (f67.body.getD .skip) := ⟨f67, func67, by decide, rfl, rfl, rfl⟩
theorem at68 : FnAt prog 68 4 [.tmp 2] (f68.body.getD .skip) := ⟨f68, func68, by decide, rfl, rfl, rfl⟩
theorem at69 : FnAt prog 69 5 [.tmp 2] (f69.body.getD .skip) := ⟨f69, func69, by decide, rfl, rfl, rfl⟩
theorem at70 : FnAt prog 70 38 [.tmp 4] (f70.body.getD .skip) := ⟨f70, func70, by decide, rfl, rfl, rfl⟩
theorem at71 : FnAt prog 71 119 [] (f71.body.getD .skip) := ⟨f71, func71, by decide, rfl, rfl, rfl⟩
theorem at72 : FnAt prog 72 39 [] (f72.body.getD .skip) := ⟨f72, func72, by decide, rfl, rfl, rfl⟩
theorem at73 : FnAt prog 73 75 [.tmp 4] (f73.body.getD .skip) := ⟨f73, func73, by decide, rfl, rfl, rfl⟩
theorem at74 : FnAt prog 74 16 [.tmp 2] (f74.body.getD .skip) := ⟨f74, func74, by decide, rfl, rfl, rfl⟩
theorem at75 : FnAt prog 75 30 [.tmp 2] (f75.body.getD .skip) := ⟨f75, func75, by decide, rfl, rfl, rfl⟩
theorem at76 : FnAt prog 76 9 [.tmp 4] (f76.body.getD .skip) := ⟨f76, func76, by decide, rfl, rfl, rfl⟩
theorem at77 : FnAt prog 77 6 [.tmp 2] (f77.body.getD .skip) := ⟨f77, func77, by decide, rfl, rfl, rfl⟩
theorem at78 : FnAt prog 78 26 [.tmp 2] (f78.body.getD .skip) := ⟨f78, func78, by decide, rfl, rfl, rfl⟩
theorem at79 : FnAt prog 79 18 [.tmp 4] (f79.body.getD .skip) := ⟨f79, func79, by decide, rfl, rfl, rfl⟩
theorem at80 : FnAt prog 80 43 [.tmp 4] (f80.body.getD .skip) := ⟨f80, func80, by decide, rfl, rfl, rfl⟩
theorem at81 : FnAt prog 81 18 [.tmp 4] (f81.body.getD .skip) := ⟨f81, func81, by decide, rfl, rfl, rfl⟩
theorem at82 : FnAt prog 82 12 [.tmp 4] (f82.body.getD .skip) := ⟨f82, func82, by decide, rfl, rfl, rfl⟩
theorem at83 : FnAt prog 83 9 [.tmp 2] (f83.body.getD .skip) := ⟨f83, func83, by decide, rfl, rfl, rfl⟩
theorem at84 : FnAt prog 84 4 [.tmp 2] (f84.body.getD .skip) := ⟨f84, func84, by decide, rfl, rfl, rfl⟩
theorem at85 : FnAt prog 85 18 [.tmp 4] (f85.body.getD .skip) := ⟨f85, func85, by decide, rfl, rfl, rfl⟩
theorem at86 : FnAt prog 86 9 [.tmp 4] (f86.body.getD .skip) := ⟨f86, func86, by decide, rfl, rfl, rfl⟩
theorem at87 : FnAt prog 87 52 [.tmp 2] (f87.body.getD .skip) := ⟨f87, func87, by decide, rfl, rfl, rfl⟩
theorem at88 : FnAt prog 88 46 [.tmp 2] (f88.body.getD .skip) := ⟨f88, func88, by decide, rfl, rfl, rfl⟩
theorem at89 : FnAt prog 89 12 [.tmp 3] (f89.body.getD .skip) := ⟨f89, func89, by decide, rfl, rfl, rfl⟩
theorem at90 : FnAt prog 90 42 [.tmp 4] (f90.body.getD .skip) := ⟨f90, func90, by decide, rfl, rfl, rfl⟩
theorem at91 : FnAt prog 91 8 [.tmp 2] (f91.body.getD .skip) := ⟨f91, func91, by decide, rfl, rfl, rfl⟩
theorem at92 : FnAt prog 92 8 [.tmp 3] (f92.body.getD .skip) := ⟨f92, func92, by decide, rfl, rfl, rfl⟩
theorem at93 : FnAt prog 93 31 [.tmp 6] (f93.body.getD .skip) := ⟨f93, func93, by decide, rfl, rfl, rfl⟩
theorem at94 : FnAt prog 94 26 [.cell 2 40] (f94.body.getD .skip) := ⟨f94, func94, by decide, rfl, rfl, rfl⟩
theorem at95 : FnAt prog 95 5 [.tmp 2] (f95.body.getD .skip) := ⟨f95, func95, by decide, rfl, rfl, rfl⟩
theorem at96 : FnAt prog 96 63 [.tmp 6] (f96.body.getD .skip) := ⟨f96, func96, by decide, rfl, rfl, rfl⟩
theorem at97 : FnAt prog 97 11 [.tmp 2] (f97.body.getD .skip) := ⟨f97, func97, by decide, rfl, rfl, rfl⟩
theorem at98 : FnAt prog 98 6 [.tmp 2] (f98.body.getD .skip) := ⟨f98, func98, by decide, rfl, rfl, rfl⟩
theorem at99 : FnAt prog 99 17 [.tmp 2] (f99.body.getD .skip) := ⟨f99, func99, by decide, rfl, rfl, rfl⟩
theorem at100 : FnAt prog 100 6 [.tmp 2] (f100.body.getD .skip) := ⟨f100, func100, by decide, rfl, rfl, rfl⟩
theorem at101 : FnAt prog 101 24 [.tmp 4] (f101.body.getD .skip) := ⟨f101, func101, by decide, rfl, rfl, rfl⟩
theorem at102 : FnAt prog 102 57 [.tmp 2] (f102.body.getD .skip) := ⟨f102, func102, by decide, rfl, rfl, rfl⟩
theorem at103 : FnAt prog 103 18 [.tmp 4] (f103.body.getD .skip) := ⟨f103, func103, by decide, rfl, rfl, rfl⟩
theorem at104 : FnAt prog 104 21 [.tmp 2] (f104.body.getD .skip) := ⟨f104, func104, by decide, rfl, rfl, rfl⟩
theorem at105 : FnAt prog 105 19 [.tmp 4] (f105.body.getD .skip) := ⟨f105, func105, by decide, rfl, rfl, rfl⟩
theorem at106 : FnAt prog 106 27 [.tmp 6] (f106.body.getD .skip) := ⟨f106, func106, by decide, rfl, rfl, rfl⟩
theorem at107 : FnAt prog 107 5 [.tmp 2] (f107.body.getD .skip) := ⟨f107, func107, by decide, rfl, rfl, rfl⟩
theorem at108 : FnAt prog 108 11 [] (f108.body.getD .skip) := ⟨f108, func108, by decide, rfl, rfl, rfl⟩
theorem at109 : FnAt prog 109 14 [] (f109.body.getD .skip) := ⟨f109, func109, by decide, rfl, rfl, rfl⟩
theorem at110 : FnAt prog 110 19 [.tmp 4] (f110.body.getD .skip) := ⟨f110, func110, by decide, rfl, rfl, rfl⟩
theorem at111 : FnAt prog 111 6 [.tmp 2] (f111.body.getD .skip) := ⟨f111, func111, by decide, rfl, rfl, rfl⟩
theorem at112 : FnAt prog 112 25 [.tmp 2] (f112.body.getD .skip) := ⟨f112, func112, by decide, rfl, rfl, rfl⟩
theorem at113 : FnAt prog 113 19 [.tmp 4] (f113.body.getD .skip) := ⟨f113, func113, by decide, rfl, rfl, rfl⟩
theorem at114 : FnAt prog 114 5 [.tmp 2] (f114.body.getD .skip) := ⟨f114, func114, by decide, rfl, rfl, rfl⟩
theorem at115 : FnAt prog 115 8 [.tmp 2] (f115.body.getD .skip) := ⟨f115, func115, by decide, rfl, rfl, rfl⟩
theorem at116 : FnAt prog 116 54 [.tmp 4] (f116.body.getD .skip) := ⟨f116, func116, by decide, rfl, rfl, rfl⟩
theorem at117 : FnAt prog 117 37 [.tmp 4] (f117.body.getD .skip) := ⟨f117, func117, by decide, rfl, rfl, rfl⟩
theorem at118 : FnAt prog 118 27 [.tmp 4] (f118.body.getD .skip) := ⟨f118, func118, by decide, rfl, rfl, rfl⟩
theorem at119 : FnAt prog 119 37 [] (f119.body.getD .skip) := ⟨f119, func119, by decide, rfl, rfl, rfl⟩
theorem at120 : FnAt prog 120 21 [.tmp 2] (f120.body.getD .skip) := ⟨f120, func120, by decide, rfl, rfl, rfl⟩
theorem at121 : FnAt prog 121 40 [.tmp 4] (f121.body.getD .skip) := ⟨f121, func121, by decide, rfl, rfl, rfl⟩
theorem at122 : FnAt prog 122 49 [.tmp 4] (f122.body.getD .skip) := ⟨f122, func122, by decide, rfl, rfl, rfl⟩
theorem at123 : FnAt prog 123 12 [.tmp 4] (f123.body.getD .skip) := ⟨f123, func123, by decide, rfl, rfl, rfl⟩
theorem at124 : FnAt prog 124 13 [.tmp 4] (f124.body.getD .skip) := ⟨f124, func124, by decide, rfl, rfl, rfl⟩
theorem at125 : FnAt prog 125 134 [] (f125.body.getD .skip) := ⟨f125, func125, by decide, rfl, rfl, rfl⟩
theorem at126 : FnAt prog 126 8 [.tmp 2] (f126.body.getD .skip) := ⟨f126, func126, by decide, rfl, rfl, rfl⟩
theorem at127 : FnAt prog 127 9 [.tmp 4] (f127.body.getD .skip) := ⟨f127, func127, by decide, rfl, rfl, rfl⟩
theorem at128 : FnAt prog 128 6 [.tmp 2] (f128.body.getD .skip) := ⟨f128, func128, by decide, rfl, rfl, rfl⟩
theorem at129 : FnAt prog 129 24 [] (f129.body.getD .skip) := ⟨f129, func129, by decide, rfl, rfl, rfl⟩
theorem at130 : FnAt prog 130 23 [] (f130.body.getD .skip) := ⟨f130, func130, by decide, rfl, rfl, rfl⟩
theorem at131 : FnAt prog 131 15 [.tmp 2] (f131.body.getD .skip) := ⟨f131, func131, by decide, rfl, rfl, rfl⟩
theorem at132 : FnAt prog 132 15 [.tmp 2] (f132.body.getD .skip) := ⟨f132, func132, by decide, rfl, rfl, rfl⟩
theorem at133 : FnAt prog 133 167 [] (f133.body.getD .skip) := ⟨f133, func133, by decide, rfl, rfl, rfl⟩
theorem at134 : FnAt prog 134 102 [.tmp 10, .tmp 11] (f134.body.getD .skip) := ⟨f134, func134, by decide, rfl, rfl, rfl⟩
theorem at135 : FnAt prog 135 16 [.tmp 2] (f135.body.getD .skip) := ⟨f135, func135, by decide, rfl, rfl, rfl⟩
theorem at136 : FnAt prog 136 9 [.tmp 4] (f136.body.getD .skip) := ⟨f136, func136, by decide, rfl, rfl, rfl⟩
theorem at137 : FnAt prog 137 9 [.tmp 3] (f137.body.getD .skip) := ⟨f137, func137, by decide, rfl, rfl, rfl⟩
theorem at138 : FnAt prog 138 49 [] (f138.body.getD .skip) := ⟨f138, func138, by decide, rfl, rfl, rfl⟩
theorem at139 : FnAt prog 139 56 [] (f139.body.getD .skip) := ⟨f139, func139, by decide, rfl, rfl, rfl⟩
theorem at140 : FnAt prog 140 65 [] (f140.body.getD .skip) := ⟨f140, func140, by decide, rfl, rfl, rfl⟩
theorem at141 : FnAt prog 141 57 [.tmp 6, .tmp 7] (f141.body.getD .skip) := ⟨f141, func141, by decide, rfl, rfl, rfl⟩
theorem at142 : FnAt prog 142 32 [] (f142.body.getD .skip) := ⟨f142, func142, by decide, rfl, rfl, rfl⟩
theorem at143 : FnAt prog 143 133 [.tmp 6] (f143.body.getD .skip) := ⟨f143, func143, by decide, rfl, rfl, rfl⟩
theorem at144 : FnAt prog 144 17 [.tmp 4] (f144.body.getD .skip) := ⟨f144, func144, by decide, rfl, rfl, rfl⟩
theorem at145 : FnAt prog 145 84 [.tmp 8] (f145.body.getD .skip) := ⟨f145, func145, by decide, rfl, rfl, rfl⟩
theorem at146 : FnAt prog 146 168 [.tmp 8, .tmp 9] (f146.body.getD .skip) := ⟨f146, func146, by decide, rfl, rfl, rfl⟩
theorem at147 : FnAt prog 147 19 [.tmp 2] (f147.body.getD .skip) := ⟨f147, func147, by decide, rfl, rfl, rfl⟩
theorem at148 : FnAt prog 148 25 [.tmp 2] (f148.body.getD .skip) := ⟨f148, func148, by decide, rfl, rfl, rfl⟩
theorem at149 : FnAt prog 149 19 [.tmp 4] (f149.body.getD .skip) := ⟨f149, func149, by decide, rfl, rfl, rfl⟩
theorem at150 : FnAt prog 150 6 [.tmp 2] (f150.body.getD .skip) := ⟨f150, func150, by decide, rfl, rfl, rfl⟩
theorem at151 : FnAt prog 151 4 [.tmp 2] (f151.body.getD .skip) := ⟨f151, func151, by decide, rfl, rfl, rfl⟩
theorem at152 : FnAt prog 152 8 [.tmp 2] (f152.body.getD .skip) := ⟨f152, func152, by decide, rfl, rfl, rfl⟩
theorem at153 : FnAt prog 153 8 [.tmp 2] (f153.body.getD .skip) := ⟨f153, func153, by decide, rfl, rfl, rfl⟩
theorem at154 : FnAt prog 154 19 [.tmp 4] (f154.body.getD .skip) := ⟨f154, func154, by decide, rfl, rfl, rfl⟩
theorem at155 : FnAt prog 155 76 [] (f155.body.getD .skip) := ⟨f155, func155, by decide, rfl, rfl, rfl⟩
theorem at156 : FnAt prog 156 7 [.tmp 2] (f156.body.getD .skip) := ⟨f156, func156, by decide, rfl, rfl, rfl⟩
theorem at157 : FnAt prog 157 33 [.tmp 2] (f157.body.getD .skip) := ⟨f157, func157, by decide, rfl, rfl, rfl⟩
theorem at158 : FnAt prog 158 15 [.tmp 6] (f158.body.getD .skip) := ⟨f158, func158, by decide, rfl, rfl, rfl⟩
theorem at159 : FnAt prog 159 36 [.tmp 10] (f159.body.getD .skip) := ⟨f159, func159, by decide, rfl, rfl, rfl⟩
theorem at160 : FnAt prog 160 6 [.tmp 2] (f160.body.getD .skip) := ⟨f160, func160, by decide, rfl, rfl, rfl⟩
theorem at161 : FnAt prog 161 14 [.tmp 2] (f161.body.getD .skip) := ⟨f161, func161, by decide, rfl, rfl, rfl⟩
theorem at162 : FnAt prog 162 14 [.tmp 2] (f162.body.getD .skip) := ⟨f162, func162, by decide, rfl, rfl, rfl⟩
theorem at163 : FnAt prog 163 28 [.tmp 8, .tmp 9] (f163.body.getD .skip) := ⟨f163, func163, by decide, rfl, rfl, rfl⟩
end Go.Proofs.Tryz

/- the seat's keys, its Env, its functions. -/
namespace Go.Proofs.Tryz
open Go Go.GL Go.WideMaps
theorem under9 : prog.underlying 9 = some .string := by kernel_rfl
theorem law9 : KeyLaw prog 9 := string_law under9
theorem keyT9 : KeyT prog 9 [.str] where
  law := law9
  lits v h := by
    rcases h with ⟨k, hk, h⟩ | ⟨h, _⟩
    · simp at hk
      subst hk
      obtain ⟨s, rfl, hs⟩ := h
      refine ⟨.string s.data.toList, ?_⟩
      unfold keyOf
      rw [under9]
      unfold mapKey
      rw [under9]
      simp [hs]
    · simp at h
theorem under27 : prog.underlying 27 = some (.struct #[{ name := "Pred", type := 9, offset := 0, embedded := false, tag := "", pkgPath := "", byteOffset := 0 }, { name := "Pattern", type := 9, offset := 1, embedded := false, tag := "", pkgPath := "", byteOffset := 16 }]) := by kernel_rfl
theorem laid : laidOutB prog = true := by kernel_rfl
theorem law27 : KeyLaw prog 27 := deep_law_laid laid (m := 3) (by omega) (of_decide_eq_true (by kernel_rfl)) (by kernel_rfl) (by rw [under27])
theorem lits9 (d : Nat) (s : ByteArray) (h : s.size ≤ maxLen) : prog.keyLits (d + 1) 9 [.string s] = some [.string s.data.toList] := by
  unfold Program.keyLits
  rw [under9]
  simp [h]
theorem lits27 (d : Nat) (s1 s2 : ByteArray) (h1 : s1.size ≤ maxLen) (h2 : s2.size ≤ maxLen) : prog.keyLits (d + 2) 27 [.string s1, .string s2] = some [.string s1.data.toList, .string s2.data.toList] := by
  have hc : prog.cellsOf 27 = 2 := by kernel_rfl
  have hc9 : prog.cellsOf 9 = 1 := by kernel_rfl
  unfold Program.keyLits
  rw [under27]
  simp [hc, hc9, lits9, h1, h2]
theorem keyT27 : KeyT prog 27 [.str, .str] where
  law := law27
  lits v h := by
    rcases h with ⟨k, hk, h⟩ | ⟨_, cs, rfl, h⟩
    · simp at hk
    · simp only [KsOk, BK.Ok] at h
      obtain ⟨v1, r1, e1, ⟨s1, rfl, h1⟩, v2, r2, e2, ⟨s2, rfl, h2⟩, e3⟩ := h
      subst e2 e3
      have ecs : cs = #[.string s1, .string s2] := by
        apply Array.ext'
        rw [e1]
      subst ecs
      have hkt : prog.keyType 27 = true := by kernel_rfl
      have hc : prog.cellsOf 27 = 2 := by kernel_rfl
      have hc9 : prog.cellsOf 9 = 1 := by kernel_rfl
      have hn : prog.types.size = 253 := by kernel_rfl
      refine ⟨.string (keyBytes [.string s1.data.toList, .string s2.data.toList]), ?_⟩
      unfold keyOf
      rw [under27]
      have hl := lits27 252 s1 s2 h1 h2
      simp only [hkt, Value.formed, under27, hc, hn]
      simp
      exact ⟨_, hl, rfl⟩
theorem keys_ok : ∀ t, t ∈ tbKeys → KeyT prog t (tbOf prog tbKeys t).flat := by
  intro t ht
  simp [tbKeys] at ht
  rcases ht with rfl | rfl
  · have : (tbOf prog tbKeys 9).flat = [.str] := by kernel_rfl
    rw [this]; exact keyT9
  · have : (tbOf prog tbKeys 27).flat = [.str, .str] := by kernel_rfl
    rw [this]; exact keyT27
noncomputable def E : Env prog := envOf tb_rows keys_ok mixed
theorem E_tb : E.tb = tbL tbRows := rfl
end Go.Proofs.Tryz
