/- The types of the program: kinds, sizes, zero values. -/
import Derived.Test.YthingfifkiphnaaRows
import Derived.Test.YthingfifkiphnaaAg
namespace Go.Proofs.Ythingfifkiphnaa
open Go
def TT : List (Nat × TI) := [(2, ⟨.int .i64, 1, 8⟩), (3, ⟨.int .i64, 1, 8⟩), (4, ⟨.bool, 1, 1⟩), (5, ⟨.int .u8, 1, 1⟩), (6, ⟨.int .u8, 1, 1⟩), (7, ⟨.struct [(2, 0), (3, 1), (4, 2), (6, 3)], 4, 24⟩), (8, ⟨.struct [(2, 0), (3, 1), (4, 2), (6, 3)], 4, 24⟩), (9, ⟨.str, 1, 16⟩), (10, ⟨.str, 1, 16⟩), (11, ⟨.str, 1, 16⟩), (12, ⟨.int .u64, 1, 8⟩), (13, ⟨.struct [(9, 0), (12, 1)], 2, 24⟩), (14, ⟨.struct [(9, 0), (12, 1)], 2, 24⟩), (15, ⟨.ptr 47, 1, 8⟩), (16, ⟨.ptr 50, 1, 8⟩), (17, ⟨.ptr 60, 1, 8⟩), (18, ⟨.struct [(17, 0)], 1, 8⟩), (19, ⟨.struct [(17, 0)], 1, 8⟩), (20, ⟨.iface, 1, 16⟩), (21, ⟨.int .i32, 1, 4⟩), (22, ⟨.slice 25, 1, 24⟩), (24, ⟨.struct [(3, 0), (3, 1), (3, 2), (5, 3)], 4, 32⟩), (25, ⟨.struct [(3, 0), (3, 1), (3, 2), (5, 3)], 4, 32⟩), (39, ⟨.slice 3, 1, 24⟩), (44, ⟨.int .u64, 1, 8⟩), (46, ⟨.struct [(17, 0), (17, 1), (17, 2), (9, 3)], 4, 40⟩), (47, ⟨.struct [(17, 0), (17, 1), (17, 2), (9, 3)], 4, 40⟩), (48, ⟨.array 0 16, 0, 0⟩), (49, ⟨.struct [(48, 0)], 0, 0⟩)]
def ZT : List (Nat × List Z) := [(1, [.func]), (2, [.int .i64]), (3, [.int .i64]), (4, [.bool]), (5, [.int .u8]), (6, [.int .u8]), (7, [.int .i64, .int .i64, .bool, .int .u8]), (8, [.int .i64, .int .i64, .bool, .int .u8]), (9, [.str]), (10, [.str]), (11, [.str]), (12, [.int .u64]), (13, [.str, .int .u64]), (14, [.str, .int .u64]), (15, [.ptr]), (16, [.ptr]), (17, [.ptr]), (18, [.ptr]), (19, [.ptr]), (20, [.iface]), (21, [.int .i32]), (22, [.slice]), (23, [.func]), (24, [.int .i64, .int .i64, .int .i64, .int .u8]), (25, [.int .i64, .int .i64, .int .i64, .int .u8]), (27, [.func]), (28, [.func]), (29, [.func]), (30, [.func]), (31, [.func]), (32, [.func]), (33, [.func]), (34, [.func]), (35, [.func]), (36, [.func]), (37, [.func]), (38, [.func]), (39, [.slice]), (40, [.func]), (41, [.func]), (42, [.func]), (43, [.func]), (44, [.int .u64]), (45, [.func]), (46, [.ptr, .ptr, .ptr, .str]), (47, [.ptr, .ptr, .ptr, .str]), (48, []), (49, [])]
theorem ttB_ok : ttB Try.prog TT = true := by kernel_rfl
theorem hT : TTOk Try.prog TT := ttOk ttB_ok
theorem ztB_ok : (ZT.all fun p => zeroOkB Try.prog p.1 p.2) = true := by kernel_rfl
theorem hZ : ZOk Try.prog ZT := zOk ztB_ok
end Go.Proofs.Ythingfifkiphnaa
