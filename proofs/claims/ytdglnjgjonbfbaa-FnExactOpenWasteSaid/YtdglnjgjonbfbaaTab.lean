/- The types of the translation, as the framework's table. Printed by gentab.py. -/
import Derived.Test.YtdglnjgjonbfbaaFwR
import Derived.Test.YtdglnjgjonbfbaaProg
import Derived.KernelRfl
set_option maxRecDepth 100000
namespace Go.Proofs.Ytdglnjgjonbfbaa.Fw
def T : Tab := [
  (2, ⟨.int .i64, 1, 8, [.v (.int .i64 0)]⟩),
  (3, ⟨.int .i64, 1, 8, [.v (.int .i64 0)]⟩),
  (4, ⟨.bool, 1, 1, [.v (.bool false)]⟩),
  (5, ⟨.int .u8, 1, 1, [.v (.int .u8 0)]⟩),
  (6, ⟨.int .u8, 1, 1, [.v (.int .u8 0)]⟩),
  (9, ⟨.string, 1, 16, [.v (.string ⟨#[]⟩)]⟩),
  (10, ⟨.string, 1, 16, [.v (.string ⟨#[]⟩)]⟩),
  (11, ⟨.string, 1, 16, [.v (.string ⟨#[]⟩)]⟩),
  (12, ⟨.int .u64, 1, 8, [.v (.int .u64 0)]⟩),
  (15, ⟨.ptr 194, 1, 8, [.v (.pointer none)]⟩),
  (16, ⟨.ptr 197, 1, 8, [.v (.pointer none)]⟩),
  (17, ⟨.ptr 207, 1, 8, [.v (.pointer none)]⟩),
  (18, ⟨.struct [(17, 0)], 1, 8, [.v (.pointer none)]⟩),
  (19, ⟨.struct [(17, 0)], 1, 8, [.v (.pointer none)]⟩),
  (20, ⟨.iface, 1, 16, [.v .nilIface]⟩),
  (21, ⟨.int .i32, 1, 4, [.v (.int .i32 0)]⟩),
  (22, ⟨.struct [(9, 0), (2, 1), (2, 2), (2, 3)], 4, 40, [.v (.string ⟨#[]⟩), .v (.int .i64 0), .v (.int .i64 0), .v (.int .i64 0)]⟩),
  (23, ⟨.struct [(9, 0), (2, 1), (2, 2), (2, 3)], 4, 40, [.v (.string ⟨#[]⟩), .v (.int .i64 0), .v (.int .i64 0), .v (.int .i64 0)]⟩),
  (26, ⟨.struct [(9, 0), (2, 1), (2, 2), (2, 3)], 4, 40, [.v (.string ⟨#[]⟩), .v (.int .i64 0), .v (.int .i64 0), .v (.int .i64 0)]⟩),
  (29, ⟨.slice 2, 1, 24, [.sl true true 0 []]⟩),
  (30, ⟨.struct [(9, 0), (29, 1)], 2, 40, [.v (.string ⟨#[]⟩), .sl true true 0 []]⟩),
  (31, ⟨.struct [(9, 0), (29, 1)], 2, 40, [.v (.string ⟨#[]⟩), .sl true true 0 []]⟩),
  (34, ⟨.struct [(9, 0), (29, 1)], 2, 40, [.v (.string ⟨#[]⟩), .sl true true 0 []]⟩),
  (39, ⟨.slice 23, 1, 24, [.sl true true 0 []]⟩),
  (42, ⟨.slice 26, 1, 24, [.sl true true 0 []]⟩),
  (46, ⟨.slice 55, 1, 24, [.sl true true 0 []]⟩),
  (49, ⟨.slice 60, 1, 24, [.sl true true 0 []]⟩),
  (52, ⟨.struct [(9, 0), (2, 1), (2, 2)], 3, 32, [.v (.string ⟨#[]⟩), .v (.int .i64 0), .v (.int .i64 0)]⟩),
  (53, ⟨.struct [(9, 0), (2, 1), (2, 2)], 3, 32, [.v (.string ⟨#[]⟩), .v (.int .i64 0), .v (.int .i64 0)]⟩),
  (54, ⟨.struct [(9, 0), (53, 1), (2, 4), (2, 5), (2, 6), (2, 7)], 8, 80, [.v (.string ⟨#[]⟩), .v (.string ⟨#[]⟩), .v (.int .i64 0), .v (.int .i64 0), .v (.int .i64 0), .v (.int .i64 0), .v (.int .i64 0), .v (.int .i64 0)]⟩),
  (55, ⟨.struct [(9, 0), (53, 1), (2, 4), (2, 5), (2, 6), (2, 7)], 8, 80, [.v (.string ⟨#[]⟩), .v (.string ⟨#[]⟩), .v (.int .i64 0), .v (.int .i64 0), .v (.int .i64 0), .v (.int .i64 0), .v (.int .i64 0), .v (.int .i64 0)]⟩),
  (58, ⟨.struct [(9, 0), (2, 1), (2, 2)], 3, 32, [.v (.string ⟨#[]⟩), .v (.int .i64 0), .v (.int .i64 0)]⟩),
  (59, ⟨.struct [(9, 0), (58, 1), (2, 4), (2, 5), (2, 6), (2, 7)], 8, 80, [.v (.string ⟨#[]⟩), .v (.string ⟨#[]⟩), .v (.int .i64 0), .v (.int .i64 0), .v (.int .i64 0), .v (.int .i64 0), .v (.int .i64 0), .v (.int .i64 0)]⟩),
  (60, ⟨.struct [(9, 0), (58, 1), (2, 4), (2, 5), (2, 6), (2, 7)], 8, 80, [.v (.string ⟨#[]⟩), .v (.string ⟨#[]⟩), .v (.int .i64 0), .v (.int .i64 0), .v (.int .i64 0), .v (.int .i64 0), .v (.int .i64 0), .v (.int .i64 0)]⟩),
  (66, ⟨.slice 5, 1, 24, [.sl true true 0 []]⟩),
  (68, ⟨.slice 80, 1, 24, [.sl true true 0 []]⟩),
  (79, ⟨.struct [(2, 0), (2, 1)], 2, 16, [.v (.int .i64 0), .v (.int .i64 0)]⟩),
  (80, ⟨.struct [(2, 0), (2, 1)], 2, 16, [.v (.int .i64 0), .v (.int .i64 0)]⟩),
  (86, ⟨.slice 29, 1, 24, [.sl true true 0 []]⟩),
  (96, ⟨.ptr 26, 1, 8, [.v (.pointer none)]⟩),
  (101, ⟨.ptr 34, 1, 8, [.v (.pointer none)]⟩),
  (108, ⟨.ptr 60, 1, 8, [.v (.pointer none)]⟩),
  (114, ⟨.ptr 146, 1, 8, [.v (.pointer none)]⟩),
  (118, ⟨.slice 119, 1, 24, [.sl true true 0 []]⟩),
  (119, ⟨.array 2 80, 4, 32, [.v (.int .i64 0), .v (.int .i64 0), .v (.int .i64 0), .v (.int .i64 0)]⟩),
  (131, ⟨.slice 135, 1, 24, [.sl true true 0 []]⟩),
  (134, ⟨.struct [(2, 0), (2, 1), (2, 2), (2, 3)], 4, 32, [.v (.int .i64 0), .v (.int .i64 0), .v (.int .i64 0), .v (.int .i64 0)]⟩),
  (135, ⟨.struct [(2, 0), (2, 1), (2, 2), (2, 3)], 4, 32, [.v (.int .i64 0), .v (.int .i64 0), .v (.int .i64 0), .v (.int .i64 0)]⟩),
  (141, ⟨.ptr 58, 1, 8, [.v (.pointer none)]⟩),
  (144, ⟨.int .u64, 1, 8, [.v (.int .u64 0)]⟩),
  (145, ⟨.struct [(66, 0), (3, 1), (144, 2)], 3, 40, [.sl true true 0 [], .v (.int .i64 0), .v (.int .u64 0)]⟩),
  (146, ⟨.struct [(66, 0), (3, 1), (144, 2)], 3, 40, [.sl true true 0 [], .v (.int .i64 0), .v (.int .u64 0)]⟩),
  (152, ⟨.slice 68, 1, 24, [.sl true true 0 []]⟩),
  (160, ⟨.array 4 2, 4, 32, [.v (.int .i64 0), .v (.int .i64 0), .v (.int .i64 0), .v (.int .i64 0)]⟩),
  (161, ⟨.struct [(2, 0), (160, 1), (2, 5)], 6, 48, [.v (.int .i64 0), .v (.int .i64 0), .v (.int .i64 0), .v (.int .i64 0), .v (.int .i64 0), .v (.int .i64 0)]⟩),
  (162, ⟨.struct [(2, 0), (160, 1), (2, 5)], 6, 48, [.v (.int .i64 0), .v (.int .i64 0), .v (.int .i64 0), .v (.int .i64 0), .v (.int .i64 0), .v (.int .i64 0)]⟩),
  (173, ⟨.slice 9, 1, 24, [.sl true true 0 []]⟩),
  (177, ⟨.slice 4, 1, 24, [.sl true true 0 []]⟩),
  (178, ⟨.ptr 162, 1, 8, [.v (.pointer none)]⟩),
  (186, ⟨.int .u64, 1, 8, [.v (.int .u64 0)]⟩),
  (188, ⟨.iface, 1, 16, [.v .nilIface]⟩),
  (189, ⟨.iface, 1, 16, [.v .nilIface]⟩),
  (191, ⟨.ptr 209, 1, 8, [.v (.pointer none)]⟩),
  (195, ⟨.array 0 16, 0, 0, []⟩),
  (199, ⟨.int .u32, 1, 4, [.v (.int .u32 0)]⟩),
  (200, ⟨.int .u8, 1, 1, [.v (.int .u8 0)]⟩),
  (201, ⟨.int .u8, 1, 1, [.v (.int .u8 0)]⟩),
  (203, ⟨.ptr 5, 1, 8, [.v (.pointer none)]⟩),
  (204, ⟨.int .i32, 1, 4, [.v (.int .i32 0)]⟩),
  (205, ⟨.int .i32, 1, 4, [.v (.int .i32 0)]⟩),
  (206, ⟨.struct [(12, 0), (12, 1), (199, 2), (200, 3), (5, 4), (5, 5), (201, 6), (202, 7), (203, 8), (204, 9), (205, 10)], 11, 48, [.v (.int .u64 0), .v (.int .u64 0), .v (.int .u32 0), .v (.int .u8 0), .v (.int .u8 0), .v (.int .u8 0), .v (.int .u8 0), .v .nilFunc, .v (.pointer none), .v (.int .i32 0), .v (.int .i32 0)]⟩),
  (207, ⟨.struct [(12, 0), (12, 1), (199, 2), (200, 3), (5, 4), (5, 5), (201, 6), (202, 7), (203, 8), (204, 9), (205, 10)], 11, 48, [.v (.int .u64 0), .v (.int .u64 0), .v (.int .u32 0), .v (.int .u8 0), .v (.int .u8 0), .v (.int .u8 0), .v (.int .u8 0), .v .nilFunc, .v (.pointer none), .v (.int .i32 0), .v (.int .i32 0)]⟩),
  (208, ⟨.struct [(9, 0)], 1, 16, [.v (.string ⟨#[]⟩)]⟩),
  (209, ⟨.struct [(9, 0)], 1, 16, [.v (.string ⟨#[]⟩)]⟩)]
theorem T_ok : Tab.ok Try.prog T = true := by kernel_rfl
theorem follows_ok : Try.prog.follows .mixedOrders = true := by kernel_rfl
theorem g2 : Tab.get T 2 = some ⟨.int .i64, 1, 8, [.v (.int .i64 0)]⟩ := _root_.id rfl
theorem d2 : Tab.desc T 2 = some (.int .i64) := rfl
theorem g3 : Tab.get T 3 = some ⟨.int .i64, 1, 8, [.v (.int .i64 0)]⟩ := _root_.id rfl
theorem d3 : Tab.desc T 3 = some (.int .i64) := rfl
theorem g4 : Tab.get T 4 = some ⟨.bool, 1, 1, [.v (.bool false)]⟩ := _root_.id rfl
theorem d4 : Tab.desc T 4 = some (.bool) := rfl
theorem g5 : Tab.get T 5 = some ⟨.int .u8, 1, 1, [.v (.int .u8 0)]⟩ := _root_.id rfl
theorem d5 : Tab.desc T 5 = some (.int .u8) := rfl
theorem g6 : Tab.get T 6 = some ⟨.int .u8, 1, 1, [.v (.int .u8 0)]⟩ := _root_.id rfl
theorem d6 : Tab.desc T 6 = some (.int .u8) := rfl
theorem g9 : Tab.get T 9 = some ⟨.string, 1, 16, [.v (.string ⟨#[]⟩)]⟩ := _root_.id rfl
theorem d9 : Tab.desc T 9 = some (.string) := rfl
theorem g10 : Tab.get T 10 = some ⟨.string, 1, 16, [.v (.string ⟨#[]⟩)]⟩ := _root_.id rfl
theorem d10 : Tab.desc T 10 = some (.string) := rfl
theorem g11 : Tab.get T 11 = some ⟨.string, 1, 16, [.v (.string ⟨#[]⟩)]⟩ := _root_.id rfl
theorem d11 : Tab.desc T 11 = some (.string) := rfl
theorem g12 : Tab.get T 12 = some ⟨.int .u64, 1, 8, [.v (.int .u64 0)]⟩ := _root_.id rfl
theorem d12 : Tab.desc T 12 = some (.int .u64) := rfl
theorem g15 : Tab.get T 15 = some ⟨.ptr 194, 1, 8, [.v (.pointer none)]⟩ := _root_.id rfl
theorem d15 : Tab.desc T 15 = some (.ptr 194) := rfl
theorem g16 : Tab.get T 16 = some ⟨.ptr 197, 1, 8, [.v (.pointer none)]⟩ := _root_.id rfl
theorem d16 : Tab.desc T 16 = some (.ptr 197) := rfl
theorem g17 : Tab.get T 17 = some ⟨.ptr 207, 1, 8, [.v (.pointer none)]⟩ := _root_.id rfl
theorem d17 : Tab.desc T 17 = some (.ptr 207) := rfl
theorem g18 : Tab.get T 18 = some ⟨.struct [(17, 0)], 1, 8, [.v (.pointer none)]⟩ := _root_.id rfl
theorem d18 : Tab.desc T 18 = some (.struct [(17, 0)]) := rfl
theorem g19 : Tab.get T 19 = some ⟨.struct [(17, 0)], 1, 8, [.v (.pointer none)]⟩ := _root_.id rfl
theorem d19 : Tab.desc T 19 = some (.struct [(17, 0)]) := rfl
theorem g20 : Tab.get T 20 = some ⟨.iface, 1, 16, [.v .nilIface]⟩ := _root_.id rfl
theorem d20 : Tab.desc T 20 = some (.iface) := rfl
theorem g21 : Tab.get T 21 = some ⟨.int .i32, 1, 4, [.v (.int .i32 0)]⟩ := _root_.id rfl
theorem d21 : Tab.desc T 21 = some (.int .i32) := rfl
theorem g22 : Tab.get T 22 = some ⟨.struct [(9, 0), (2, 1), (2, 2), (2, 3)], 4, 40, [.v (.string ⟨#[]⟩), .v (.int .i64 0), .v (.int .i64 0), .v (.int .i64 0)]⟩ := _root_.id rfl
theorem d22 : Tab.desc T 22 = some (.struct [(9, 0), (2, 1), (2, 2), (2, 3)]) := rfl
theorem g23 : Tab.get T 23 = some ⟨.struct [(9, 0), (2, 1), (2, 2), (2, 3)], 4, 40, [.v (.string ⟨#[]⟩), .v (.int .i64 0), .v (.int .i64 0), .v (.int .i64 0)]⟩ := _root_.id rfl
theorem d23 : Tab.desc T 23 = some (.struct [(9, 0), (2, 1), (2, 2), (2, 3)]) := rfl
theorem g26 : Tab.get T 26 = some ⟨.struct [(9, 0), (2, 1), (2, 2), (2, 3)], 4, 40, [.v (.string ⟨#[]⟩), .v (.int .i64 0), .v (.int .i64 0), .v (.int .i64 0)]⟩ := _root_.id rfl
theorem d26 : Tab.desc T 26 = some (.struct [(9, 0), (2, 1), (2, 2), (2, 3)]) := rfl
theorem g29 : Tab.get T 29 = some ⟨.slice 2, 1, 24, [.sl true true 0 []]⟩ := _root_.id rfl
theorem d29 : Tab.desc T 29 = some (.slice 2) := rfl
theorem g30 : Tab.get T 30 = some ⟨.struct [(9, 0), (29, 1)], 2, 40, [.v (.string ⟨#[]⟩), .sl true true 0 []]⟩ := _root_.id rfl
theorem d30 : Tab.desc T 30 = some (.struct [(9, 0), (29, 1)]) := rfl
theorem g31 : Tab.get T 31 = some ⟨.struct [(9, 0), (29, 1)], 2, 40, [.v (.string ⟨#[]⟩), .sl true true 0 []]⟩ := _root_.id rfl
theorem d31 : Tab.desc T 31 = some (.struct [(9, 0), (29, 1)]) := rfl
theorem g34 : Tab.get T 34 = some ⟨.struct [(9, 0), (29, 1)], 2, 40, [.v (.string ⟨#[]⟩), .sl true true 0 []]⟩ := _root_.id rfl
theorem d34 : Tab.desc T 34 = some (.struct [(9, 0), (29, 1)]) := rfl
theorem g39 : Tab.get T 39 = some ⟨.slice 23, 1, 24, [.sl true true 0 []]⟩ := _root_.id rfl
theorem d39 : Tab.desc T 39 = some (.slice 23) := rfl
theorem g42 : Tab.get T 42 = some ⟨.slice 26, 1, 24, [.sl true true 0 []]⟩ := _root_.id rfl
theorem d42 : Tab.desc T 42 = some (.slice 26) := rfl
theorem g46 : Tab.get T 46 = some ⟨.slice 55, 1, 24, [.sl true true 0 []]⟩ := _root_.id rfl
theorem d46 : Tab.desc T 46 = some (.slice 55) := rfl
theorem g49 : Tab.get T 49 = some ⟨.slice 60, 1, 24, [.sl true true 0 []]⟩ := _root_.id rfl
theorem d49 : Tab.desc T 49 = some (.slice 60) := rfl
theorem g52 : Tab.get T 52 = some ⟨.struct [(9, 0), (2, 1), (2, 2)], 3, 32, [.v (.string ⟨#[]⟩), .v (.int .i64 0), .v (.int .i64 0)]⟩ := _root_.id rfl
theorem d52 : Tab.desc T 52 = some (.struct [(9, 0), (2, 1), (2, 2)]) := rfl
theorem g53 : Tab.get T 53 = some ⟨.struct [(9, 0), (2, 1), (2, 2)], 3, 32, [.v (.string ⟨#[]⟩), .v (.int .i64 0), .v (.int .i64 0)]⟩ := _root_.id rfl
theorem d53 : Tab.desc T 53 = some (.struct [(9, 0), (2, 1), (2, 2)]) := rfl
theorem g54 : Tab.get T 54 = some ⟨.struct [(9, 0), (53, 1), (2, 4), (2, 5), (2, 6), (2, 7)], 8, 80, [.v (.string ⟨#[]⟩), .v (.string ⟨#[]⟩), .v (.int .i64 0), .v (.int .i64 0), .v (.int .i64 0), .v (.int .i64 0), .v (.int .i64 0), .v (.int .i64 0)]⟩ := _root_.id rfl
theorem d54 : Tab.desc T 54 = some (.struct [(9, 0), (53, 1), (2, 4), (2, 5), (2, 6), (2, 7)]) := rfl
theorem g55 : Tab.get T 55 = some ⟨.struct [(9, 0), (53, 1), (2, 4), (2, 5), (2, 6), (2, 7)], 8, 80, [.v (.string ⟨#[]⟩), .v (.string ⟨#[]⟩), .v (.int .i64 0), .v (.int .i64 0), .v (.int .i64 0), .v (.int .i64 0), .v (.int .i64 0), .v (.int .i64 0)]⟩ := _root_.id rfl
theorem d55 : Tab.desc T 55 = some (.struct [(9, 0), (53, 1), (2, 4), (2, 5), (2, 6), (2, 7)]) := rfl
theorem g58 : Tab.get T 58 = some ⟨.struct [(9, 0), (2, 1), (2, 2)], 3, 32, [.v (.string ⟨#[]⟩), .v (.int .i64 0), .v (.int .i64 0)]⟩ := _root_.id rfl
theorem d58 : Tab.desc T 58 = some (.struct [(9, 0), (2, 1), (2, 2)]) := rfl
theorem g59 : Tab.get T 59 = some ⟨.struct [(9, 0), (58, 1), (2, 4), (2, 5), (2, 6), (2, 7)], 8, 80, [.v (.string ⟨#[]⟩), .v (.string ⟨#[]⟩), .v (.int .i64 0), .v (.int .i64 0), .v (.int .i64 0), .v (.int .i64 0), .v (.int .i64 0), .v (.int .i64 0)]⟩ := _root_.id rfl
theorem d59 : Tab.desc T 59 = some (.struct [(9, 0), (58, 1), (2, 4), (2, 5), (2, 6), (2, 7)]) := rfl
theorem g60 : Tab.get T 60 = some ⟨.struct [(9, 0), (58, 1), (2, 4), (2, 5), (2, 6), (2, 7)], 8, 80, [.v (.string ⟨#[]⟩), .v (.string ⟨#[]⟩), .v (.int .i64 0), .v (.int .i64 0), .v (.int .i64 0), .v (.int .i64 0), .v (.int .i64 0), .v (.int .i64 0)]⟩ := _root_.id rfl
theorem d60 : Tab.desc T 60 = some (.struct [(9, 0), (58, 1), (2, 4), (2, 5), (2, 6), (2, 7)]) := rfl
theorem g66 : Tab.get T 66 = some ⟨.slice 5, 1, 24, [.sl true true 0 []]⟩ := _root_.id rfl
theorem d66 : Tab.desc T 66 = some (.slice 5) := rfl
theorem g68 : Tab.get T 68 = some ⟨.slice 80, 1, 24, [.sl true true 0 []]⟩ := _root_.id rfl
theorem d68 : Tab.desc T 68 = some (.slice 80) := rfl
theorem g79 : Tab.get T 79 = some ⟨.struct [(2, 0), (2, 1)], 2, 16, [.v (.int .i64 0), .v (.int .i64 0)]⟩ := _root_.id rfl
theorem d79 : Tab.desc T 79 = some (.struct [(2, 0), (2, 1)]) := rfl
theorem g80 : Tab.get T 80 = some ⟨.struct [(2, 0), (2, 1)], 2, 16, [.v (.int .i64 0), .v (.int .i64 0)]⟩ := _root_.id rfl
theorem d80 : Tab.desc T 80 = some (.struct [(2, 0), (2, 1)]) := rfl
theorem g86 : Tab.get T 86 = some ⟨.slice 29, 1, 24, [.sl true true 0 []]⟩ := _root_.id rfl
theorem d86 : Tab.desc T 86 = some (.slice 29) := rfl
theorem g96 : Tab.get T 96 = some ⟨.ptr 26, 1, 8, [.v (.pointer none)]⟩ := _root_.id rfl
theorem d96 : Tab.desc T 96 = some (.ptr 26) := rfl
theorem g101 : Tab.get T 101 = some ⟨.ptr 34, 1, 8, [.v (.pointer none)]⟩ := _root_.id rfl
theorem d101 : Tab.desc T 101 = some (.ptr 34) := rfl
theorem g108 : Tab.get T 108 = some ⟨.ptr 60, 1, 8, [.v (.pointer none)]⟩ := _root_.id rfl
theorem d108 : Tab.desc T 108 = some (.ptr 60) := rfl
theorem g114 : Tab.get T 114 = some ⟨.ptr 146, 1, 8, [.v (.pointer none)]⟩ := _root_.id rfl
theorem d114 : Tab.desc T 114 = some (.ptr 146) := rfl
theorem g118 : Tab.get T 118 = some ⟨.slice 119, 1, 24, [.sl true true 0 []]⟩ := _root_.id rfl
theorem d118 : Tab.desc T 118 = some (.slice 119) := rfl
theorem g119 : Tab.get T 119 = some ⟨.array 2 80, 4, 32, [.v (.int .i64 0), .v (.int .i64 0), .v (.int .i64 0), .v (.int .i64 0)]⟩ := _root_.id rfl
theorem d119 : Tab.desc T 119 = some (.array 2 80) := rfl
theorem g131 : Tab.get T 131 = some ⟨.slice 135, 1, 24, [.sl true true 0 []]⟩ := _root_.id rfl
theorem d131 : Tab.desc T 131 = some (.slice 135) := rfl
theorem g134 : Tab.get T 134 = some ⟨.struct [(2, 0), (2, 1), (2, 2), (2, 3)], 4, 32, [.v (.int .i64 0), .v (.int .i64 0), .v (.int .i64 0), .v (.int .i64 0)]⟩ := _root_.id rfl
theorem d134 : Tab.desc T 134 = some (.struct [(2, 0), (2, 1), (2, 2), (2, 3)]) := rfl
theorem g135 : Tab.get T 135 = some ⟨.struct [(2, 0), (2, 1), (2, 2), (2, 3)], 4, 32, [.v (.int .i64 0), .v (.int .i64 0), .v (.int .i64 0), .v (.int .i64 0)]⟩ := _root_.id rfl
theorem d135 : Tab.desc T 135 = some (.struct [(2, 0), (2, 1), (2, 2), (2, 3)]) := rfl
theorem g141 : Tab.get T 141 = some ⟨.ptr 58, 1, 8, [.v (.pointer none)]⟩ := _root_.id rfl
theorem d141 : Tab.desc T 141 = some (.ptr 58) := rfl
theorem g144 : Tab.get T 144 = some ⟨.int .u64, 1, 8, [.v (.int .u64 0)]⟩ := _root_.id rfl
theorem d144 : Tab.desc T 144 = some (.int .u64) := rfl
theorem g145 : Tab.get T 145 = some ⟨.struct [(66, 0), (3, 1), (144, 2)], 3, 40, [.sl true true 0 [], .v (.int .i64 0), .v (.int .u64 0)]⟩ := _root_.id rfl
theorem d145 : Tab.desc T 145 = some (.struct [(66, 0), (3, 1), (144, 2)]) := rfl
theorem g146 : Tab.get T 146 = some ⟨.struct [(66, 0), (3, 1), (144, 2)], 3, 40, [.sl true true 0 [], .v (.int .i64 0), .v (.int .u64 0)]⟩ := _root_.id rfl
theorem d146 : Tab.desc T 146 = some (.struct [(66, 0), (3, 1), (144, 2)]) := rfl
theorem g152 : Tab.get T 152 = some ⟨.slice 68, 1, 24, [.sl true true 0 []]⟩ := _root_.id rfl
theorem d152 : Tab.desc T 152 = some (.slice 68) := rfl
theorem g160 : Tab.get T 160 = some ⟨.array 4 2, 4, 32, [.v (.int .i64 0), .v (.int .i64 0), .v (.int .i64 0), .v (.int .i64 0)]⟩ := _root_.id rfl
theorem d160 : Tab.desc T 160 = some (.array 4 2) := rfl
theorem g161 : Tab.get T 161 = some ⟨.struct [(2, 0), (160, 1), (2, 5)], 6, 48, [.v (.int .i64 0), .v (.int .i64 0), .v (.int .i64 0), .v (.int .i64 0), .v (.int .i64 0), .v (.int .i64 0)]⟩ := _root_.id rfl
theorem d161 : Tab.desc T 161 = some (.struct [(2, 0), (160, 1), (2, 5)]) := rfl
theorem g162 : Tab.get T 162 = some ⟨.struct [(2, 0), (160, 1), (2, 5)], 6, 48, [.v (.int .i64 0), .v (.int .i64 0), .v (.int .i64 0), .v (.int .i64 0), .v (.int .i64 0), .v (.int .i64 0)]⟩ := _root_.id rfl
theorem d162 : Tab.desc T 162 = some (.struct [(2, 0), (160, 1), (2, 5)]) := rfl
theorem g173 : Tab.get T 173 = some ⟨.slice 9, 1, 24, [.sl true true 0 []]⟩ := _root_.id rfl
theorem d173 : Tab.desc T 173 = some (.slice 9) := rfl
theorem g177 : Tab.get T 177 = some ⟨.slice 4, 1, 24, [.sl true true 0 []]⟩ := _root_.id rfl
theorem d177 : Tab.desc T 177 = some (.slice 4) := rfl
theorem g178 : Tab.get T 178 = some ⟨.ptr 162, 1, 8, [.v (.pointer none)]⟩ := _root_.id rfl
theorem d178 : Tab.desc T 178 = some (.ptr 162) := rfl
theorem g186 : Tab.get T 186 = some ⟨.int .u64, 1, 8, [.v (.int .u64 0)]⟩ := _root_.id rfl
theorem d186 : Tab.desc T 186 = some (.int .u64) := rfl
theorem g188 : Tab.get T 188 = some ⟨.iface, 1, 16, [.v .nilIface]⟩ := _root_.id rfl
theorem d188 : Tab.desc T 188 = some (.iface) := rfl
theorem g189 : Tab.get T 189 = some ⟨.iface, 1, 16, [.v .nilIface]⟩ := _root_.id rfl
theorem d189 : Tab.desc T 189 = some (.iface) := rfl
theorem g191 : Tab.get T 191 = some ⟨.ptr 209, 1, 8, [.v (.pointer none)]⟩ := _root_.id rfl
theorem d191 : Tab.desc T 191 = some (.ptr 209) := rfl
theorem g195 : Tab.get T 195 = some ⟨.array 0 16, 0, 0, []⟩ := _root_.id rfl
theorem d195 : Tab.desc T 195 = some (.array 0 16) := rfl
theorem g199 : Tab.get T 199 = some ⟨.int .u32, 1, 4, [.v (.int .u32 0)]⟩ := _root_.id rfl
theorem d199 : Tab.desc T 199 = some (.int .u32) := rfl
theorem g200 : Tab.get T 200 = some ⟨.int .u8, 1, 1, [.v (.int .u8 0)]⟩ := _root_.id rfl
theorem d200 : Tab.desc T 200 = some (.int .u8) := rfl
theorem g201 : Tab.get T 201 = some ⟨.int .u8, 1, 1, [.v (.int .u8 0)]⟩ := _root_.id rfl
theorem d201 : Tab.desc T 201 = some (.int .u8) := rfl
theorem g203 : Tab.get T 203 = some ⟨.ptr 5, 1, 8, [.v (.pointer none)]⟩ := _root_.id rfl
theorem d203 : Tab.desc T 203 = some (.ptr 5) := rfl
theorem g204 : Tab.get T 204 = some ⟨.int .i32, 1, 4, [.v (.int .i32 0)]⟩ := _root_.id rfl
theorem d204 : Tab.desc T 204 = some (.int .i32) := rfl
theorem g205 : Tab.get T 205 = some ⟨.int .i32, 1, 4, [.v (.int .i32 0)]⟩ := _root_.id rfl
theorem d205 : Tab.desc T 205 = some (.int .i32) := rfl
theorem g206 : Tab.get T 206 = some ⟨.struct [(12, 0), (12, 1), (199, 2), (200, 3), (5, 4), (5, 5), (201, 6), (202, 7), (203, 8), (204, 9), (205, 10)], 11, 48, [.v (.int .u64 0), .v (.int .u64 0), .v (.int .u32 0), .v (.int .u8 0), .v (.int .u8 0), .v (.int .u8 0), .v (.int .u8 0), .v .nilFunc, .v (.pointer none), .v (.int .i32 0), .v (.int .i32 0)]⟩ := _root_.id rfl
theorem d206 : Tab.desc T 206 = some (.struct [(12, 0), (12, 1), (199, 2), (200, 3), (5, 4), (5, 5), (201, 6), (202, 7), (203, 8), (204, 9), (205, 10)]) := rfl
theorem g207 : Tab.get T 207 = some ⟨.struct [(12, 0), (12, 1), (199, 2), (200, 3), (5, 4), (5, 5), (201, 6), (202, 7), (203, 8), (204, 9), (205, 10)], 11, 48, [.v (.int .u64 0), .v (.int .u64 0), .v (.int .u32 0), .v (.int .u8 0), .v (.int .u8 0), .v (.int .u8 0), .v (.int .u8 0), .v .nilFunc, .v (.pointer none), .v (.int .i32 0), .v (.int .i32 0)]⟩ := _root_.id rfl
theorem d207 : Tab.desc T 207 = some (.struct [(12, 0), (12, 1), (199, 2), (200, 3), (5, 4), (5, 5), (201, 6), (202, 7), (203, 8), (204, 9), (205, 10)]) := rfl
theorem g208 : Tab.get T 208 = some ⟨.struct [(9, 0)], 1, 16, [.v (.string ⟨#[]⟩)]⟩ := _root_.id rfl
theorem d208 : Tab.desc T 208 = some (.struct [(9, 0)]) := rfl
theorem g209 : Tab.get T 209 = some ⟨.struct [(9, 0)], 1, 16, [.v (.string ⟨#[]⟩)]⟩ := _root_.id rfl
theorem d209 : Tab.desc T 209 = some (.struct [(9, 0)]) := rfl
attribute [push_cast] g2 g3 g4 g5 g6 g9 g10 g11 g12 g15 g16 g17 g18 g19 g20 g21 g22 g23 g26 g29 g30 g31 g34 g39 g42 g46 g49 g52 g53 g54 g55 g58 g59 g60 g66 g68 g79 g80 g86 g96 g101 g108 g114 g118 g119 g131 g134 g135 g141 g144 g145 g146 g152 g160 g161 g162 g173 g177 g178 g186 g188 g189 g191 g195 g199 g200 g201 g203 g204 g205 g206 g207 g208 g209
end Go.Proofs.Ytdglnjgjonbfbaa.Fw
