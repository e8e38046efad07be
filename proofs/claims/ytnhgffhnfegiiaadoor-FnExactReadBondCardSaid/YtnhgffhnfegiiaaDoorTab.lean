/- The types of the translation, as the framework's table. Printed by gentab.py. -/
import Derived.Test.YtnhgffhnfegiiaaDoorFwR
import Derived.Test.YtnhgffhnfegiiaaDoorProg
import Derived.KernelRfl
set_option maxRecDepth 100000
namespace Go.Proofs.YtnhgffhnfegiiaaDoor.Fw
def T : Tab := [
  (2, ⟨.int .i64, 1, 8, [.v (.int .i64 0)]⟩),
  (3, ⟨.int .i64, 1, 8, [.v (.int .i64 0)]⟩),
  (4, ⟨.bool, 1, 1, [.v (.bool false)]⟩),
  (5, ⟨.int .u8, 1, 1, [.v (.int .u8 0)]⟩),
  (6, ⟨.int .u8, 1, 1, [.v (.int .u8 0)]⟩),
  (9, ⟨.string, 1, 16, [.v (.string ⟨#[]⟩)]⟩),
  (10, ⟨.string, 1, 16, [.v (.string ⟨#[]⟩)]⟩),
  (11, ⟨.string, 1, 16, [.v (.string ⟨#[]⟩)]⟩),
  (12, ⟨.int .u64, 1, 8, [.v (.int .u64 0)]⟩),
  (15, ⟨.ptr 137, 1, 8, [.v (.pointer none)]⟩),
  (16, ⟨.ptr 140, 1, 8, [.v (.pointer none)]⟩),
  (17, ⟨.ptr 148, 1, 8, [.v (.pointer none)]⟩),
  (18, ⟨.struct [(17, 0)], 1, 8, [.v (.pointer none)]⟩),
  (19, ⟨.struct [(17, 0)], 1, 8, [.v (.pointer none)]⟩),
  (20, ⟨.iface, 1, 16, [.v .nilIface]⟩),
  (21, ⟨.int .i32, 1, 4, [.v (.int .i32 0)]⟩),
  (22, ⟨.struct [(9, 0), (2, 1), (2, 2), (2, 3)], 4, 40, [.v (.string ⟨#[]⟩), .v (.int .i64 0), .v (.int .i64 0), .v (.int .i64 0)]⟩),
  (23, ⟨.struct [(9, 0), (2, 1), (2, 2), (2, 3)], 4, 40, [.v (.string ⟨#[]⟩), .v (.int .i64 0), .v (.int .i64 0), .v (.int .i64 0)]⟩),
  (26, ⟨.struct [(9, 0), (2, 1), (2, 2), (2, 3)], 4, 40, [.v (.string ⟨#[]⟩), .v (.int .i64 0), .v (.int .i64 0), .v (.int .i64 0)]⟩),
  (29, ⟨.struct [(9, 0), (2, 1), (2, 2)], 3, 32, [.v (.string ⟨#[]⟩), .v (.int .i64 0), .v (.int .i64 0)]⟩),
  (30, ⟨.struct [(9, 0), (2, 1), (2, 2)], 3, 32, [.v (.string ⟨#[]⟩), .v (.int .i64 0), .v (.int .i64 0)]⟩),
  (31, ⟨.struct [(9, 0), (30, 1), (2, 4), (2, 5), (2, 6), (2, 7)], 8, 80, [.v (.string ⟨#[]⟩), .v (.string ⟨#[]⟩), .v (.int .i64 0), .v (.int .i64 0), .v (.int .i64 0), .v (.int .i64 0), .v (.int .i64 0), .v (.int .i64 0)]⟩),
  (32, ⟨.struct [(9, 0), (30, 1), (2, 4), (2, 5), (2, 6), (2, 7)], 8, 80, [.v (.string ⟨#[]⟩), .v (.string ⟨#[]⟩), .v (.int .i64 0), .v (.int .i64 0), .v (.int .i64 0), .v (.int .i64 0), .v (.int .i64 0), .v (.int .i64 0)]⟩),
  (35, ⟨.struct [(9, 0), (2, 1), (2, 2)], 3, 32, [.v (.string ⟨#[]⟩), .v (.int .i64 0), .v (.int .i64 0)]⟩),
  (36, ⟨.struct [(9, 0), (35, 1), (2, 4), (2, 5), (2, 6), (2, 7)], 8, 80, [.v (.string ⟨#[]⟩), .v (.string ⟨#[]⟩), .v (.int .i64 0), .v (.int .i64 0), .v (.int .i64 0), .v (.int .i64 0), .v (.int .i64 0), .v (.int .i64 0)]⟩),
  (37, ⟨.struct [(9, 0), (35, 1), (2, 4), (2, 5), (2, 6), (2, 7)], 8, 80, [.v (.string ⟨#[]⟩), .v (.string ⟨#[]⟩), .v (.int .i64 0), .v (.int .i64 0), .v (.int .i64 0), .v (.int .i64 0), .v (.int .i64 0), .v (.int .i64 0)]⟩),
  (48, ⟨.ptr 26, 1, 8, [.v (.pointer none)]⟩),
  (52, ⟨.slice 2, 1, 24, [.sl true true 0 []]⟩),
  (55, ⟨.ptr 37, 1, 8, [.v (.pointer none)]⟩),
  (60, ⟨.slice 9, 1, 24, [.sl true true 0 []]⟩),
  (64, ⟨.array 3 2, 3, 24, [.v (.int .i64 0), .v (.int .i64 0), .v (.int .i64 0)]⟩),
  (75, ⟨.ptr 35, 1, 8, [.v (.pointer none)]⟩),
  (85, ⟨.ptr 88, 1, 8, [.v (.pointer none)]⟩),
  (86, ⟨.slice 5, 1, 24, [.sl true true 0 []]⟩),
  (87, ⟨.struct [(85, 0), (86, 1)], 2, 32, [.v (.pointer none), .sl true true 0 []]⟩),
  (88, ⟨.struct [(85, 0), (86, 1)], 2, 32, [.v (.pointer none), .sl true true 0 []]⟩),
  (90, ⟨.iface, 1, 16, [.v .nilIface]⟩),
  (91, ⟨.iface, 1, 16, [.v .nilIface]⟩),
  (96, ⟨.slice 52, 1, 24, [.sl true true 0 []]⟩),
  (102, ⟨.ptr 5, 1, 8, [.v (.pointer none)]⟩),
  (110, ⟨.array 24 5, 24, 24, [.v (.int .u8 0), .v (.int .u8 0), .v (.int .u8 0), .v (.int .u8 0), .v (.int .u8 0), .v (.int .u8 0), .v (.int .u8 0), .v (.int .u8 0), .v (.int .u8 0), .v (.int .u8 0), .v (.int .u8 0), .v (.int .u8 0), .v (.int .u8 0), .v (.int .u8 0), .v (.int .u8 0), .v (.int .u8 0), .v (.int .u8 0), .v (.int .u8 0), .v (.int .u8 0), .v (.int .u8 0), .v (.int .u8 0), .v (.int .u8 0), .v (.int .u8 0), .v (.int .u8 0)]⟩),
  (111, ⟨.int .u64, 1, 8, [.v (.int .u64 0)]⟩),
  (120, ⟨.int .u64, 1, 8, [.v (.int .u64 0)]⟩),
  (122, ⟨.array 20 111, 20, 160, [.v (.int .u64 0), .v (.int .u64 0), .v (.int .u64 0), .v (.int .u64 0), .v (.int .u64 0), .v (.int .u64 0), .v (.int .u64 0), .v (.int .u64 0), .v (.int .u64 0), .v (.int .u64 0), .v (.int .u64 0), .v (.int .u64 0), .v (.int .u64 0), .v (.int .u64 0), .v (.int .u64 0), .v (.int .u64 0), .v (.int .u64 0), .v (.int .u64 0), .v (.int .u64 0), .v (.int .u64 0)]⟩),
  (123, ⟨.int .u32, 1, 4, [.v (.int .u32 0)]⟩),
  (124, ⟨.array 65 5, 65, 65, [.v (.int .u8 0), .v (.int .u8 0), .v (.int .u8 0), .v (.int .u8 0), .v (.int .u8 0), .v (.int .u8 0), .v (.int .u8 0), .v (.int .u8 0), .v (.int .u8 0), .v (.int .u8 0), .v (.int .u8 0), .v (.int .u8 0), .v (.int .u8 0), .v (.int .u8 0), .v (.int .u8 0), .v (.int .u8 0), .v (.int .u8 0), .v (.int .u8 0), .v (.int .u8 0), .v (.int .u8 0), .v (.int .u8 0), .v (.int .u8 0), .v (.int .u8 0), .v (.int .u8 0), .v (.int .u8 0), .v (.int .u8 0), .v (.int .u8 0), .v (.int .u8 0), .v (.int .u8 0), .v (.int .u8 0), .v (.int .u8 0), .v (.int .u8 0), .v (.int .u8 0), .v (.int .u8 0), .v (.int .u8 0), .v (.int .u8 0), .v (.int .u8 0), .v (.int .u8 0), .v (.int .u8 0), .v (.int .u8 0), .v (.int .u8 0), .v (.int .u8 0), .v (.int .u8 0), .v (.int .u8 0), .v (.int .u8 0), .v (.int .u8 0), .v (.int .u8 0), .v (.int .u8 0), .v (.int .u8 0), .v (.int .u8 0), .v (.int .u8 0), .v (.int .u8 0), .v (.int .u8 0), .v (.int .u8 0), .v (.int .u8 0), .v (.int .u8 0), .v (.int .u8 0), .v (.int .u8 0), .v (.int .u8 0), .v (.int .u8 0), .v (.int .u8 0), .v (.int .u8 0), .v (.int .u8 0), .v (.int .u8 0), .v (.int .u8 0)]⟩),
  (130, ⟨.struct [(5, 0), (5, 1)], 2, 2, [.v (.int .u8 0), .v (.int .u8 0)]⟩),
  (131, ⟨.struct [(5, 0), (5, 1)], 2, 2, [.v (.int .u8 0), .v (.int .u8 0)]⟩),
  (132, ⟨.array 16 131, 32, 32, [.v (.int .u8 0), .v (.int .u8 0), .v (.int .u8 0), .v (.int .u8 0), .v (.int .u8 0), .v (.int .u8 0), .v (.int .u8 0), .v (.int .u8 0), .v (.int .u8 0), .v (.int .u8 0), .v (.int .u8 0), .v (.int .u8 0), .v (.int .u8 0), .v (.int .u8 0), .v (.int .u8 0), .v (.int .u8 0), .v (.int .u8 0), .v (.int .u8 0), .v (.int .u8 0), .v (.int .u8 0), .v (.int .u8 0), .v (.int .u8 0), .v (.int .u8 0), .v (.int .u8 0), .v (.int .u8 0), .v (.int .u8 0), .v (.int .u8 0), .v (.int .u8 0), .v (.int .u8 0), .v (.int .u8 0), .v (.int .u8 0), .v (.int .u8 0)]⟩),
  (134, ⟨.array 32 5, 32, 32, [.v (.int .u8 0), .v (.int .u8 0), .v (.int .u8 0), .v (.int .u8 0), .v (.int .u8 0), .v (.int .u8 0), .v (.int .u8 0), .v (.int .u8 0), .v (.int .u8 0), .v (.int .u8 0), .v (.int .u8 0), .v (.int .u8 0), .v (.int .u8 0), .v (.int .u8 0), .v (.int .u8 0), .v (.int .u8 0), .v (.int .u8 0), .v (.int .u8 0), .v (.int .u8 0), .v (.int .u8 0), .v (.int .u8 0), .v (.int .u8 0), .v (.int .u8 0), .v (.int .u8 0), .v (.int .u8 0), .v (.int .u8 0), .v (.int .u8 0), .v (.int .u8 0), .v (.int .u8 0), .v (.int .u8 0), .v (.int .u8 0), .v (.int .u8 0)]⟩),
  (135, ⟨.array 64 5, 64, 64, [.v (.int .u8 0), .v (.int .u8 0), .v (.int .u8 0), .v (.int .u8 0), .v (.int .u8 0), .v (.int .u8 0), .v (.int .u8 0), .v (.int .u8 0), .v (.int .u8 0), .v (.int .u8 0), .v (.int .u8 0), .v (.int .u8 0), .v (.int .u8 0), .v (.int .u8 0), .v (.int .u8 0), .v (.int .u8 0), .v (.int .u8 0), .v (.int .u8 0), .v (.int .u8 0), .v (.int .u8 0), .v (.int .u8 0), .v (.int .u8 0), .v (.int .u8 0), .v (.int .u8 0), .v (.int .u8 0), .v (.int .u8 0), .v (.int .u8 0), .v (.int .u8 0), .v (.int .u8 0), .v (.int .u8 0), .v (.int .u8 0), .v (.int .u8 0), .v (.int .u8 0), .v (.int .u8 0), .v (.int .u8 0), .v (.int .u8 0), .v (.int .u8 0), .v (.int .u8 0), .v (.int .u8 0), .v (.int .u8 0), .v (.int .u8 0), .v (.int .u8 0), .v (.int .u8 0), .v (.int .u8 0), .v (.int .u8 0), .v (.int .u8 0), .v (.int .u8 0), .v (.int .u8 0), .v (.int .u8 0), .v (.int .u8 0), .v (.int .u8 0), .v (.int .u8 0), .v (.int .u8 0), .v (.int .u8 0), .v (.int .u8 0), .v (.int .u8 0), .v (.int .u8 0), .v (.int .u8 0), .v (.int .u8 0), .v (.int .u8 0), .v (.int .u8 0), .v (.int .u8 0), .v (.int .u8 0), .v (.int .u8 0)]⟩),
  (138, ⟨.array 0 16, 0, 0, []⟩),
  (142, ⟨.int .u8, 1, 1, [.v (.int .u8 0)]⟩),
  (143, ⟨.int .u8, 1, 1, [.v (.int .u8 0)]⟩),
  (145, ⟨.int .i32, 1, 4, [.v (.int .i32 0)]⟩),
  (146, ⟨.int .i32, 1, 4, [.v (.int .i32 0)]⟩),
  (147, ⟨.struct [(12, 0), (12, 1), (123, 2), (142, 3), (5, 4), (5, 5), (143, 6), (144, 7), (102, 8), (145, 9), (146, 10)], 11, 48, [.v (.int .u64 0), .v (.int .u64 0), .v (.int .u32 0), .v (.int .u8 0), .v (.int .u8 0), .v (.int .u8 0), .v (.int .u8 0), .v .nilFunc, .v (.pointer none), .v (.int .i32 0), .v (.int .i32 0)]⟩),
  (148, ⟨.struct [(12, 0), (12, 1), (123, 2), (142, 3), (5, 4), (5, 5), (143, 6), (144, 7), (102, 8), (145, 9), (146, 10)], 11, 48, [.v (.int .u64 0), .v (.int .u64 0), .v (.int .u32 0), .v (.int .u8 0), .v (.int .u8 0), .v (.int .u8 0), .v (.int .u8 0), .v .nilFunc, .v (.pointer none), .v (.int .i32 0), .v (.int .i32 0)]⟩)]
theorem T_ok : Tab.ok Tryd.prog T = true := by kernel_rfl
theorem follows_ok : Tryd.prog.follows .mixedOrders = true := by kernel_rfl
theorem g2 : Tab.get T 2 = some ⟨.int .i64, 1, 8, [.v (.int .i64 0)]⟩ := _root_.id rfl
theorem d2 : Tab.desc T 2 = some (.int .i64) := rfl
theorem g3 : Tab.get T 3 = some ⟨.int .i64, 1, 8, [.v (.int .i64 0)]⟩ := _root_.id rfl
theorem d3 : Tab.desc T 3 = some (.int .i64) := rfl
theorem g4 : Tab.get T 4 = some ⟨.bool, 1, 1, [.v (.bool false)]⟩ := _root_.id rfl
theorem d4 : Tab.desc T 4 = some (.bool) := rfl
theorem g5 : Tab.get T 5 = some ⟨.int .u8, 1, 1, [.v (.int .u8 0)]⟩ := _root_.id rfl
theorem d5 : Tab.desc T 5 = some (.int .u8) := rfl
theorem g6 : Tab.get T 6 = some ⟨.int .u8, 1, 1, [.v (.int .u8 0)]⟩ := _root_.id rfl
theorem d6 : Tab.desc T 6 = some (.int .u8) := rfl
theorem g9 : Tab.get T 9 = some ⟨.string, 1, 16, [.v (.string ⟨#[]⟩)]⟩ := _root_.id rfl
theorem d9 : Tab.desc T 9 = some (.string) := rfl
theorem g10 : Tab.get T 10 = some ⟨.string, 1, 16, [.v (.string ⟨#[]⟩)]⟩ := _root_.id rfl
theorem d10 : Tab.desc T 10 = some (.string) := rfl
theorem g11 : Tab.get T 11 = some ⟨.string, 1, 16, [.v (.string ⟨#[]⟩)]⟩ := _root_.id rfl
theorem d11 : Tab.desc T 11 = some (.string) := rfl
theorem g12 : Tab.get T 12 = some ⟨.int .u64, 1, 8, [.v (.int .u64 0)]⟩ := _root_.id rfl
theorem d12 : Tab.desc T 12 = some (.int .u64) := rfl
theorem g15 : Tab.get T 15 = some ⟨.ptr 137, 1, 8, [.v (.pointer none)]⟩ := _root_.id rfl
theorem d15 : Tab.desc T 15 = some (.ptr 137) := rfl
theorem g16 : Tab.get T 16 = some ⟨.ptr 140, 1, 8, [.v (.pointer none)]⟩ := _root_.id rfl
theorem d16 : Tab.desc T 16 = some (.ptr 140) := rfl
theorem g17 : Tab.get T 17 = some ⟨.ptr 148, 1, 8, [.v (.pointer none)]⟩ := _root_.id rfl
theorem d17 : Tab.desc T 17 = some (.ptr 148) := rfl
theorem g18 : Tab.get T 18 = some ⟨.struct [(17, 0)], 1, 8, [.v (.pointer none)]⟩ := _root_.id rfl
theorem d18 : Tab.desc T 18 = some (.struct [(17, 0)]) := rfl
theorem g19 : Tab.get T 19 = some ⟨.struct [(17, 0)], 1, 8, [.v (.pointer none)]⟩ := _root_.id rfl
theorem d19 : Tab.desc T 19 = some (.struct [(17, 0)]) := rfl
theorem g20 : Tab.get T 20 = some ⟨.iface, 1, 16, [.v .nilIface]⟩ := _root_.id rfl
theorem d20 : Tab.desc T 20 = some (.iface) := rfl
theorem g21 : Tab.get T 21 = some ⟨.int .i32, 1, 4, [.v (.int .i32 0)]⟩ := _root_.id rfl
theorem d21 : Tab.desc T 21 = some (.int .i32) := rfl
theorem g22 : Tab.get T 22 = some ⟨.struct [(9, 0), (2, 1), (2, 2), (2, 3)], 4, 40, [.v (.string ⟨#[]⟩), .v (.int .i64 0), .v (.int .i64 0), .v (.int .i64 0)]⟩ := _root_.id rfl
theorem d22 : Tab.desc T 22 = some (.struct [(9, 0), (2, 1), (2, 2), (2, 3)]) := rfl
theorem g23 : Tab.get T 23 = some ⟨.struct [(9, 0), (2, 1), (2, 2), (2, 3)], 4, 40, [.v (.string ⟨#[]⟩), .v (.int .i64 0), .v (.int .i64 0), .v (.int .i64 0)]⟩ := _root_.id rfl
theorem d23 : Tab.desc T 23 = some (.struct [(9, 0), (2, 1), (2, 2), (2, 3)]) := rfl
theorem g26 : Tab.get T 26 = some ⟨.struct [(9, 0), (2, 1), (2, 2), (2, 3)], 4, 40, [.v (.string ⟨#[]⟩), .v (.int .i64 0), .v (.int .i64 0), .v (.int .i64 0)]⟩ := _root_.id rfl
theorem d26 : Tab.desc T 26 = some (.struct [(9, 0), (2, 1), (2, 2), (2, 3)]) := rfl
theorem g29 : Tab.get T 29 = some ⟨.struct [(9, 0), (2, 1), (2, 2)], 3, 32, [.v (.string ⟨#[]⟩), .v (.int .i64 0), .v (.int .i64 0)]⟩ := _root_.id rfl
theorem d29 : Tab.desc T 29 = some (.struct [(9, 0), (2, 1), (2, 2)]) := rfl
theorem g30 : Tab.get T 30 = some ⟨.struct [(9, 0), (2, 1), (2, 2)], 3, 32, [.v (.string ⟨#[]⟩), .v (.int .i64 0), .v (.int .i64 0)]⟩ := _root_.id rfl
theorem d30 : Tab.desc T 30 = some (.struct [(9, 0), (2, 1), (2, 2)]) := rfl
theorem g31 : Tab.get T 31 = some ⟨.struct [(9, 0), (30, 1), (2, 4), (2, 5), (2, 6), (2, 7)], 8, 80, [.v (.string ⟨#[]⟩), .v (.string ⟨#[]⟩), .v (.int .i64 0), .v (.int .i64 0), .v (.int .i64 0), .v (.int .i64 0), .v (.int .i64 0), .v (.int .i64 0)]⟩ := _root_.id rfl
theorem d31 : Tab.desc T 31 = some (.struct [(9, 0), (30, 1), (2, 4), (2, 5), (2, 6), (2, 7)]) := rfl
theorem g32 : Tab.get T 32 = some ⟨.struct [(9, 0), (30, 1), (2, 4), (2, 5), (2, 6), (2, 7)], 8, 80, [.v (.string ⟨#[]⟩), .v (.string ⟨#[]⟩), .v (.int .i64 0), .v (.int .i64 0), .v (.int .i64 0), .v (.int .i64 0), .v (.int .i64 0), .v (.int .i64 0)]⟩ := _root_.id rfl
theorem d32 : Tab.desc T 32 = some (.struct [(9, 0), (30, 1), (2, 4), (2, 5), (2, 6), (2, 7)]) := rfl
theorem g35 : Tab.get T 35 = some ⟨.struct [(9, 0), (2, 1), (2, 2)], 3, 32, [.v (.string ⟨#[]⟩), .v (.int .i64 0), .v (.int .i64 0)]⟩ := _root_.id rfl
theorem d35 : Tab.desc T 35 = some (.struct [(9, 0), (2, 1), (2, 2)]) := rfl
theorem g36 : Tab.get T 36 = some ⟨.struct [(9, 0), (35, 1), (2, 4), (2, 5), (2, 6), (2, 7)], 8, 80, [.v (.string ⟨#[]⟩), .v (.string ⟨#[]⟩), .v (.int .i64 0), .v (.int .i64 0), .v (.int .i64 0), .v (.int .i64 0), .v (.int .i64 0), .v (.int .i64 0)]⟩ := _root_.id rfl
theorem d36 : Tab.desc T 36 = some (.struct [(9, 0), (35, 1), (2, 4), (2, 5), (2, 6), (2, 7)]) := rfl
theorem g37 : Tab.get T 37 = some ⟨.struct [(9, 0), (35, 1), (2, 4), (2, 5), (2, 6), (2, 7)], 8, 80, [.v (.string ⟨#[]⟩), .v (.string ⟨#[]⟩), .v (.int .i64 0), .v (.int .i64 0), .v (.int .i64 0), .v (.int .i64 0), .v (.int .i64 0), .v (.int .i64 0)]⟩ := _root_.id rfl
theorem d37 : Tab.desc T 37 = some (.struct [(9, 0), (35, 1), (2, 4), (2, 5), (2, 6), (2, 7)]) := rfl
theorem g48 : Tab.get T 48 = some ⟨.ptr 26, 1, 8, [.v (.pointer none)]⟩ := _root_.id rfl
theorem d48 : Tab.desc T 48 = some (.ptr 26) := rfl
theorem g52 : Tab.get T 52 = some ⟨.slice 2, 1, 24, [.sl true true 0 []]⟩ := _root_.id rfl
theorem d52 : Tab.desc T 52 = some (.slice 2) := rfl
theorem g55 : Tab.get T 55 = some ⟨.ptr 37, 1, 8, [.v (.pointer none)]⟩ := _root_.id rfl
theorem d55 : Tab.desc T 55 = some (.ptr 37) := rfl
theorem g60 : Tab.get T 60 = some ⟨.slice 9, 1, 24, [.sl true true 0 []]⟩ := _root_.id rfl
theorem d60 : Tab.desc T 60 = some (.slice 9) := rfl
theorem g64 : Tab.get T 64 = some ⟨.array 3 2, 3, 24, [.v (.int .i64 0), .v (.int .i64 0), .v (.int .i64 0)]⟩ := _root_.id rfl
theorem d64 : Tab.desc T 64 = some (.array 3 2) := rfl
theorem g75 : Tab.get T 75 = some ⟨.ptr 35, 1, 8, [.v (.pointer none)]⟩ := _root_.id rfl
theorem d75 : Tab.desc T 75 = some (.ptr 35) := rfl
theorem g85 : Tab.get T 85 = some ⟨.ptr 88, 1, 8, [.v (.pointer none)]⟩ := _root_.id rfl
theorem d85 : Tab.desc T 85 = some (.ptr 88) := rfl
theorem g86 : Tab.get T 86 = some ⟨.slice 5, 1, 24, [.sl true true 0 []]⟩ := _root_.id rfl
theorem d86 : Tab.desc T 86 = some (.slice 5) := rfl
theorem g87 : Tab.get T 87 = some ⟨.struct [(85, 0), (86, 1)], 2, 32, [.v (.pointer none), .sl true true 0 []]⟩ := _root_.id rfl
theorem d87 : Tab.desc T 87 = some (.struct [(85, 0), (86, 1)]) := rfl
theorem g88 : Tab.get T 88 = some ⟨.struct [(85, 0), (86, 1)], 2, 32, [.v (.pointer none), .sl true true 0 []]⟩ := _root_.id rfl
theorem d88 : Tab.desc T 88 = some (.struct [(85, 0), (86, 1)]) := rfl
theorem g90 : Tab.get T 90 = some ⟨.iface, 1, 16, [.v .nilIface]⟩ := _root_.id rfl
theorem d90 : Tab.desc T 90 = some (.iface) := rfl
theorem g91 : Tab.get T 91 = some ⟨.iface, 1, 16, [.v .nilIface]⟩ := _root_.id rfl
theorem d91 : Tab.desc T 91 = some (.iface) := rfl
theorem g96 : Tab.get T 96 = some ⟨.slice 52, 1, 24, [.sl true true 0 []]⟩ := _root_.id rfl
theorem d96 : Tab.desc T 96 = some (.slice 52) := rfl
theorem g102 : Tab.get T 102 = some ⟨.ptr 5, 1, 8, [.v (.pointer none)]⟩ := _root_.id rfl
theorem d102 : Tab.desc T 102 = some (.ptr 5) := rfl
theorem g110 : Tab.get T 110 = some ⟨.array 24 5, 24, 24, [.v (.int .u8 0), .v (.int .u8 0), .v (.int .u8 0), .v (.int .u8 0), .v (.int .u8 0), .v (.int .u8 0), .v (.int .u8 0), .v (.int .u8 0), .v (.int .u8 0), .v (.int .u8 0), .v (.int .u8 0), .v (.int .u8 0), .v (.int .u8 0), .v (.int .u8 0), .v (.int .u8 0), .v (.int .u8 0), .v (.int .u8 0), .v (.int .u8 0), .v (.int .u8 0), .v (.int .u8 0), .v (.int .u8 0), .v (.int .u8 0), .v (.int .u8 0), .v (.int .u8 0)]⟩ := _root_.id rfl
theorem d110 : Tab.desc T 110 = some (.array 24 5) := rfl
theorem g111 : Tab.get T 111 = some ⟨.int .u64, 1, 8, [.v (.int .u64 0)]⟩ := _root_.id rfl
theorem d111 : Tab.desc T 111 = some (.int .u64) := rfl
theorem g120 : Tab.get T 120 = some ⟨.int .u64, 1, 8, [.v (.int .u64 0)]⟩ := _root_.id rfl
theorem d120 : Tab.desc T 120 = some (.int .u64) := rfl
theorem g122 : Tab.get T 122 = some ⟨.array 20 111, 20, 160, [.v (.int .u64 0), .v (.int .u64 0), .v (.int .u64 0), .v (.int .u64 0), .v (.int .u64 0), .v (.int .u64 0), .v (.int .u64 0), .v (.int .u64 0), .v (.int .u64 0), .v (.int .u64 0), .v (.int .u64 0), .v (.int .u64 0), .v (.int .u64 0), .v (.int .u64 0), .v (.int .u64 0), .v (.int .u64 0), .v (.int .u64 0), .v (.int .u64 0), .v (.int .u64 0), .v (.int .u64 0)]⟩ := _root_.id rfl
theorem d122 : Tab.desc T 122 = some (.array 20 111) := rfl
theorem g123 : Tab.get T 123 = some ⟨.int .u32, 1, 4, [.v (.int .u32 0)]⟩ := _root_.id rfl
theorem d123 : Tab.desc T 123 = some (.int .u32) := rfl
theorem g124 : Tab.get T 124 = some ⟨.array 65 5, 65, 65, [.v (.int .u8 0), .v (.int .u8 0), .v (.int .u8 0), .v (.int .u8 0), .v (.int .u8 0), .v (.int .u8 0), .v (.int .u8 0), .v (.int .u8 0), .v (.int .u8 0), .v (.int .u8 0), .v (.int .u8 0), .v (.int .u8 0), .v (.int .u8 0), .v (.int .u8 0), .v (.int .u8 0), .v (.int .u8 0), .v (.int .u8 0), .v (.int .u8 0), .v (.int .u8 0), .v (.int .u8 0), .v (.int .u8 0), .v (.int .u8 0), .v (.int .u8 0), .v (.int .u8 0), .v (.int .u8 0), .v (.int .u8 0), .v (.int .u8 0), .v (.int .u8 0), .v (.int .u8 0), .v (.int .u8 0), .v (.int .u8 0), .v (.int .u8 0), .v (.int .u8 0), .v (.int .u8 0), .v (.int .u8 0), .v (.int .u8 0), .v (.int .u8 0), .v (.int .u8 0), .v (.int .u8 0), .v (.int .u8 0), .v (.int .u8 0), .v (.int .u8 0), .v (.int .u8 0), .v (.int .u8 0), .v (.int .u8 0), .v (.int .u8 0), .v (.int .u8 0), .v (.int .u8 0), .v (.int .u8 0), .v (.int .u8 0), .v (.int .u8 0), .v (.int .u8 0), .v (.int .u8 0), .v (.int .u8 0), .v (.int .u8 0), .v (.int .u8 0), .v (.int .u8 0), .v (.int .u8 0), .v (.int .u8 0), .v (.int .u8 0), .v (.int .u8 0), .v (.int .u8 0), .v (.int .u8 0), .v (.int .u8 0), .v (.int .u8 0)]⟩ := _root_.id rfl
theorem d124 : Tab.desc T 124 = some (.array 65 5) := rfl
theorem g130 : Tab.get T 130 = some ⟨.struct [(5, 0), (5, 1)], 2, 2, [.v (.int .u8 0), .v (.int .u8 0)]⟩ := _root_.id rfl
theorem d130 : Tab.desc T 130 = some (.struct [(5, 0), (5, 1)]) := rfl
theorem g131 : Tab.get T 131 = some ⟨.struct [(5, 0), (5, 1)], 2, 2, [.v (.int .u8 0), .v (.int .u8 0)]⟩ := _root_.id rfl
theorem d131 : Tab.desc T 131 = some (.struct [(5, 0), (5, 1)]) := rfl
theorem g132 : Tab.get T 132 = some ⟨.array 16 131, 32, 32, [.v (.int .u8 0), .v (.int .u8 0), .v (.int .u8 0), .v (.int .u8 0), .v (.int .u8 0), .v (.int .u8 0), .v (.int .u8 0), .v (.int .u8 0), .v (.int .u8 0), .v (.int .u8 0), .v (.int .u8 0), .v (.int .u8 0), .v (.int .u8 0), .v (.int .u8 0), .v (.int .u8 0), .v (.int .u8 0), .v (.int .u8 0), .v (.int .u8 0), .v (.int .u8 0), .v (.int .u8 0), .v (.int .u8 0), .v (.int .u8 0), .v (.int .u8 0), .v (.int .u8 0), .v (.int .u8 0), .v (.int .u8 0), .v (.int .u8 0), .v (.int .u8 0), .v (.int .u8 0), .v (.int .u8 0), .v (.int .u8 0), .v (.int .u8 0)]⟩ := _root_.id rfl
theorem d132 : Tab.desc T 132 = some (.array 16 131) := rfl
theorem g134 : Tab.get T 134 = some ⟨.array 32 5, 32, 32, [.v (.int .u8 0), .v (.int .u8 0), .v (.int .u8 0), .v (.int .u8 0), .v (.int .u8 0), .v (.int .u8 0), .v (.int .u8 0), .v (.int .u8 0), .v (.int .u8 0), .v (.int .u8 0), .v (.int .u8 0), .v (.int .u8 0), .v (.int .u8 0), .v (.int .u8 0), .v (.int .u8 0), .v (.int .u8 0), .v (.int .u8 0), .v (.int .u8 0), .v (.int .u8 0), .v (.int .u8 0), .v (.int .u8 0), .v (.int .u8 0), .v (.int .u8 0), .v (.int .u8 0), .v (.int .u8 0), .v (.int .u8 0), .v (.int .u8 0), .v (.int .u8 0), .v (.int .u8 0), .v (.int .u8 0), .v (.int .u8 0), .v (.int .u8 0)]⟩ := _root_.id rfl
theorem d134 : Tab.desc T 134 = some (.array 32 5) := rfl
theorem g135 : Tab.get T 135 = some ⟨.array 64 5, 64, 64, [.v (.int .u8 0), .v (.int .u8 0), .v (.int .u8 0), .v (.int .u8 0), .v (.int .u8 0), .v (.int .u8 0), .v (.int .u8 0), .v (.int .u8 0), .v (.int .u8 0), .v (.int .u8 0), .v (.int .u8 0), .v (.int .u8 0), .v (.int .u8 0), .v (.int .u8 0), .v (.int .u8 0), .v (.int .u8 0), .v (.int .u8 0), .v (.int .u8 0), .v (.int .u8 0), .v (.int .u8 0), .v (.int .u8 0), .v (.int .u8 0), .v (.int .u8 0), .v (.int .u8 0), .v (.int .u8 0), .v (.int .u8 0), .v (.int .u8 0), .v (.int .u8 0), .v (.int .u8 0), .v (.int .u8 0), .v (.int .u8 0), .v (.int .u8 0), .v (.int .u8 0), .v (.int .u8 0), .v (.int .u8 0), .v (.int .u8 0), .v (.int .u8 0), .v (.int .u8 0), .v (.int .u8 0), .v (.int .u8 0), .v (.int .u8 0), .v (.int .u8 0), .v (.int .u8 0), .v (.int .u8 0), .v (.int .u8 0), .v (.int .u8 0), .v (.int .u8 0), .v (.int .u8 0), .v (.int .u8 0), .v (.int .u8 0), .v (.int .u8 0), .v (.int .u8 0), .v (.int .u8 0), .v (.int .u8 0), .v (.int .u8 0), .v (.int .u8 0), .v (.int .u8 0), .v (.int .u8 0), .v (.int .u8 0), .v (.int .u8 0), .v (.int .u8 0), .v (.int .u8 0), .v (.int .u8 0), .v (.int .u8 0)]⟩ := _root_.id rfl
theorem d135 : Tab.desc T 135 = some (.array 64 5) := rfl
theorem g138 : Tab.get T 138 = some ⟨.array 0 16, 0, 0, []⟩ := _root_.id rfl
theorem d138 : Tab.desc T 138 = some (.array 0 16) := rfl
theorem g142 : Tab.get T 142 = some ⟨.int .u8, 1, 1, [.v (.int .u8 0)]⟩ := _root_.id rfl
theorem d142 : Tab.desc T 142 = some (.int .u8) := rfl
theorem g143 : Tab.get T 143 = some ⟨.int .u8, 1, 1, [.v (.int .u8 0)]⟩ := _root_.id rfl
theorem d143 : Tab.desc T 143 = some (.int .u8) := rfl
theorem g145 : Tab.get T 145 = some ⟨.int .i32, 1, 4, [.v (.int .i32 0)]⟩ := _root_.id rfl
theorem d145 : Tab.desc T 145 = some (.int .i32) := rfl
theorem g146 : Tab.get T 146 = some ⟨.int .i32, 1, 4, [.v (.int .i32 0)]⟩ := _root_.id rfl
theorem d146 : Tab.desc T 146 = some (.int .i32) := rfl
theorem g147 : Tab.get T 147 = some ⟨.struct [(12, 0), (12, 1), (123, 2), (142, 3), (5, 4), (5, 5), (143, 6), (144, 7), (102, 8), (145, 9), (146, 10)], 11, 48, [.v (.int .u64 0), .v (.int .u64 0), .v (.int .u32 0), .v (.int .u8 0), .v (.int .u8 0), .v (.int .u8 0), .v (.int .u8 0), .v .nilFunc, .v (.pointer none), .v (.int .i32 0), .v (.int .i32 0)]⟩ := _root_.id rfl
theorem d147 : Tab.desc T 147 = some (.struct [(12, 0), (12, 1), (123, 2), (142, 3), (5, 4), (5, 5), (143, 6), (144, 7), (102, 8), (145, 9), (146, 10)]) := rfl
theorem g148 : Tab.get T 148 = some ⟨.struct [(12, 0), (12, 1), (123, 2), (142, 3), (5, 4), (5, 5), (143, 6), (144, 7), (102, 8), (145, 9), (146, 10)], 11, 48, [.v (.int .u64 0), .v (.int .u64 0), .v (.int .u32 0), .v (.int .u8 0), .v (.int .u8 0), .v (.int .u8 0), .v (.int .u8 0), .v .nilFunc, .v (.pointer none), .v (.int .i32 0), .v (.int .i32 0)]⟩ := _root_.id rfl
theorem d148 : Tab.desc T 148 = some (.struct [(12, 0), (12, 1), (123, 2), (142, 3), (5, 4), (5, 5), (143, 6), (144, 7), (102, 8), (145, 9), (146, 10)]) := rfl
attribute [push_cast] g2 g3 g4 g5 g6 g9 g10 g11 g12 g15 g16 g17 g18 g19 g20 g21 g22 g23 g26 g29 g30 g31 g32 g35 g36 g37 g48 g52 g55 g60 g64 g75 g85 g86 g87 g88 g90 g91 g96 g102 g110 g111 g120 g122 g123 g124 g130 g131 g132 g134 g135 g138 g142 g143 g145 g146 g147 g148
end Go.Proofs.YtnhgffhnfegiiaaDoor.Fw
