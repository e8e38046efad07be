/- The types of the translation, as the framework's table. Printed by gentab.py. -/
import Derived.Test.YtihjdodmlddffaaDoorFwR
import Derived.Test.YtihjdodmlddffaaDoorProg
import Derived.KernelRfl
set_option maxRecDepth 100000
namespace Go.Proofs.YtihjdodmlddffaaDoor.Fw
def T : Tab := [
  (2, ⟨.int .i64, 1, 8, [.v (.int .i64 0)]⟩),
  (3, ⟨.int .i64, 1, 8, [.v (.int .i64 0)]⟩),
  (4, ⟨.bool, 1, 1, [.v (.bool false)]⟩),
  (5, ⟨.int .u8, 1, 1, [.v (.int .u8 0)]⟩),
  (6, ⟨.int .u8, 1, 1, [.v (.int .u8 0)]⟩),
  (9, ⟨.string, 1, 16, [.v (.string ⟨#[]⟩)]⟩),
  (10, ⟨.string, 1, 16, [.v (.string ⟨#[]⟩)]⟩),
  (11, ⟨.string, 1, 16, [.v (.string ⟨#[]⟩)]⟩),
  (12, ⟨.int .u64, 1, 8, [.v (.int .u64 0)]⟩),
  (15, ⟨.ptr 138, 1, 8, [.v (.pointer none)]⟩),
  (16, ⟨.ptr 141, 1, 8, [.v (.pointer none)]⟩),
  (17, ⟨.ptr 149, 1, 8, [.v (.pointer none)]⟩),
  (18, ⟨.struct [(17, 0)], 1, 8, [.v (.pointer none)]⟩),
  (19, ⟨.struct [(17, 0)], 1, 8, [.v (.pointer none)]⟩),
  (20, ⟨.iface, 1, 16, [.v .nilIface]⟩),
  (21, ⟨.int .i32, 1, 4, [.v (.int .i32 0)]⟩),
  (22, ⟨.slice 5, 1, 24, [.sl true true 0 []]⟩),
  (30, ⟨.slice 2, 1, 24, [.sl true true 0 []]⟩),
  (39, ⟨.struct [(2, 0), (2, 1)], 2, 16, [.v (.int .i64 0), .v (.int .i64 0)]⟩),
  (40, ⟨.struct [(2, 0), (2, 1)], 2, 16, [.v (.int .i64 0), .v (.int .i64 0)]⟩),
  (53, ⟨.struct [(9, 0), (2, 1), (2, 2)], 3, 32, [.v (.string ⟨#[]⟩), .v (.int .i64 0), .v (.int .i64 0)]⟩),
  (54, ⟨.struct [(9, 0), (2, 1), (2, 2)], 3, 32, [.v (.string ⟨#[]⟩), .v (.int .i64 0), .v (.int .i64 0)]⟩),
  (62, ⟨.slice 9, 1, 24, [.sl true true 0 []]⟩),
  (68, ⟨.slice 54, 1, 24, [.sl true true 0 []]⟩),
  (70, ⟨.ptr 89, 1, 8, [.v (.pointer none)]⟩),
  (87, ⟨.int .u64, 1, 8, [.v (.int .u64 0)]⟩),
  (88, ⟨.struct [(22, 0), (3, 1), (87, 2)], 3, 40, [.sl true true 0 [], .v (.int .i64 0), .v (.int .u64 0)]⟩),
  (89, ⟨.struct [(22, 0), (3, 1), (87, 2)], 3, 40, [.sl true true 0 [], .v (.int .i64 0), .v (.int .u64 0)]⟩),
  (92, ⟨.ptr 94, 1, 8, [.v (.pointer none)]⟩),
  (93, ⟨.struct [(92, 0), (22, 1)], 2, 32, [.v (.pointer none), .sl true true 0 []]⟩),
  (94, ⟨.struct [(92, 0), (22, 1)], 2, 32, [.v (.pointer none), .sl true true 0 []]⟩),
  (96, ⟨.iface, 1, 16, [.v .nilIface]⟩),
  (97, ⟨.iface, 1, 16, [.v .nilIface]⟩),
  (101, ⟨.slice 40, 1, 24, [.sl true true 0 []]⟩),
  (102, ⟨.slice 30, 1, 24, [.sl true true 0 []]⟩),
  (104, ⟨.int .u64, 1, 8, [.v (.int .u64 0)]⟩),
  (107, ⟨.ptr 5, 1, 8, [.v (.pointer none)]⟩),
  (109, ⟨.array 24 5, 24, 24, [.v (.int .u8 0), .v (.int .u8 0), .v (.int .u8 0), .v (.int .u8 0), .v (.int .u8 0), .v (.int .u8 0), .v (.int .u8 0), .v (.int .u8 0), .v (.int .u8 0), .v (.int .u8 0), .v (.int .u8 0), .v (.int .u8 0), .v (.int .u8 0), .v (.int .u8 0), .v (.int .u8 0), .v (.int .u8 0), .v (.int .u8 0), .v (.int .u8 0), .v (.int .u8 0), .v (.int .u8 0), .v (.int .u8 0), .v (.int .u8 0), .v (.int .u8 0), .v (.int .u8 0)]⟩),
  (123, ⟨.array 20 87, 20, 160, [.v (.int .u64 0), .v (.int .u64 0), .v (.int .u64 0), .v (.int .u64 0), .v (.int .u64 0), .v (.int .u64 0), .v (.int .u64 0), .v (.int .u64 0), .v (.int .u64 0), .v (.int .u64 0), .v (.int .u64 0), .v (.int .u64 0), .v (.int .u64 0), .v (.int .u64 0), .v (.int .u64 0), .v (.int .u64 0), .v (.int .u64 0), .v (.int .u64 0), .v (.int .u64 0), .v (.int .u64 0)]⟩),
  (124, ⟨.int .u32, 1, 4, [.v (.int .u32 0)]⟩),
  (125, ⟨.array 65 5, 65, 65, [.v (.int .u8 0), .v (.int .u8 0), .v (.int .u8 0), .v (.int .u8 0), .v (.int .u8 0), .v (.int .u8 0), .v (.int .u8 0), .v (.int .u8 0), .v (.int .u8 0), .v (.int .u8 0), .v (.int .u8 0), .v (.int .u8 0), .v (.int .u8 0), .v (.int .u8 0), .v (.int .u8 0), .v (.int .u8 0), .v (.int .u8 0), .v (.int .u8 0), .v (.int .u8 0), .v (.int .u8 0), .v (.int .u8 0), .v (.int .u8 0), .v (.int .u8 0), .v (.int .u8 0), .v (.int .u8 0), .v (.int .u8 0), .v (.int .u8 0), .v (.int .u8 0), .v (.int .u8 0), .v (.int .u8 0), .v (.int .u8 0), .v (.int .u8 0), .v (.int .u8 0), .v (.int .u8 0), .v (.int .u8 0), .v (.int .u8 0), .v (.int .u8 0), .v (.int .u8 0), .v (.int .u8 0), .v (.int .u8 0), .v (.int .u8 0), .v (.int .u8 0), .v (.int .u8 0), .v (.int .u8 0), .v (.int .u8 0), .v (.int .u8 0), .v (.int .u8 0), .v (.int .u8 0), .v (.int .u8 0), .v (.int .u8 0), .v (.int .u8 0), .v (.int .u8 0), .v (.int .u8 0), .v (.int .u8 0), .v (.int .u8 0), .v (.int .u8 0), .v (.int .u8 0), .v (.int .u8 0), .v (.int .u8 0), .v (.int .u8 0), .v (.int .u8 0), .v (.int .u8 0), .v (.int .u8 0), .v (.int .u8 0), .v (.int .u8 0)]⟩),
  (132, ⟨.struct [(5, 0), (5, 1)], 2, 2, [.v (.int .u8 0), .v (.int .u8 0)]⟩),
  (133, ⟨.struct [(5, 0), (5, 1)], 2, 2, [.v (.int .u8 0), .v (.int .u8 0)]⟩),
  (134, ⟨.array 16 133, 32, 32, [.v (.int .u8 0), .v (.int .u8 0), .v (.int .u8 0), .v (.int .u8 0), .v (.int .u8 0), .v (.int .u8 0), .v (.int .u8 0), .v (.int .u8 0), .v (.int .u8 0), .v (.int .u8 0), .v (.int .u8 0), .v (.int .u8 0), .v (.int .u8 0), .v (.int .u8 0), .v (.int .u8 0), .v (.int .u8 0), .v (.int .u8 0), .v (.int .u8 0), .v (.int .u8 0), .v (.int .u8 0), .v (.int .u8 0), .v (.int .u8 0), .v (.int .u8 0), .v (.int .u8 0), .v (.int .u8 0), .v (.int .u8 0), .v (.int .u8 0), .v (.int .u8 0), .v (.int .u8 0), .v (.int .u8 0), .v (.int .u8 0), .v (.int .u8 0)]⟩),
  (135, ⟨.array 32 5, 32, 32, [.v (.int .u8 0), .v (.int .u8 0), .v (.int .u8 0), .v (.int .u8 0), .v (.int .u8 0), .v (.int .u8 0), .v (.int .u8 0), .v (.int .u8 0), .v (.int .u8 0), .v (.int .u8 0), .v (.int .u8 0), .v (.int .u8 0), .v (.int .u8 0), .v (.int .u8 0), .v (.int .u8 0), .v (.int .u8 0), .v (.int .u8 0), .v (.int .u8 0), .v (.int .u8 0), .v (.int .u8 0), .v (.int .u8 0), .v (.int .u8 0), .v (.int .u8 0), .v (.int .u8 0), .v (.int .u8 0), .v (.int .u8 0), .v (.int .u8 0), .v (.int .u8 0), .v (.int .u8 0), .v (.int .u8 0), .v (.int .u8 0), .v (.int .u8 0)]⟩),
  (136, ⟨.array 64 5, 64, 64, [.v (.int .u8 0), .v (.int .u8 0), .v (.int .u8 0), .v (.int .u8 0), .v (.int .u8 0), .v (.int .u8 0), .v (.int .u8 0), .v (.int .u8 0), .v (.int .u8 0), .v (.int .u8 0), .v (.int .u8 0), .v (.int .u8 0), .v (.int .u8 0), .v (.int .u8 0), .v (.int .u8 0), .v (.int .u8 0), .v (.int .u8 0), .v (.int .u8 0), .v (.int .u8 0), .v (.int .u8 0), .v (.int .u8 0), .v (.int .u8 0), .v (.int .u8 0), .v (.int .u8 0), .v (.int .u8 0), .v (.int .u8 0), .v (.int .u8 0), .v (.int .u8 0), .v (.int .u8 0), .v (.int .u8 0), .v (.int .u8 0), .v (.int .u8 0), .v (.int .u8 0), .v (.int .u8 0), .v (.int .u8 0), .v (.int .u8 0), .v (.int .u8 0), .v (.int .u8 0), .v (.int .u8 0), .v (.int .u8 0), .v (.int .u8 0), .v (.int .u8 0), .v (.int .u8 0), .v (.int .u8 0), .v (.int .u8 0), .v (.int .u8 0), .v (.int .u8 0), .v (.int .u8 0), .v (.int .u8 0), .v (.int .u8 0), .v (.int .u8 0), .v (.int .u8 0), .v (.int .u8 0), .v (.int .u8 0), .v (.int .u8 0), .v (.int .u8 0), .v (.int .u8 0), .v (.int .u8 0), .v (.int .u8 0), .v (.int .u8 0), .v (.int .u8 0), .v (.int .u8 0), .v (.int .u8 0), .v (.int .u8 0)]⟩),
  (139, ⟨.array 0 16, 0, 0, []⟩),
  (143, ⟨.int .u8, 1, 1, [.v (.int .u8 0)]⟩),
  (144, ⟨.int .u8, 1, 1, [.v (.int .u8 0)]⟩),
  (146, ⟨.int .i32, 1, 4, [.v (.int .i32 0)]⟩),
  (147, ⟨.int .i32, 1, 4, [.v (.int .i32 0)]⟩),
  (148, ⟨.struct [(12, 0), (12, 1), (124, 2), (143, 3), (5, 4), (5, 5), (144, 6), (145, 7), (107, 8), (146, 9), (147, 10)], 11, 48, [.v (.int .u64 0), .v (.int .u64 0), .v (.int .u32 0), .v (.int .u8 0), .v (.int .u8 0), .v (.int .u8 0), .v (.int .u8 0), .v .nilFunc, .v (.pointer none), .v (.int .i32 0), .v (.int .i32 0)]⟩),
  (149, ⟨.struct [(12, 0), (12, 1), (124, 2), (143, 3), (5, 4), (5, 5), (144, 6), (145, 7), (107, 8), (146, 9), (147, 10)], 11, 48, [.v (.int .u64 0), .v (.int .u64 0), .v (.int .u32 0), .v (.int .u8 0), .v (.int .u8 0), .v (.int .u8 0), .v (.int .u8 0), .v .nilFunc, .v (.pointer none), .v (.int .i32 0), .v (.int .i32 0)]⟩)]
theorem T_ok : Tab.ok Tryd.prog T = true := by kernel_rfl
theorem follows_ok : Tryd.prog.follows .mixedOrders = true := by kernel_rfl
theorem g2 : Tab.get T 2 = some ⟨.int .i64, 1, 8, [.v (.int .i64 0)]⟩ := _root_.id rfl
theorem d2 : Tab.desc T 2 = some (.int .i64) := rfl
theorem g3 : Tab.get T 3 = some ⟨.int .i64, 1, 8, [.v (.int .i64 0)]⟩ := _root_.id rfl
theorem d3 : Tab.desc T 3 = some (.int .i64) := rfl
theorem g4 : Tab.get T 4 = some ⟨.bool, 1, 1, [.v (.bool false)]⟩ := _root_.id rfl
theorem d4 : Tab.desc T 4 = some (.bool) := rfl
theorem g5 : Tab.get T 5 = some ⟨.int .u8, 1, 1, [.v (.int .u8 0)]⟩ := _root_.id rfl
theorem d5 : Tab.desc T 5 = some (.int .u8) := rfl
theorem g6 : Tab.get T 6 = some ⟨.int .u8, 1, 1, [.v (.int .u8 0)]⟩ := _root_.id rfl
theorem d6 : Tab.desc T 6 = some (.int .u8) := rfl
theorem g9 : Tab.get T 9 = some ⟨.string, 1, 16, [.v (.string ⟨#[]⟩)]⟩ := _root_.id rfl
theorem d9 : Tab.desc T 9 = some (.string) := rfl
theorem g10 : Tab.get T 10 = some ⟨.string, 1, 16, [.v (.string ⟨#[]⟩)]⟩ := _root_.id rfl
theorem d10 : Tab.desc T 10 = some (.string) := rfl
theorem g11 : Tab.get T 11 = some ⟨.string, 1, 16, [.v (.string ⟨#[]⟩)]⟩ := _root_.id rfl
theorem d11 : Tab.desc T 11 = some (.string) := rfl
theorem g12 : Tab.get T 12 = some ⟨.int .u64, 1, 8, [.v (.int .u64 0)]⟩ := _root_.id rfl
theorem d12 : Tab.desc T 12 = some (.int .u64) := rfl
theorem g15 : Tab.get T 15 = some ⟨.ptr 138, 1, 8, [.v (.pointer none)]⟩ := _root_.id rfl
theorem d15 : Tab.desc T 15 = some (.ptr 138) := rfl
theorem g16 : Tab.get T 16 = some ⟨.ptr 141, 1, 8, [.v (.pointer none)]⟩ := _root_.id rfl
theorem d16 : Tab.desc T 16 = some (.ptr 141) := rfl
theorem g17 : Tab.get T 17 = some ⟨.ptr 149, 1, 8, [.v (.pointer none)]⟩ := _root_.id rfl
theorem d17 : Tab.desc T 17 = some (.ptr 149) := rfl
theorem g18 : Tab.get T 18 = some ⟨.struct [(17, 0)], 1, 8, [.v (.pointer none)]⟩ := _root_.id rfl
theorem d18 : Tab.desc T 18 = some (.struct [(17, 0)]) := rfl
theorem g19 : Tab.get T 19 = some ⟨.struct [(17, 0)], 1, 8, [.v (.pointer none)]⟩ := _root_.id rfl
theorem d19 : Tab.desc T 19 = some (.struct [(17, 0)]) := rfl
theorem g20 : Tab.get T 20 = some ⟨.iface, 1, 16, [.v .nilIface]⟩ := _root_.id rfl
theorem d20 : Tab.desc T 20 = some (.iface) := rfl
theorem g21 : Tab.get T 21 = some ⟨.int .i32, 1, 4, [.v (.int .i32 0)]⟩ := _root_.id rfl
theorem d21 : Tab.desc T 21 = some (.int .i32) := rfl
theorem g22 : Tab.get T 22 = some ⟨.slice 5, 1, 24, [.sl true true 0 []]⟩ := _root_.id rfl
theorem d22 : Tab.desc T 22 = some (.slice 5) := rfl
theorem g30 : Tab.get T 30 = some ⟨.slice 2, 1, 24, [.sl true true 0 []]⟩ := _root_.id rfl
theorem d30 : Tab.desc T 30 = some (.slice 2) := rfl
theorem g39 : Tab.get T 39 = some ⟨.struct [(2, 0), (2, 1)], 2, 16, [.v (.int .i64 0), .v (.int .i64 0)]⟩ := _root_.id rfl
theorem d39 : Tab.desc T 39 = some (.struct [(2, 0), (2, 1)]) := rfl
theorem g40 : Tab.get T 40 = some ⟨.struct [(2, 0), (2, 1)], 2, 16, [.v (.int .i64 0), .v (.int .i64 0)]⟩ := _root_.id rfl
theorem d40 : Tab.desc T 40 = some (.struct [(2, 0), (2, 1)]) := rfl
theorem g53 : Tab.get T 53 = some ⟨.struct [(9, 0), (2, 1), (2, 2)], 3, 32, [.v (.string ⟨#[]⟩), .v (.int .i64 0), .v (.int .i64 0)]⟩ := _root_.id rfl
theorem d53 : Tab.desc T 53 = some (.struct [(9, 0), (2, 1), (2, 2)]) := rfl
theorem g54 : Tab.get T 54 = some ⟨.struct [(9, 0), (2, 1), (2, 2)], 3, 32, [.v (.string ⟨#[]⟩), .v (.int .i64 0), .v (.int .i64 0)]⟩ := _root_.id rfl
theorem d54 : Tab.desc T 54 = some (.struct [(9, 0), (2, 1), (2, 2)]) := rfl
theorem g62 : Tab.get T 62 = some ⟨.slice 9, 1, 24, [.sl true true 0 []]⟩ := _root_.id rfl
theorem d62 : Tab.desc T 62 = some (.slice 9) := rfl
theorem g68 : Tab.get T 68 = some ⟨.slice 54, 1, 24, [.sl true true 0 []]⟩ := _root_.id rfl
theorem d68 : Tab.desc T 68 = some (.slice 54) := rfl
theorem g70 : Tab.get T 70 = some ⟨.ptr 89, 1, 8, [.v (.pointer none)]⟩ := _root_.id rfl
theorem d70 : Tab.desc T 70 = some (.ptr 89) := rfl
theorem g87 : Tab.get T 87 = some ⟨.int .u64, 1, 8, [.v (.int .u64 0)]⟩ := _root_.id rfl
theorem d87 : Tab.desc T 87 = some (.int .u64) := rfl
theorem g88 : Tab.get T 88 = some ⟨.struct [(22, 0), (3, 1), (87, 2)], 3, 40, [.sl true true 0 [], .v (.int .i64 0), .v (.int .u64 0)]⟩ := _root_.id rfl
theorem d88 : Tab.desc T 88 = some (.struct [(22, 0), (3, 1), (87, 2)]) := rfl
theorem g89 : Tab.get T 89 = some ⟨.struct [(22, 0), (3, 1), (87, 2)], 3, 40, [.sl true true 0 [], .v (.int .i64 0), .v (.int .u64 0)]⟩ := _root_.id rfl
theorem d89 : Tab.desc T 89 = some (.struct [(22, 0), (3, 1), (87, 2)]) := rfl
theorem g92 : Tab.get T 92 = some ⟨.ptr 94, 1, 8, [.v (.pointer none)]⟩ := _root_.id rfl
theorem d92 : Tab.desc T 92 = some (.ptr 94) := rfl
theorem g93 : Tab.get T 93 = some ⟨.struct [(92, 0), (22, 1)], 2, 32, [.v (.pointer none), .sl true true 0 []]⟩ := _root_.id rfl
theorem d93 : Tab.desc T 93 = some (.struct [(92, 0), (22, 1)]) := rfl
theorem g94 : Tab.get T 94 = some ⟨.struct [(92, 0), (22, 1)], 2, 32, [.v (.pointer none), .sl true true 0 []]⟩ := _root_.id rfl
theorem d94 : Tab.desc T 94 = some (.struct [(92, 0), (22, 1)]) := rfl
theorem g96 : Tab.get T 96 = some ⟨.iface, 1, 16, [.v .nilIface]⟩ := _root_.id rfl
theorem d96 : Tab.desc T 96 = some (.iface) := rfl
theorem g97 : Tab.get T 97 = some ⟨.iface, 1, 16, [.v .nilIface]⟩ := _root_.id rfl
theorem d97 : Tab.desc T 97 = some (.iface) := rfl
theorem g101 : Tab.get T 101 = some ⟨.slice 40, 1, 24, [.sl true true 0 []]⟩ := _root_.id rfl
theorem d101 : Tab.desc T 101 = some (.slice 40) := rfl
theorem g102 : Tab.get T 102 = some ⟨.slice 30, 1, 24, [.sl true true 0 []]⟩ := _root_.id rfl
theorem d102 : Tab.desc T 102 = some (.slice 30) := rfl
theorem g104 : Tab.get T 104 = some ⟨.int .u64, 1, 8, [.v (.int .u64 0)]⟩ := _root_.id rfl
theorem d104 : Tab.desc T 104 = some (.int .u64) := rfl
theorem g107 : Tab.get T 107 = some ⟨.ptr 5, 1, 8, [.v (.pointer none)]⟩ := _root_.id rfl
theorem d107 : Tab.desc T 107 = some (.ptr 5) := rfl
theorem g109 : Tab.get T 109 = some ⟨.array 24 5, 24, 24, [.v (.int .u8 0), .v (.int .u8 0), .v (.int .u8 0), .v (.int .u8 0), .v (.int .u8 0), .v (.int .u8 0), .v (.int .u8 0), .v (.int .u8 0), .v (.int .u8 0), .v (.int .u8 0), .v (.int .u8 0), .v (.int .u8 0), .v (.int .u8 0), .v (.int .u8 0), .v (.int .u8 0), .v (.int .u8 0), .v (.int .u8 0), .v (.int .u8 0), .v (.int .u8 0), .v (.int .u8 0), .v (.int .u8 0), .v (.int .u8 0), .v (.int .u8 0), .v (.int .u8 0)]⟩ := _root_.id rfl
theorem d109 : Tab.desc T 109 = some (.array 24 5) := rfl
theorem g123 : Tab.get T 123 = some ⟨.array 20 87, 20, 160, [.v (.int .u64 0), .v (.int .u64 0), .v (.int .u64 0), .v (.int .u64 0), .v (.int .u64 0), .v (.int .u64 0), .v (.int .u64 0), .v (.int .u64 0), .v (.int .u64 0), .v (.int .u64 0), .v (.int .u64 0), .v (.int .u64 0), .v (.int .u64 0), .v (.int .u64 0), .v (.int .u64 0), .v (.int .u64 0), .v (.int .u64 0), .v (.int .u64 0), .v (.int .u64 0), .v (.int .u64 0)]⟩ := _root_.id rfl
theorem d123 : Tab.desc T 123 = some (.array 20 87) := rfl
theorem g124 : Tab.get T 124 = some ⟨.int .u32, 1, 4, [.v (.int .u32 0)]⟩ := _root_.id rfl
theorem d124 : Tab.desc T 124 = some (.int .u32) := rfl
theorem g125 : Tab.get T 125 = some ⟨.array 65 5, 65, 65, [.v (.int .u8 0), .v (.int .u8 0), .v (.int .u8 0), .v (.int .u8 0), .v (.int .u8 0), .v (.int .u8 0), .v (.int .u8 0), .v (.int .u8 0), .v (.int .u8 0), .v (.int .u8 0), .v (.int .u8 0), .v (.int .u8 0), .v (.int .u8 0), .v (.int .u8 0), .v (.int .u8 0), .v (.int .u8 0), .v (.int .u8 0), .v (.int .u8 0), .v (.int .u8 0), .v (.int .u8 0), .v (.int .u8 0), .v (.int .u8 0), .v (.int .u8 0), .v (.int .u8 0), .v (.int .u8 0), .v (.int .u8 0), .v (.int .u8 0), .v (.int .u8 0), .v (.int .u8 0), .v (.int .u8 0), .v (.int .u8 0), .v (.int .u8 0), .v (.int .u8 0), .v (.int .u8 0), .v (.int .u8 0), .v (.int .u8 0), .v (.int .u8 0), .v (.int .u8 0), .v (.int .u8 0), .v (.int .u8 0), .v (.int .u8 0), .v (.int .u8 0), .v (.int .u8 0), .v (.int .u8 0), .v (.int .u8 0), .v (.int .u8 0), .v (.int .u8 0), .v (.int .u8 0), .v (.int .u8 0), .v (.int .u8 0), .v (.int .u8 0), .v (.int .u8 0), .v (.int .u8 0), .v (.int .u8 0), .v (.int .u8 0), .v (.int .u8 0), .v (.int .u8 0), .v (.int .u8 0), .v (.int .u8 0), .v (.int .u8 0), .v (.int .u8 0), .v (.int .u8 0), .v (.int .u8 0), .v (.int .u8 0), .v (.int .u8 0)]⟩ := _root_.id rfl
theorem d125 : Tab.desc T 125 = some (.array 65 5) := rfl
theorem g132 : Tab.get T 132 = some ⟨.struct [(5, 0), (5, 1)], 2, 2, [.v (.int .u8 0), .v (.int .u8 0)]⟩ := _root_.id rfl
theorem d132 : Tab.desc T 132 = some (.struct [(5, 0), (5, 1)]) := rfl
theorem g133 : Tab.get T 133 = some ⟨.struct [(5, 0), (5, 1)], 2, 2, [.v (.int .u8 0), .v (.int .u8 0)]⟩ := _root_.id rfl
theorem d133 : Tab.desc T 133 = some (.struct [(5, 0), (5, 1)]) := rfl
theorem g134 : Tab.get T 134 = some ⟨.array 16 133, 32, 32, [.v (.int .u8 0), .v (.int .u8 0), .v (.int .u8 0), .v (.int .u8 0), .v (.int .u8 0), .v (.int .u8 0), .v (.int .u8 0), .v (.int .u8 0), .v (.int .u8 0), .v (.int .u8 0), .v (.int .u8 0), .v (.int .u8 0), .v (.int .u8 0), .v (.int .u8 0), .v (.int .u8 0), .v (.int .u8 0), .v (.int .u8 0), .v (.int .u8 0), .v (.int .u8 0), .v (.int .u8 0), .v (.int .u8 0), .v (.int .u8 0), .v (.int .u8 0), .v (.int .u8 0), .v (.int .u8 0), .v (.int .u8 0), .v (.int .u8 0), .v (.int .u8 0), .v (.int .u8 0), .v (.int .u8 0), .v (.int .u8 0), .v (.int .u8 0)]⟩ := _root_.id rfl
theorem d134 : Tab.desc T 134 = some (.array 16 133) := rfl
theorem g135 : Tab.get T 135 = some ⟨.array 32 5, 32, 32, [.v (.int .u8 0), .v (.int .u8 0), .v (.int .u8 0), .v (.int .u8 0), .v (.int .u8 0), .v (.int .u8 0), .v (.int .u8 0), .v (.int .u8 0), .v (.int .u8 0), .v (.int .u8 0), .v (.int .u8 0), .v (.int .u8 0), .v (.int .u8 0), .v (.int .u8 0), .v (.int .u8 0), .v (.int .u8 0), .v (.int .u8 0), .v (.int .u8 0), .v (.int .u8 0), .v (.int .u8 0), .v (.int .u8 0), .v (.int .u8 0), .v (.int .u8 0), .v (.int .u8 0), .v (.int .u8 0), .v (.int .u8 0), .v (.int .u8 0), .v (.int .u8 0), .v (.int .u8 0), .v (.int .u8 0), .v (.int .u8 0), .v (.int .u8 0)]⟩ := _root_.id rfl
theorem d135 : Tab.desc T 135 = some (.array 32 5) := rfl
theorem g136 : Tab.get T 136 = some ⟨.array 64 5, 64, 64, [.v (.int .u8 0), .v (.int .u8 0), .v (.int .u8 0), .v (.int .u8 0), .v (.int .u8 0), .v (.int .u8 0), .v (.int .u8 0), .v (.int .u8 0), .v (.int .u8 0), .v (.int .u8 0), .v (.int .u8 0), .v (.int .u8 0), .v (.int .u8 0), .v (.int .u8 0), .v (.int .u8 0), .v (.int .u8 0), .v (.int .u8 0), .v (.int .u8 0), .v (.int .u8 0), .v (.int .u8 0), .v (.int .u8 0), .v (.int .u8 0), .v (.int .u8 0), .v (.int .u8 0), .v (.int .u8 0), .v (.int .u8 0), .v (.int .u8 0), .v (.int .u8 0), .v (.int .u8 0), .v (.int .u8 0), .v (.int .u8 0), .v (.int .u8 0), .v (.int .u8 0), .v (.int .u8 0), .v (.int .u8 0), .v (.int .u8 0), .v (.int .u8 0), .v (.int .u8 0), .v (.int .u8 0), .v (.int .u8 0), .v (.int .u8 0), .v (.int .u8 0), .v (.int .u8 0), .v (.int .u8 0), .v (.int .u8 0), .v (.int .u8 0), .v (.int .u8 0), .v (.int .u8 0), .v (.int .u8 0), .v (.int .u8 0), .v (.int .u8 0), .v (.int .u8 0), .v (.int .u8 0), .v (.int .u8 0), .v (.int .u8 0), .v (.int .u8 0), .v (.int .u8 0), .v (.int .u8 0), .v (.int .u8 0), .v (.int .u8 0), .v (.int .u8 0), .v (.int .u8 0), .v (.int .u8 0), .v (.int .u8 0)]⟩ := _root_.id rfl
theorem d136 : Tab.desc T 136 = some (.array 64 5) := rfl
theorem g139 : Tab.get T 139 = some ⟨.array 0 16, 0, 0, []⟩ := _root_.id rfl
theorem d139 : Tab.desc T 139 = some (.array 0 16) := rfl
theorem g143 : Tab.get T 143 = some ⟨.int .u8, 1, 1, [.v (.int .u8 0)]⟩ := _root_.id rfl
theorem d143 : Tab.desc T 143 = some (.int .u8) := rfl
theorem g144 : Tab.get T 144 = some ⟨.int .u8, 1, 1, [.v (.int .u8 0)]⟩ := _root_.id rfl
theorem d144 : Tab.desc T 144 = some (.int .u8) := rfl
theorem g146 : Tab.get T 146 = some ⟨.int .i32, 1, 4, [.v (.int .i32 0)]⟩ := _root_.id rfl
theorem d146 : Tab.desc T 146 = some (.int .i32) := rfl
theorem g147 : Tab.get T 147 = some ⟨.int .i32, 1, 4, [.v (.int .i32 0)]⟩ := _root_.id rfl
theorem d147 : Tab.desc T 147 = some (.int .i32) := rfl
theorem g148 : Tab.get T 148 = some ⟨.struct [(12, 0), (12, 1), (124, 2), (143, 3), (5, 4), (5, 5), (144, 6), (145, 7), (107, 8), (146, 9), (147, 10)], 11, 48, [.v (.int .u64 0), .v (.int .u64 0), .v (.int .u32 0), .v (.int .u8 0), .v (.int .u8 0), .v (.int .u8 0), .v (.int .u8 0), .v .nilFunc, .v (.pointer none), .v (.int .i32 0), .v (.int .i32 0)]⟩ := _root_.id rfl
theorem d148 : Tab.desc T 148 = some (.struct [(12, 0), (12, 1), (124, 2), (143, 3), (5, 4), (5, 5), (144, 6), (145, 7), (107, 8), (146, 9), (147, 10)]) := rfl
theorem g149 : Tab.get T 149 = some ⟨.struct [(12, 0), (12, 1), (124, 2), (143, 3), (5, 4), (5, 5), (144, 6), (145, 7), (107, 8), (146, 9), (147, 10)], 11, 48, [.v (.int .u64 0), .v (.int .u64 0), .v (.int .u32 0), .v (.int .u8 0), .v (.int .u8 0), .v (.int .u8 0), .v (.int .u8 0), .v .nilFunc, .v (.pointer none), .v (.int .i32 0), .v (.int .i32 0)]⟩ := _root_.id rfl
theorem d149 : Tab.desc T 149 = some (.struct [(12, 0), (12, 1), (124, 2), (143, 3), (5, 4), (5, 5), (144, 6), (145, 7), (107, 8), (146, 9), (147, 10)]) := rfl
attribute [push_cast] g2 g3 g4 g5 g6 g9 g10 g11 g12 g15 g16 g17 g18 g19 g20 g21 g22 g30 g39 g40 g53 g54 g62 g68 g70 g87 g88 g89 g92 g93 g94 g96 g97 g101 g102 g104 g107 g109 g123 g124 g125 g132 g133 g134 g135 g136 g139 g143 g144 g146 g147 g148 g149
end Go.Proofs.YtihjdodmlddffaaDoor.Fw
