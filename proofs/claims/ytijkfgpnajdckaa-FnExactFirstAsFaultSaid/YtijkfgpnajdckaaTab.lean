/- The types of the translation, as the framework's table. Printed by gentab.py. -/
import Derived.Test.YtijkfgpnajdckaaFwR
import Derived.Test.YtijkfgpnajdckaaProg
import Derived.KernelRfl
set_option maxRecDepth 100000
namespace Go.Proofs.Ytijkfgpnajdckaa.Fw
def T : Tab := [
  (2, ⟨.int .i64, 1, 8, [.v (.int .i64 0)]⟩),
  (3, ⟨.int .i64, 1, 8, [.v (.int .i64 0)]⟩),
  (4, ⟨.bool, 1, 1, [.v (.bool false)]⟩),
  (5, ⟨.int .u8, 1, 1, [.v (.int .u8 0)]⟩),
  (6, ⟨.int .u8, 1, 1, [.v (.int .u8 0)]⟩),
  (9, ⟨.string, 1, 16, [.v (.string ⟨#[]⟩)]⟩),
  (10, ⟨.string, 1, 16, [.v (.string ⟨#[]⟩)]⟩),
  (11, ⟨.string, 1, 16, [.v (.string ⟨#[]⟩)]⟩),
  (12, ⟨.int .u64, 1, 8, [.v (.int .u64 0)]⟩),
  (15, ⟨.ptr 199, 1, 8, [.v (.pointer none)]⟩),
  (16, ⟨.ptr 202, 1, 8, [.v (.pointer none)]⟩),
  (17, ⟨.ptr 212, 1, 8, [.v (.pointer none)]⟩),
  (18, ⟨.struct [(17, 0)], 1, 8, [.v (.pointer none)]⟩),
  (19, ⟨.struct [(17, 0)], 1, 8, [.v (.pointer none)]⟩),
  (20, ⟨.iface, 1, 16, [.v .nilIface]⟩),
  (21, ⟨.int .i32, 1, 4, [.v (.int .i32 0)]⟩),
  (22, ⟨.slice 68, 1, 24, [.sl true true 0 []]⟩),
  (23, ⟨.slice 2, 1, 24, [.sl true true 0 []]⟩),
  (27, ⟨.slice 73, 1, 24, [.sl true true 0 []]⟩),
  (33, ⟨.slice 83, 1, 24, [.sl true true 0 []]⟩),
  (37, ⟨.slice 89, 1, 24, [.sl true true 0 []]⟩),
  (45, ⟨.slice 155, 1, 24, [.sl true true 0 []]⟩),
  (46, ⟨.slice 144, 1, 24, [.sl true true 0 []]⟩),
  (47, ⟨.struct [(2, 0), (2, 1), (45, 2), (46, 3)], 4, 64, [.v (.int .i64 0), .v (.int .i64 0), .sl true true 0 [], .sl true true 0 []]⟩),
  (48, ⟨.struct [(2, 0), (2, 1), (45, 2), (46, 3)], 4, 64, [.v (.int .i64 0), .v (.int .i64 0), .sl true true 0 [], .sl true true 0 []]⟩),
  (51, ⟨.slice 153, 1, 24, [.sl true true 0 []]⟩),
  (52, ⟨.slice 146, 1, 24, [.sl true true 0 []]⟩),
  (53, ⟨.struct [(2, 0), (2, 1), (51, 2), (52, 3)], 4, 64, [.v (.int .i64 0), .v (.int .i64 0), .sl true true 0 [], .sl true true 0 []]⟩),
  (54, ⟨.struct [(2, 0), (2, 1), (51, 2), (52, 3)], 4, 64, [.v (.int .i64 0), .v (.int .i64 0), .sl true true 0 [], .sl true true 0 []]⟩),
  (67, ⟨.struct [(9, 0), (2, 1), (2, 2), (2, 3)], 4, 40, [.v (.string ⟨#[]⟩), .v (.int .i64 0), .v (.int .i64 0), .v (.int .i64 0)]⟩),
  (68, ⟨.struct [(9, 0), (2, 1), (2, 2), (2, 3)], 4, 40, [.v (.string ⟨#[]⟩), .v (.int .i64 0), .v (.int .i64 0), .v (.int .i64 0)]⟩),
  (71, ⟨.slice 23, 1, 24, [.sl true true 0 []]⟩),
  (73, ⟨.struct [(9, 0), (2, 1), (2, 2), (2, 3)], 4, 40, [.v (.string ⟨#[]⟩), .v (.int .i64 0), .v (.int .i64 0), .v (.int .i64 0)]⟩),
  (75, ⟨.slice 94, 1, 24, [.sl true true 0 []]⟩),
  (80, ⟨.struct [(9, 0), (2, 1), (2, 2)], 3, 32, [.v (.string ⟨#[]⟩), .v (.int .i64 0), .v (.int .i64 0)]⟩),
  (81, ⟨.struct [(9, 0), (2, 1), (2, 2)], 3, 32, [.v (.string ⟨#[]⟩), .v (.int .i64 0), .v (.int .i64 0)]⟩),
  (82, ⟨.struct [(9, 0), (81, 1), (2, 4), (2, 5), (2, 6), (2, 7)], 8, 80, [.v (.string ⟨#[]⟩), .v (.string ⟨#[]⟩), .v (.int .i64 0), .v (.int .i64 0), .v (.int .i64 0), .v (.int .i64 0), .v (.int .i64 0), .v (.int .i64 0)]⟩),
  (83, ⟨.struct [(9, 0), (81, 1), (2, 4), (2, 5), (2, 6), (2, 7)], 8, 80, [.v (.string ⟨#[]⟩), .v (.string ⟨#[]⟩), .v (.int .i64 0), .v (.int .i64 0), .v (.int .i64 0), .v (.int .i64 0), .v (.int .i64 0), .v (.int .i64 0)]⟩),
  (87, ⟨.struct [(9, 0), (2, 1), (2, 2)], 3, 32, [.v (.string ⟨#[]⟩), .v (.int .i64 0), .v (.int .i64 0)]⟩),
  (88, ⟨.struct [(9, 0), (87, 1), (2, 4), (2, 5), (2, 6), (2, 7)], 8, 80, [.v (.string ⟨#[]⟩), .v (.string ⟨#[]⟩), .v (.int .i64 0), .v (.int .i64 0), .v (.int .i64 0), .v (.int .i64 0), .v (.int .i64 0), .v (.int .i64 0)]⟩),
  (89, ⟨.struct [(9, 0), (87, 1), (2, 4), (2, 5), (2, 6), (2, 7)], 8, 80, [.v (.string ⟨#[]⟩), .v (.string ⟨#[]⟩), .v (.int .i64 0), .v (.int .i64 0), .v (.int .i64 0), .v (.int .i64 0), .v (.int .i64 0), .v (.int .i64 0)]⟩),
  (93, ⟨.struct [(2, 0), (2, 1), (2, 2), (2, 3)], 4, 32, [.v (.int .i64 0), .v (.int .i64 0), .v (.int .i64 0), .v (.int .i64 0)]⟩),
  (94, ⟨.struct [(2, 0), (2, 1), (2, 2), (2, 3)], 4, 32, [.v (.int .i64 0), .v (.int .i64 0), .v (.int .i64 0), .v (.int .i64 0)]⟩),
  (99, ⟨.ptr 54, 1, 8, [.v (.pointer none)]⟩),
  (104, ⟨.slice 4, 1, 24, [.sl true true 0 []]⟩),
  (105, ⟨.struct [(71, 0), (104, 1)], 2, 48, [.sl true true 0 [], .sl true true 0 []]⟩),
  (106, ⟨.struct [(71, 0), (104, 1)], 2, 48, [.sl true true 0 [], .sl true true 0 []]⟩),
  (114, ⟨.ptr 124, 1, 8, [.v (.pointer none)]⟩),
  (123, ⟨.struct [(71, 0), (104, 1)], 2, 48, [.sl true true 0 [], .sl true true 0 []]⟩),
  (124, ⟨.struct [(71, 0), (104, 1)], 2, 48, [.sl true true 0 [], .sl true true 0 []]⟩),
  (131, ⟨.array 4 2, 4, 32, [.v (.int .i64 0), .v (.int .i64 0), .v (.int .i64 0), .v (.int .i64 0)]⟩),
  (132, ⟨.struct [(2, 0), (131, 1), (2, 5)], 6, 48, [.v (.int .i64 0), .v (.int .i64 0), .v (.int .i64 0), .v (.int .i64 0), .v (.int .i64 0), .v (.int .i64 0)]⟩),
  (133, ⟨.struct [(2, 0), (131, 1), (2, 5)], 6, 48, [.v (.int .i64 0), .v (.int .i64 0), .v (.int .i64 0), .v (.int .i64 0), .v (.int .i64 0), .v (.int .i64 0)]⟩),
  (137, ⟨.ptr 89, 1, 8, [.v (.pointer none)]⟩),
  (141, ⟨.slice 5, 1, 24, [.sl true true 0 []]⟩),
  (143, ⟨.struct [(9, 0), (23, 1)], 2, 40, [.v (.string ⟨#[]⟩), .sl true true 0 []]⟩),
  (144, ⟨.struct [(9, 0), (23, 1)], 2, 40, [.v (.string ⟨#[]⟩), .sl true true 0 []]⟩),
  (146, ⟨.struct [(9, 0), (23, 1)], 2, 40, [.v (.string ⟨#[]⟩), .sl true true 0 []]⟩),
  (152, ⟨.struct [(2, 0), (2, 1)], 2, 16, [.v (.int .i64 0), .v (.int .i64 0)]⟩),
  (153, ⟨.struct [(2, 0), (2, 1)], 2, 16, [.v (.int .i64 0), .v (.int .i64 0)]⟩),
  (155, ⟨.struct [(2, 0), (2, 1)], 2, 16, [.v (.int .i64 0), .v (.int .i64 0)]⟩),
  (164, ⟨.slice 165, 1, 24, [.sl true true 0 []]⟩),
  (165, ⟨.slice 168, 1, 24, [.sl true true 0 []]⟩),
  (168, ⟨.array 2 2, 2, 16, [.v (.int .i64 0), .v (.int .i64 0)]⟩),
  (174, ⟨.ptr 73, 1, 8, [.v (.pointer none)]⟩),
  (176, ⟨.ptr 133, 1, 8, [.v (.pointer none)]⟩),
  (178, ⟨.ptr 87, 1, 8, [.v (.pointer none)]⟩),
  (194, ⟨.slice 9, 1, 24, [.sl true true 0 []]⟩),
  (200, ⟨.array 0 16, 0, 0, []⟩),
  (204, ⟨.int .u32, 1, 4, [.v (.int .u32 0)]⟩),
  (205, ⟨.int .u8, 1, 1, [.v (.int .u8 0)]⟩),
  (206, ⟨.int .u8, 1, 1, [.v (.int .u8 0)]⟩),
  (208, ⟨.ptr 5, 1, 8, [.v (.pointer none)]⟩),
  (209, ⟨.int .i32, 1, 4, [.v (.int .i32 0)]⟩),
  (210, ⟨.int .i32, 1, 4, [.v (.int .i32 0)]⟩),
  (211, ⟨.struct [(12, 0), (12, 1), (204, 2), (205, 3), (5, 4), (5, 5), (206, 6), (207, 7), (208, 8), (209, 9), (210, 10)], 11, 48, [.v (.int .u64 0), .v (.int .u64 0), .v (.int .u32 0), .v (.int .u8 0), .v (.int .u8 0), .v (.int .u8 0), .v (.int .u8 0), .v .nilFunc, .v (.pointer none), .v (.int .i32 0), .v (.int .i32 0)]⟩),
  (212, ⟨.struct [(12, 0), (12, 1), (204, 2), (205, 3), (5, 4), (5, 5), (206, 6), (207, 7), (208, 8), (209, 9), (210, 10)], 11, 48, [.v (.int .u64 0), .v (.int .u64 0), .v (.int .u32 0), .v (.int .u8 0), .v (.int .u8 0), .v (.int .u8 0), .v (.int .u8 0), .v .nilFunc, .v (.pointer none), .v (.int .i32 0), .v (.int .i32 0)]⟩)]
theorem T_ok : Tab.ok Try.prog T = true := by kernel_rfl
theorem follows_ok : Try.prog.follows .mixedOrders = true := by kernel_rfl
theorem g2 : Tab.get T 2 = some ⟨.int .i64, 1, 8, [.v (.int .i64 0)]⟩ := _root_.id rfl
theorem d2 : Tab.desc T 2 = some (.int .i64) := rfl
theorem g3 : Tab.get T 3 = some ⟨.int .i64, 1, 8, [.v (.int .i64 0)]⟩ := _root_.id rfl
theorem d3 : Tab.desc T 3 = some (.int .i64) := rfl
theorem g4 : Tab.get T 4 = some ⟨.bool, 1, 1, [.v (.bool false)]⟩ := _root_.id rfl
theorem d4 : Tab.desc T 4 = some (.bool) := rfl
theorem g5 : Tab.get T 5 = some ⟨.int .u8, 1, 1, [.v (.int .u8 0)]⟩ := _root_.id rfl
theorem d5 : Tab.desc T 5 = some (.int .u8) := rfl
theorem g6 : Tab.get T 6 = some ⟨.int .u8, 1, 1, [.v (.int .u8 0)]⟩ := _root_.id rfl
theorem d6 : Tab.desc T 6 = some (.int .u8) := rfl
theorem g9 : Tab.get T 9 = some ⟨.string, 1, 16, [.v (.string ⟨#[]⟩)]⟩ := _root_.id rfl
theorem d9 : Tab.desc T 9 = some (.string) := rfl
theorem g10 : Tab.get T 10 = some ⟨.string, 1, 16, [.v (.string ⟨#[]⟩)]⟩ := _root_.id rfl
theorem d10 : Tab.desc T 10 = some (.string) := rfl
theorem g11 : Tab.get T 11 = some ⟨.string, 1, 16, [.v (.string ⟨#[]⟩)]⟩ := _root_.id rfl
theorem d11 : Tab.desc T 11 = some (.string) := rfl
theorem g12 : Tab.get T 12 = some ⟨.int .u64, 1, 8, [.v (.int .u64 0)]⟩ := _root_.id rfl
theorem d12 : Tab.desc T 12 = some (.int .u64) := rfl
theorem g15 : Tab.get T 15 = some ⟨.ptr 199, 1, 8, [.v (.pointer none)]⟩ := _root_.id rfl
theorem d15 : Tab.desc T 15 = some (.ptr 199) := rfl
theorem g16 : Tab.get T 16 = some ⟨.ptr 202, 1, 8, [.v (.pointer none)]⟩ := _root_.id rfl
theorem d16 : Tab.desc T 16 = some (.ptr 202) := rfl
theorem g17 : Tab.get T 17 = some ⟨.ptr 212, 1, 8, [.v (.pointer none)]⟩ := _root_.id rfl
theorem d17 : Tab.desc T 17 = some (.ptr 212) := rfl
theorem g18 : Tab.get T 18 = some ⟨.struct [(17, 0)], 1, 8, [.v (.pointer none)]⟩ := _root_.id rfl
theorem d18 : Tab.desc T 18 = some (.struct [(17, 0)]) := rfl
theorem g19 : Tab.get T 19 = some ⟨.struct [(17, 0)], 1, 8, [.v (.pointer none)]⟩ := _root_.id rfl
theorem d19 : Tab.desc T 19 = some (.struct [(17, 0)]) := rfl
theorem g20 : Tab.get T 20 = some ⟨.iface, 1, 16, [.v .nilIface]⟩ := _root_.id rfl
theorem d20 : Tab.desc T 20 = some (.iface) := rfl
theorem g21 : Tab.get T 21 = some ⟨.int .i32, 1, 4, [.v (.int .i32 0)]⟩ := _root_.id rfl
theorem d21 : Tab.desc T 21 = some (.int .i32) := rfl
theorem g22 : Tab.get T 22 = some ⟨.slice 68, 1, 24, [.sl true true 0 []]⟩ := _root_.id rfl
theorem d22 : Tab.desc T 22 = some (.slice 68) := rfl
theorem g23 : Tab.get T 23 = some ⟨.slice 2, 1, 24, [.sl true true 0 []]⟩ := _root_.id rfl
theorem d23 : Tab.desc T 23 = some (.slice 2) := rfl
theorem g27 : Tab.get T 27 = some ⟨.slice 73, 1, 24, [.sl true true 0 []]⟩ := _root_.id rfl
theorem d27 : Tab.desc T 27 = some (.slice 73) := rfl
theorem g33 : Tab.get T 33 = some ⟨.slice 83, 1, 24, [.sl true true 0 []]⟩ := _root_.id rfl
theorem d33 : Tab.desc T 33 = some (.slice 83) := rfl
theorem g37 : Tab.get T 37 = some ⟨.slice 89, 1, 24, [.sl true true 0 []]⟩ := _root_.id rfl
theorem d37 : Tab.desc T 37 = some (.slice 89) := rfl
theorem g45 : Tab.get T 45 = some ⟨.slice 155, 1, 24, [.sl true true 0 []]⟩ := _root_.id rfl
theorem d45 : Tab.desc T 45 = some (.slice 155) := rfl
theorem g46 : Tab.get T 46 = some ⟨.slice 144, 1, 24, [.sl true true 0 []]⟩ := _root_.id rfl
theorem d46 : Tab.desc T 46 = some (.slice 144) := rfl
theorem g47 : Tab.get T 47 = some ⟨.struct [(2, 0), (2, 1), (45, 2), (46, 3)], 4, 64, [.v (.int .i64 0), .v (.int .i64 0), .sl true true 0 [], .sl true true 0 []]⟩ := _root_.id rfl
theorem d47 : Tab.desc T 47 = some (.struct [(2, 0), (2, 1), (45, 2), (46, 3)]) := rfl
theorem g48 : Tab.get T 48 = some ⟨.struct [(2, 0), (2, 1), (45, 2), (46, 3)], 4, 64, [.v (.int .i64 0), .v (.int .i64 0), .sl true true 0 [], .sl true true 0 []]⟩ := _root_.id rfl
theorem d48 : Tab.desc T 48 = some (.struct [(2, 0), (2, 1), (45, 2), (46, 3)]) := rfl
theorem g51 : Tab.get T 51 = some ⟨.slice 153, 1, 24, [.sl true true 0 []]⟩ := _root_.id rfl
theorem d51 : Tab.desc T 51 = some (.slice 153) := rfl
theorem g52 : Tab.get T 52 = some ⟨.slice 146, 1, 24, [.sl true true 0 []]⟩ := _root_.id rfl
theorem d52 : Tab.desc T 52 = some (.slice 146) := rfl
theorem g53 : Tab.get T 53 = some ⟨.struct [(2, 0), (2, 1), (51, 2), (52, 3)], 4, 64, [.v (.int .i64 0), .v (.int .i64 0), .sl true true 0 [], .sl true true 0 []]⟩ := _root_.id rfl
theorem d53 : Tab.desc T 53 = some (.struct [(2, 0), (2, 1), (51, 2), (52, 3)]) := rfl
theorem g54 : Tab.get T 54 = some ⟨.struct [(2, 0), (2, 1), (51, 2), (52, 3)], 4, 64, [.v (.int .i64 0), .v (.int .i64 0), .sl true true 0 [], .sl true true 0 []]⟩ := _root_.id rfl
theorem d54 : Tab.desc T 54 = some (.struct [(2, 0), (2, 1), (51, 2), (52, 3)]) := rfl
theorem g67 : Tab.get T 67 = some ⟨.struct [(9, 0), (2, 1), (2, 2), (2, 3)], 4, 40, [.v (.string ⟨#[]⟩), .v (.int .i64 0), .v (.int .i64 0), .v (.int .i64 0)]⟩ := _root_.id rfl
theorem d67 : Tab.desc T 67 = some (.struct [(9, 0), (2, 1), (2, 2), (2, 3)]) := rfl
theorem g68 : Tab.get T 68 = some ⟨.struct [(9, 0), (2, 1), (2, 2), (2, 3)], 4, 40, [.v (.string ⟨#[]⟩), .v (.int .i64 0), .v (.int .i64 0), .v (.int .i64 0)]⟩ := _root_.id rfl
theorem d68 : Tab.desc T 68 = some (.struct [(9, 0), (2, 1), (2, 2), (2, 3)]) := rfl
theorem g71 : Tab.get T 71 = some ⟨.slice 23, 1, 24, [.sl true true 0 []]⟩ := _root_.id rfl
theorem d71 : Tab.desc T 71 = some (.slice 23) := rfl
theorem g73 : Tab.get T 73 = some ⟨.struct [(9, 0), (2, 1), (2, 2), (2, 3)], 4, 40, [.v (.string ⟨#[]⟩), .v (.int .i64 0), .v (.int .i64 0), .v (.int .i64 0)]⟩ := _root_.id rfl
theorem d73 : Tab.desc T 73 = some (.struct [(9, 0), (2, 1), (2, 2), (2, 3)]) := rfl
theorem g75 : Tab.get T 75 = some ⟨.slice 94, 1, 24, [.sl true true 0 []]⟩ := _root_.id rfl
theorem d75 : Tab.desc T 75 = some (.slice 94) := rfl
theorem g80 : Tab.get T 80 = some ⟨.struct [(9, 0), (2, 1), (2, 2)], 3, 32, [.v (.string ⟨#[]⟩), .v (.int .i64 0), .v (.int .i64 0)]⟩ := _root_.id rfl
theorem d80 : Tab.desc T 80 = some (.struct [(9, 0), (2, 1), (2, 2)]) := rfl
theorem g81 : Tab.get T 81 = some ⟨.struct [(9, 0), (2, 1), (2, 2)], 3, 32, [.v (.string ⟨#[]⟩), .v (.int .i64 0), .v (.int .i64 0)]⟩ := _root_.id rfl
theorem d81 : Tab.desc T 81 = some (.struct [(9, 0), (2, 1), (2, 2)]) := rfl
theorem g82 : Tab.get T 82 = some ⟨.struct [(9, 0), (81, 1), (2, 4), (2, 5), (2, 6), (2, 7)], 8, 80, [.v (.string ⟨#[]⟩), .v (.string ⟨#[]⟩), .v (.int .i64 0), .v (.int .i64 0), .v (.int .i64 0), .v (.int .i64 0), .v (.int .i64 0), .v (.int .i64 0)]⟩ := _root_.id rfl
theorem d82 : Tab.desc T 82 = some (.struct [(9, 0), (81, 1), (2, 4), (2, 5), (2, 6), (2, 7)]) := rfl
theorem g83 : Tab.get T 83 = some ⟨.struct [(9, 0), (81, 1), (2, 4), (2, 5), (2, 6), (2, 7)], 8, 80, [.v (.string ⟨#[]⟩), .v (.string ⟨#[]⟩), .v (.int .i64 0), .v (.int .i64 0), .v (.int .i64 0), .v (.int .i64 0), .v (.int .i64 0), .v (.int .i64 0)]⟩ := _root_.id rfl
theorem d83 : Tab.desc T 83 = some (.struct [(9, 0), (81, 1), (2, 4), (2, 5), (2, 6), (2, 7)]) := rfl
theorem g87 : Tab.get T 87 = some ⟨.struct [(9, 0), (2, 1), (2, 2)], 3, 32, [.v (.string ⟨#[]⟩), .v (.int .i64 0), .v (.int .i64 0)]⟩ := _root_.id rfl
theorem d87 : Tab.desc T 87 = some (.struct [(9, 0), (2, 1), (2, 2)]) := rfl
theorem g88 : Tab.get T 88 = some ⟨.struct [(9, 0), (87, 1), (2, 4), (2, 5), (2, 6), (2, 7)], 8, 80, [.v (.string ⟨#[]⟩), .v (.string ⟨#[]⟩), .v (.int .i64 0), .v (.int .i64 0), .v (.int .i64 0), .v (.int .i64 0), .v (.int .i64 0), .v (.int .i64 0)]⟩ := _root_.id rfl
theorem d88 : Tab.desc T 88 = some (.struct [(9, 0), (87, 1), (2, 4), (2, 5), (2, 6), (2, 7)]) := rfl
theorem g89 : Tab.get T 89 = some ⟨.struct [(9, 0), (87, 1), (2, 4), (2, 5), (2, 6), (2, 7)], 8, 80, [.v (.string ⟨#[]⟩), .v (.string ⟨#[]⟩), .v (.int .i64 0), .v (.int .i64 0), .v (.int .i64 0), .v (.int .i64 0), .v (.int .i64 0), .v (.int .i64 0)]⟩ := _root_.id rfl
theorem d89 : Tab.desc T 89 = some (.struct [(9, 0), (87, 1), (2, 4), (2, 5), (2, 6), (2, 7)]) := rfl
theorem g93 : Tab.get T 93 = some ⟨.struct [(2, 0), (2, 1), (2, 2), (2, 3)], 4, 32, [.v (.int .i64 0), .v (.int .i64 0), .v (.int .i64 0), .v (.int .i64 0)]⟩ := _root_.id rfl
theorem d93 : Tab.desc T 93 = some (.struct [(2, 0), (2, 1), (2, 2), (2, 3)]) := rfl
theorem g94 : Tab.get T 94 = some ⟨.struct [(2, 0), (2, 1), (2, 2), (2, 3)], 4, 32, [.v (.int .i64 0), .v (.int .i64 0), .v (.int .i64 0), .v (.int .i64 0)]⟩ := _root_.id rfl
theorem d94 : Tab.desc T 94 = some (.struct [(2, 0), (2, 1), (2, 2), (2, 3)]) := rfl
theorem g99 : Tab.get T 99 = some ⟨.ptr 54, 1, 8, [.v (.pointer none)]⟩ := _root_.id rfl
theorem d99 : Tab.desc T 99 = some (.ptr 54) := rfl
theorem g104 : Tab.get T 104 = some ⟨.slice 4, 1, 24, [.sl true true 0 []]⟩ := _root_.id rfl
theorem d104 : Tab.desc T 104 = some (.slice 4) := rfl
theorem g105 : Tab.get T 105 = some ⟨.struct [(71, 0), (104, 1)], 2, 48, [.sl true true 0 [], .sl true true 0 []]⟩ := _root_.id rfl
theorem d105 : Tab.desc T 105 = some (.struct [(71, 0), (104, 1)]) := rfl
theorem g106 : Tab.get T 106 = some ⟨.struct [(71, 0), (104, 1)], 2, 48, [.sl true true 0 [], .sl true true 0 []]⟩ := _root_.id rfl
theorem d106 : Tab.desc T 106 = some (.struct [(71, 0), (104, 1)]) := rfl
theorem g114 : Tab.get T 114 = some ⟨.ptr 124, 1, 8, [.v (.pointer none)]⟩ := _root_.id rfl
theorem d114 : Tab.desc T 114 = some (.ptr 124) := rfl
theorem g123 : Tab.get T 123 = some ⟨.struct [(71, 0), (104, 1)], 2, 48, [.sl true true 0 [], .sl true true 0 []]⟩ := _root_.id rfl
theorem d123 : Tab.desc T 123 = some (.struct [(71, 0), (104, 1)]) := rfl
theorem g124 : Tab.get T 124 = some ⟨.struct [(71, 0), (104, 1)], 2, 48, [.sl true true 0 [], .sl true true 0 []]⟩ := _root_.id rfl
theorem d124 : Tab.desc T 124 = some (.struct [(71, 0), (104, 1)]) := rfl
theorem g131 : Tab.get T 131 = some ⟨.array 4 2, 4, 32, [.v (.int .i64 0), .v (.int .i64 0), .v (.int .i64 0), .v (.int .i64 0)]⟩ := _root_.id rfl
theorem d131 : Tab.desc T 131 = some (.array 4 2) := rfl
theorem g132 : Tab.get T 132 = some ⟨.struct [(2, 0), (131, 1), (2, 5)], 6, 48, [.v (.int .i64 0), .v (.int .i64 0), .v (.int .i64 0), .v (.int .i64 0), .v (.int .i64 0), .v (.int .i64 0)]⟩ := _root_.id rfl
theorem d132 : Tab.desc T 132 = some (.struct [(2, 0), (131, 1), (2, 5)]) := rfl
theorem g133 : Tab.get T 133 = some ⟨.struct [(2, 0), (131, 1), (2, 5)], 6, 48, [.v (.int .i64 0), .v (.int .i64 0), .v (.int .i64 0), .v (.int .i64 0), .v (.int .i64 0), .v (.int .i64 0)]⟩ := _root_.id rfl
theorem d133 : Tab.desc T 133 = some (.struct [(2, 0), (131, 1), (2, 5)]) := rfl
theorem g137 : Tab.get T 137 = some ⟨.ptr 89, 1, 8, [.v (.pointer none)]⟩ := _root_.id rfl
theorem d137 : Tab.desc T 137 = some (.ptr 89) := rfl
theorem g141 : Tab.get T 141 = some ⟨.slice 5, 1, 24, [.sl true true 0 []]⟩ := _root_.id rfl
theorem d141 : Tab.desc T 141 = some (.slice 5) := rfl
theorem g143 : Tab.get T 143 = some ⟨.struct [(9, 0), (23, 1)], 2, 40, [.v (.string ⟨#[]⟩), .sl true true 0 []]⟩ := _root_.id rfl
theorem d143 : Tab.desc T 143 = some (.struct [(9, 0), (23, 1)]) := rfl
theorem g144 : Tab.get T 144 = some ⟨.struct [(9, 0), (23, 1)], 2, 40, [.v (.string ⟨#[]⟩), .sl true true 0 []]⟩ := _root_.id rfl
theorem d144 : Tab.desc T 144 = some (.struct [(9, 0), (23, 1)]) := rfl
theorem g146 : Tab.get T 146 = some ⟨.struct [(9, 0), (23, 1)], 2, 40, [.v (.string ⟨#[]⟩), .sl true true 0 []]⟩ := _root_.id rfl
theorem d146 : Tab.desc T 146 = some (.struct [(9, 0), (23, 1)]) := rfl
theorem g152 : Tab.get T 152 = some ⟨.struct [(2, 0), (2, 1)], 2, 16, [.v (.int .i64 0), .v (.int .i64 0)]⟩ := _root_.id rfl
theorem d152 : Tab.desc T 152 = some (.struct [(2, 0), (2, 1)]) := rfl
theorem g153 : Tab.get T 153 = some ⟨.struct [(2, 0), (2, 1)], 2, 16, [.v (.int .i64 0), .v (.int .i64 0)]⟩ := _root_.id rfl
theorem d153 : Tab.desc T 153 = some (.struct [(2, 0), (2, 1)]) := rfl
theorem g155 : Tab.get T 155 = some ⟨.struct [(2, 0), (2, 1)], 2, 16, [.v (.int .i64 0), .v (.int .i64 0)]⟩ := _root_.id rfl
theorem d155 : Tab.desc T 155 = some (.struct [(2, 0), (2, 1)]) := rfl
theorem g164 : Tab.get T 164 = some ⟨.slice 165, 1, 24, [.sl true true 0 []]⟩ := _root_.id rfl
theorem d164 : Tab.desc T 164 = some (.slice 165) := rfl
theorem g165 : Tab.get T 165 = some ⟨.slice 168, 1, 24, [.sl true true 0 []]⟩ := _root_.id rfl
theorem d165 : Tab.desc T 165 = some (.slice 168) := rfl
theorem g168 : Tab.get T 168 = some ⟨.array 2 2, 2, 16, [.v (.int .i64 0), .v (.int .i64 0)]⟩ := _root_.id rfl
theorem d168 : Tab.desc T 168 = some (.array 2 2) := rfl
theorem g174 : Tab.get T 174 = some ⟨.ptr 73, 1, 8, [.v (.pointer none)]⟩ := _root_.id rfl
theorem d174 : Tab.desc T 174 = some (.ptr 73) := rfl
theorem g176 : Tab.get T 176 = some ⟨.ptr 133, 1, 8, [.v (.pointer none)]⟩ := _root_.id rfl
theorem d176 : Tab.desc T 176 = some (.ptr 133) := rfl
theorem g178 : Tab.get T 178 = some ⟨.ptr 87, 1, 8, [.v (.pointer none)]⟩ := _root_.id rfl
theorem d178 : Tab.desc T 178 = some (.ptr 87) := rfl
theorem g194 : Tab.get T 194 = some ⟨.slice 9, 1, 24, [.sl true true 0 []]⟩ := _root_.id rfl
theorem d194 : Tab.desc T 194 = some (.slice 9) := rfl
theorem g200 : Tab.get T 200 = some ⟨.array 0 16, 0, 0, []⟩ := _root_.id rfl
theorem d200 : Tab.desc T 200 = some (.array 0 16) := rfl
theorem g204 : Tab.get T 204 = some ⟨.int .u32, 1, 4, [.v (.int .u32 0)]⟩ := _root_.id rfl
theorem d204 : Tab.desc T 204 = some (.int .u32) := rfl
theorem g205 : Tab.get T 205 = some ⟨.int .u8, 1, 1, [.v (.int .u8 0)]⟩ := _root_.id rfl
theorem d205 : Tab.desc T 205 = some (.int .u8) := rfl
theorem g206 : Tab.get T 206 = some ⟨.int .u8, 1, 1, [.v (.int .u8 0)]⟩ := _root_.id rfl
theorem d206 : Tab.desc T 206 = some (.int .u8) := rfl
theorem g208 : Tab.get T 208 = some ⟨.ptr 5, 1, 8, [.v (.pointer none)]⟩ := _root_.id rfl
theorem d208 : Tab.desc T 208 = some (.ptr 5) := rfl
theorem g209 : Tab.get T 209 = some ⟨.int .i32, 1, 4, [.v (.int .i32 0)]⟩ := _root_.id rfl
theorem d209 : Tab.desc T 209 = some (.int .i32) := rfl
theorem g210 : Tab.get T 210 = some ⟨.int .i32, 1, 4, [.v (.int .i32 0)]⟩ := _root_.id rfl
theorem d210 : Tab.desc T 210 = some (.int .i32) := rfl
theorem g211 : Tab.get T 211 = some ⟨.struct [(12, 0), (12, 1), (204, 2), (205, 3), (5, 4), (5, 5), (206, 6), (207, 7), (208, 8), (209, 9), (210, 10)], 11, 48, [.v (.int .u64 0), .v (.int .u64 0), .v (.int .u32 0), .v (.int .u8 0), .v (.int .u8 0), .v (.int .u8 0), .v (.int .u8 0), .v .nilFunc, .v (.pointer none), .v (.int .i32 0), .v (.int .i32 0)]⟩ := _root_.id rfl
theorem d211 : Tab.desc T 211 = some (.struct [(12, 0), (12, 1), (204, 2), (205, 3), (5, 4), (5, 5), (206, 6), (207, 7), (208, 8), (209, 9), (210, 10)]) := rfl
theorem g212 : Tab.get T 212 = some ⟨.struct [(12, 0), (12, 1), (204, 2), (205, 3), (5, 4), (5, 5), (206, 6), (207, 7), (208, 8), (209, 9), (210, 10)], 11, 48, [.v (.int .u64 0), .v (.int .u64 0), .v (.int .u32 0), .v (.int .u8 0), .v (.int .u8 0), .v (.int .u8 0), .v (.int .u8 0), .v .nilFunc, .v (.pointer none), .v (.int .i32 0), .v (.int .i32 0)]⟩ := _root_.id rfl
theorem d212 : Tab.desc T 212 = some (.struct [(12, 0), (12, 1), (204, 2), (205, 3), (5, 4), (5, 5), (206, 6), (207, 7), (208, 8), (209, 9), (210, 10)]) := rfl
attribute [push_cast] g2 g3 g4 g5 g6 g9 g10 g11 g12 g15 g16 g17 g18 g19 g20 g21 g22 g23 g27 g33 g37 g45 g46 g47 g48 g51 g52 g53 g54 g67 g68 g71 g73 g75 g80 g81 g82 g83 g87 g88 g89 g93 g94 g99 g104 g105 g106 g114 g123 g124 g131 g132 g133 g137 g141 g143 g144 g146 g152 g153 g155 g164 g165 g168 g174 g176 g178 g194 g200 g204 g205 g206 g208 g209 g210 g211 g212
end Go.Proofs.Ytijkfgpnajdckaa.Fw
