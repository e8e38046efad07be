/- The types of the translation, as the framework's table. Printed by gentab.py. -/
import Derived.Test.YtnnpjblpiecfdaaFwR
import Derived.Test.YtnnpjblpiecfdaaProg
import Derived.KernelRfl
set_option maxRecDepth 100000
namespace Go.Proofs.Ytnnpjblpiecfdaa.Fw
def T : Tab := [
  (2, ⟨.int .i64, 1, 8, [.v (.int .i64 0)]⟩),
  (3, ⟨.int .i64, 1, 8, [.v (.int .i64 0)]⟩),
  (4, ⟨.bool, 1, 1, [.v (.bool false)]⟩),
  (5, ⟨.int .u8, 1, 1, [.v (.int .u8 0)]⟩),
  (6, ⟨.int .u8, 1, 1, [.v (.int .u8 0)]⟩),
  (9, ⟨.string, 1, 16, [.v (.string ⟨#[]⟩)]⟩),
  (10, ⟨.string, 1, 16, [.v (.string ⟨#[]⟩)]⟩),
  (11, ⟨.string, 1, 16, [.v (.string ⟨#[]⟩)]⟩),
  (12, ⟨.int .u64, 1, 8, [.v (.int .u64 0)]⟩),
  (15, ⟨.ptr 186, 1, 8, [.v (.pointer none)]⟩),
  (16, ⟨.ptr 189, 1, 8, [.v (.pointer none)]⟩),
  (17, ⟨.ptr 198, 1, 8, [.v (.pointer none)]⟩),
  (18, ⟨.struct [(17, 0)], 1, 8, [.v (.pointer none)]⟩),
  (19, ⟨.struct [(17, 0)], 1, 8, [.v (.pointer none)]⟩),
  (20, ⟨.iface, 1, 16, [.v .nilIface]⟩),
  (21, ⟨.int .i32, 1, 4, [.v (.int .i32 0)]⟩),
  (22, ⟨.slice 5, 1, 24, [.sl true true 0 []]⟩),
  (24, ⟨.struct [(9, 0), (2, 1), (2, 2)], 3, 32, [.v (.string ⟨#[]⟩), .v (.int .i64 0), .v (.int .i64 0)]⟩),
  (25, ⟨.struct [(9, 0), (2, 1), (2, 2)], 3, 32, [.v (.string ⟨#[]⟩), .v (.int .i64 0), .v (.int .i64 0)]⟩),
  (26, ⟨.slice 33, 1, 24, [.sl true true 0 []]⟩),
  (27, ⟨.struct [(9, 0), (9, 1), (2, 2), (25, 3), (2, 6), (2, 7), (26, 8)], 9, 112, [.v (.string ⟨#[]⟩), .v (.string ⟨#[]⟩), .v (.int .i64 0), .v (.string ⟨#[]⟩), .v (.int .i64 0), .v (.int .i64 0), .v (.int .i64 0), .v (.int .i64 0), .sl true true 0 []]⟩),
  (28, ⟨.struct [(9, 0), (9, 1), (2, 2), (25, 3), (2, 6), (2, 7), (26, 8)], 9, 112, [.v (.string ⟨#[]⟩), .v (.string ⟨#[]⟩), .v (.int .i64 0), .v (.string ⟨#[]⟩), .v (.int .i64 0), .v (.int .i64 0), .v (.int .i64 0), .v (.int .i64 0), .sl true true 0 []]⟩),
  (32, ⟨.struct [(2, 0), (2, 1), (2, 2), (2, 3)], 4, 32, [.v (.int .i64 0), .v (.int .i64 0), .v (.int .i64 0), .v (.int .i64 0)]⟩),
  (33, ⟨.struct [(2, 0), (2, 1), (2, 2), (2, 3)], 4, 32, [.v (.int .i64 0), .v (.int .i64 0), .v (.int .i64 0), .v (.int .i64 0)]⟩),
  (46, ⟨.slice 28, 1, 24, [.sl true true 0 []]⟩),
  (49, ⟨.slice 2, 1, 24, [.sl true true 0 []]⟩),
  (52, ⟨.slice 49, 1, 24, [.sl true true 0 []]⟩),
  (56, ⟨.slice 61, 1, 24, [.sl true true 0 []]⟩),
  (59, ⟨.slice 65, 1, 24, [.sl true true 0 []]⟩),
  (60, ⟨.struct [(9, 0), (59, 1), (2, 2), (4, 3)], 4, 56, [.v (.string ⟨#[]⟩), .sl true true 0 [], .v (.int .i64 0), .v (.bool false)]⟩),
  (61, ⟨.struct [(9, 0), (59, 1), (2, 2), (4, 3)], 4, 56, [.v (.string ⟨#[]⟩), .sl true true 0 [], .v (.int .i64 0), .v (.bool false)]⟩),
  (64, ⟨.struct [(2, 0), (2, 1)], 2, 16, [.v (.int .i64 0), .v (.int .i64 0)]⟩),
  (65, ⟨.struct [(2, 0), (2, 1)], 2, 16, [.v (.int .i64 0), .v (.int .i64 0)]⟩),
  (66, ⟨.struct [(2, 0), (2, 1), (49, 2)], 3, 40, [.v (.int .i64 0), .v (.int .i64 0), .sl true true 0 []]⟩),
  (67, ⟨.struct [(2, 0), (2, 1), (49, 2)], 3, 40, [.v (.int .i64 0), .v (.int .i64 0), .sl true true 0 []]⟩),
  (71, ⟨.ptr 107, 1, 8, [.v (.pointer none)]⟩),
  (87, ⟨.ptr 28, 1, 8, [.v (.pointer none)]⟩),
  (96, ⟨.slice 59, 1, 24, [.sl true true 0 []]⟩),
  (105, ⟨.int .u64, 1, 8, [.v (.int .u64 0)]⟩),
  (106, ⟨.struct [(22, 0), (3, 1), (105, 2)], 3, 40, [.sl true true 0 [], .v (.int .i64 0), .v (.int .u64 0)]⟩),
  (107, ⟨.struct [(22, 0), (3, 1), (105, 2)], 3, 40, [.sl true true 0 [], .v (.int .i64 0), .v (.int .u64 0)]⟩),
  (109, ⟨.slice 9, 1, 24, [.sl true true 0 []]⟩),
  (116, ⟨.int .u64, 1, 8, [.v (.int .u64 0)]⟩),
  (122, ⟨.ptr 25, 1, 8, [.v (.pointer none)]⟩),
  (124, ⟨.ptr 33, 1, 8, [.v (.pointer none)]⟩),
  (129, ⟨.ptr 61, 1, 8, [.v (.pointer none)]⟩),
  (146, ⟨.int .i64, 1, 8, [.v (.int .i64 0)]⟩),
  (154, ⟨.int .u32, 1, 4, [.v (.int .u32 0)]⟩),
  (165, ⟨.int .u64, 1, 8, [.v (.int .u64 0)]⟩),
  (169, ⟨.ptr 3, 1, 8, [.v (.pointer none)]⟩),
  (178, ⟨.ptr 165, 1, 8, [.v (.pointer none)]⟩),
  (187, ⟨.array 0 16, 0, 0, []⟩),
  (191, ⟨.int .u8, 1, 1, [.v (.int .u8 0)]⟩),
  (192, ⟨.int .u8, 1, 1, [.v (.int .u8 0)]⟩),
  (194, ⟨.ptr 5, 1, 8, [.v (.pointer none)]⟩),
  (195, ⟨.int .i32, 1, 4, [.v (.int .i32 0)]⟩),
  (196, ⟨.int .i32, 1, 4, [.v (.int .i32 0)]⟩),
  (197, ⟨.struct [(12, 0), (12, 1), (154, 2), (191, 3), (5, 4), (5, 5), (192, 6), (193, 7), (194, 8), (195, 9), (196, 10)], 11, 48, [.v (.int .u64 0), .v (.int .u64 0), .v (.int .u32 0), .v (.int .u8 0), .v (.int .u8 0), .v (.int .u8 0), .v (.int .u8 0), .v .nilFunc, .v (.pointer none), .v (.int .i32 0), .v (.int .i32 0)]⟩),
  (198, ⟨.struct [(12, 0), (12, 1), (154, 2), (191, 3), (5, 4), (5, 5), (192, 6), (193, 7), (194, 8), (195, 9), (196, 10)], 11, 48, [.v (.int .u64 0), .v (.int .u64 0), .v (.int .u32 0), .v (.int .u8 0), .v (.int .u8 0), .v (.int .u8 0), .v (.int .u8 0), .v .nilFunc, .v (.pointer none), .v (.int .i32 0), .v (.int .i32 0)]⟩)]
theorem T_ok : Tab.ok Try.prog T = true := by kernel_rfl
theorem follows_ok : Try.prog.follows .mixedOrders = true := by kernel_rfl
theorem g2 : Tab.get T 2 = some ⟨.int .i64, 1, 8, [.v (.int .i64 0)]⟩ := _root_.id rfl
theorem d2 : Tab.desc T 2 = some (.int .i64) := rfl
theorem g3 : Tab.get T 3 = some ⟨.int .i64, 1, 8, [.v (.int .i64 0)]⟩ := _root_.id rfl
theorem d3 : Tab.desc T 3 = some (.int .i64) := rfl
theorem g4 : Tab.get T 4 = some ⟨.bool, 1, 1, [.v (.bool false)]⟩ := _root_.id rfl
theorem d4 : Tab.desc T 4 = some (.bool) := rfl
theorem g5 : Tab.get T 5 = some ⟨.int .u8, 1, 1, [.v (.int .u8 0)]⟩ := _root_.id rfl
theorem d5 : Tab.desc T 5 = some (.int .u8) := rfl
theorem g6 : Tab.get T 6 = some ⟨.int .u8, 1, 1, [.v (.int .u8 0)]⟩ := _root_.id rfl
theorem d6 : Tab.desc T 6 = some (.int .u8) := rfl
theorem g9 : Tab.get T 9 = some ⟨.string, 1, 16, [.v (.string ⟨#[]⟩)]⟩ := _root_.id rfl
theorem d9 : Tab.desc T 9 = some (.string) := rfl
theorem g10 : Tab.get T 10 = some ⟨.string, 1, 16, [.v (.string ⟨#[]⟩)]⟩ := _root_.id rfl
theorem d10 : Tab.desc T 10 = some (.string) := rfl
theorem g11 : Tab.get T 11 = some ⟨.string, 1, 16, [.v (.string ⟨#[]⟩)]⟩ := _root_.id rfl
theorem d11 : Tab.desc T 11 = some (.string) := rfl
theorem g12 : Tab.get T 12 = some ⟨.int .u64, 1, 8, [.v (.int .u64 0)]⟩ := _root_.id rfl
theorem d12 : Tab.desc T 12 = some (.int .u64) := rfl
theorem g15 : Tab.get T 15 = some ⟨.ptr 186, 1, 8, [.v (.pointer none)]⟩ := _root_.id rfl
theorem d15 : Tab.desc T 15 = some (.ptr 186) := rfl
theorem g16 : Tab.get T 16 = some ⟨.ptr 189, 1, 8, [.v (.pointer none)]⟩ := _root_.id rfl
theorem d16 : Tab.desc T 16 = some (.ptr 189) := rfl
theorem g17 : Tab.get T 17 = some ⟨.ptr 198, 1, 8, [.v (.pointer none)]⟩ := _root_.id rfl
theorem d17 : Tab.desc T 17 = some (.ptr 198) := rfl
theorem g18 : Tab.get T 18 = some ⟨.struct [(17, 0)], 1, 8, [.v (.pointer none)]⟩ := _root_.id rfl
theorem d18 : Tab.desc T 18 = some (.struct [(17, 0)]) := rfl
theorem g19 : Tab.get T 19 = some ⟨.struct [(17, 0)], 1, 8, [.v (.pointer none)]⟩ := _root_.id rfl
theorem d19 : Tab.desc T 19 = some (.struct [(17, 0)]) := rfl
theorem g20 : Tab.get T 20 = some ⟨.iface, 1, 16, [.v .nilIface]⟩ := _root_.id rfl
theorem d20 : Tab.desc T 20 = some (.iface) := rfl
theorem g21 : Tab.get T 21 = some ⟨.int .i32, 1, 4, [.v (.int .i32 0)]⟩ := _root_.id rfl
theorem d21 : Tab.desc T 21 = some (.int .i32) := rfl
theorem g22 : Tab.get T 22 = some ⟨.slice 5, 1, 24, [.sl true true 0 []]⟩ := _root_.id rfl
theorem d22 : Tab.desc T 22 = some (.slice 5) := rfl
theorem g24 : Tab.get T 24 = some ⟨.struct [(9, 0), (2, 1), (2, 2)], 3, 32, [.v (.string ⟨#[]⟩), .v (.int .i64 0), .v (.int .i64 0)]⟩ := _root_.id rfl
theorem d24 : Tab.desc T 24 = some (.struct [(9, 0), (2, 1), (2, 2)]) := rfl
theorem g25 : Tab.get T 25 = some ⟨.struct [(9, 0), (2, 1), (2, 2)], 3, 32, [.v (.string ⟨#[]⟩), .v (.int .i64 0), .v (.int .i64 0)]⟩ := _root_.id rfl
theorem d25 : Tab.desc T 25 = some (.struct [(9, 0), (2, 1), (2, 2)]) := rfl
theorem g26 : Tab.get T 26 = some ⟨.slice 33, 1, 24, [.sl true true 0 []]⟩ := _root_.id rfl
theorem d26 : Tab.desc T 26 = some (.slice 33) := rfl
theorem g27 : Tab.get T 27 = some ⟨.struct [(9, 0), (9, 1), (2, 2), (25, 3), (2, 6), (2, 7), (26, 8)], 9, 112, [.v (.string ⟨#[]⟩), .v (.string ⟨#[]⟩), .v (.int .i64 0), .v (.string ⟨#[]⟩), .v (.int .i64 0), .v (.int .i64 0), .v (.int .i64 0), .v (.int .i64 0), .sl true true 0 []]⟩ := _root_.id rfl
theorem d27 : Tab.desc T 27 = some (.struct [(9, 0), (9, 1), (2, 2), (25, 3), (2, 6), (2, 7), (26, 8)]) := rfl
theorem g28 : Tab.get T 28 = some ⟨.struct [(9, 0), (9, 1), (2, 2), (25, 3), (2, 6), (2, 7), (26, 8)], 9, 112, [.v (.string ⟨#[]⟩), .v (.string ⟨#[]⟩), .v (.int .i64 0), .v (.string ⟨#[]⟩), .v (.int .i64 0), .v (.int .i64 0), .v (.int .i64 0), .v (.int .i64 0), .sl true true 0 []]⟩ := _root_.id rfl
theorem d28 : Tab.desc T 28 = some (.struct [(9, 0), (9, 1), (2, 2), (25, 3), (2, 6), (2, 7), (26, 8)]) := rfl
theorem g32 : Tab.get T 32 = some ⟨.struct [(2, 0), (2, 1), (2, 2), (2, 3)], 4, 32, [.v (.int .i64 0), .v (.int .i64 0), .v (.int .i64 0), .v (.int .i64 0)]⟩ := _root_.id rfl
theorem d32 : Tab.desc T 32 = some (.struct [(2, 0), (2, 1), (2, 2), (2, 3)]) := rfl
theorem g33 : Tab.get T 33 = some ⟨.struct [(2, 0), (2, 1), (2, 2), (2, 3)], 4, 32, [.v (.int .i64 0), .v (.int .i64 0), .v (.int .i64 0), .v (.int .i64 0)]⟩ := _root_.id rfl
theorem d33 : Tab.desc T 33 = some (.struct [(2, 0), (2, 1), (2, 2), (2, 3)]) := rfl
theorem g46 : Tab.get T 46 = some ⟨.slice 28, 1, 24, [.sl true true 0 []]⟩ := _root_.id rfl
theorem d46 : Tab.desc T 46 = some (.slice 28) := rfl
theorem g49 : Tab.get T 49 = some ⟨.slice 2, 1, 24, [.sl true true 0 []]⟩ := _root_.id rfl
theorem d49 : Tab.desc T 49 = some (.slice 2) := rfl
theorem g52 : Tab.get T 52 = some ⟨.slice 49, 1, 24, [.sl true true 0 []]⟩ := _root_.id rfl
theorem d52 : Tab.desc T 52 = some (.slice 49) := rfl
theorem g56 : Tab.get T 56 = some ⟨.slice 61, 1, 24, [.sl true true 0 []]⟩ := _root_.id rfl
theorem d56 : Tab.desc T 56 = some (.slice 61) := rfl
theorem g59 : Tab.get T 59 = some ⟨.slice 65, 1, 24, [.sl true true 0 []]⟩ := _root_.id rfl
theorem d59 : Tab.desc T 59 = some (.slice 65) := rfl
theorem g60 : Tab.get T 60 = some ⟨.struct [(9, 0), (59, 1), (2, 2), (4, 3)], 4, 56, [.v (.string ⟨#[]⟩), .sl true true 0 [], .v (.int .i64 0), .v (.bool false)]⟩ := _root_.id rfl
theorem d60 : Tab.desc T 60 = some (.struct [(9, 0), (59, 1), (2, 2), (4, 3)]) := rfl
theorem g61 : Tab.get T 61 = some ⟨.struct [(9, 0), (59, 1), (2, 2), (4, 3)], 4, 56, [.v (.string ⟨#[]⟩), .sl true true 0 [], .v (.int .i64 0), .v (.bool false)]⟩ := _root_.id rfl
theorem d61 : Tab.desc T 61 = some (.struct [(9, 0), (59, 1), (2, 2), (4, 3)]) := rfl
theorem g64 : Tab.get T 64 = some ⟨.struct [(2, 0), (2, 1)], 2, 16, [.v (.int .i64 0), .v (.int .i64 0)]⟩ := _root_.id rfl
theorem d64 : Tab.desc T 64 = some (.struct [(2, 0), (2, 1)]) := rfl
theorem g65 : Tab.get T 65 = some ⟨.struct [(2, 0), (2, 1)], 2, 16, [.v (.int .i64 0), .v (.int .i64 0)]⟩ := _root_.id rfl
theorem d65 : Tab.desc T 65 = some (.struct [(2, 0), (2, 1)]) := rfl
theorem g66 : Tab.get T 66 = some ⟨.struct [(2, 0), (2, 1), (49, 2)], 3, 40, [.v (.int .i64 0), .v (.int .i64 0), .sl true true 0 []]⟩ := _root_.id rfl
theorem d66 : Tab.desc T 66 = some (.struct [(2, 0), (2, 1), (49, 2)]) := rfl
theorem g67 : Tab.get T 67 = some ⟨.struct [(2, 0), (2, 1), (49, 2)], 3, 40, [.v (.int .i64 0), .v (.int .i64 0), .sl true true 0 []]⟩ := _root_.id rfl
theorem d67 : Tab.desc T 67 = some (.struct [(2, 0), (2, 1), (49, 2)]) := rfl
theorem g71 : Tab.get T 71 = some ⟨.ptr 107, 1, 8, [.v (.pointer none)]⟩ := _root_.id rfl
theorem d71 : Tab.desc T 71 = some (.ptr 107) := rfl
theorem g87 : Tab.get T 87 = some ⟨.ptr 28, 1, 8, [.v (.pointer none)]⟩ := _root_.id rfl
theorem d87 : Tab.desc T 87 = some (.ptr 28) := rfl
theorem g96 : Tab.get T 96 = some ⟨.slice 59, 1, 24, [.sl true true 0 []]⟩ := _root_.id rfl
theorem d96 : Tab.desc T 96 = some (.slice 59) := rfl
theorem g105 : Tab.get T 105 = some ⟨.int .u64, 1, 8, [.v (.int .u64 0)]⟩ := _root_.id rfl
theorem d105 : Tab.desc T 105 = some (.int .u64) := rfl
theorem g106 : Tab.get T 106 = some ⟨.struct [(22, 0), (3, 1), (105, 2)], 3, 40, [.sl true true 0 [], .v (.int .i64 0), .v (.int .u64 0)]⟩ := _root_.id rfl
theorem d106 : Tab.desc T 106 = some (.struct [(22, 0), (3, 1), (105, 2)]) := rfl
theorem g107 : Tab.get T 107 = some ⟨.struct [(22, 0), (3, 1), (105, 2)], 3, 40, [.sl true true 0 [], .v (.int .i64 0), .v (.int .u64 0)]⟩ := _root_.id rfl
theorem d107 : Tab.desc T 107 = some (.struct [(22, 0), (3, 1), (105, 2)]) := rfl
theorem g109 : Tab.get T 109 = some ⟨.slice 9, 1, 24, [.sl true true 0 []]⟩ := _root_.id rfl
theorem d109 : Tab.desc T 109 = some (.slice 9) := rfl
theorem g116 : Tab.get T 116 = some ⟨.int .u64, 1, 8, [.v (.int .u64 0)]⟩ := _root_.id rfl
theorem d116 : Tab.desc T 116 = some (.int .u64) := rfl
theorem g122 : Tab.get T 122 = some ⟨.ptr 25, 1, 8, [.v (.pointer none)]⟩ := _root_.id rfl
theorem d122 : Tab.desc T 122 = some (.ptr 25) := rfl
theorem g124 : Tab.get T 124 = some ⟨.ptr 33, 1, 8, [.v (.pointer none)]⟩ := _root_.id rfl
theorem d124 : Tab.desc T 124 = some (.ptr 33) := rfl
theorem g129 : Tab.get T 129 = some ⟨.ptr 61, 1, 8, [.v (.pointer none)]⟩ := _root_.id rfl
theorem d129 : Tab.desc T 129 = some (.ptr 61) := rfl
theorem g146 : Tab.get T 146 = some ⟨.int .i64, 1, 8, [.v (.int .i64 0)]⟩ := _root_.id rfl
theorem d146 : Tab.desc T 146 = some (.int .i64) := rfl
theorem g154 : Tab.get T 154 = some ⟨.int .u32, 1, 4, [.v (.int .u32 0)]⟩ := _root_.id rfl
theorem d154 : Tab.desc T 154 = some (.int .u32) := rfl
theorem g165 : Tab.get T 165 = some ⟨.int .u64, 1, 8, [.v (.int .u64 0)]⟩ := _root_.id rfl
theorem d165 : Tab.desc T 165 = some (.int .u64) := rfl
theorem g169 : Tab.get T 169 = some ⟨.ptr 3, 1, 8, [.v (.pointer none)]⟩ := _root_.id rfl
theorem d169 : Tab.desc T 169 = some (.ptr 3) := rfl
theorem g178 : Tab.get T 178 = some ⟨.ptr 165, 1, 8, [.v (.pointer none)]⟩ := _root_.id rfl
theorem d178 : Tab.desc T 178 = some (.ptr 165) := rfl
theorem g187 : Tab.get T 187 = some ⟨.array 0 16, 0, 0, []⟩ := _root_.id rfl
theorem d187 : Tab.desc T 187 = some (.array 0 16) := rfl
theorem g191 : Tab.get T 191 = some ⟨.int .u8, 1, 1, [.v (.int .u8 0)]⟩ := _root_.id rfl
theorem d191 : Tab.desc T 191 = some (.int .u8) := rfl
theorem g192 : Tab.get T 192 = some ⟨.int .u8, 1, 1, [.v (.int .u8 0)]⟩ := _root_.id rfl
theorem d192 : Tab.desc T 192 = some (.int .u8) := rfl
theorem g194 : Tab.get T 194 = some ⟨.ptr 5, 1, 8, [.v (.pointer none)]⟩ := _root_.id rfl
theorem d194 : Tab.desc T 194 = some (.ptr 5) := rfl
theorem g195 : Tab.get T 195 = some ⟨.int .i32, 1, 4, [.v (.int .i32 0)]⟩ := _root_.id rfl
theorem d195 : Tab.desc T 195 = some (.int .i32) := rfl
theorem g196 : Tab.get T 196 = some ⟨.int .i32, 1, 4, [.v (.int .i32 0)]⟩ := _root_.id rfl
theorem d196 : Tab.desc T 196 = some (.int .i32) := rfl
theorem g197 : Tab.get T 197 = some ⟨.struct [(12, 0), (12, 1), (154, 2), (191, 3), (5, 4), (5, 5), (192, 6), (193, 7), (194, 8), (195, 9), (196, 10)], 11, 48, [.v (.int .u64 0), .v (.int .u64 0), .v (.int .u32 0), .v (.int .u8 0), .v (.int .u8 0), .v (.int .u8 0), .v (.int .u8 0), .v .nilFunc, .v (.pointer none), .v (.int .i32 0), .v (.int .i32 0)]⟩ := _root_.id rfl
theorem d197 : Tab.desc T 197 = some (.struct [(12, 0), (12, 1), (154, 2), (191, 3), (5, 4), (5, 5), (192, 6), (193, 7), (194, 8), (195, 9), (196, 10)]) := rfl
theorem g198 : Tab.get T 198 = some ⟨.struct [(12, 0), (12, 1), (154, 2), (191, 3), (5, 4), (5, 5), (192, 6), (193, 7), (194, 8), (195, 9), (196, 10)], 11, 48, [.v (.int .u64 0), .v (.int .u64 0), .v (.int .u32 0), .v (.int .u8 0), .v (.int .u8 0), .v (.int .u8 0), .v (.int .u8 0), .v .nilFunc, .v (.pointer none), .v (.int .i32 0), .v (.int .i32 0)]⟩ := _root_.id rfl
theorem d198 : Tab.desc T 198 = some (.struct [(12, 0), (12, 1), (154, 2), (191, 3), (5, 4), (5, 5), (192, 6), (193, 7), (194, 8), (195, 9), (196, 10)]) := rfl
attribute [push_cast] g2 g3 g4 g5 g6 g9 g10 g11 g12 g15 g16 g17 g18 g19 g20 g21 g22 g24 g25 g26 g27 g28 g32 g33 g46 g49 g52 g56 g59 g60 g61 g64 g65 g66 g67 g71 g87 g96 g105 g106 g107 g109 g116 g122 g124 g129 g146 g154 g165 g169 g178 g187 g191 g192 g194 g195 g196 g197 g198
end Go.Proofs.Ytnnpjblpiecfdaa.Fw
