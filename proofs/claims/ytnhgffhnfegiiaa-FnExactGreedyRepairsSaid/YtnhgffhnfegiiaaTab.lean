/- The types of the translation, as the framework's table. Printed by gentab.py. -/
import Derived.Test.YtnhgffhnfegiiaaFwR
import Derived.Test.YtnhgffhnfegiiaaProg
import Derived.KernelRfl
set_option maxRecDepth 100000
namespace Go.Proofs.Ytnhgffhnfegiiaa.Fw
def T : Tab := [
  (2, ⟨.int .i64, 1, 8, [.v (.int .i64 0)]⟩),
  (3, ⟨.int .i64, 1, 8, [.v (.int .i64 0)]⟩),
  (4, ⟨.bool, 1, 1, [.v (.bool false)]⟩),
  (5, ⟨.int .u8, 1, 1, [.v (.int .u8 0)]⟩),
  (6, ⟨.int .u8, 1, 1, [.v (.int .u8 0)]⟩),
  (9, ⟨.string, 1, 16, [.v (.string ⟨#[]⟩)]⟩),
  (10, ⟨.string, 1, 16, [.v (.string ⟨#[]⟩)]⟩),
  (11, ⟨.string, 1, 16, [.v (.string ⟨#[]⟩)]⟩),
  (12, ⟨.int .u64, 1, 8, [.v (.int .u64 0)]⟩),
  (15, ⟨.ptr 230, 1, 8, [.v (.pointer none)]⟩),
  (16, ⟨.ptr 233, 1, 8, [.v (.pointer none)]⟩),
  (17, ⟨.ptr 242, 1, 8, [.v (.pointer none)]⟩),
  (18, ⟨.struct [(17, 0)], 1, 8, [.v (.pointer none)]⟩),
  (19, ⟨.struct [(17, 0)], 1, 8, [.v (.pointer none)]⟩),
  (20, ⟨.iface, 1, 16, [.v .nilIface]⟩),
  (21, ⟨.int .i32, 1, 4, [.v (.int .i32 0)]⟩),
  (22, ⟨.slice 85, 1, 24, [.sl true true 0 []]⟩),
  (23, ⟨.slice 2, 1, 24, [.sl true true 0 []]⟩),
  (25, ⟨.slice 23, 1, 24, [.sl true true 0 []]⟩),
  (28, ⟨.slice 83, 1, 24, [.sl true true 0 []]⟩),
  (38, ⟨.slice 56, 1, 24, [.sl true true 0 []]⟩),
  (40, ⟨.slice 61, 1, 24, [.sl true true 0 []]⟩),
  (53, ⟨.struct [(9, 0), (2, 1), (2, 2)], 3, 32, [.v (.string ⟨#[]⟩), .v (.int .i64 0), .v (.int .i64 0)]⟩),
  (54, ⟨.struct [(9, 0), (2, 1), (2, 2)], 3, 32, [.v (.string ⟨#[]⟩), .v (.int .i64 0), .v (.int .i64 0)]⟩),
  (55, ⟨.struct [(9, 0), (54, 1), (2, 4), (2, 5), (2, 6), (2, 7)], 8, 80, [.v (.string ⟨#[]⟩), .v (.string ⟨#[]⟩), .v (.int .i64 0), .v (.int .i64 0), .v (.int .i64 0), .v (.int .i64 0), .v (.int .i64 0), .v (.int .i64 0)]⟩),
  (56, ⟨.struct [(9, 0), (54, 1), (2, 4), (2, 5), (2, 6), (2, 7)], 8, 80, [.v (.string ⟨#[]⟩), .v (.string ⟨#[]⟩), .v (.int .i64 0), .v (.int .i64 0), .v (.int .i64 0), .v (.int .i64 0), .v (.int .i64 0), .v (.int .i64 0)]⟩),
  (59, ⟨.struct [(9, 0), (2, 1), (2, 2)], 3, 32, [.v (.string ⟨#[]⟩), .v (.int .i64 0), .v (.int .i64 0)]⟩),
  (60, ⟨.struct [(9, 0), (59, 1), (2, 4), (2, 5), (2, 6), (2, 7)], 8, 80, [.v (.string ⟨#[]⟩), .v (.string ⟨#[]⟩), .v (.int .i64 0), .v (.int .i64 0), .v (.int .i64 0), .v (.int .i64 0), .v (.int .i64 0), .v (.int .i64 0)]⟩),
  (61, ⟨.struct [(9, 0), (59, 1), (2, 4), (2, 5), (2, 6), (2, 7)], 8, 80, [.v (.string ⟨#[]⟩), .v (.string ⟨#[]⟩), .v (.int .i64 0), .v (.int .i64 0), .v (.int .i64 0), .v (.int .i64 0), .v (.int .i64 0), .v (.int .i64 0)]⟩),
  (64, ⟨.slice 119, 1, 24, [.sl true true 0 []]⟩),
  (68, ⟨.slice 124, 1, 24, [.sl true true 0 []]⟩),
  (74, ⟨.slice 5, 1, 24, [.sl true true 0 []]⟩),
  (82, ⟨.struct [(9, 0), (2, 1), (2, 2), (2, 3)], 4, 40, [.v (.string ⟨#[]⟩), .v (.int .i64 0), .v (.int .i64 0), .v (.int .i64 0)]⟩),
  (83, ⟨.struct [(9, 0), (2, 1), (2, 2), (2, 3)], 4, 40, [.v (.string ⟨#[]⟩), .v (.int .i64 0), .v (.int .i64 0), .v (.int .i64 0)]⟩),
  (85, ⟨.struct [(9, 0), (2, 1), (2, 2), (2, 3)], 4, 40, [.v (.string ⟨#[]⟩), .v (.int .i64 0), .v (.int .i64 0), .v (.int .i64 0)]⟩),
  (89, ⟨.slice 93, 1, 24, [.sl true true 0 []]⟩),
  (92, ⟨.struct [(2, 0), (2, 1), (2, 2), (2, 3)], 4, 32, [.v (.int .i64 0), .v (.int .i64 0), .v (.int .i64 0), .v (.int .i64 0)]⟩),
  (93, ⟨.struct [(2, 0), (2, 1), (2, 2), (2, 3)], 4, 32, [.v (.int .i64 0), .v (.int .i64 0), .v (.int .i64 0), .v (.int .i64 0)]⟩),
  (112, ⟨.ptr 61, 1, 8, [.v (.pointer none)]⟩),
  (117, ⟨.slice 195, 1, 24, [.sl true true 0 []]⟩),
  (118, ⟨.struct [(9, 0), (9, 1), (2, 2), (54, 3), (2, 6), (2, 7), (117, 8)], 9, 112, [.v (.string ⟨#[]⟩), .v (.string ⟨#[]⟩), .v (.int .i64 0), .v (.string ⟨#[]⟩), .v (.int .i64 0), .v (.int .i64 0), .v (.int .i64 0), .v (.int .i64 0), .sl true true 0 []]⟩),
  (119, ⟨.struct [(9, 0), (9, 1), (2, 2), (54, 3), (2, 6), (2, 7), (117, 8)], 9, 112, [.v (.string ⟨#[]⟩), .v (.string ⟨#[]⟩), .v (.int .i64 0), .v (.string ⟨#[]⟩), .v (.int .i64 0), .v (.int .i64 0), .v (.int .i64 0), .v (.int .i64 0), .sl true true 0 []]⟩),
  (121, ⟨.ptr 124, 1, 8, [.v (.pointer none)]⟩),
  (122, ⟨.slice 162, 1, 24, [.sl true true 0 []]⟩),
  (123, ⟨.struct [(9, 0), (9, 1), (2, 2), (59, 3), (2, 6), (2, 7), (122, 8)], 9, 112, [.v (.string ⟨#[]⟩), .v (.string ⟨#[]⟩), .v (.int .i64 0), .v (.string ⟨#[]⟩), .v (.int .i64 0), .v (.int .i64 0), .v (.int .i64 0), .v (.int .i64 0), .sl true true 0 []]⟩),
  (124, ⟨.struct [(9, 0), (9, 1), (2, 2), (59, 3), (2, 6), (2, 7), (122, 8)], 9, 112, [.v (.string ⟨#[]⟩), .v (.string ⟨#[]⟩), .v (.int .i64 0), .v (.string ⟨#[]⟩), .v (.int .i64 0), .v (.int .i64 0), .v (.int .i64 0), .v (.int .i64 0), .sl true true 0 []]⟩),
  (127, ⟨.ptr 59, 1, 8, [.v (.pointer none)]⟩),
  (136, ⟨.ptr 177, 1, 8, [.v (.pointer none)]⟩),
  (142, ⟨.array 4 2, 4, 32, [.v (.int .i64 0), .v (.int .i64 0), .v (.int .i64 0), .v (.int .i64 0)]⟩),
  (143, ⟨.struct [(2, 0), (142, 1), (2, 5)], 6, 48, [.v (.int .i64 0), .v (.int .i64 0), .v (.int .i64 0), .v (.int .i64 0), .v (.int .i64 0), .v (.int .i64 0)]⟩),
  (144, ⟨.struct [(2, 0), (142, 1), (2, 5)], 6, 48, [.v (.int .i64 0), .v (.int .i64 0), .v (.int .i64 0), .v (.int .i64 0), .v (.int .i64 0), .v (.int .i64 0)]⟩),
  (151, ⟨.ptr 83, 1, 8, [.v (.pointer none)]⟩),
  (161, ⟨.struct [(2, 0), (2, 1), (2, 2), (2, 3)], 4, 32, [.v (.int .i64 0), .v (.int .i64 0), .v (.int .i64 0), .v (.int .i64 0)]⟩),
  (162, ⟨.struct [(2, 0), (2, 1), (2, 2), (2, 3)], 4, 32, [.v (.int .i64 0), .v (.int .i64 0), .v (.int .i64 0), .v (.int .i64 0)]⟩),
  (164, ⟨.ptr 162, 1, 8, [.v (.pointer none)]⟩),
  (174, ⟨.int .u64, 1, 8, [.v (.int .u64 0)]⟩),
  (175, ⟨.int .u64, 1, 8, [.v (.int .u64 0)]⟩),
  (176, ⟨.struct [(74, 0), (3, 1), (175, 2)], 3, 40, [.sl true true 0 [], .v (.int .i64 0), .v (.int .u64 0)]⟩),
  (177, ⟨.struct [(74, 0), (3, 1), (175, 2)], 3, 40, [.sl true true 0 [], .v (.int .i64 0), .v (.int .u64 0)]⟩),
  (182, ⟨.slice 4, 1, 24, [.sl true true 0 []]⟩),
  (184, ⟨.ptr 144, 1, 8, [.v (.pointer none)]⟩),
  (195, ⟨.struct [(2, 0), (2, 1), (2, 2), (2, 3)], 4, 32, [.v (.int .i64 0), .v (.int .i64 0), .v (.int .i64 0), .v (.int .i64 0)]⟩),
  (201, ⟨.int .i64, 1, 8, [.v (.int .i64 0)]⟩),
  (208, ⟨.int .u32, 1, 4, [.v (.int .u32 0)]⟩),
  (210, ⟨.slice 9, 1, 24, [.sl true true 0 []]⟩),
  (218, ⟨.int .u64, 1, 8, [.v (.int .u64 0)]⟩),
  (222, ⟨.ptr 3, 1, 8, [.v (.pointer none)]⟩),
  (225, ⟨.ptr 218, 1, 8, [.v (.pointer none)]⟩),
  (231, ⟨.array 0 16, 0, 0, []⟩),
  (235, ⟨.int .u8, 1, 1, [.v (.int .u8 0)]⟩),
  (236, ⟨.int .u8, 1, 1, [.v (.int .u8 0)]⟩),
  (238, ⟨.ptr 5, 1, 8, [.v (.pointer none)]⟩),
  (239, ⟨.int .i32, 1, 4, [.v (.int .i32 0)]⟩),
  (240, ⟨.int .i32, 1, 4, [.v (.int .i32 0)]⟩),
  (241, ⟨.struct [(12, 0), (12, 1), (208, 2), (235, 3), (5, 4), (5, 5), (236, 6), (237, 7), (238, 8), (239, 9), (240, 10)], 11, 48, [.v (.int .u64 0), .v (.int .u64 0), .v (.int .u32 0), .v (.int .u8 0), .v (.int .u8 0), .v (.int .u8 0), .v (.int .u8 0), .v .nilFunc, .v (.pointer none), .v (.int .i32 0), .v (.int .i32 0)]⟩),
  (242, ⟨.struct [(12, 0), (12, 1), (208, 2), (235, 3), (5, 4), (5, 5), (236, 6), (237, 7), (238, 8), (239, 9), (240, 10)], 11, 48, [.v (.int .u64 0), .v (.int .u64 0), .v (.int .u32 0), .v (.int .u8 0), .v (.int .u8 0), .v (.int .u8 0), .v (.int .u8 0), .v .nilFunc, .v (.pointer none), .v (.int .i32 0), .v (.int .i32 0)]⟩)]
theorem T_ok : Tab.ok Try.prog T = true := by kernel_rfl
theorem follows_ok : Try.prog.follows .mixedOrders = true := by kernel_rfl
theorem g2 : Tab.get T 2 = some ⟨.int .i64, 1, 8, [.v (.int .i64 0)]⟩ := _root_.id rfl
theorem d2 : Tab.desc T 2 = some (.int .i64) := rfl
theorem g3 : Tab.get T 3 = some ⟨.int .i64, 1, 8, [.v (.int .i64 0)]⟩ := _root_.id rfl
theorem d3 : Tab.desc T 3 = some (.int .i64) := rfl
theorem g4 : Tab.get T 4 = some ⟨.bool, 1, 1, [.v (.bool false)]⟩ := _root_.id rfl
theorem d4 : Tab.desc T 4 = some (.bool) := rfl
theorem g5 : Tab.get T 5 = some ⟨.int .u8, 1, 1, [.v (.int .u8 0)]⟩ := _root_.id rfl
theorem d5 : Tab.desc T 5 = some (.int .u8) := rfl
theorem g6 : Tab.get T 6 = some ⟨.int .u8, 1, 1, [.v (.int .u8 0)]⟩ := _root_.id rfl
theorem d6 : Tab.desc T 6 = some (.int .u8) := rfl
theorem g9 : Tab.get T 9 = some ⟨.string, 1, 16, [.v (.string ⟨#[]⟩)]⟩ := _root_.id rfl
theorem d9 : Tab.desc T 9 = some (.string) := rfl
theorem g10 : Tab.get T 10 = some ⟨.string, 1, 16, [.v (.string ⟨#[]⟩)]⟩ := _root_.id rfl
theorem d10 : Tab.desc T 10 = some (.string) := rfl
theorem g11 : Tab.get T 11 = some ⟨.string, 1, 16, [.v (.string ⟨#[]⟩)]⟩ := _root_.id rfl
theorem d11 : Tab.desc T 11 = some (.string) := rfl
theorem g12 : Tab.get T 12 = some ⟨.int .u64, 1, 8, [.v (.int .u64 0)]⟩ := _root_.id rfl
theorem d12 : Tab.desc T 12 = some (.int .u64) := rfl
theorem g15 : Tab.get T 15 = some ⟨.ptr 230, 1, 8, [.v (.pointer none)]⟩ := _root_.id rfl
theorem d15 : Tab.desc T 15 = some (.ptr 230) := rfl
theorem g16 : Tab.get T 16 = some ⟨.ptr 233, 1, 8, [.v (.pointer none)]⟩ := _root_.id rfl
theorem d16 : Tab.desc T 16 = some (.ptr 233) := rfl
theorem g17 : Tab.get T 17 = some ⟨.ptr 242, 1, 8, [.v (.pointer none)]⟩ := _root_.id rfl
theorem d17 : Tab.desc T 17 = some (.ptr 242) := rfl
theorem g18 : Tab.get T 18 = some ⟨.struct [(17, 0)], 1, 8, [.v (.pointer none)]⟩ := _root_.id rfl
theorem d18 : Tab.desc T 18 = some (.struct [(17, 0)]) := rfl
theorem g19 : Tab.get T 19 = some ⟨.struct [(17, 0)], 1, 8, [.v (.pointer none)]⟩ := _root_.id rfl
theorem d19 : Tab.desc T 19 = some (.struct [(17, 0)]) := rfl
theorem g20 : Tab.get T 20 = some ⟨.iface, 1, 16, [.v .nilIface]⟩ := _root_.id rfl
theorem d20 : Tab.desc T 20 = some (.iface) := rfl
theorem g21 : Tab.get T 21 = some ⟨.int .i32, 1, 4, [.v (.int .i32 0)]⟩ := _root_.id rfl
theorem d21 : Tab.desc T 21 = some (.int .i32) := rfl
theorem g22 : Tab.get T 22 = some ⟨.slice 85, 1, 24, [.sl true true 0 []]⟩ := _root_.id rfl
theorem d22 : Tab.desc T 22 = some (.slice 85) := rfl
theorem g23 : Tab.get T 23 = some ⟨.slice 2, 1, 24, [.sl true true 0 []]⟩ := _root_.id rfl
theorem d23 : Tab.desc T 23 = some (.slice 2) := rfl
theorem g25 : Tab.get T 25 = some ⟨.slice 23, 1, 24, [.sl true true 0 []]⟩ := _root_.id rfl
theorem d25 : Tab.desc T 25 = some (.slice 23) := rfl
theorem g28 : Tab.get T 28 = some ⟨.slice 83, 1, 24, [.sl true true 0 []]⟩ := _root_.id rfl
theorem d28 : Tab.desc T 28 = some (.slice 83) := rfl
theorem g38 : Tab.get T 38 = some ⟨.slice 56, 1, 24, [.sl true true 0 []]⟩ := _root_.id rfl
theorem d38 : Tab.desc T 38 = some (.slice 56) := rfl
theorem g40 : Tab.get T 40 = some ⟨.slice 61, 1, 24, [.sl true true 0 []]⟩ := _root_.id rfl
theorem d40 : Tab.desc T 40 = some (.slice 61) := rfl
theorem g53 : Tab.get T 53 = some ⟨.struct [(9, 0), (2, 1), (2, 2)], 3, 32, [.v (.string ⟨#[]⟩), .v (.int .i64 0), .v (.int .i64 0)]⟩ := _root_.id rfl
theorem d53 : Tab.desc T 53 = some (.struct [(9, 0), (2, 1), (2, 2)]) := rfl
theorem g54 : Tab.get T 54 = some ⟨.struct [(9, 0), (2, 1), (2, 2)], 3, 32, [.v (.string ⟨#[]⟩), .v (.int .i64 0), .v (.int .i64 0)]⟩ := _root_.id rfl
theorem d54 : Tab.desc T 54 = some (.struct [(9, 0), (2, 1), (2, 2)]) := rfl
theorem g55 : Tab.get T 55 = some ⟨.struct [(9, 0), (54, 1), (2, 4), (2, 5), (2, 6), (2, 7)], 8, 80, [.v (.string ⟨#[]⟩), .v (.string ⟨#[]⟩), .v (.int .i64 0), .v (.int .i64 0), .v (.int .i64 0), .v (.int .i64 0), .v (.int .i64 0), .v (.int .i64 0)]⟩ := _root_.id rfl
theorem d55 : Tab.desc T 55 = some (.struct [(9, 0), (54, 1), (2, 4), (2, 5), (2, 6), (2, 7)]) := rfl
theorem g56 : Tab.get T 56 = some ⟨.struct [(9, 0), (54, 1), (2, 4), (2, 5), (2, 6), (2, 7)], 8, 80, [.v (.string ⟨#[]⟩), .v (.string ⟨#[]⟩), .v (.int .i64 0), .v (.int .i64 0), .v (.int .i64 0), .v (.int .i64 0), .v (.int .i64 0), .v (.int .i64 0)]⟩ := _root_.id rfl
theorem d56 : Tab.desc T 56 = some (.struct [(9, 0), (54, 1), (2, 4), (2, 5), (2, 6), (2, 7)]) := rfl
theorem g59 : Tab.get T 59 = some ⟨.struct [(9, 0), (2, 1), (2, 2)], 3, 32, [.v (.string ⟨#[]⟩), .v (.int .i64 0), .v (.int .i64 0)]⟩ := _root_.id rfl
theorem d59 : Tab.desc T 59 = some (.struct [(9, 0), (2, 1), (2, 2)]) := rfl
theorem g60 : Tab.get T 60 = some ⟨.struct [(9, 0), (59, 1), (2, 4), (2, 5), (2, 6), (2, 7)], 8, 80, [.v (.string ⟨#[]⟩), .v (.string ⟨#[]⟩), .v (.int .i64 0), .v (.int .i64 0), .v (.int .i64 0), .v (.int .i64 0), .v (.int .i64 0), .v (.int .i64 0)]⟩ := _root_.id rfl
theorem d60 : Tab.desc T 60 = some (.struct [(9, 0), (59, 1), (2, 4), (2, 5), (2, 6), (2, 7)]) := rfl
theorem g61 : Tab.get T 61 = some ⟨.struct [(9, 0), (59, 1), (2, 4), (2, 5), (2, 6), (2, 7)], 8, 80, [.v (.string ⟨#[]⟩), .v (.string ⟨#[]⟩), .v (.int .i64 0), .v (.int .i64 0), .v (.int .i64 0), .v (.int .i64 0), .v (.int .i64 0), .v (.int .i64 0)]⟩ := _root_.id rfl
theorem d61 : Tab.desc T 61 = some (.struct [(9, 0), (59, 1), (2, 4), (2, 5), (2, 6), (2, 7)]) := rfl
theorem g64 : Tab.get T 64 = some ⟨.slice 119, 1, 24, [.sl true true 0 []]⟩ := _root_.id rfl
theorem d64 : Tab.desc T 64 = some (.slice 119) := rfl
theorem g68 : Tab.get T 68 = some ⟨.slice 124, 1, 24, [.sl true true 0 []]⟩ := _root_.id rfl
theorem d68 : Tab.desc T 68 = some (.slice 124) := rfl
theorem g74 : Tab.get T 74 = some ⟨.slice 5, 1, 24, [.sl true true 0 []]⟩ := _root_.id rfl
theorem d74 : Tab.desc T 74 = some (.slice 5) := rfl
theorem g82 : Tab.get T 82 = some ⟨.struct [(9, 0), (2, 1), (2, 2), (2, 3)], 4, 40, [.v (.string ⟨#[]⟩), .v (.int .i64 0), .v (.int .i64 0), .v (.int .i64 0)]⟩ := _root_.id rfl
theorem d82 : Tab.desc T 82 = some (.struct [(9, 0), (2, 1), (2, 2), (2, 3)]) := rfl
theorem g83 : Tab.get T 83 = some ⟨.struct [(9, 0), (2, 1), (2, 2), (2, 3)], 4, 40, [.v (.string ⟨#[]⟩), .v (.int .i64 0), .v (.int .i64 0), .v (.int .i64 0)]⟩ := _root_.id rfl
theorem d83 : Tab.desc T 83 = some (.struct [(9, 0), (2, 1), (2, 2), (2, 3)]) := rfl
theorem g85 : Tab.get T 85 = some ⟨.struct [(9, 0), (2, 1), (2, 2), (2, 3)], 4, 40, [.v (.string ⟨#[]⟩), .v (.int .i64 0), .v (.int .i64 0), .v (.int .i64 0)]⟩ := _root_.id rfl
theorem d85 : Tab.desc T 85 = some (.struct [(9, 0), (2, 1), (2, 2), (2, 3)]) := rfl
theorem g89 : Tab.get T 89 = some ⟨.slice 93, 1, 24, [.sl true true 0 []]⟩ := _root_.id rfl
theorem d89 : Tab.desc T 89 = some (.slice 93) := rfl
theorem g92 : Tab.get T 92 = some ⟨.struct [(2, 0), (2, 1), (2, 2), (2, 3)], 4, 32, [.v (.int .i64 0), .v (.int .i64 0), .v (.int .i64 0), .v (.int .i64 0)]⟩ := _root_.id rfl
theorem d92 : Tab.desc T 92 = some (.struct [(2, 0), (2, 1), (2, 2), (2, 3)]) := rfl
theorem g93 : Tab.get T 93 = some ⟨.struct [(2, 0), (2, 1), (2, 2), (2, 3)], 4, 32, [.v (.int .i64 0), .v (.int .i64 0), .v (.int .i64 0), .v (.int .i64 0)]⟩ := _root_.id rfl
theorem d93 : Tab.desc T 93 = some (.struct [(2, 0), (2, 1), (2, 2), (2, 3)]) := rfl
theorem g112 : Tab.get T 112 = some ⟨.ptr 61, 1, 8, [.v (.pointer none)]⟩ := _root_.id rfl
theorem d112 : Tab.desc T 112 = some (.ptr 61) := rfl
theorem g117 : Tab.get T 117 = some ⟨.slice 195, 1, 24, [.sl true true 0 []]⟩ := _root_.id rfl
theorem d117 : Tab.desc T 117 = some (.slice 195) := rfl
theorem g118 : Tab.get T 118 = some ⟨.struct [(9, 0), (9, 1), (2, 2), (54, 3), (2, 6), (2, 7), (117, 8)], 9, 112, [.v (.string ⟨#[]⟩), .v (.string ⟨#[]⟩), .v (.int .i64 0), .v (.string ⟨#[]⟩), .v (.int .i64 0), .v (.int .i64 0), .v (.int .i64 0), .v (.int .i64 0), .sl true true 0 []]⟩ := _root_.id rfl
theorem d118 : Tab.desc T 118 = some (.struct [(9, 0), (9, 1), (2, 2), (54, 3), (2, 6), (2, 7), (117, 8)]) := rfl
theorem g119 : Tab.get T 119 = some ⟨.struct [(9, 0), (9, 1), (2, 2), (54, 3), (2, 6), (2, 7), (117, 8)], 9, 112, [.v (.string ⟨#[]⟩), .v (.string ⟨#[]⟩), .v (.int .i64 0), .v (.string ⟨#[]⟩), .v (.int .i64 0), .v (.int .i64 0), .v (.int .i64 0), .v (.int .i64 0), .sl true true 0 []]⟩ := _root_.id rfl
theorem d119 : Tab.desc T 119 = some (.struct [(9, 0), (9, 1), (2, 2), (54, 3), (2, 6), (2, 7), (117, 8)]) := rfl
theorem g121 : Tab.get T 121 = some ⟨.ptr 124, 1, 8, [.v (.pointer none)]⟩ := _root_.id rfl
theorem d121 : Tab.desc T 121 = some (.ptr 124) := rfl
theorem g122 : Tab.get T 122 = some ⟨.slice 162, 1, 24, [.sl true true 0 []]⟩ := _root_.id rfl
theorem d122 : Tab.desc T 122 = some (.slice 162) := rfl
theorem g123 : Tab.get T 123 = some ⟨.struct [(9, 0), (9, 1), (2, 2), (59, 3), (2, 6), (2, 7), (122, 8)], 9, 112, [.v (.string ⟨#[]⟩), .v (.string ⟨#[]⟩), .v (.int .i64 0), .v (.string ⟨#[]⟩), .v (.int .i64 0), .v (.int .i64 0), .v (.int .i64 0), .v (.int .i64 0), .sl true true 0 []]⟩ := _root_.id rfl
theorem d123 : Tab.desc T 123 = some (.struct [(9, 0), (9, 1), (2, 2), (59, 3), (2, 6), (2, 7), (122, 8)]) := rfl
theorem g124 : Tab.get T 124 = some ⟨.struct [(9, 0), (9, 1), (2, 2), (59, 3), (2, 6), (2, 7), (122, 8)], 9, 112, [.v (.string ⟨#[]⟩), .v (.string ⟨#[]⟩), .v (.int .i64 0), .v (.string ⟨#[]⟩), .v (.int .i64 0), .v (.int .i64 0), .v (.int .i64 0), .v (.int .i64 0), .sl true true 0 []]⟩ := _root_.id rfl
theorem d124 : Tab.desc T 124 = some (.struct [(9, 0), (9, 1), (2, 2), (59, 3), (2, 6), (2, 7), (122, 8)]) := rfl
theorem g127 : Tab.get T 127 = some ⟨.ptr 59, 1, 8, [.v (.pointer none)]⟩ := _root_.id rfl
theorem d127 : Tab.desc T 127 = some (.ptr 59) := rfl
theorem g136 : Tab.get T 136 = some ⟨.ptr 177, 1, 8, [.v (.pointer none)]⟩ := _root_.id rfl
theorem d136 : Tab.desc T 136 = some (.ptr 177) := rfl
theorem g142 : Tab.get T 142 = some ⟨.array 4 2, 4, 32, [.v (.int .i64 0), .v (.int .i64 0), .v (.int .i64 0), .v (.int .i64 0)]⟩ := _root_.id rfl
theorem d142 : Tab.desc T 142 = some (.array 4 2) := rfl
theorem g143 : Tab.get T 143 = some ⟨.struct [(2, 0), (142, 1), (2, 5)], 6, 48, [.v (.int .i64 0), .v (.int .i64 0), .v (.int .i64 0), .v (.int .i64 0), .v (.int .i64 0), .v (.int .i64 0)]⟩ := _root_.id rfl
theorem d143 : Tab.desc T 143 = some (.struct [(2, 0), (142, 1), (2, 5)]) := rfl
theorem g144 : Tab.get T 144 = some ⟨.struct [(2, 0), (142, 1), (2, 5)], 6, 48, [.v (.int .i64 0), .v (.int .i64 0), .v (.int .i64 0), .v (.int .i64 0), .v (.int .i64 0), .v (.int .i64 0)]⟩ := _root_.id rfl
theorem d144 : Tab.desc T 144 = some (.struct [(2, 0), (142, 1), (2, 5)]) := rfl
theorem g151 : Tab.get T 151 = some ⟨.ptr 83, 1, 8, [.v (.pointer none)]⟩ := _root_.id rfl
theorem d151 : Tab.desc T 151 = some (.ptr 83) := rfl
theorem g161 : Tab.get T 161 = some ⟨.struct [(2, 0), (2, 1), (2, 2), (2, 3)], 4, 32, [.v (.int .i64 0), .v (.int .i64 0), .v (.int .i64 0), .v (.int .i64 0)]⟩ := _root_.id rfl
theorem d161 : Tab.desc T 161 = some (.struct [(2, 0), (2, 1), (2, 2), (2, 3)]) := rfl
theorem g162 : Tab.get T 162 = some ⟨.struct [(2, 0), (2, 1), (2, 2), (2, 3)], 4, 32, [.v (.int .i64 0), .v (.int .i64 0), .v (.int .i64 0), .v (.int .i64 0)]⟩ := _root_.id rfl
theorem d162 : Tab.desc T 162 = some (.struct [(2, 0), (2, 1), (2, 2), (2, 3)]) := rfl
theorem g164 : Tab.get T 164 = some ⟨.ptr 162, 1, 8, [.v (.pointer none)]⟩ := _root_.id rfl
theorem d164 : Tab.desc T 164 = some (.ptr 162) := rfl
theorem g174 : Tab.get T 174 = some ⟨.int .u64, 1, 8, [.v (.int .u64 0)]⟩ := _root_.id rfl
theorem d174 : Tab.desc T 174 = some (.int .u64) := rfl
theorem g175 : Tab.get T 175 = some ⟨.int .u64, 1, 8, [.v (.int .u64 0)]⟩ := _root_.id rfl
theorem d175 : Tab.desc T 175 = some (.int .u64) := rfl
theorem g176 : Tab.get T 176 = some ⟨.struct [(74, 0), (3, 1), (175, 2)], 3, 40, [.sl true true 0 [], .v (.int .i64 0), .v (.int .u64 0)]⟩ := _root_.id rfl
theorem d176 : Tab.desc T 176 = some (.struct [(74, 0), (3, 1), (175, 2)]) := rfl
theorem g177 : Tab.get T 177 = some ⟨.struct [(74, 0), (3, 1), (175, 2)], 3, 40, [.sl true true 0 [], .v (.int .i64 0), .v (.int .u64 0)]⟩ := _root_.id rfl
theorem d177 : Tab.desc T 177 = some (.struct [(74, 0), (3, 1), (175, 2)]) := rfl
theorem g182 : Tab.get T 182 = some ⟨.slice 4, 1, 24, [.sl true true 0 []]⟩ := _root_.id rfl
theorem d182 : Tab.desc T 182 = some (.slice 4) := rfl
theorem g184 : Tab.get T 184 = some ⟨.ptr 144, 1, 8, [.v (.pointer none)]⟩ := _root_.id rfl
theorem d184 : Tab.desc T 184 = some (.ptr 144) := rfl
theorem g195 : Tab.get T 195 = some ⟨.struct [(2, 0), (2, 1), (2, 2), (2, 3)], 4, 32, [.v (.int .i64 0), .v (.int .i64 0), .v (.int .i64 0), .v (.int .i64 0)]⟩ := _root_.id rfl
theorem d195 : Tab.desc T 195 = some (.struct [(2, 0), (2, 1), (2, 2), (2, 3)]) := rfl
theorem g201 : Tab.get T 201 = some ⟨.int .i64, 1, 8, [.v (.int .i64 0)]⟩ := _root_.id rfl
theorem d201 : Tab.desc T 201 = some (.int .i64) := rfl
theorem g208 : Tab.get T 208 = some ⟨.int .u32, 1, 4, [.v (.int .u32 0)]⟩ := _root_.id rfl
theorem d208 : Tab.desc T 208 = some (.int .u32) := rfl
theorem g210 : Tab.get T 210 = some ⟨.slice 9, 1, 24, [.sl true true 0 []]⟩ := _root_.id rfl
theorem d210 : Tab.desc T 210 = some (.slice 9) := rfl
theorem g218 : Tab.get T 218 = some ⟨.int .u64, 1, 8, [.v (.int .u64 0)]⟩ := _root_.id rfl
theorem d218 : Tab.desc T 218 = some (.int .u64) := rfl
theorem g222 : Tab.get T 222 = some ⟨.ptr 3, 1, 8, [.v (.pointer none)]⟩ := _root_.id rfl
theorem d222 : Tab.desc T 222 = some (.ptr 3) := rfl
theorem g225 : Tab.get T 225 = some ⟨.ptr 218, 1, 8, [.v (.pointer none)]⟩ := _root_.id rfl
theorem d225 : Tab.desc T 225 = some (.ptr 218) := rfl
theorem g231 : Tab.get T 231 = some ⟨.array 0 16, 0, 0, []⟩ := _root_.id rfl
theorem d231 : Tab.desc T 231 = some (.array 0 16) := rfl
theorem g235 : Tab.get T 235 = some ⟨.int .u8, 1, 1, [.v (.int .u8 0)]⟩ := _root_.id rfl
theorem d235 : Tab.desc T 235 = some (.int .u8) := rfl
theorem g236 : Tab.get T 236 = some ⟨.int .u8, 1, 1, [.v (.int .u8 0)]⟩ := _root_.id rfl
theorem d236 : Tab.desc T 236 = some (.int .u8) := rfl
theorem g238 : Tab.get T 238 = some ⟨.ptr 5, 1, 8, [.v (.pointer none)]⟩ := _root_.id rfl
theorem d238 : Tab.desc T 238 = some (.ptr 5) := rfl
theorem g239 : Tab.get T 239 = some ⟨.int .i32, 1, 4, [.v (.int .i32 0)]⟩ := _root_.id rfl
theorem d239 : Tab.desc T 239 = some (.int .i32) := rfl
theorem g240 : Tab.get T 240 = some ⟨.int .i32, 1, 4, [.v (.int .i32 0)]⟩ := _root_.id rfl
theorem d240 : Tab.desc T 240 = some (.int .i32) := rfl
theorem g241 : Tab.get T 241 = some ⟨.struct [(12, 0), (12, 1), (208, 2), (235, 3), (5, 4), (5, 5), (236, 6), (237, 7), (238, 8), (239, 9), (240, 10)], 11, 48, [.v (.int .u64 0), .v (.int .u64 0), .v (.int .u32 0), .v (.int .u8 0), .v (.int .u8 0), .v (.int .u8 0), .v (.int .u8 0), .v .nilFunc, .v (.pointer none), .v (.int .i32 0), .v (.int .i32 0)]⟩ := _root_.id rfl
theorem d241 : Tab.desc T 241 = some (.struct [(12, 0), (12, 1), (208, 2), (235, 3), (5, 4), (5, 5), (236, 6), (237, 7), (238, 8), (239, 9), (240, 10)]) := rfl
theorem g242 : Tab.get T 242 = some ⟨.struct [(12, 0), (12, 1), (208, 2), (235, 3), (5, 4), (5, 5), (236, 6), (237, 7), (238, 8), (239, 9), (240, 10)], 11, 48, [.v (.int .u64 0), .v (.int .u64 0), .v (.int .u32 0), .v (.int .u8 0), .v (.int .u8 0), .v (.int .u8 0), .v (.int .u8 0), .v .nilFunc, .v (.pointer none), .v (.int .i32 0), .v (.int .i32 0)]⟩ := _root_.id rfl
theorem d242 : Tab.desc T 242 = some (.struct [(12, 0), (12, 1), (208, 2), (235, 3), (5, 4), (5, 5), (236, 6), (237, 7), (238, 8), (239, 9), (240, 10)]) := rfl
attribute [push_cast] g2 g3 g4 g5 g6 g9 g10 g11 g12 g15 g16 g17 g18 g19 g20 g21 g22 g23 g25 g28 g38 g40 g53 g54 g55 g56 g59 g60 g61 g64 g68 g74 g82 g83 g85 g89 g92 g93 g112 g117 g118 g119 g121 g122 g123 g124 g127 g136 g142 g143 g144 g151 g161 g162 g164 g174 g175 g176 g177 g182 g184 g195 g201 g208 g210 g218 g222 g225 g231 g235 g236 g238 g239 g240 g241 g242
end Go.Proofs.Ytnhgffhnfegiiaa.Fw
