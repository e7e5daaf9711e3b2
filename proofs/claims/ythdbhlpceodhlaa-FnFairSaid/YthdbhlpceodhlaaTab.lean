/- The types of this seat's program, as the runner reads them; they agree with the program's own. No conditions. -/
import Derived.Test.YthdbhlpceodhlaaProg
import Derived.Test.YthdbhlpceodhlaaSxT
namespace Go.Proofs.Ythdbhlpceodhlaa
open Go Go.Proofs.Ythdbhlpceodhlaa.Sx
/-- The types that the program's text names, as the runner reads them. -/
def tab : Tab := [
  (2, ⟨1, 8, .int .i64, [.int .i64 0]⟩),
  (3, ⟨1, 8, .int .i64, [.int .i64 0]⟩),
  (4, ⟨1, 1, .bool, [.lit false]⟩),
  (5, ⟨1, 1, .int .u8, [.int .u8 0]⟩),
  (6, ⟨1, 1, .int .u8, [.int .u8 0]⟩),
  (7, ⟨4, 24, .struct [(0, 1, 2), (1, 1, 3), (2, 1, 4), (3, 1, 6)], [.int .i64 0, .int .i64 0, .lit false, .int .u8 0]⟩),
  (8, ⟨4, 24, .struct [(0, 1, 2), (1, 1, 3), (2, 1, 4), (3, 1, 6)], [.int .i64 0, .int .i64 0, .lit false, .int .u8 0]⟩),
  (9, ⟨1, 16, .str, [.str ⟨#[]⟩]⟩),
  (10, ⟨1, 16, .str, [.str ⟨#[]⟩]⟩),
  (11, ⟨1, 16, .str, [.str ⟨#[]⟩]⟩),
  (12, ⟨1, 8, .int .u64, [.int .u64 0]⟩),
  (13, ⟨2, 24, .struct [(0, 1, 9), (1, 1, 12)], [.str ⟨#[]⟩, .int .u64 0]⟩),
  (14, ⟨2, 24, .struct [(0, 1, 9), (1, 1, 12)], [.str ⟨#[]⟩, .int .u64 0]⟩),
  (15, ⟨1, 8, .other, [.val (.pointer none)]⟩),
  (16, ⟨1, 8, .other, [.val (.pointer none)]⟩),
  (17, ⟨1, 8, .other, [.val (.pointer none)]⟩),
  (18, ⟨1, 8, .struct [(0, 1, 17)], [.val (.pointer none)]⟩),
  (19, ⟨1, 8, .struct [(0, 1, 17)], [.val (.pointer none)]⟩),
  (21, ⟨1, 4, .int .i32, [.int .i32 0]⟩),
  (22, ⟨1, 24, .slice 5, [.nil]⟩),
  (23, ⟨1, 24, .slice 34, [.nil]⟩),
  (24, ⟨3, 40, .struct [(0, 1, 3), (1, 1, 23), (2, 1, 3)], [.int .i64 0, .nil, .int .i64 0]⟩),
  (25, ⟨3, 40, .struct [(0, 1, 3), (1, 1, 23), (2, 1, 3)], [.int .i64 0, .nil, .int .i64 0]⟩),
  (27, ⟨1, 24, .slice 3, [.nil]⟩),
  (33, ⟨3, 40, .struct [(0, 1, 27), (1, 1, 3), (2, 1, 3)], [.nil, .int .i64 0, .int .i64 0]⟩),
  (34, ⟨3, 40, .struct [(0, 1, 27), (1, 1, 3), (2, 1, 3)], [.nil, .int .i64 0, .int .i64 0]⟩),
  (47, ⟨1, 24, .slice 81, [.nil]⟩),
  (48, ⟨3, 40, .struct [(0, 1, 3), (1, 1, 47), (2, 1, 3)], [.int .i64 0, .nil, .int .i64 0]⟩),
  (49, ⟨3, 40, .struct [(0, 1, 3), (1, 1, 47), (2, 1, 3)], [.int .i64 0, .nil, .int .i64 0]⟩),
  (57, ⟨1, 8, .other, [.val (.pointer none)]⟩),
  (64, ⟨1, 8, .other, [.val (.pointer none)]⟩),
  (65, ⟨1, 8, .int .u64, [.int .u64 0]⟩),
  (66, ⟨3, 40, .struct [(0, 1, 22), (1, 1, 3), (2, 1, 65)], [.nil, .int .i64 0, .int .u64 0]⟩),
  (67, ⟨3, 40, .struct [(0, 1, 22), (1, 1, 3), (2, 1, 65)], [.nil, .int .i64 0, .int .u64 0]⟩),
  (81, ⟨3, 40, .struct [(0, 1, 27), (1, 1, 3), (2, 1, 3)], [.nil, .int .i64 0, .int .i64 0]⟩),
  (84, ⟨1, 8, .int .u64, [.int .u64 0]⟩),
  (86, ⟨4, 40, .struct [(0, 1, 17), (1, 1, 17), (2, 1, 17), (3, 1, 9)], [.val (.pointer none), .val (.pointer none), .val (.pointer none), .str ⟨#[]⟩]⟩),
  (87, ⟨4, 40, .struct [(0, 1, 17), (1, 1, 17), (2, 1, 17), (3, 1, 9)], [.val (.pointer none), .val (.pointer none), .val (.pointer none), .str ⟨#[]⟩]⟩),
  (91, ⟨1, 4, .int .u32, [.int .u32 0]⟩),
  (92, ⟨1, 1, .int .u8, [.int .u8 0]⟩),
  (93, ⟨1, 1, .int .u8, [.int .u8 0]⟩),
  (95, ⟨1, 8, .other, [.val (.pointer none)]⟩),
  (96, ⟨1, 4, .int .i32, [.int .i32 0]⟩),
  (97, ⟨1, 4, .int .i32, [.int .i32 0]⟩)]
set_option maxRecDepth 100000 in
theorem tok : TabOk Try.prog tab := ⟨by kernel_rfl, by kernel_rfl⟩
theorem tokz : zszB tab = true := by kernel_rfl
end Go.Proofs.Ythdbhlpceodhlaa
