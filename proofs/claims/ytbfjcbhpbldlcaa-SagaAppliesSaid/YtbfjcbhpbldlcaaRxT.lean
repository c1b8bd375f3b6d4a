/- The types of the translation that the functions use, in short, against the program's own. -/
import Derived.Test.YtbfjcbhpbldlcaaRx14
import Derived.Test.YtbfjcbhpbldlcaaProg
import Derived.KernelRfl
namespace Go.Proofs.Ytbfjcbhpbldlcaa.Rx
open Go.Rx Go.Proofs
noncomputable abbrev P := Try.prog
def T : Tab := ⟨[
  (2, ⟨.int .i64, 1, 8, [.int .i64 0]⟩),
  (3, ⟨.int .i64, 1, 8, [.int .i64 0]⟩),
  (4, ⟨.bool, 1, 1, [.bool false]⟩),
  (5, ⟨.int .u8, 1, 1, [.int .u8 0]⟩),
  (6, ⟨.int .u8, 1, 1, [.int .u8 0]⟩),
  (7, ⟨.strct [(0, 2), (1, 3), (2, 4), (3, 6)], 4, 24, [.int .i64 0, .int .i64 0, .bool false, .int .u8 0]⟩),
  (8, ⟨.strct [(0, 2), (1, 3), (2, 4), (3, 6)], 4, 24, [.int .i64 0, .int .i64 0, .bool false, .int .u8 0]⟩),
  (9, ⟨.str, 1, 16, [.string ⟨#[]⟩]⟩),
  (10, ⟨.str, 1, 16, [.string ⟨#[]⟩]⟩),
  (11, ⟨.str, 1, 16, [.string ⟨#[]⟩]⟩),
  (12, ⟨.int .u64, 1, 8, [.int .u64 0]⟩),
  (21, ⟨.int .i32, 1, 4, [.int .i32 0]⟩),
  (22, ⟨.slice 44, 1, 24, [.slice none 0 0]⟩),
  (23, ⟨.slice 9, 1, 24, [.slice none 0 0]⟩),
  (24, ⟨.slice 3, 1, 24, [.slice none 0 0]⟩),
  (25, ⟨.strct [(0, 23), (1, 24)], 2, 48, [.slice none 0 0, .slice none 0 0]⟩),
  (26, ⟨.strct [(0, 23), (1, 24)], 2, 48, [.slice none 0 0, .slice none 0 0]⟩),
  (27, ⟨.strct [(0, 22), (1, 26)], 3, 72, [.slice none 0 0, .slice none 0 0, .slice none 0 0]⟩),
  (28, ⟨.strct [(0, 22), (1, 26)], 3, 72, [.slice none 0 0, .slice none 0 0, .slice none 0 0]⟩),
  (29, ⟨.slice 36, 1, 24, [.slice none 0 0]⟩),
  (30, ⟨.strct [(0, 28), (3, 29)], 4, 96, [.slice none 0 0, .slice none 0 0, .slice none 0 0, .slice none 0 0]⟩),
  (31, ⟨.strct [(0, 28), (3, 29)], 4, 96, [.slice none 0 0, .slice none 0 0, .slice none 0 0, .slice none 0 0]⟩),
  (34, ⟨.slice 74, 1, 24, [.slice none 0 0]⟩),
  (35, ⟨.strct [(0, 3), (1, 9), (2, 9), (3, 34), (4, 3), (5, 4), (6, 4), (7, 3), (8, 3)], 9, 96, [.int .i64 0, .string ⟨#[]⟩, .string ⟨#[]⟩, .slice none 0 0, .int .i64 0, .bool false, .bool false, .int .i64 0, .int .i64 0]⟩),
  (36, ⟨.strct [(0, 3), (1, 9), (2, 9), (3, 34), (4, 3), (5, 4), (6, 4), (7, 3), (8, 3)], 9, 96, [.int .i64 0, .string ⟨#[]⟩, .string ⟨#[]⟩, .slice none 0 0, .int .i64 0, .bool false, .bool false, .int .i64 0, .int .i64 0]⟩),
  (38, ⟨.int .i64, 1, 8, [.int .i64 0]⟩),
  (43, ⟨.strct [(0, 3), (1, 3), (2, 3), (3, 9), (4, 9), (5, 34)], 6, 80, [.int .i64 0, .int .i64 0, .int .i64 0, .string ⟨#[]⟩, .string ⟨#[]⟩, .slice none 0 0]⟩),
  (44, ⟨.strct [(0, 3), (1, 3), (2, 3), (3, 9), (4, 9), (5, 34)], 6, 80, [.int .i64 0, .int .i64 0, .int .i64 0, .string ⟨#[]⟩, .string ⟨#[]⟩, .slice none 0 0]⟩),
  (72, ⟨.slice 5, 1, 24, [.slice none 0 0]⟩),
  (73, ⟨.strct [(0, 9), (1, 3), (2, 9), (3, 9), (4, 9), (5, 3)], 6, 80, [.string ⟨#[]⟩, .int .i64 0, .string ⟨#[]⟩, .string ⟨#[]⟩, .string ⟨#[]⟩, .int .i64 0]⟩),
  (74, ⟨.strct [(0, 9), (1, 3), (2, 9), (3, 9), (4, 9), (5, 3)], 6, 80, [.string ⟨#[]⟩, .int .i64 0, .string ⟨#[]⟩, .string ⟨#[]⟩, .string ⟨#[]⟩, .int .i64 0]⟩),
  (100, ⟨.slice 23, 1, 24, [.slice none 0 0]⟩),
  (115, ⟨.strct [(0, 114), (1, 72)], 2, 32, [.pointer none, .slice none 0 0]⟩),
  (116, ⟨.strct [(0, 114), (1, 72)], 2, 32, [.pointer none, .slice none 0 0]⟩),
  (130, ⟨.int .u32, 1, 4, [.int .u32 0]⟩),
  (131, ⟨.int .u8, 1, 1, [.int .u8 0]⟩),
  (132, ⟨.int .u8, 1, 1, [.int .u8 0]⟩),
  (134, ⟨.int .i32, 1, 4, [.int .i32 0]⟩),
  (135, ⟨.int .i32, 1, 4, [.int .i32 0]⟩)
], [0, 1, 2, 33, 54, 104, 105, 108, 112, 114, 116, 118, 119, 120, 121, 122, 123, 125, 126]⟩
theorem T_ok : TabOK P T := tabOK_of (by kernel_rfl)
end Go.Proofs.Ytbfjcbhpbldlcaa.Rx
