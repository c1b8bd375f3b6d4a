/- The types of the translation that the functions use, in short, against the program's own. -/
import Derived.Test.YtooiiihaijpbaaaRx14
import Derived.Test.YtooiiihaijpbaaaProg
import Derived.KernelRfl
namespace Go.Proofs.Ytooiiihaijpbaaa.Rx
open Go.Rx Go.Proofs
noncomputable abbrev P := Try.prog
def T : Tab := ⟨[
  (2, ⟨.int .i64, 1, 8, [.int .i64 0]⟩),
  (3, ⟨.int .i64, 1, 8, [.int .i64 0]⟩),
  (4, ⟨.bool, 1, 1, [.bool false]⟩),
  (5, ⟨.int .u8, 1, 1, [.int .u8 0]⟩),
  (6, ⟨.int .u8, 1, 1, [.int .u8 0]⟩),
  (7, ⟨.strct [(0, 2), (1, 3), (2, 4), (3, 6)], 4, 24, [.int .i64 0, .int .i64 0, .bool false, .int .u8 0]⟩),
  (8, ⟨.strct [(0, 2), (1, 3), (2, 4), (3, 6)], 4, 24, [.int .i64 0, .int .i64 0, .bool false, .int .u8 0]⟩),
  (9, ⟨.str, 1, 16, [.string ⟨#[]⟩]⟩),
  (10, ⟨.str, 1, 16, [.string ⟨#[]⟩]⟩),
  (11, ⟨.str, 1, 16, [.string ⟨#[]⟩]⟩),
  (12, ⟨.int .u64, 1, 8, [.int .u64 0]⟩),
  (21, ⟨.int .i32, 1, 4, [.int .i32 0]⟩),
  (22, ⟨.slice 50, 1, 24, [.slice none 0 0]⟩),
  (23, ⟨.slice 3, 1, 24, [.slice none 0 0]⟩),
  (24, ⟨.strct [(0, 3), (1, 22), (2, 23)], 3, 56, [.int .i64 0, .slice none 0 0, .slice none 0 0]⟩),
  (25, ⟨.strct [(0, 3), (1, 22), (2, 23)], 3, 56, [.int .i64 0, .slice none 0 0, .slice none 0 0]⟩),
  (26, ⟨.slice 44, 1, 24, [.slice none 0 0]⟩),
  (27, ⟨.strct [(0, 25), (3, 3), (4, 26)], 5, 88, [.int .i64 0, .slice none 0 0, .slice none 0 0, .int .i64 0, .slice none 0 0]⟩),
  (28, ⟨.strct [(0, 25), (3, 3), (4, 26)], 5, 88, [.int .i64 0, .slice none 0 0, .slice none 0 0, .int .i64 0, .slice none 0 0]⟩),
  (29, ⟨.int .i64, 1, 8, [.int .i64 0]⟩),
  (41, ⟨.slice 9, 1, 24, [.slice none 0 0]⟩),
  (43, ⟨.strct [(0, 3), (1, 3), (2, 3), (3, 3), (4, 3), (5, 3), (6, 9)], 7, 64, [.int .i64 0, .int .i64 0, .int .i64 0, .int .i64 0, .int .i64 0, .int .i64 0, .string ⟨#[]⟩]⟩),
  (44, ⟨.strct [(0, 3), (1, 3), (2, 3), (3, 3), (4, 3), (5, 3), (6, 9)], 7, 64, [.int .i64 0, .int .i64 0, .int .i64 0, .int .i64 0, .int .i64 0, .int .i64 0, .string ⟨#[]⟩]⟩),
  (49, ⟨.strct [(0, 3), (1, 4), (2, 9), (3, 9), (4, 3)], 5, 56, [.int .i64 0, .bool false, .string ⟨#[]⟩, .string ⟨#[]⟩, .int .i64 0]⟩),
  (50, ⟨.strct [(0, 3), (1, 4), (2, 9), (3, 9), (4, 3)], 5, 56, [.int .i64 0, .bool false, .string ⟨#[]⟩, .string ⟨#[]⟩, .int .i64 0]⟩),
  (53, ⟨.slice 25, 1, 24, [.slice none 0 0]⟩),
  (67, ⟨.int .u64, 1, 8, [.int .u64 0]⟩),
  (82, ⟨.slice 41, 1, 24, [.slice none 0 0]⟩),
  (102, ⟨.int .u32, 1, 4, [.int .u32 0]⟩),
  (103, ⟨.int .u8, 1, 1, [.int .u8 0]⟩),
  (104, ⟨.int .u8, 1, 1, [.int .u8 0]⟩),
  (107, ⟨.int .i32, 1, 4, [.int .i32 0]⟩),
  (108, ⟨.int .i32, 1, 4, [.int .i32 0]⟩)
], [0, 1, 2, 51, 56, 61, 70, 76, 79, 83, 85, 87, 89, 90, 91, 92, 93, 94, 96]⟩
theorem T_ok : TabOK P T := tabOK_of (by kernel_rfl)
end Go.Proofs.Ytooiiihaijpbaaa.Rx
