/- What is known of the types that the operations name: written by a program off the translation. -/
import Derived.Test.YtopjmiklpnejmaaGreatDoorEng4
import Derived.Test.YtopjmiklpnejmaaGreatDoorProg
namespace Go.Proofs.YtopjmiklpnejmaaGreatDoor
open Eng
def tab : Tab := [
  (3, ⟨.other, 1, false, [.int .i64 0]⟩),
  (4, ⟨.other, 1, false, [.bool false]⟩),
  (5, ⟨.other, 1, false, [.int .u8 0]⟩),
  (9, ⟨.str, 1, false, [.string ⟨#[]⟩]⟩),
  (25, ⟨.slice 9 1 16, 1, false, [.slice none 0 0]⟩),
  (26, ⟨.slice 58 3 40, 1, false, [.slice none 0 0]⟩),
  (27, ⟨.slice 86 3 24, 1, false, [.slice none 0 0]⟩),
  (28, ⟨.slice 64 7 104, 1, false, [.slice none 0 0]⟩),
  (30, ⟨.struct [(0, 1), (1, 1), (2, 1), (3, 1), (4, 1)], 5, true, [.string ⟨#[]⟩, .slice none 0 0, .slice none 0 0, .slice none 0 0, .slice none 0 0]⟩),
  (45, ⟨.slice 5 1 1, 1, false, [.slice none 0 0]⟩),
  (58, ⟨.struct [(0, 1), (1, 1), (2, 1)], 3, true, [.int .i64 0, .int .i64 0, .slice none 0 0]⟩),
  (59, ⟨.slice 61 2 16, 1, false, [.slice none 0 0]⟩),
  (61, ⟨.struct [(0, 1), (1, 1)], 2, true, [.int .i64 0, .int .i64 0]⟩),
  (62, ⟨.slice 89 3 24, 1, false, [.slice none 0 0]⟩),
  (64, ⟨.struct [(0, 1), (1, 1), (2, 1), (3, 1), (4, 2), (6, 1)], 7, true, [.int .i64 0, .int .i64 0, .slice none 0 0, .slice none 0 0, .int .i64 0, .int .i64 0, .slice none 0 0]⟩),
  (65, ⟨.other, 1, false, [.pointer none]⟩),
  (67, ⟨.struct [(0, 1), (1, 1), (2, 1)], 3, true, [.pointer none, .int .i64 0, .bool false]⟩),
  (74, ⟨.slice 78 3 24, 1, false, [.slice none 0 0]⟩),
  (78, ⟨.struct [(0, 1), (1, 1), (2, 1)], 3, true, [.int .i64 0, .int .i64 0, .bool false]⟩),
  (86, ⟨.struct [(0, 1), (1, 2)], 3, true, [.int .i64 0, .int .i64 0, .int .i64 0]⟩),
  (89, ⟨.struct [(0, 1), (1, 1), (2, 1)], 3, true, [.int .i64 0, .int .i64 0, .int .i64 0]⟩),
  (97, ⟨.slice 4 1 1, 1, false, [.slice none 0 0]⟩),
  (103, ⟨.struct [(0, 1), (1, 1)], 2, true, [.slice none 0 0, .bool false]⟩),
  (117, ⟨.other, 1, false, [.pointer none]⟩),
  (119, ⟨.struct [(0, 1)], 1, true, [.slice none 0 0]⟩),
  (129, ⟨.slice 3 1 8, 1, false, [.slice none 0 0]⟩),
  (141, ⟨.arr 2 59 1, 2, true, [.slice none 0 0, .slice none 0 0]⟩),
  (144, ⟨.other, 1, false, [.nilFunc]⟩),
  (151, ⟨.struct [(0, 1), (1, 1), (2, 1), (3, 1), (4, 1), (5, 1)], 6, true, [.slice none 0 0, .slice none 0 0, .slice none 0 0, .slice none 0 0, .int .i64 0, .bool false]⟩),
  (181, ⟨.struct [(0, 1), (1, 1), (2, 1)], 3, true, [.slice none 0 0, .int .i64 0, .bool false]⟩),
  (198, ⟨.slice 59 1 24, 1, false, [.slice none 0 0]⟩),
  (202, ⟨.struct [(0, 1), (1, 1), (2, 1), (3, 1)], 4, true, [.string ⟨#[]⟩, .int .i64 0, .int .i64 0, .int .i64 0]⟩),
  (214, ⟨.other, 1, false, [.pointer none]⟩),
  (216, ⟨.struct [(0, 1), (1, 1)], 2, true, [.pointer none, .slice none 0 0]⟩),
  (242, ⟨.arr 36 202 4, 144, true, [.string ⟨#[]⟩, .int .i64 0, .int .i64 0, .int .i64 0, .string ⟨#[]⟩, .int .i64 0, .int .i64 0, .int .i64 0, .string ⟨#[]⟩, .int .i64 0, .int .i64 0, .int .i64 0, .string ⟨#[]⟩, .int .i64 0, .int .i64 0, .int .i64 0, .string ⟨#[]⟩, .int .i64 0, .int .i64 0, .int .i64 0, .string ⟨#[]⟩, .int .i64 0, .int .i64 0, .int .i64 0, .string ⟨#[]⟩, .int .i64 0, .int .i64 0, .int .i64 0, .string ⟨#[]⟩, .int .i64 0, .int .i64 0, .int .i64 0, .string ⟨#[]⟩, .int .i64 0, .int .i64 0, .int .i64 0, .string ⟨#[]⟩, .int .i64 0, .int .i64 0, .int .i64 0, .string ⟨#[]⟩, .int .i64 0, .int .i64 0, .int .i64 0, .string ⟨#[]⟩, .int .i64 0, .int .i64 0, .int .i64 0, .string ⟨#[]⟩, .int .i64 0, .int .i64 0, .int .i64 0, .string ⟨#[]⟩, .int .i64 0, .int .i64 0, .int .i64 0, .string ⟨#[]⟩, .int .i64 0, .int .i64 0, .int .i64 0, .string ⟨#[]⟩, .int .i64 0, .int .i64 0, .int .i64 0, .string ⟨#[]⟩, .int .i64 0, .int .i64 0, .int .i64 0, .string ⟨#[]⟩, .int .i64 0, .int .i64 0, .int .i64 0, .string ⟨#[]⟩, .int .i64 0, .int .i64 0, .int .i64 0, .string ⟨#[]⟩, .int .i64 0, .int .i64 0, .int .i64 0, .string ⟨#[]⟩, .int .i64 0, .int .i64 0, .int .i64 0, .string ⟨#[]⟩, .int .i64 0, .int .i64 0, .int .i64 0, .string ⟨#[]⟩, .int .i64 0, .int .i64 0, .int .i64 0, .string ⟨#[]⟩, .int .i64 0, .int .i64 0, .int .i64 0, .string ⟨#[]⟩, .int .i64 0, .int .i64 0, .int .i64 0, .string ⟨#[]⟩, .int .i64 0, .int .i64 0, .int .i64 0, .string ⟨#[]⟩, .int .i64 0, .int .i64 0, .int .i64 0, .string ⟨#[]⟩, .int .i64 0, .int .i64 0, .int .i64 0, .string ⟨#[]⟩, .int .i64 0, .int .i64 0, .int .i64 0, .string ⟨#[]⟩, .int .i64 0, .int .i64 0, .int .i64 0, .string ⟨#[]⟩, .int .i64 0, .int .i64 0, .int .i64 0, .string ⟨#[]⟩, .int .i64 0, .int .i64 0, .int .i64 0, .string ⟨#[]⟩, .int .i64 0, .int .i64 0, .int .i64 0, .string ⟨#[]⟩, .int .i64 0, .int .i64 0, .int .i64 0, .string ⟨#[]⟩, .int .i64 0, .int .i64 0, .int .i64 0, .string ⟨#[]⟩, .int .i64 0, .int .i64 0, .int .i64 0]⟩),
  (245, ⟨.other, 1, false, [.pointer none]⟩),
  (246, ⟨.other, 1, false, [.int .u64 0]⟩),
  (252, ⟨.arr 15 3 1, 15, true, [.int .i64 0, .int .i64 0, .int .i64 0, .int .i64 0, .int .i64 0, .int .i64 0, .int .i64 0, .int .i64 0, .int .i64 0, .int .i64 0, .int .i64 0, .int .i64 0, .int .i64 0, .int .i64 0, .int .i64 0]⟩),
  (259, ⟨.struct [(0, 1), (1, 1)], 2, true, [.int .u8 0, .int .u8 0]⟩),
  (260, ⟨.arr 16 259 2, 32, true, [.int .u8 0, .int .u8 0, .int .u8 0, .int .u8 0, .int .u8 0, .int .u8 0, .int .u8 0, .int .u8 0, .int .u8 0, .int .u8 0, .int .u8 0, .int .u8 0, .int .u8 0, .int .u8 0, .int .u8 0, .int .u8 0, .int .u8 0, .int .u8 0, .int .u8 0, .int .u8 0, .int .u8 0, .int .u8 0, .int .u8 0, .int .u8 0, .int .u8 0, .int .u8 0, .int .u8 0, .int .u8 0, .int .u8 0, .int .u8 0, .int .u8 0, .int .u8 0]⟩)]
theorem tabok : tabOk Tryz.prog tab = true := by kernel_rfl
end Go.Proofs.YtopjmiklpnejmaaGreatDoor
