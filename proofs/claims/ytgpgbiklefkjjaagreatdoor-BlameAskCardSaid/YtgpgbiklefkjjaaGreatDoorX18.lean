/- Texts that the law leans on. -/
import Derived.Test.YtgpgbiklefkjjaaGreatDoorPVcFam
import Derived.Test.YtgpgbiklefkjjaaGreatDoorPVcGuard
import Derived.Test.YtgpgbiklefkjjaaGreatDoorProg
import Derived.KernelRfl
import Derived.Shelf.Strings.Builder1
import Derived.Shelf.Small.Utf8
import Derived.Shelf.Small.Bits
import Derived.Shelf.Small.Strs
import Derived.Shelf.Small.Wraps
import Derived.Shelf.Strings.BuilderF
import Derived.Shelf.Strconv.Atoi
import Derived.Shelf.Strconv.Itoa0
import Derived.Shelf.Strconv.Itoa1
import Derived.Shelf.LaysM
import Derived.Shelf.Strconv.Itoa2
import Derived.Shelf.Strconv.Itoa3
import Derived.Shelf.Strconv.AtoiErrFast
import Derived.Shelf.Strconv.ParseIntEmpty
import Derived.Shelf.Strconv.AtoiFail
import Derived.Shelf.Strconv.Clone
import Derived.Shelf.Strconv.SyntaxError
import Derived.Shelf.LaysC
import Derived.Shelf.Strconv.ToError
import Derived.Shelf.Strconv.Lower
import Derived.Shelf.Strconv.ParseUint10
import Derived.Shelf.Strconv.ParseUint10Empty
import Derived.Shelf.Strconv.ParseUint10Any
import Derived.Shelf.Strconv.ParseInt10
import Derived.Shelf.Strconv.AtoiLong
import Derived.Shelf.Strconv.AtoiInnerAll
import Derived.Shelf.Strconv.RangeError
import Derived.Shelf.Strconv.ToErrorRange
import Derived.Shelf.Strconv.AtoiAll
import Derived.Shelf.Strconv.ErrVarAll
import Derived.Shelf.Strings.Search1
import Derived.Shelf.Sort.Plain
import Derived.Shelf.Strings.Prefix
import Derived.Shelf.Strings.Runes
import Derived.Shelf.Bits.Mul64
import Derived.Shelf.Slices.Turned
import Derived.Shelf.Slices.Reverse
import Derived.Ground.Names2Prog
import Derived.Shelf.Slices.Clone
import Derived.Shelf.Slices.CompactI
import Derived.Shelf.Slices.SearchI
import Derived.Shelf.Slices.Cells
import Derived.Shelf.Slices.In.SortNone
import Derived.Ground.SlgnProg
import Derived.Shelf.SlicesE.Clone
import Derived.Ground.SlsfProg
import Derived.Shelf.SlSortCmp.Insertion
import Derived.Shelf.SlSortCmp.Insertion1
import Derived.Lib.AppendIntMem
set_option linter.unusedVariables false
set_option linter.unusedSimpArgs false
namespace Go.Proofs.YtgpgbiklefkjjaaGreatDoor
open Go.Vc
def tab : Tab := [(3, { kind := 6, size := 1, zero := [.i 0] }),
 (4, { kind := 5, size := 1, zero := [.b false] }),
 (5, { kind := 10, size := 1, zero := [.x (.int .u8 0)] }),
 (9, { kind := 4, size := 1, zero := [.s []] }),
 (23, { kind := 1, size := 1, zero := [.x (.slice none 0 0)], elem := 3, esize := 1, ebytes := 8 }),
 (37, { kind := 1, size := 1, zero := [.x (.slice none 0 0)], elem := 43, esize := 3, ebytes := 24 }),
 (43, { kind := 2, size := 3, zero := [.i 0, .i 0, .i 0], flds := [(0, 1, false), (1, 1, false), (2, 1, false)], cmp := true }),
 (2, { kind := 6, size := 1, zero := [.i 0] }),
 (20, { kind := 9, size := 1, zero := [.x .nilIface] }),
 (21, { kind := 11, size := 1, zero := [.x (.int .i32 0)] }),
 (22, { kind := 1, size := 1, zero := [.x (.slice none 0 0)], elem := 23, esize := 1, ebytes := 24 }),
 (30, { kind := 8, size := 1, zero := [.x (.pointer none)] }),
 (32, { kind := 8, size := 1, zero := [.x (.pointer none)] }),
 (35, { kind := 2, size := 3, zero := [.x (.slice none 0 0), .i 0, .i 0], flds := [(0, 1, false), (1, 1, false), (2, 1, false)] }),
 (39, { kind := 2, size := 13, zero := [.i 0, .i 0, .i 0, .x (.slice none 0 0), .i 0, .i 0, .i 0, .i 0, .i 0, .i 0, .x (.slice none 0 0), .x (.slice none 0 0), .s []], flds := [(0, 1, false), (1, 1, false), (2, 1, false), (3, 1, false), (4, 1, false), (5, 1, false), (6, 1, false), (7, 1, false), (8, 1, false), (9, 1, false), (10, 1, false), (11, 1, false), (12, 1, false)] }),
 (44, { kind := 6, size := 1, zero := [.i 0] }),
 (54, { kind := 7, size := 1, zero := [.x (.int .u64 0)] }),
 (57, { kind := 13, size := 1, zero := [.x .nilFunc] }),
 (59, { kind := 12, size := 1, zero := [.x (.map none)], elem := 3, esize := 3 }),
 (60, { kind := 1, size := 1, zero := [.x (.slice none 0 0)], elem := 80, esize := 18, ebytes := 224 }),
 (62, { kind := 2, size := 3, zero := [.x (.pointer none), .x (.slice none 0 0), .x (.map none)], flds := [(0, 1, false), (1, 1, false), (2, 1, false)] }),
 (63, { kind := 12, size := 1, zero := [.x (.map none)], elem := 126, esize := 3 }),
 (64, { kind := 1, size := 1, zero := [.x (.slice none 0 0)], elem := 126, esize := 2, ebytes := 24 }),
 (66, { kind := 2, size := 2, zero := [.x (.slice none 0 0), .x (.map none)], flds := [(0, 1, false), (1, 1, false)] }),
 (71, { kind := 2, size := 3, zero := [.i 0, .s [], .i 0], flds := [(0, 1, false), (1, 1, false), (2, 1, false)] }),
 (78, { kind := 1, size := 1, zero := [.x (.slice none 0 0)], elem := 116, esize := 1, ebytes := 8 }),
 (80, { kind := 2, size := 18, zero := [.i 0, .s [], .i 0, .i 0, .i 0, .i 0, .x (.slice none 0 0), .i 0, .i 0, .i 0, .i 0, .i 0, .i 0, .x (.slice none 0 0), .x (.slice none 0 0), .s [], .i 0, .x (.slice none 0 0)], flds := [(0, 3, true), (3, 13, true), (16, 1, false), (17, 1, false)] }),
 (82, { kind := 13, size := 1, zero := [.x .nilFunc] }),
 (83, { kind := 1, size := 1, zero := [.x (.slice none 0 0)], elem := 87, esize := 2, ebytes := 32 }),
 (85, { kind := 12, size := 1, zero := [.x (.map none)], elem := 3, esize := 4 }),
 (87, { kind := 2, size := 2, zero := [.i 0, .x (.slice none 0 0)], flds := [(0, 1, false), (1, 1, false)] }),
 (94, { kind := 13, size := 1, zero := [.x .nilFunc] }),
 (104, { kind := 1, size := 1, zero := [.x (.slice none 0 0)], elem := 107, esize := 3, ebytes := 24 }),
 (107, { kind := 2, size := 3, zero := [.i 0, .i 0, .i 0], flds := [(0, 1, false), (1, 1, false), (2, 1, false)], cmp := true }),
 (109, { kind := 13, size := 1, zero := [.x .nilFunc] }),
 (110, { kind := 1, size := 1, zero := [.x (.slice none 0 0)], elem := 109, esize := 1, ebytes := 8 }),
 (114, { kind := 14, size := 1, zero := [.x (.int .u32 0)] }),
 (116, { kind := 7, size := 1, zero := [.x (.int .u64 0)] }),
 (119, { kind := 13, size := 1, zero := [.x .nilFunc] }),
 (126, { kind := 2, size := 2, zero := [.i 0, .s []], flds := [(0, 1, false), (1, 1, false)] }),
 (128, { kind := 8, size := 1, zero := [.x (.pointer none)] }),
 (129, { kind := 1, size := 1, zero := [.x (.slice none 0 0)], elem := 5, esize := 1, ebytes := 1 }),
 (131, { kind := 2, size := 2, zero := [.x (.pointer none), .x (.slice none 0 0)], flds := [(0, 1, false), (1, 1, false)] }),
 (133, { kind := 9, size := 1, zero := [.x .nilIface] }),
 (136, { kind := 13, size := 1, zero := [.x .nilFunc] }),
 (150, { kind := 13, size := 1, zero := [.x .nilFunc] }),
 (152, { kind := 13, size := 1, zero := [.x .nilFunc] }),
 (160, { kind := 8, size := 1, zero := [.x (.pointer none)] }),
 (161, { kind := 8, size := 1, zero := [.x (.pointer none)] }),
 (163, { kind := 13, size := 1, zero := [.x .nilFunc] }),
 (166, { kind := 6, size := 1, zero := [.i 0] }),
 (182, { kind := 3, size := 21, zero := [.s [], .s [], .s [], .s [], .s [], .s [], .s [], .s [], .s [], .s [], .s [], .s [], .s [], .s [], .s [], .s [], .s [], .s [], .s [], .s [], .s []], elem := 9, esize := 1, ebytes := 21 }),
 (183, { kind := 3, size := 8, zero := [.b false, .b false, .b false, .b false, .b false, .b false, .b false, .b false], elem := 4, esize := 1, ebytes := 8 }),
 (185, { kind := 0, size := 1, zero := [.x (.pointer none)] }),
 (188, { kind := 2, size := 2, zero := [.s [], .b false], flds := [(0, 1, false), (1, 1, false)] }),
 (192, { kind := 7, size := 1, zero := [.x (.int .u64 0)] }),
 (196, { kind := 8, size := 1, zero := [.x (.pointer none)] }),
 (228, { kind := 1, size := 1, zero := [.x (.slice none 0 0)], elem := 290, esize := 15, ebytes := 256 }),
 (229, { kind := 1, size := 1, zero := [.x (.slice none 0 0)], elem := 313, esize := 7, ebytes := 56 }),
 (230, { kind := 1, size := 1, zero := [.x (.slice none 0 0)], elem := 281, esize := 2, ebytes := 16 }),
 (242, { kind := 3, size := 24, zero := [.x (.int .u8 0), .x (.int .u8 0), .x (.int .u8 0), .x (.int .u8 0), .x (.int .u8 0), .x (.int .u8 0), .x (.int .u8 0), .x (.int .u8 0), .x (.int .u8 0), .x (.int .u8 0), .x (.int .u8 0), .x (.int .u8 0), .x (.int .u8 0), .x (.int .u8 0), .x (.int .u8 0), .x (.int .u8 0), .x (.int .u8 0), .x (.int .u8 0), .x (.int .u8 0), .x (.int .u8 0), .x (.int .u8 0), .x (.int .u8 0), .x (.int .u8 0), .x (.int .u8 0)], elem := 5, esize := 1, ebytes := 24 }),
 (268, { kind := 3, size := 20, zero := [.x (.int .u64 0), .x (.int .u64 0), .x (.int .u64 0), .x (.int .u64 0), .x (.int .u64 0), .x (.int .u64 0), .x (.int .u64 0), .x (.int .u64 0), .x (.int .u64 0), .x (.int .u64 0), .x (.int .u64 0), .x (.int .u64 0), .x (.int .u64 0), .x (.int .u64 0), .x (.int .u64 0), .x (.int .u64 0), .x (.int .u64 0), .x (.int .u64 0), .x (.int .u64 0), .x (.int .u64 0)], elem := 116, esize := 1, ebytes := 20 }),
 (269, { kind := 3, size := 65, zero := [.x (.int .u8 0), .x (.int .u8 0), .x (.int .u8 0), .x (.int .u8 0), .x (.int .u8 0), .x (.int .u8 0), .x (.int .u8 0), .x (.int .u8 0), .x (.int .u8 0), .x (.int .u8 0), .x (.int .u8 0), .x (.int .u8 0), .x (.int .u8 0), .x (.int .u8 0), .x (.int .u8 0), .x (.int .u8 0), .x (.int .u8 0), .x (.int .u8 0), .x (.int .u8 0), .x (.int .u8 0), .x (.int .u8 0), .x (.int .u8 0), .x (.int .u8 0), .x (.int .u8 0), .x (.int .u8 0), .x (.int .u8 0), .x (.int .u8 0), .x (.int .u8 0), .x (.int .u8 0), .x (.int .u8 0), .x (.int .u8 0), .x (.int .u8 0), .x (.int .u8 0), .x (.int .u8 0), .x (.int .u8 0), .x (.int .u8 0), .x (.int .u8 0), .x (.int .u8 0), .x (.int .u8 0), .x (.int .u8 0), .x (.int .u8 0), .x (.int .u8 0), .x (.int .u8 0), .x (.int .u8 0), .x (.int .u8 0), .x (.int .u8 0), .x (.int .u8 0), .x (.int .u8 0), .x (.int .u8 0), .x (.int .u8 0), .x (.int .u8 0), .x (.int .u8 0), .x (.int .u8 0), .x (.int .u8 0), .x (.int .u8 0), .x (.int .u8 0), .x (.int .u8 0), .x (.int .u8 0), .x (.int .u8 0), .x (.int .u8 0), .x (.int .u8 0), .x (.int .u8 0), .x (.int .u8 0), .x (.int .u8 0), .x (.int .u8 0)], elem := 5, esize := 1, ebytes := 65 }),
 (270, { kind := 6, size := 1, zero := [.i 0] }),
 (273, { kind := 8, size := 1, zero := [.x (.pointer none)] }),
 (281, { kind := 2, size := 2, zero := [.i 0, .i 0], flds := [(0, 1, false), (1, 1, false)], cmp := true }),
 (284, { kind := 1, size := 1, zero := [.x (.slice none 0 0)], elem := 355, esize := 5, ebytes := 56 }),
 (285, { kind := 1, size := 1, zero := [.x (.slice none 0 0)], elem := 358, esize := 5, ebytes := 40 }),
 (286, { kind := 1, size := 1, zero := [.x (.slice none 0 0)], elem := 325, esize := 4, ebytes := 32 }),
 (287, { kind := 1, size := 1, zero := [.x (.slice none 0 0)], elem := 338, esize := 5, ebytes := 56 }),
 (288, { kind := 1, size := 1, zero := [.x (.slice none 0 0)], elem := 329, esize := 12, ebytes := 128 }),
 (290, { kind := 2, size := 15, zero := [.i 0, .i 0, .s [], .i 0, .i 0, .x (.slice none 0 0), .x (.slice none 0 0), .x (.slice none 0 0), .x (.slice none 0 0), .x (.slice none 0 0), .x (.slice none 0 0), .x (.slice none 0 0), .x (.slice none 0 0), .i 0, .b false], flds := [(0, 1, false), (1, 1, false), (2, 1, false), (3, 1, false), (4, 1, false), (5, 1, false), (6, 1, false), (7, 1, false), (8, 1, false), (9, 1, false), (10, 1, false), (11, 1, false), (12, 1, false), (13, 1, false), (14, 1, false)] }),
 (292, { kind := 1, size := 1, zero := [.x (.slice none 0 0)], elem := 494, esize := 6, ebytes := 80 }),
 (293, { kind := 1, size := 1, zero := [.x (.slice none 0 0)], elem := 295, esize := 5, ebytes := 64 }),
 (295, { kind := 2, size := 5, zero := [.i 0, .i 0, .i 0, .s [], .x (.slice none 0 0)], flds := [(0, 1, false), (1, 1, false), (2, 1, false), (3, 1, false), (4, 1, false)] }),
 (309, { kind := 2, size := 3, zero := [.s [], .s [], .x .nilIface], flds := [(0, 1, false), (1, 1, false), (2, 1, false)] }),
 (313, { kind := 2, size := 7, zero := [.i 0, .i 0, .i 0, .i 0, .i 0, .i 0, .i 0], flds := [(0, 3, true), (3, 1, false), (4, 1, false), (5, 1, false), (6, 1, false)], cmp := true }),
 (325, { kind := 2, size := 4, zero := [.i 0, .i 0, .i 0, .b false], flds := [(0, 1, false), (1, 1, false), (2, 1, false), (3, 1, false)] }),
 (329, { kind := 2, size := 12, zero := [.i 0, .i 0, .i 0, .i 0, .i 0, .i 0, .i 0, .x (.slice none 0 0), .x (.slice none 0 0), .i 0, .i 0, .i 0], flds := [(0, 1, false), (1, 1, false), (2, 1, false), (3, 1, false), (4, 1, false), (5, 1, false), (6, 1, false), (7, 1, false), (8, 1, false), (9, 1, false), (10, 1, false), (11, 1, false)] }),
 (336, { kind := 1, size := 1, zero := [.x (.slice none 0 0)], elem := 340, esize := 4, ebytes := 32 }),
 (338, { kind := 2, size := 5, zero := [.i 0, .i 0, .i 0, .x (.slice none 0 0), .i 0], flds := [(0, 1, false), (1, 1, false), (2, 1, false), (3, 1, false), (4, 1, false)] }),
 (340, { kind := 2, size := 4, zero := [.i 0, .i 0, .b false, .i 0], flds := [(0, 1, false), (1, 1, false), (2, 1, false), (3, 1, false)] }),
 (355, { kind := 2, size := 5, zero := [.i 0, .i 0, .x (.slice none 0 0), .i 0, .i 0], flds := [(0, 1, false), (1, 1, false), (2, 1, false), (3, 1, false), (4, 1, false)] }),
 (358, { kind := 2, size := 5, zero := [.i 0, .i 0, .i 0, .i 0, .i 0], flds := [(0, 1, false), (1, 1, false), (2, 1, false), (3, 1, false), (4, 1, false)], cmp := true }),
 (359, { kind := 13, size := 1, zero := [.x .nilFunc] }),
 (361, { kind := 13, size := 1, zero := [.x .nilFunc] }),
 (366, { kind := 13, size := 1, zero := [.x .nilFunc] }),
 (369, { kind := 13, size := 1, zero := [.x .nilFunc] }),
 (374, { kind := 3, size := 32, zero := [.x (.int .u8 0), .x (.int .u8 0), .x (.int .u8 0), .x (.int .u8 0), .x (.int .u8 0), .x (.int .u8 0), .x (.int .u8 0), .x (.int .u8 0), .x (.int .u8 0), .x (.int .u8 0), .x (.int .u8 0), .x (.int .u8 0), .x (.int .u8 0), .x (.int .u8 0), .x (.int .u8 0), .x (.int .u8 0), .x (.int .u8 0), .x (.int .u8 0), .x (.int .u8 0), .x (.int .u8 0), .x (.int .u8 0), .x (.int .u8 0), .x (.int .u8 0), .x (.int .u8 0), .x (.int .u8 0), .x (.int .u8 0), .x (.int .u8 0), .x (.int .u8 0), .x (.int .u8 0), .x (.int .u8 0), .x (.int .u8 0), .x (.int .u8 0)], elem := 5, esize := 1, ebytes := 32 }),
 (375, { kind := 3, size := 64, zero := [.x (.int .u8 0), .x (.int .u8 0), .x (.int .u8 0), .x (.int .u8 0), .x (.int .u8 0), .x (.int .u8 0), .x (.int .u8 0), .x (.int .u8 0), .x (.int .u8 0), .x (.int .u8 0), .x (.int .u8 0), .x (.int .u8 0), .x (.int .u8 0), .x (.int .u8 0), .x (.int .u8 0), .x (.int .u8 0), .x (.int .u8 0), .x (.int .u8 0), .x (.int .u8 0), .x (.int .u8 0), .x (.int .u8 0), .x (.int .u8 0), .x (.int .u8 0), .x (.int .u8 0), .x (.int .u8 0), .x (.int .u8 0), .x (.int .u8 0), .x (.int .u8 0), .x (.int .u8 0), .x (.int .u8 0), .x (.int .u8 0), .x (.int .u8 0), .x (.int .u8 0), .x (.int .u8 0), .x (.int .u8 0), .x (.int .u8 0), .x (.int .u8 0), .x (.int .u8 0), .x (.int .u8 0), .x (.int .u8 0), .x (.int .u8 0), .x (.int .u8 0), .x (.int .u8 0), .x (.int .u8 0), .x (.int .u8 0), .x (.int .u8 0), .x (.int .u8 0), .x (.int .u8 0), .x (.int .u8 0), .x (.int .u8 0), .x (.int .u8 0), .x (.int .u8 0), .x (.int .u8 0), .x (.int .u8 0), .x (.int .u8 0), .x (.int .u8 0), .x (.int .u8 0), .x (.int .u8 0), .x (.int .u8 0), .x (.int .u8 0), .x (.int .u8 0), .x (.int .u8 0), .x (.int .u8 0), .x (.int .u8 0)], elem := 5, esize := 1, ebytes := 64 }),
 (394, { kind := 13, size := 1, zero := [.x .nilFunc] }),
 (415, { kind := 2, size := 3, zero := [.s [], .i 0, .i 0], flds := [(0, 1, false), (1, 1, false), (2, 1, false)] }),
 (416, { kind := 1, size := 1, zero := [.x (.slice none 0 0)], elem := 415, esize := 3, ebytes := 32 }),
 (434, { kind := 1, size := 1, zero := [.x (.slice none 0 0)], elem := 437, esize := 3, ebytes := 24 }),
 (437, { kind := 2, size := 3, zero := [.i 0, .i 0, .i 0], flds := [(0, 1, false), (1, 1, false), (2, 1, false)], cmp := true }),
 (494, { kind := 2, size := 6, zero := [.s [], .i 0, .i 0, .i 0, .s [], .x (.slice none 0 0)], flds := [(0, 1, false), (1, 5, true)] }),
 (495, { kind := 13, size := 1, zero := [.x .nilFunc] }),
 (499, { kind := 1, size := 1, zero := [.x (.slice none 0 0)], elem := 9, esize := 1, ebytes := 16 }),
 (504, { kind := 13, size := 1, zero := [.x .nilFunc] }),
 (521, { kind := 13, size := 1, zero := [.x .nilFunc] }),
 (551, { kind := 13, size := 1, zero := [.x .nilFunc] }),
 (564, { kind := 13, size := 1, zero := [.x .nilFunc] }),
 (571, { kind := 1, size := 1, zero := [.x (.slice none 0 0)], elem := 573, esize := 3, ebytes := 32 }),
 (573, { kind := 2, size := 3, zero := [.s [], .i 0, .i 0], flds := [(0, 1, false), (1, 1, false), (2, 1, false)] }),
 (584, { kind := 1, size := 1, zero := [.x (.slice none 0 0)], elem := 37, esize := 1, ebytes := 24 })]
theorem tab_ok : TabOk Tryz.prog tab := TabOk.of_all (by kernel_rfl)
theorem mixed : Tryz.prog.follows .mixedOrders = true := by kernel_rfl
theorem b3 : Body Tryz.prog 3 := ⟨Tryz.f3, Tryz.func3, rfl, rfl⟩
theorem b4 : Body Tryz.prog 4 := ⟨Tryz.f4, Tryz.func4, rfl, rfl⟩
theorem b5 : Body Tryz.prog 5 := ⟨Tryz.f5, Tryz.func5, rfl, rfl⟩
theorem b6 : Body Tryz.prog 6 := ⟨Tryz.f6, Tryz.func6, rfl, rfl⟩
theorem b7 : Body Tryz.prog 7 := ⟨Tryz.f7, Tryz.func7, rfl, rfl⟩
theorem b8 : Body Tryz.prog 8 := ⟨Tryz.f8, Tryz.func8, rfl, rfl⟩
theorem b9 : Body Tryz.prog 9 := ⟨Tryz.f9, Tryz.func9, rfl, rfl⟩
theorem b10 : Body Tryz.prog 10 := ⟨Tryz.f10, Tryz.func10, rfl, rfl⟩
theorem b11 : Body Tryz.prog 11 := ⟨Tryz.f11, Tryz.func11, rfl, rfl⟩
theorem b12 : Body Tryz.prog 12 := ⟨Tryz.f12, Tryz.func12, rfl, rfl⟩
theorem b13 : Body Tryz.prog 13 := ⟨Tryz.f13, Tryz.func13, rfl, rfl⟩
theorem b14 : Body Tryz.prog 14 := ⟨Tryz.f14, Tryz.func14, rfl, rfl⟩
theorem b15 : Body Tryz.prog 15 := ⟨Tryz.f15, Tryz.func15, rfl, rfl⟩
theorem b16 : Body Tryz.prog 16 := ⟨Tryz.f16, Tryz.func16, rfl, rfl⟩
theorem b17 : Body Tryz.prog 17 := ⟨Tryz.f17, Tryz.func17, rfl, rfl⟩
theorem b18 : Body Tryz.prog 18 := ⟨Tryz.f18, Tryz.func18, rfl, rfl⟩
theorem b19 : Body Tryz.prog 19 := ⟨Tryz.f19, Tryz.func19, rfl, rfl⟩
theorem b20 : Body Tryz.prog 20 := ⟨Tryz.f20, Tryz.func20, rfl, rfl⟩
theorem b21 : Body Tryz.prog 21 := ⟨Tryz.f21, Tryz.func21, rfl, rfl⟩
theorem b22 : Body Tryz.prog 22 := ⟨Tryz.f22, Tryz.func22, rfl, rfl⟩
theorem b23 : Body Tryz.prog 23 := ⟨Tryz.f23, Tryz.func23, rfl, rfl⟩
theorem b24 : Body Tryz.prog 24 := ⟨Tryz.f24, Tryz.func24, rfl, rfl⟩
theorem b25 : Body Tryz.prog 25 := ⟨Tryz.f25, Tryz.func25, rfl, rfl⟩
theorem b26 : Body Tryz.prog 26 := ⟨Tryz.f26, Tryz.func26, rfl, rfl⟩
theorem b27 : Body Tryz.prog 27 := ⟨Tryz.f27, Tryz.func27, rfl, rfl⟩
theorem b28 : Body Tryz.prog 28 := ⟨Tryz.f28, Tryz.func28, rfl, rfl⟩
theorem b29 : Body Tryz.prog 29 := ⟨Tryz.f29, Tryz.func29, rfl, rfl⟩
theorem b30 : Body Tryz.prog 30 := ⟨Tryz.f30, Tryz.func30, rfl, rfl⟩
theorem b31 : Body Tryz.prog 31 := ⟨Tryz.f31, Tryz.func31, rfl, rfl⟩
theorem b32 : Body Tryz.prog 32 := ⟨Tryz.f32, Tryz.func32, rfl, rfl⟩
theorem b33 : Body Tryz.prog 33 := ⟨Tryz.f33, Tryz.func33, rfl, rfl⟩
theorem b34 : Body Tryz.prog 34 := ⟨Tryz.f34, Tryz.func34, rfl, rfl⟩
theorem b35 : Body Tryz.prog 35 := ⟨Tryz.f35, Tryz.func35, rfl, rfl⟩
theorem b36 : Body Tryz.prog 36 := ⟨Tryz.f36, Tryz.func36, rfl, rfl⟩
theorem b37 : Body Tryz.prog 37 := ⟨Tryz.f37, Tryz.func37, rfl, rfl⟩
theorem b39 : Body Tryz.prog 39 := ⟨Tryz.f39, Tryz.func39, rfl, rfl⟩
theorem b40 : Body Tryz.prog 40 := ⟨Tryz.f40, Tryz.func40, rfl, rfl⟩
theorem b41 : Body Tryz.prog 41 := ⟨Tryz.f41, Tryz.func41, rfl, rfl⟩
theorem b42 : Body Tryz.prog 42 := ⟨Tryz.f42, Tryz.func42, rfl, rfl⟩
theorem b43 : Body Tryz.prog 43 := ⟨Tryz.f43, Tryz.func43, rfl, rfl⟩
theorem b44 : Body Tryz.prog 44 := ⟨Tryz.f44, Tryz.func44, rfl, rfl⟩
theorem b45 : Body Tryz.prog 45 := ⟨Tryz.f45, Tryz.func45, rfl, rfl⟩
theorem b46 : Body Tryz.prog 46 := ⟨Tryz.f46, Tryz.func46, rfl, rfl⟩
theorem b47 : Body Tryz.prog 47 := ⟨Tryz.f47, Tryz.func47, rfl, rfl⟩
theorem b48 : Body Tryz.prog 48 := ⟨Tryz.f48, Tryz.func48, rfl, rfl⟩
theorem b49 : Body Tryz.prog 49 := ⟨Tryz.f49, Tryz.func49, rfl, rfl⟩
theorem b50 : Body Tryz.prog 50 := ⟨Tryz.f50, Tryz.func50, rfl, rfl⟩
theorem b51 : Body Tryz.prog 51 := ⟨Tryz.f51, Tryz.func51, rfl, rfl⟩
theorem b54 : Body Tryz.prog 54 := ⟨Tryz.f54, Tryz.func54, rfl, rfl⟩
theorem b60 : Body Tryz.prog 60 := ⟨Tryz.f60, Tryz.func60, rfl, rfl⟩
theorem b61 : Body Tryz.prog 61 := ⟨Tryz.f61, Tryz.func61, rfl, rfl⟩
theorem b62 : Body Tryz.prog 62 := ⟨Tryz.f62, Tryz.func62, rfl, rfl⟩
theorem b63 : Body Tryz.prog 63 := ⟨Tryz.f63, Tryz.func63, rfl, rfl⟩
theorem b64 : Body Tryz.prog 64 := ⟨Tryz.f64, Tryz.func64, rfl, rfl⟩
theorem b65 : Body Tryz.prog 65 := ⟨Tryz.f65, Tryz.func65, rfl, rfl⟩
theorem b66 : Body Tryz.prog 66 := ⟨Tryz.f66, Tryz.func66, rfl, rfl⟩
theorem b67 : Body Tryz.prog 67 := ⟨Tryz.f67, Tryz.func67, rfl, rfl⟩
theorem b68 : Body Tryz.prog 68 := ⟨Tryz.f68, Tryz.func68, rfl, rfl⟩
theorem b69 : Body Tryz.prog 69 := ⟨Tryz.f69, Tryz.func69, rfl, rfl⟩
theorem b70 : Body Tryz.prog 70 := ⟨Tryz.f70, Tryz.func70, rfl, rfl⟩
theorem b71 : Body Tryz.prog 71 := ⟨Tryz.f71, Tryz.func71, rfl, rfl⟩
theorem b72 : Body Tryz.prog 72 := ⟨Tryz.f72, Tryz.func72, rfl, rfl⟩
theorem b73 : Body Tryz.prog 73 := ⟨Tryz.f73, Tryz.func73, rfl, rfl⟩
theorem b74 : Body Tryz.prog 74 := ⟨Tryz.f74, Tryz.func74, rfl, rfl⟩
theorem b75 : Body Tryz.prog 75 := ⟨Tryz.f75, Tryz.func75, rfl, rfl⟩
theorem b76 : Body Tryz.prog 76 := ⟨Tryz.f76, Tryz.func76, rfl, rfl⟩
theorem b77 : Body Tryz.prog 77 := ⟨Tryz.f77, Tryz.func77, rfl, rfl⟩
theorem b78 : Body Tryz.prog 78 := ⟨Tryz.f78, Tryz.func78, rfl, rfl⟩
theorem b79 : Body Tryz.prog 79 := ⟨Tryz.f79, Tryz.func79, rfl, rfl⟩
theorem b80 : Body Tryz.prog 80 := ⟨Tryz.f80, Tryz.func80, rfl, rfl⟩
theorem b83 : Body Tryz.prog 83 := ⟨Tryz.f83, Tryz.func83, rfl, rfl⟩
theorem b84 : Body Tryz.prog 84 := ⟨Tryz.f84, Tryz.func84, rfl, rfl⟩
theorem b88 : Body Tryz.prog 88 := ⟨Tryz.f88, Tryz.func88, rfl, rfl⟩
theorem b89 : Body Tryz.prog 89 := ⟨Tryz.f89, Tryz.func89, rfl, rfl⟩
theorem b90 : Body Tryz.prog 90 := ⟨Tryz.f90, Tryz.func90, rfl, rfl⟩
theorem b91 : Body Tryz.prog 91 := ⟨Tryz.f91, Tryz.func91, rfl, rfl⟩
theorem b92 : Body Tryz.prog 92 := ⟨Tryz.f92, Tryz.func92, rfl, rfl⟩
theorem b93 : Body Tryz.prog 93 := ⟨Tryz.f93, Tryz.func93, rfl, rfl⟩
theorem b94 : Body Tryz.prog 94 := ⟨Tryz.f94, Tryz.func94, rfl, rfl⟩
theorem b96 : Body Tryz.prog 96 := ⟨Tryz.f96, Tryz.func96, rfl, rfl⟩
theorem b98 : Body Tryz.prog 98 := ⟨Tryz.f98, Tryz.func98, rfl, rfl⟩
theorem b99 : Body Tryz.prog 99 := ⟨Tryz.f99, Tryz.func99, rfl, rfl⟩
theorem b100 : Body Tryz.prog 100 := ⟨Tryz.f100, Tryz.func100, rfl, rfl⟩
theorem b102 : Body Tryz.prog 102 := ⟨Tryz.f102, Tryz.func102, rfl, rfl⟩
theorem b103 : Body Tryz.prog 103 := ⟨Tryz.f103, Tryz.func103, rfl, rfl⟩
theorem b104 : Body Tryz.prog 104 := ⟨Tryz.f104, Tryz.func104, rfl, rfl⟩
theorem b105 : Body Tryz.prog 105 := ⟨Tryz.f105, Tryz.func105, rfl, rfl⟩
theorem b106 : Body Tryz.prog 106 := ⟨Tryz.f106, Tryz.func106, rfl, rfl⟩
theorem b107 : Body Tryz.prog 107 := ⟨Tryz.f107, Tryz.func107, rfl, rfl⟩
theorem b108 : Body Tryz.prog 108 := ⟨Tryz.f108, Tryz.func108, rfl, rfl⟩
theorem b109 : Body Tryz.prog 109 := ⟨Tryz.f109, Tryz.func109, rfl, rfl⟩
theorem b110 : Body Tryz.prog 110 := ⟨Tryz.f110, Tryz.func110, rfl, rfl⟩
theorem b111 : Body Tryz.prog 111 := ⟨Tryz.f111, Tryz.func111, rfl, rfl⟩
theorem b112 : Body Tryz.prog 112 := ⟨Tryz.f112, Tryz.func112, rfl, rfl⟩
theorem b113 : Body Tryz.prog 113 := ⟨Tryz.f113, Tryz.func113, rfl, rfl⟩
theorem b114 : Body Tryz.prog 114 := ⟨Tryz.f114, Tryz.func114, rfl, rfl⟩
theorem b115 : Body Tryz.prog 115 := ⟨Tryz.f115, Tryz.func115, rfl, rfl⟩
theorem b116 : Body Tryz.prog 116 := ⟨Tryz.f116, Tryz.func116, rfl, rfl⟩
theorem b117 : Body Tryz.prog 117 := ⟨Tryz.f117, Tryz.func117, rfl, rfl⟩
theorem b118 : Body Tryz.prog 118 := ⟨Tryz.f118, Tryz.func118, rfl, rfl⟩
theorem b119 : Body Tryz.prog 119 := ⟨Tryz.f119, Tryz.func119, rfl, rfl⟩
theorem b120 : Body Tryz.prog 120 := ⟨Tryz.f120, Tryz.func120, rfl, rfl⟩
theorem b132 : Body Tryz.prog 132 := ⟨Tryz.f132, Tryz.func132, rfl, rfl⟩
theorem b146 : Body Tryz.prog 146 := ⟨Tryz.f146, Tryz.func146, rfl, rfl⟩
theorem b149 : Body Tryz.prog 149 := ⟨Tryz.f149, Tryz.func149, rfl, rfl⟩
theorem b150 : Body Tryz.prog 150 := ⟨Tryz.f150, Tryz.func150, rfl, rfl⟩
theorem b151 : Body Tryz.prog 151 := ⟨Tryz.f151, Tryz.func151, rfl, rfl⟩
theorem b152 : Body Tryz.prog 152 := ⟨Tryz.f152, Tryz.func152, rfl, rfl⟩
theorem b174 : Body Tryz.prog 174 := ⟨Tryz.f174, Tryz.func174, rfl, rfl⟩
theorem b175 : Body Tryz.prog 175 := ⟨Tryz.f175, Tryz.func175, rfl, rfl⟩
theorem b176 : Body Tryz.prog 176 := ⟨Tryz.f176, Tryz.func176, rfl, rfl⟩
theorem zr {Q : Exit → Act → World → Prop} {id : Nat} {l : List Oper} {st : Go.Vc.St} (h : Go.Vc.run Tryz.prog tab l.toArray l st (fun st' => st'.atEnd (Q .normal))) : Go.Vc.At st ((Code.region id l.toArray false).wp Tryz.prog Q) := Go.Vc.At.region tab_ok h
theorem zq {Q : Exit → Act → World → Prop} {x y : Code} {st : Go.Vc.St} (h : Go.Vc.At st (x.wp Tryz.prog (Exit.then (y.wp Tryz.prog Q) Q))) : Go.Vc.At st ((Code.seq x y).wp Tryz.prog Q) := Go.Vc.At.seq h
end Go.Proofs.YtgpgbiklefkjjaaGreatDoor
namespace Go.Proofs
open Go.Shelf
def Tryz.lays169_ren : Go.Shelf.Ren := ⟨fun | 169 => 76 | n => n, fun | 70 => 128 | 9 => 9 | 0 => 0 | 72 => 131 | 37 => 129 | 127 => 160 | 3 => 3 | 5 => 5 | n => n, fun | n => n⟩
theorem Tryz.lays169 : Go.Proofs.Lays.n169 Tryz.prog Tryz.lays169_ren := {
 mixed := by kernel_rfl
 f169 := Tryz.func76.trans (congrArg some (by kernel_rfl))
 t0 := Tryz.underlying0
 a0 := Tryz.isAgg0
 z0 := Tryz.sizeOf0
 v0 := Tryz.zeroValue0
 t3 := Tryz.underlying3
 a3 := Tryz.isAgg3
 z3 := Tryz.sizeOf3
 v3 := Tryz.zeroValue3
 t9 := Tryz.underlying9
 a9 := Tryz.isAgg9
 z9 := Tryz.sizeOf9
 v9 := Tryz.zeroValue9
 t37 := Tryz.underlying129
 a37 := Tryz.isAgg129
 z37 := Tryz.sizeOf129
 v37 := Tryz.zeroValue129
 t70 := Tryz.underlying128
 a70 := Tryz.isAgg128
 z70 := Tryz.sizeOf128
 v70 := Tryz.zeroValue128
 t72 := Tryz.underlying131
 a72 := Tryz.isAgg131
 z72 := Tryz.sizeOf131
 v72 := Tryz.zeroValue131
 t127 := Tryz.underlying160
 a127 := Tryz.isAgg160
 z127 := Tryz.sizeOf160
 v127 := Tryz.zeroValue160 }
theorem Tryz.Builder_Extra_169 : Builder.Extra Tryz.prog Tryz.lays169_ren := {
 sizeBuilder := by kernel_rfl
 liesBuilder := by kernel_rfl
 t5 := Tryz.underlying5
 a5 := Tryz.isAgg5
 z5 := Tryz.sizeOf5
 v5 := Tryz.zeroValue5
 infoByte := by kernel_rfl
 cellsByte := by kernel_rfl
 sizeByte := by kernel_rfl
 neB5 := by decide }
open Go.RowKit in
theorem Tryz.Builder_String_any (B b : Nat) (l : List UInt8) (w : World) (h : Lib.IsBuilder 131 5 B b (Lib.byteCells l) w) (hBw : B ≤ w.heap.size) :
  Calls Tryz.prog 76 #[.pointer (some ⟨b, 0, none⟩)] w fun e w' => e = .returned (.string ⟨l.toArray⟩) ∧ Below B w w' := Any.Builder_String_any Tryz.lays169 Tryz.Builder_Extra_169 B b l w h hBw
def Tryz.lays137_ren : Go.Shelf.Ren := ⟨fun | 137 => 174 | 217 => 201 | 266 => 223 | n => n, fun | 9 => 9 | 5 => 5 | 3 => 3 | n => n, fun | n => n⟩
theorem Tryz.lays137 : Go.Proofs.Lays.n137 Tryz.prog Tryz.lays137_ren := {
 mixed := by kernel_rfl
 f137 := Tryz.func174.trans (congrArg some (by kernel_rfl))
 f217 := Tryz.func201.trans (congrArg some (by kernel_rfl))
 f266 := Tryz.func223.trans (congrArg some (by kernel_rfl))
 t3 := Tryz.underlying3
 a3 := Tryz.isAgg3
 z3 := Tryz.sizeOf3
 v3 := Tryz.zeroValue3
 t5 := Tryz.underlying5
 a5 := Tryz.isAgg5
 z5 := Tryz.sizeOf5
 v5 := Tryz.zeroValue5
 t9 := Tryz.underlying9
 a9 := Tryz.isAgg9
 z9 := Tryz.sizeOf9
 v9 := Tryz.zeroValue9 }
open Go.RowKit in
theorem Tryz.strings_IndexByte (s : ByteArray) (c : Int) (w : World) :
  Calls Tryz.prog 174 #[.string s, .int .u8 c] w fun e w' => e = .returned (.int .i64 (Lib.indexByte s.data.toList c.toNat.toUInt8)) ∧ w' = w := Any.strings_IndexByte Tryz.lays137 s c w
def Tryz.lays103_ren : Go.Shelf.Ren := ⟨fun | 103 => 176 | 210 => 204 | 206 => 229 | n => n, fun | 9 => 9 | 4 => 4 | 24 => 210 | 3 => 3 | n => n, fun | n => n⟩
theorem Tryz.lays103 : Go.Proofs.Lays.n103 Tryz.prog Tryz.lays103_ren := {
 mixed := by kernel_rfl
 f103 := Tryz.func176.trans (congrArg some (by kernel_rfl))
 f206 := Tryz.func229.trans (congrArg some (by kernel_rfl))
 f210 := Tryz.func204.trans (congrArg some (by kernel_rfl))
 t3 := Tryz.underlying3
 a3 := Tryz.isAgg3
 z3 := Tryz.sizeOf3
 v3 := Tryz.zeroValue3
 t4 := Tryz.underlying4
 a4 := Tryz.isAgg4
 z4 := Tryz.sizeOf4
 v4 := Tryz.zeroValue4
 t9 := Tryz.underlying9
 a9 := Tryz.isAgg9
 z9 := Tryz.sizeOf9
 v9 := Tryz.zeroValue9
 t24 := Tryz.underlying210
 a24 := Tryz.isAgg210
 z24 := Tryz.sizeOf210
 v24 := Tryz.zeroValue210 }
open Go.RowKit in
theorem Tryz.strings_CutPrefix (s p : ByteArray) (w : World) :
  Calls Tryz.prog 176 #[.string s, .string p] w fun e w' => e = .returned (.tuple #[.string ⟨(Lib.trimPrefix s.data.toList p.data.toList).toArray⟩, .bool (Lib.hasPrefix s.data.toList p.data.toList)]) ∧ w' = w := Any.strings_CutPrefix Tryz.lays103 s p w
def Tryz.lays172_ren : Go.Shelf.Ren := ⟨fun | 172 => 175 | 244 => 202 | 245 => 203 | 247 => 224 | 279 => 225 | 280 => 226 | 281 => 227 | 282 => 228 | 287 => 259 | 316 => 260 | 171 => 112 | 205 => 261 | 321 => 313 | 322 => 314 | 243 => 148 | 246 => 173 | 283 => 197 | 284 => 198 | 285 => 199 | 286 => 200 | 129 => 130 | 317 => 219 | 318 => 220 | 319 => 221 | 320 => 222 | 337 => 257 | 338 => 258 | n => n, fun | 9 => 9 | 3 => 3 | 75 => 133 | 76 => 134 | 4 => 4 | 5 => 5 | 167 => 270 | 37 => 129 | 0 => 0 | 85 => 271 | 2 => 2 | 168 => 273 | 53 => 116 | 175 => 306 | 46 => 54 | 210 => 309 | 127 => 160 | 145 => 380 | 143 => 378 | 21 => 21 | 171 => 242 | 173 => 244 | 212 => 268 | 51 => 114 | 20 => 20 | 213 => 269 | 232 => 374 | 233 => 375 | 80 => 139 | n => n, fun | 15 => 3 | 16 => 4 | 17 => 2 | 18 => 5 | 19 => 6 | n => n⟩
def Tryz.laysM246_ren : Go.Shelf.Ren := ⟨fun | 246 => 173 | 283 => 197 | 284 => 198 | 285 => 199 | 286 => 200 | 129 => 130 | 317 => 219 | 318 => 220 | 319 => 221 | 320 => 222 | 337 => 257 | 338 => 258 | n => n, fun | 2 => 2 | 3 => 3 | 9 => 9 | 4 => 4 | 171 => 242 | 0 => 0 | 53 => 116 | 37 => 129 | 5 => 5 | 173 => 244 | 212 => 268 | 51 => 114 | 20 => 20 | 213 => 269 | 46 => 54 | 232 => 374 | 233 => 375 | n => n, fun | 17 => 2 | 18 => 5 | 19 => 6 | n => n⟩
def Tryz.laysM243_ren : Go.Shelf.Ren := ⟨fun | 243 => 148 | 246 => 173 | 283 => 197 | 284 => 198 | 285 => 199 | 286 => 200 | 129 => 130 | 317 => 219 | 318 => 220 | 319 => 221 | 320 => 222 | 337 => 257 | 338 => 258 | n => n, fun | 3 => 3 | 9 => 9 | 2 => 2 | 4 => 4 | 171 => 242 | 0 => 0 | 53 => 116 | 37 => 129 | 5 => 5 | 173 => 244 | 212 => 268 | 51 => 114 | 20 => 20 | 213 => 269 | 46 => 54 | 232 => 374 | 233 => 375 | n => n, fun | 17 => 2 | 18 => 5 | 19 => 6 | n => n⟩
def Tryz.laysM171_ren : Go.Shelf.Ren := ⟨fun | 171 => 112 | 243 => 148 | 246 => 173 | 283 => 197 | 284 => 198 | 285 => 199 | 286 => 200 | 129 => 130 | 317 => 219 | 318 => 220 | 319 => 221 | 320 => 222 | 337 => 257 | 338 => 258 | n => n, fun | 3 => 3 | 9 => 9 | 2 => 2 | 4 => 4 | 171 => 242 | 0 => 0 | 53 => 116 | 37 => 129 | 5 => 5 | 173 => 244 | 212 => 268 | 51 => 114 | 20 => 20 | 213 => 269 | 46 => 54 | 232 => 374 | 233 => 375 | n => n, fun | 17 => 2 | 18 => 5 | 19 => 6 | n => n⟩
theorem Tryz.laysM171 : Go.Proofs.LaysM.n171 Tryz.prog Tryz.laysM171_ren := {
 mixed := by kernel_rfl
 f129 := Tryz.func130.trans (congrArg some (by kernel_rfl))
 f171 := Tryz.func112.trans (congrArg some (by kernel_rfl))
 f243 := Tryz.func148.trans (congrArg some (by kernel_rfl))
 f246 := Tryz.func173.trans (congrArg some (by kernel_rfl))
 f283 := Tryz.func197.trans (congrArg some (by kernel_rfl))
 f284 := Tryz.func198.trans (congrArg some (by kernel_rfl))
 f285 := Tryz.func199.trans (congrArg some (by kernel_rfl))
 f286 := Tryz.func200.trans (congrArg some (by kernel_rfl))
 f317 := Tryz.func219.trans (congrArg some (by kernel_rfl))
 f318 := Tryz.func220.trans (congrArg some (by kernel_rfl))
 f319 := Tryz.func221.trans (congrArg some (by kernel_rfl))
 f320 := Tryz.func222.trans (congrArg some (by kernel_rfl))
 f337 := Tryz.func257.trans (congrArg some (by kernel_rfl))
 f338 := Tryz.func258.trans (congrArg some (by kernel_rfl))
 t0 := Tryz.underlying0
 a0 := Tryz.isAgg0
 z0 := Tryz.sizeOf0
 v0 := Tryz.zeroValue0
 t2 := Tryz.underlying2
 a2 := Tryz.isAgg2
 z2 := Tryz.sizeOf2
 v2 := Tryz.zeroValue2
 t3 := Tryz.underlying3
 a3 := Tryz.isAgg3
 z3 := Tryz.sizeOf3
 v3 := Tryz.zeroValue3
 t4 := Tryz.underlying4
 a4 := Tryz.isAgg4
 z4 := Tryz.sizeOf4
 v4 := Tryz.zeroValue4
 t5 := Tryz.underlying5
 a5 := Tryz.isAgg5
 z5 := Tryz.sizeOf5
 v5 := Tryz.zeroValue5
 t9 := Tryz.underlying9
 a9 := Tryz.isAgg9
 z9 := Tryz.sizeOf9
 v9 := Tryz.zeroValue9
 t20 := Tryz.underlying20
 a20 := Tryz.isAgg20
 z20 := Tryz.sizeOf20
 v20 := Tryz.zeroValue20
 t37 := Tryz.underlying129
 a37 := Tryz.isAgg129
 z37 := Tryz.sizeOf129
 v37 := Tryz.zeroValue129
 t46 := Tryz.underlying54
 a46 := Tryz.isAgg54
 z46 := Tryz.sizeOf54
 v46 := Tryz.zeroValue54
 t51 := Tryz.underlying114
 a51 := Tryz.isAgg114
 z51 := Tryz.sizeOf114
 v51 := Tryz.zeroValue114
 t53 := Tryz.underlying116
 a53 := Tryz.isAgg116
 z53 := Tryz.sizeOf116
 v53 := Tryz.zeroValue116
 t171 := Tryz.underlying242
 a171 := Tryz.isAgg242
 z171 := Tryz.sizeOf242
 v171 := Tryz.zeroValue242
 t173 := Tryz.underlying244
 a173 := Tryz.isAgg244
 z173 := Tryz.sizeOf244
 v173 := Tryz.zeroValue244
 t212 := Tryz.underlying268
 a212 := Tryz.isAgg268
 z212 := Tryz.sizeOf268
 v212 := Tryz.zeroValue268
 t213 := Tryz.underlying269
 a213 := Tryz.isAgg269
 z213 := Tryz.sizeOf269
 t232 := Tryz.underlying374
 a232 := Tryz.isAgg374
 z232 := Tryz.sizeOf374
 v232 := Tryz.zeroValue374
 t233 := Tryz.underlying375
 a233 := Tryz.isAgg375
 z233 := Tryz.sizeOf375
 v233 := Tryz.zeroValue375
 g17 := by kernel_rfl
 g18 := by kernel_rfl
 g19 := by kernel_rfl
 i0 := by kernel_rfl
 i2 := by kernel_rfl
 i3 := by kernel_rfl
 i4 := by kernel_rfl
 i5 := by kernel_rfl
 i9 := by kernel_rfl
 i20 := by kernel_rfl
 i37 := by kernel_rfl
 i46 := by kernel_rfl
 i51 := by kernel_rfl
 i53 := by kernel_rfl
 i171 := by kernel_rfl
 i173 := by kernel_rfl
 i212 := by kernel_rfl
 i232 := by kernel_rfl
 i233 := by kernel_rfl
 m17 := by kernel_rfl
 m18 := by kernel_rfl
 m19 := by kernel_rfl }
open Go.RowKit Go.Sort Go.Lib in
theorem Tryz.strconv_Itoa (n : Int) (h0 : -9223372036854775808 ≤ n) (h1 : n ≤ 9223372036854775807) (w : World) (htab : Lib.TabIs Tryz.prog w "internal/strconv.uint64pow10" .u64 Lib.pow10Tab) :
  Calls Tryz.prog 112 #[.int .i64 n] w fun e w' => e = .returned (.string ⟨(Lib.itoa n).toArray⟩) ∧ ∃ k os, w' = grow (w.drewN k) os := Any.strconv_Itoa Tryz.laysM171 n h0 h1 w htab
def Tryz.laysC172_ren : Go.Shelf.Ren := ⟨fun | 172 => 175 | 244 => 202 | 245 => 203 | 247 => 224 | 279 => 225 | 280 => 226 | 281 => 227 | 282 => 228 | 287 => 259 | 316 => 260 | 171 => 112 | 205 => 261 | 321 => 313 | 322 => 314 | 243 => 148 | 246 => 173 | 283 => 197 | 284 => 198 | 285 => 199 | 286 => 200 | 129 => 130 | 317 => 219 | 318 => 220 | 319 => 221 | 320 => 222 | 337 => 257 | 338 => 258 | n => n, fun | 9 => 9 | 3 => 3 | 75 => 133 | 76 => 134 | 4 => 4 | 5 => 5 | 167 => 270 | 37 => 129 | 0 => 0 | 85 => 271 | 2 => 2 | 168 => 273 | 53 => 116 | 175 => 306 | 46 => 54 | 210 => 309 | 127 => 160 | 145 => 380 | 143 => 378 | 21 => 21 | 171 => 242 | 173 => 244 | 212 => 268 | 51 => 114 | 20 => 20 | 213 => 269 | 232 => 374 | 233 => 375 | 80 => 139 | n => n, fun | 15 => 3 | 16 => 4 | 17 => 2 | 18 => 5 | 19 => 6 | n => n⟩
theorem Tryz.laysC172 : Go.Proofs.LaysC.n172 Tryz.prog Tryz.laysC172_ren := {
 mixed := by kernel_rfl
 f129 := Tryz.func130.trans (congrArg some (by kernel_rfl))
 f171 := Tryz.func112.trans (congrArg some (by kernel_rfl))
 f172 := Tryz.func175.trans (congrArg some (by kernel_rfl))
 f205 := Tryz.func261.trans (congrArg some (by kernel_rfl))
 f243 := Tryz.func148.trans (congrArg some (by kernel_rfl))
 f244 := Tryz.func202.trans (congrArg some (by kernel_rfl))
 f245 := Tryz.func203.trans (congrArg some (by kernel_rfl))
 f246 := Tryz.func173.trans (congrArg some (by kernel_rfl))
 f247 := Tryz.func224.trans (congrArg some (by kernel_rfl))
 f279 := Tryz.func225.trans (congrArg some (by kernel_rfl))
 f280 := Tryz.func226.trans (congrArg some (by kernel_rfl))
 f281 := Tryz.func227.trans (congrArg some (by kernel_rfl))
 f282 := Tryz.func228.trans (congrArg some (by kernel_rfl))
 f283 := Tryz.func197.trans (congrArg some (by kernel_rfl))
 f284 := Tryz.func198.trans (congrArg some (by kernel_rfl))
 f285 := Tryz.func199.trans (congrArg some (by kernel_rfl))
 f286 := Tryz.func200.trans (congrArg some (by kernel_rfl))
 f287 := Tryz.func259.trans (congrArg some (by kernel_rfl))
 f316 := Tryz.func260.trans (congrArg some (by kernel_rfl))
 f317 := Tryz.func219.trans (congrArg some (by kernel_rfl))
 f318 := Tryz.func220.trans (congrArg some (by kernel_rfl))
 f319 := Tryz.func221.trans (congrArg some (by kernel_rfl))
 f320 := Tryz.func222.trans (congrArg some (by kernel_rfl))
 f321 := Tryz.func313.trans (congrArg some (by kernel_rfl))
 f322 := Tryz.func314.trans (congrArg some (by kernel_rfl))
 f337 := Tryz.func257.trans (congrArg some (by kernel_rfl))
 f338 := Tryz.func258.trans (congrArg some (by kernel_rfl))
 t0 := Tryz.underlying0
 a0 := Tryz.isAgg0
 z0 := Tryz.sizeOf0
 v0 := Tryz.zeroValue0
 t2 := Tryz.underlying2
 a2 := Tryz.isAgg2
 z2 := Tryz.sizeOf2
 v2 := Tryz.zeroValue2
 t3 := Tryz.underlying3
 a3 := Tryz.isAgg3
 z3 := Tryz.sizeOf3
 v3 := Tryz.zeroValue3
 t4 := Tryz.underlying4
 a4 := Tryz.isAgg4
 z4 := Tryz.sizeOf4
 v4 := Tryz.zeroValue4
 t5 := Tryz.underlying5
 a5 := Tryz.isAgg5
 z5 := Tryz.sizeOf5
 v5 := Tryz.zeroValue5
 t9 := Tryz.underlying9
 a9 := Tryz.isAgg9
 z9 := Tryz.sizeOf9
 v9 := Tryz.zeroValue9
 t20 := Tryz.underlying20
 a20 := Tryz.isAgg20
 z20 := Tryz.sizeOf20
 v20 := Tryz.zeroValue20
 t21 := Tryz.underlying21
 a21 := Tryz.isAgg21
 z21 := Tryz.sizeOf21
 v21 := Tryz.zeroValue21
 t37 := Tryz.underlying129
 a37 := Tryz.isAgg129
 z37 := Tryz.sizeOf129
 v37 := Tryz.zeroValue129
 t46 := Tryz.underlying54
 a46 := Tryz.isAgg54
 z46 := Tryz.sizeOf54
 v46 := Tryz.zeroValue54
 t51 := Tryz.underlying114
 a51 := Tryz.isAgg114
 z51 := Tryz.sizeOf114
 v51 := Tryz.zeroValue114
 t53 := Tryz.underlying116
 a53 := Tryz.isAgg116
 z53 := Tryz.sizeOf116
 v53 := Tryz.zeroValue116
 t75 := Tryz.underlying133
 a75 := Tryz.isAgg133
 z75 := Tryz.sizeOf133
 v75 := Tryz.zeroValue133
 t76 := Tryz.underlying134
 a76 := Tryz.isAgg134
 z76 := Tryz.sizeOf134
 v76 := Tryz.zeroValue134
 t85 := Tryz.underlying271
 a85 := Tryz.isAgg271
 z85 := Tryz.sizeOf271
 v85 := Tryz.zeroValue271
 t127 := Tryz.underlying160
 a127 := Tryz.isAgg160
 z127 := Tryz.sizeOf160
 v127 := Tryz.zeroValue160
 t143 := Tryz.underlying378
 a143 := Tryz.isAgg378
 z143 := Tryz.sizeOf378
 v143 := Tryz.zeroValue378
 t145 := Tryz.underlying380
 a145 := Tryz.isAgg380
 z145 := Tryz.sizeOf380
 v145 := Tryz.zeroValue380
 t167 := Tryz.underlying270
 a167 := Tryz.isAgg270
 z167 := Tryz.sizeOf270
 v167 := Tryz.zeroValue270
 t168 := Tryz.underlying273
 a168 := Tryz.isAgg273
 z168 := Tryz.sizeOf273
 v168 := Tryz.zeroValue273
 t171 := Tryz.underlying242
 a171 := Tryz.isAgg242
 z171 := Tryz.sizeOf242
 v171 := Tryz.zeroValue242
 t173 := Tryz.underlying244
 a173 := Tryz.isAgg244
 z173 := Tryz.sizeOf244
 v173 := Tryz.zeroValue244
 t175 := Tryz.underlying306
 a175 := Tryz.isAgg306
 z175 := Tryz.sizeOf306
 v175 := Tryz.zeroValue306
 t210 := Tryz.underlying309
 a210 := Tryz.isAgg309
 z210 := Tryz.sizeOf309
 v210 := Tryz.zeroValue309
 t212 := Tryz.underlying268
 a212 := Tryz.isAgg268
 z212 := Tryz.sizeOf268
 v212 := Tryz.zeroValue268
 t213 := Tryz.underlying269
 a213 := Tryz.isAgg269
 z213 := Tryz.sizeOf269
 t232 := Tryz.underlying374
 a232 := Tryz.isAgg374
 z232 := Tryz.sizeOf374
 v232 := Tryz.zeroValue374
 t233 := Tryz.underlying375
 a233 := Tryz.isAgg375
 z233 := Tryz.sizeOf375
 v233 := Tryz.zeroValue375
 g15 := by kernel_rfl
 g16 := by kernel_rfl
 g17 := by kernel_rfl
 g18 := by kernel_rfl
 g19 := by kernel_rfl
 t80 := Tryz.underlying139
 a80 := Tryz.isAgg139
 z80 := Tryz.sizeOf139
 v80 := Tryz.zeroValue139
 i0 := by kernel_rfl
 i2 := by kernel_rfl
 i3 := by kernel_rfl
 i4 := by kernel_rfl
 i5 := by kernel_rfl
 i9 := by kernel_rfl
 i20 := by kernel_rfl
 i21 := by kernel_rfl
 i37 := by kernel_rfl
 i46 := by kernel_rfl
 i51 := by kernel_rfl
 i53 := by kernel_rfl
 i75 := by kernel_rfl
 i76 := by kernel_rfl
 i80 := by kernel_rfl
 i85 := by kernel_rfl
 i127 := by kernel_rfl
 i143 := by kernel_rfl
 i145 := by kernel_rfl
 i167 := by kernel_rfl
 i168 := by kernel_rfl
 i171 := by kernel_rfl
 i173 := by kernel_rfl
 i175 := by kernel_rfl
 i210 := by kernel_rfl
 i212 := by kernel_rfl
 i232 := by kernel_rfl
 i233 := by kernel_rfl
 m15 := by kernel_rfl
 m16 := by kernel_rfl
 m17 := by kernel_rfl
 m18 := by kernel_rfl
 m19 := by kernel_rfl
 c0 := by kernel_rfl
 c2 := by kernel_rfl
 c3 := by kernel_rfl
 c4 := by kernel_rfl
 c5 := by kernel_rfl
 c9 := by kernel_rfl
 c20 := by kernel_rfl
 c21 := by kernel_rfl
 c37 := by kernel_rfl
 c46 := by kernel_rfl
 c51 := by kernel_rfl
 c53 := by kernel_rfl
 c75 := by kernel_rfl
 c76 := by kernel_rfl
 c80 := by kernel_rfl
 c85 := by kernel_rfl
 c127 := by kernel_rfl
 c143 := by kernel_rfl
 c145 := by kernel_rfl
 c167 := by kernel_rfl
 c168 := by kernel_rfl
 c171 := by kernel_rfl
 c173 := by kernel_rfl
 c175 := by kernel_rfl
 c210 := by kernel_rfl
 c212 := by kernel_rfl
 c213 := by kernel_rfl
 c232 := by kernel_rfl
 c233 := by kernel_rfl }
open Go.RowKit in
theorem Tryz.strconv_Atoi_ok (s : ByteArray) (hmax : s.size ≤ 9223372036854775806) (v : Int) (h : Lib.atoiAll s.data.toList = .ok v) (w : World) :
  Calls Tryz.prog 175 #[.string s] w fun e w' => e = .returned (.tuple #[.int .i64 v, .nilIface]) ∧ (w' = w ∨ ∃ t, w' = Lib.bytesWorld w 5 t) := Any.strconv_Atoi_ok Tryz.laysC172 s hmax v h w
open Go.RowKit in
theorem Tryz.strconv_Atoi_range (s : ByteArray) (hlim : s.size ≤ 281474976710656) (h : Lib.atoiAll s.data.toList = .range) (ev : Value) (w : World) (hv : w.cell? ⟨4, 0, none⟩ = some ev) (hev : ev = .nilIface ∨ ∃ te pe, ev = .iface te pe) :
  Calls Tryz.prog 175 #[.string s] w fun e w' => ∃ N, e = .returned (.tuple #[.int .i64 (Lib.atoiSat s.data.toList), .iface 273 (.pointer (some ⟨N, 0, none⟩))]) ∧ w.heap.size ≤ N ∧ w'.heap[N]? = some (.cells #[.string ⟨#[65, 116, 111, 105]⟩, .string s, ev] 309 (0, 0)) ∧ Below w.heap.size w w' := Any.strconv_Atoi_range Tryz.laysC172 s hlim h ev w hv hev
def Tryz.lays189_ren : Go.Shelf.Ren := ⟨fun | 189 => 64 | 125 => 82 | 257 => 101 | 128 => 129 | 129 => 130 | 294 => 137 | 295 => 138 | 296 => 139 | 297 => 140 | 298 => 141 | 299 => 142 | 216 => 143 | 300 => 144 | 301 => 145 | 328 => 169 | 329 => 154 | 330 => 155 | 331 => 170 | 332 => 171 | 215 => 100 | 343 => 193 | n => n, fun | 28 => 23 | 3 => 3 | 46 => 54 | 0 => 0 | 51 => 114 | 53 => 116 | 4 => 4 | 183 => 167 | 182 => 166 | 131 => 121 | 5 => 5 | 9 => 9 | 218 => 192 | 222 => 196 | 228 => 212 | 229 => 213 | n => n, fun | n => n⟩
theorem Tryz.lays189 : Go.Proofs.Lays.n189 Tryz.prog Tryz.lays189_ren := {
 mixed := by kernel_rfl
 f125 := Tryz.func82.trans (congrArg some (by kernel_rfl))
 f128 := Tryz.func129.trans (congrArg some (by kernel_rfl))
 f129 := Tryz.func130.trans (congrArg some (by kernel_rfl))
 f189 := Tryz.func64.trans (congrArg some (by kernel_rfl))
 f215 := Tryz.func100.trans (congrArg some (by kernel_rfl))
 f216 := Tryz.func143.trans (congrArg some (by kernel_rfl))
 f257 := Tryz.func101.trans (congrArg some (by kernel_rfl))
 f294 := Tryz.func137.trans (congrArg some (by kernel_rfl))
 f295 := Tryz.func138.trans (congrArg some (by kernel_rfl))
 f296 := Tryz.func139.trans (congrArg some (by kernel_rfl))
 f297 := Tryz.func140.trans (congrArg some (by kernel_rfl))
 f298 := Tryz.func141.trans (congrArg some (by kernel_rfl))
 f299 := Tryz.func142.trans (congrArg some (by kernel_rfl))
 f300 := Tryz.func144.trans (congrArg some (by kernel_rfl))
 f301 := Tryz.func145.trans (congrArg some (by kernel_rfl))
 f328 := Tryz.func169.trans (congrArg some (by kernel_rfl))
 f329 := Tryz.func154.trans (congrArg some (by kernel_rfl))
 f330 := Tryz.func155.trans (congrArg some (by kernel_rfl))
 f331 := Tryz.func170.trans (congrArg some (by kernel_rfl))
 f332 := Tryz.func171.trans (congrArg some (by kernel_rfl))
 f343 := Tryz.func193.trans (congrArg some (by kernel_rfl))
 t0 := Tryz.underlying0
 a0 := Tryz.isAgg0
 z0 := Tryz.sizeOf0
 v0 := Tryz.zeroValue0
 t3 := Tryz.underlying3
 a3 := Tryz.isAgg3
 z3 := Tryz.sizeOf3
 v3 := Tryz.zeroValue3
 t4 := Tryz.underlying4
 a4 := Tryz.isAgg4
 z4 := Tryz.sizeOf4
 v4 := Tryz.zeroValue4
 t5 := Tryz.underlying5
 a5 := Tryz.isAgg5
 z5 := Tryz.sizeOf5
 v5 := Tryz.zeroValue5
 t9 := Tryz.underlying9
 a9 := Tryz.isAgg9
 z9 := Tryz.sizeOf9
 v9 := Tryz.zeroValue9
 t28 := Tryz.underlying23
 a28 := Tryz.isAgg23
 z28 := Tryz.sizeOf23
 v28 := Tryz.zeroValue23
 t46 := Tryz.underlying54
 a46 := Tryz.isAgg54
 z46 := Tryz.sizeOf54
 v46 := Tryz.zeroValue54
 t51 := Tryz.underlying114
 a51 := Tryz.isAgg114
 z51 := Tryz.sizeOf114
 v51 := Tryz.zeroValue114
 t53 := Tryz.underlying116
 a53 := Tryz.isAgg116
 z53 := Tryz.sizeOf116
 v53 := Tryz.zeroValue116
 t131 := Tryz.underlying121
 a131 := Tryz.isAgg121
 z131 := Tryz.sizeOf121
 v131 := Tryz.zeroValue121
 t182 := Tryz.underlying166
 a182 := Tryz.isAgg166
 z182 := Tryz.sizeOf166
 v182 := Tryz.zeroValue166
 t183 := Tryz.underlying167
 a183 := Tryz.isAgg167
 z183 := Tryz.sizeOf167
 v183 := Tryz.zeroValue167
 t218 := Tryz.underlying192
 a218 := Tryz.isAgg192
 z218 := Tryz.sizeOf192
 v218 := Tryz.zeroValue192
 t222 := Tryz.underlying196
 a222 := Tryz.isAgg196
 z222 := Tryz.sizeOf196
 v222 := Tryz.zeroValue196
 t228 := Tryz.underlying212
 a228 := Tryz.isAgg212
 z228 := Tryz.sizeOf212
 v228 := Tryz.zeroValue212
 t229 := Tryz.underlying213
 a229 := Tryz.isAgg213
 z229 := Tryz.sizeOf213
 v229 := Tryz.zeroValue213 }
open Go.Sort Go.RowKit in
theorem Tryz.slices_Sort_int (blk off cap : Nat) (zs : List Int) (w : World) (hH : Holds (Value.int .i64) w blk off zs.toArray) (hblk : blk < w.heap.size) (hsz : zs.length < 4611686018427387904) :
  Calls Tryz.prog 64 #[.slice (some ⟨blk, off, none⟩) zs.length cap] w fun e w' =>
   e = .returned (.tuple #[]) ∧ ∃ n os, w' = grow (putRow (Value.int .i64) (Sort.ahead w n) blk off (zs.mergeSort fun x y => decide (x ≤ y)).toArray) os := Any.slices_Sort_int Tryz.lays189 blk off cap zs w hH hblk hsz
def Tryz.lays151_ren : Go.Shelf.Ren := ⟨fun | 151 => 146 | 152 => 172 | 137 => 174 | 119 => 194 | 224 => 195 | 225 => 196 | 217 => 201 | 266 => 223 | n => n, fun | 9 => 9 | 21 => 21 | 4 => 4 | 3 => 3 | 5 => 5 | 0 => 0 | 46 => 54 | n => n, fun | n => n⟩
theorem Tryz.lays151 : Go.Proofs.Lays.n151 Tryz.prog Tryz.lays151_ren := {
 mixed := by kernel_rfl
 f119 := Tryz.func194.trans (congrArg some (by kernel_rfl))
 f137 := Tryz.func174.trans (congrArg some (by kernel_rfl))
 f151 := Tryz.func146.trans (congrArg some (by kernel_rfl))
 f152 := Tryz.func172.trans (congrArg some (by kernel_rfl))
 f217 := Tryz.func201.trans (congrArg some (by kernel_rfl))
 f224 := Tryz.func195.trans (congrArg some (by kernel_rfl))
 f225 := Tryz.func196.trans (congrArg some (by kernel_rfl))
 f266 := Tryz.func223.trans (congrArg some (by kernel_rfl))
 t0 := Tryz.underlying0
 a0 := Tryz.isAgg0
 z0 := Tryz.sizeOf0
 v0 := Tryz.zeroValue0
 t3 := Tryz.underlying3
 a3 := Tryz.isAgg3
 z3 := Tryz.sizeOf3
 v3 := Tryz.zeroValue3
 t4 := Tryz.underlying4
 a4 := Tryz.isAgg4
 z4 := Tryz.sizeOf4
 v4 := Tryz.zeroValue4
 t5 := Tryz.underlying5
 a5 := Tryz.isAgg5
 z5 := Tryz.sizeOf5
 v5 := Tryz.zeroValue5
 t9 := Tryz.underlying9
 a9 := Tryz.isAgg9
 z9 := Tryz.sizeOf9
 v9 := Tryz.zeroValue9
 t21 := Tryz.underlying21
 a21 := Tryz.isAgg21
 z21 := Tryz.sizeOf21
 v21 := Tryz.zeroValue21
 t46 := Tryz.underlying54
 a46 := Tryz.isAgg54
 z46 := Tryz.sizeOf54
 v46 := Tryz.zeroValue54 }
open Go.RowKit Go.Lib in
theorem Tryz.strings_ContainsRune_ascii (s : ByteArray) (r : Int) (w : World) (h0 : 0 ≤ r) (h1 : r < 128) :
  Calls Tryz.prog 146 #[.string s, .int .i32 r] w fun e w' => e = .returned (.bool (decide (0 ≤ Lib.indexByte s.data.toList r.toNat.toUInt8))) ∧ w' = w := Any.strings_ContainsRune_ascii Tryz.lays151 s r w h0 h1
open Go.RowKit Go.Sort in
theorem Tryz.slices_Sort_int_none (p : Option Addr) (cap : Nat) (w : World) :
  Calls Tryz.prog 64 #[.slice p 0 cap] w fun e w' => e = .returned (.tuple #[]) ∧ w' = w := Any.slices_Sort_int_none Tryz.lays189 p cap w
end Go.Proofs
namespace Go.Proofs.YtgpgbiklefkjjaaGreatDoor
open Go.Vc
@[reducible] def sv (l : List UInt8) : Value := .string (bs l)
@[reducible] def vI (n : Int) : Value := .int .i64 n
@[reducible] def rS (l : List UInt8) : RV := .s (.c (.s l))
def usesTab : List (List UInt8) := [[107, 116], [99], [99], [99, 119, 110, 109], [110, 114], [119, 115], [119, 109, 115], [99, 119, 109, 114, 115], [99, 110, 109, 114], [110, 114], [99, 110, 109, 116], [114, 116], [110, 114], [114], [99, 116], [119, 110], [99, 109], [99, 107], [110, 109, 114], [110, 109, 114], [110, 109, 114]]
structure Gl (w : World) : Prop where
 size : 8 ≤ w.heap.size
 uses : ∃ T, w.heap[0]? = some (.cells (usesTab.map sv).toArray T (0, 0))
 pow : Lib.TabIs Tryz.prog w "internal/strconv.uint64pow10" .u64 Lib.pow10Tab
 errS : ∃ te pe, w.cell? ⟨3, 0, none⟩ = some (.iface te pe)
 errR : ∃ te pe, w.cell? ⟨4, 0, none⟩ = some (.iface te pe)
theorem g2 : Tryz.prog.globalNamed "internal/strconv.uint64pow10" = some 2 := by kernel_rfl
theorem Gl.fr {S : List Nat} {w w' : World} (h : Gl w) (hf : Fr S w w') (hS : ∀ b ∈ S, 8 ≤ b) : Gl w' := by
 have hz := h.size
 have e : ∀ k, k < 8 → w'.heap[k]? = w.heap[k]? := fun k hk => hf.block k (by omega) fun hm => by have := hS k hm; omega
 have ec : ∀ k o, k < 8 → w'.cell? ⟨k, o, none⟩ = w.cell? ⟨k, o, none⟩ := fun k o hk => by simp only [World.cell?, e k hk]
 refine ⟨Nat.le_trans hz hf.size, ?_, ?_, ?_, ?_⟩
 ·rw [e 0 (by decide)]; exact h.uses
 ·have := h.pow
  unfold Lib.TabIs World.var? at this ⊢
  rw [g2] at this ⊢
  simp only [Option.bind_some] at this ⊢
  rw [e 2 (by decide)]; exact this
 ·rw [ec 3 0 (by decide)]; exact h.errS
 ·rw [ec 4 0 (by decide)]; exact h.errR
theorem Gl.ext {w w' : World} (h : Gl w) (hf : Ext w w') : Gl w' := h.fr hf (fun b hb => by cases hb)
def AnsP (P : Program) (f : FuncId) (args : List Value) (Good : RV → Prop) (w : World) : Prop :=
 Calls P f args.toArray w (fun e w' => ∃ r : RV, e = .returned r.den ∧ noPr r = true ∧ Good r ∧ Ext w w')
theorem ansP_call {P : Program} {f : FuncId} {args : List Value} {Good : RV → Prop} {st : St} {d : Option Nat} {K : St → Prop} (hb : Body P f) (h : ∀ w, Holds st w → AnsP P f args Good w)
  (hk : ∀ r, Good r → noPr r = true → goPut st d r K) : UCall P st f args d K :=
 .inl ⟨hb, fun hwf w hw => (h w hw).mono fun e w' ⟨r, he, hn, hg, hx⟩ => ⟨r, st, he, ⟨rfl, rfl, rfl, rfl⟩, hwf, noPr_ok hn, hw.ext hx, hk r hg hn⟩⟩
theorem ext_refl (w : World) : Ext w w := Fr.refl [] w
theorem itoa_c (n : Int) (h : inR n) (w : World) (hG : Gl w) : Ans Tryz.prog 112 [vI n] (rS (Lib.itoa n)) w :=
 (Tryz.strconv_Itoa n h.1 h.2 w hG.pow).mono fun e w' ⟨he, k, os, hw⟩ => ⟨he, hw ▸ Ext.of_below (Lib.below_grow _ w (Nat.le_refl _) k os)⟩
theorem bytesWorld_ext (w : World) (t : TypeId) (s : ByteArray) : Ext w (Lib.bytesWorld w t s) :=
 Ext.of_below (Lib.bytesWorld_below w t s)
theorem atoi_ok (l : List UInt8) (v : Int) (hl : l.length ≤ 1000) (h : Lib.atoiAll l = .ok v) (w : World) : Ans Tryz.prog 175 [sv l] (.tup [.c (.i v), .c (.x .nilIface)]) w :=
 (Tryz.strconv_Atoi_ok (bs l) (by rw [size_bs]; omega) v h w).mono fun e w' ⟨he, hw⟩ => ⟨he, by
  rcases hw with rfl | ⟨t, rfl⟩
  ·exact ext_refl _
  ·exact bytesWorld_ext _ _ _⟩
theorem atoi_bad (l : List UInt8) (hl : l.length ≤ 1000) (h : ∀ v, Lib.atoiAll l ≠ .ok v) (w : World) (hG : Gl w) : AnsP Tryz.prog 175 [sv l] (fun r => ∃ (n : Int) (t : TypeId) (u : Value), r = .tup [.c (.i n), .c (.x (.iface t u))]) w := by
 cases hc : Lib.atoiAll l
 ·rename_i v
  exact absurd hc (h v)
 ·skip
  obtain ⟨te, pe, he⟩ := hG.errS
  exact (Any.strconv_Atoi_syntax Tryz.laysC172 (bs l) (by rw [size_bs]; omega) hc _ w he (.inr ⟨_, _, rfl⟩)).mono fun e w' ⟨N, he, _, _, hb⟩ => ⟨.tup [.c (.i 0), .c (.x (.iface 273 (.pointer (some ⟨N, 0, none⟩))))], he, rfl, ⟨_, _, _, rfl⟩, Ext.of_below hb⟩
 ·skip
  obtain ⟨te, pe, he⟩ := hG.errR
  exact (Tryz.strconv_Atoi_range (bs l) (by rw [size_bs]; omega) hc _ w he (.inr ⟨_, _, rfl⟩)).mono fun e w' ⟨N, he, _, _, hb⟩ => ⟨.tup [.c (.i _), .c (.x (.iface 273 (.pointer (some ⟨N, 0, none⟩))))], he, rfl, ⟨_, _, _, rfl⟩, Ext.of_below hb⟩
theorem indexByte_c (l : List UInt8) (c : Int) (w : World) : Ans Tryz.prog 174 [sv l, .int .u8 c] (.i (Lib.indexByte l c.toNat.toUInt8)) w :=
 (Tryz.strings_IndexByte (bs l) c w).mono fun e w' ⟨he, hw⟩ => ⟨he, hw ▸ ext_refl _⟩
theorem cutPrefix_c (l p : List UInt8) (w : World) : Ans Tryz.prog 176 [sv l, sv p] (.tup [.c (.s (Lib.trimPrefix l p)), .c (.b (Lib.hasPrefix l p))]) w :=
 (Tryz.strings_CutPrefix (bs l) (bs p) w).mono fun e w' ⟨he, hw⟩ => ⟨he, hw ▸ ext_refl _⟩
theorem containsRune_c (l : List UInt8) (r : Int) (h0 : 0 ≤ r) (h1 : r < 128) (w : World) : Ans Tryz.prog 146 [sv l, .int .i32 r] (.b (decide (0 ≤ Lib.indexByte l r.toNat.toUInt8))) w :=
 (Tryz.strings_ContainsRune_ascii (bs l) r w h0 h1).mono fun e w' ⟨he, hw⟩ => ⟨he, hw ▸ ext_refl _⟩
end Go.Proofs.YtgpgbiklefkjjaaGreatDoor
