/- Texts that the law leans on. -/
import Derived.Test.YtdigebokbhmfaaaGreatDoorOVcFam
import Derived.Test.YtdigebokbhmfaaaGreatDoorOVcGuard
import Derived.Test.YtdigebokbhmfaaaGreatDoorProg
import Derived.KernelRfl
import Derived.Shelf.Strings.Builder1
import Derived.Shelf.Small.Utf8
import Derived.Shelf.Small.Bits
import Derived.Shelf.Small.Strs
import Derived.Shelf.Small.Wraps
import Derived.Shelf.Strings.BuilderF
import Derived.Shelf.Strconv.Atoi
import Derived.Shelf.Strconv.Itoa0
import Derived.Shelf.Strconv.Itoa1
import Derived.Shelf.LaysM
import Derived.Shelf.Strconv.Itoa2
import Derived.Shelf.Strconv.Itoa3
import Derived.Shelf.Strconv.AtoiErrFast
import Derived.Shelf.Strconv.ParseIntEmpty
import Derived.Shelf.Strconv.AtoiFail
import Derived.Shelf.Strconv.Clone
import Derived.Shelf.Strconv.SyntaxError
import Derived.Shelf.LaysC
import Derived.Shelf.Strconv.ToError
import Derived.Shelf.Strconv.Lower
import Derived.Shelf.Strconv.ParseUint10
import Derived.Shelf.Strconv.ParseUint10Empty
import Derived.Shelf.Strconv.ParseUint10Any
import Derived.Shelf.Strconv.ParseInt10
import Derived.Shelf.Strconv.AtoiLong
import Derived.Shelf.Strconv.AtoiInnerAll
import Derived.Shelf.Strconv.RangeError
import Derived.Shelf.Strconv.ToErrorRange
import Derived.Shelf.Strconv.AtoiAll
import Derived.Shelf.Strconv.ErrVarAll
import Derived.Shelf.Strings.Search1
import Derived.Shelf.Strings.Prefix
import Derived.Shelf.Strings.Runes
import Derived.Shelf.Bits.Mul64
import Derived.Shelf.Sort.Plain
import Derived.Shelf.Slices.In.SortNone
import Derived.Lib.AppendIntMem
set_option linter.unusedVariables false
set_option linter.unusedSimpArgs false
namespace Go.Proofs.YtdigebokbhmfaaaGreatDoor.Ap
open Go.Vc
def tab : Tab := [(3, { kind := 6, size := 1, zero := [.i 0] }),
 (4, { kind := 5, size := 1, zero := [.b false] }),
 (5, { kind := 10, size := 1, zero := [.x (.int .u8 0)] }),
 (9, { kind := 4, size := 1, zero := [.s []] }),
 (23, { kind := 1, size := 1, zero := [.x (.slice none 0 0)], elem := 3, esize := 1, ebytes := 8 }),
 (22, { kind := 1, size := 1, zero := [.x (.slice none 0 0)], elem := 74, esize := 16, ebytes := 192 }),
 (26, { kind := 1, size := 1, zero := [.x (.slice none 0 0)], elem := 67, esize := 3, ebytes := 32 }),
 (27, { kind := 8, size := 1, zero := [.x (.pointer none)] }),
 (32, { kind := 6, size := 1, zero := [.i 0] }),
 (35, { kind := 1, size := 1, zero := [.x (.slice none 0 0)], elem := 27, esize := 1, ebytes := 8 }),
 (38, { kind := 1, size := 1, zero := [.x (.slice none 0 0)], elem := 99, esize := 3, ebytes := 24 }),
 (40, { kind := 2, size := 13, zero := [.i 0, .i 0, .i 0, .x (.slice none 0 0), .i 0, .i 0, .i 0, .i 0, .i 0, .i 0, .x (.slice none 0 0), .x (.slice none 0 0), .s []], flds := [(0, 1, false), (1, 1, false), (2, 1, false), (3, 1, false), (4, 1, false), (5, 1, false), (6, 1, false), (7, 1, false), (8, 1, false), (9, 1, false), (10, 1, false), (11, 1, false), (12, 1, false)] }),
 (44, { kind := 13, size := 1, zero := [.x .nilFunc] }),
 (48, { kind := 1, size := 1, zero := [.x (.slice none 0 0)], elem := 59, esize := 3, ebytes := 24 }),
 (49, { kind := 8, size := 1, zero := [.x (.pointer none)] }),
 (50, { kind := 8, size := 1, zero := [.x (.pointer none)] }),
 (53, { kind := 2, size := 3, zero := [.x (.slice none 0 0), .i 0, .i 0], flds := [(0, 1, false), (1, 1, false), (2, 1, false)] }),
 (55, { kind := 2, size := 7, zero := [.x (.pointer none), .x (.slice none 0 0), .i 0, .i 0, .x (.slice none 0 0), .i 0, .x (.slice none 0 0)], flds := [(0, 1, false), (1, 3, true), (4, 1, false), (5, 1, false), (6, 1, false)] }),
 (57, { kind := 13, size := 1, zero := [.x .nilFunc] }),
 (59, { kind := 2, size := 3, zero := [.i 0, .i 0, .i 0], flds := [(0, 1, false), (1, 1, false), (2, 1, false)], cmp := true }),
 (64, { kind := 1, size := 1, zero := [.x (.slice none 0 0)], elem := 40, esize := 13, ebytes := 160 }),
 (67, { kind := 2, size := 3, zero := [.i 0, .s [], .i 0], flds := [(0, 1, false), (1, 1, false), (2, 1, false)] }),
 (74, { kind := 2, size := 16, zero := [.i 0, .i 0, .i 0, .i 0, .x (.slice none 0 0), .i 0, .i 0, .i 0, .i 0, .i 0, .i 0, .x (.slice none 0 0), .x (.slice none 0 0), .s [], .s [], .i 0], flds := [(0, 1, false), (1, 13, true), (14, 1, false), (15, 1, false)] }),
 (78, { kind := 1, size := 1, zero := [.x (.slice none 0 0)], elem := 86, esize := 18, ebytes := 224 }),
 (79, { kind := 12, size := 1, zero := [.x (.map none)], elem := 3, esize := 3 }),
 (81, { kind := 2, size := 3, zero := [.x (.pointer none), .x (.slice none 0 0), .x (.map none)], flds := [(0, 1, false), (1, 1, false), (2, 1, false)] }),
 (82, { kind := 1, size := 1, zero := [.x (.slice none 0 0)], elem := 136, esize := 1, ebytes := 8 }),
 (86, { kind := 2, size := 18, zero := [.i 0, .s [], .i 0, .i 0, .i 0, .i 0, .x (.slice none 0 0), .i 0, .i 0, .i 0, .i 0, .i 0, .i 0, .x (.slice none 0 0), .x (.slice none 0 0), .s [], .i 0, .x (.slice none 0 0)], flds := [(0, 3, true), (3, 13, true), (16, 1, false), (17, 1, false)] }),
 (92, { kind := 12, size := 1, zero := [.x (.map none)], elem := 3, esize := 4 }),
 (95, { kind := 13, size := 1, zero := [.x .nilFunc] }),
 (99, { kind := 2, size := 3, zero := [.i 0, .i 0, .i 0], flds := [(0, 1, false), (1, 1, false), (2, 1, false)], cmp := true }),
 (100, { kind := 12, size := 1, zero := [.x (.map none)], elem := 3, esize := 23 }),
 (102, { kind := 12, size := 1, zero := [.x (.map none)], elem := 121, esize := 3 }),
 (103, { kind := 1, size := 1, zero := [.x (.slice none 0 0)], elem := 121, esize := 2, ebytes := 24 }),
 (105, { kind := 2, size := 2, zero := [.x (.slice none 0 0), .x (.map none)], flds := [(0, 1, false), (1, 1, false)] }),
 (106, { kind := 1, size := 1, zero := [.x (.slice none 0 0)], elem := 108, esize := 2, ebytes := 16 }),
 (108, { kind := 3, size := 2, zero := [.i 0, .i 0], elem := 3, esize := 1, ebytes := 2 }),
 (111, { kind := 1, size := 1, zero := [.x (.slice none 0 0)], elem := 202, esize := 15, ebytes := 256 }),
 (112, { kind := 1, size := 1, zero := [.x (.slice none 0 0)], elem := 241, esize := 7, ebytes := 56 }),
 (113, { kind := 1, size := 1, zero := [.x (.slice none 0 0)], elem := 193, esize := 2, ebytes := 16 }),
 (115, { kind := 2, size := 5, zero := [.i 0, .x (.slice none 0 0), .x (.slice none 0 0), .x (.slice none 0 0), .x (.slice none 0 0)], flds := [(0, 1, false), (1, 1, false), (2, 1, false), (3, 1, false), (4, 1, false)] }),
 (121, { kind := 2, size := 2, zero := [.i 0, .s []], flds := [(0, 1, false), (1, 1, false)] }),
 (136, { kind := 7, size := 1, zero := [.x (.int .u64 0)] }),
 (142, { kind := 7, size := 1, zero := [.x (.int .u64 0)] }),
 (147, { kind := 13, size := 1, zero := [.x .nilFunc] }),
 (166, { kind := 6, size := 1, zero := [.i 0] }),
 (181, { kind := 1, size := 1, zero := [.x (.slice none 0 0)], elem := 184, esize := 2, ebytes := 16 }),
 (184, { kind := 2, size := 2, zero := [.i 0, .i 0], flds := [(0, 1, false), (1, 1, false)], cmp := true }),
 (186, { kind := 8, size := 1, zero := [.x (.pointer none)] }),
 (189, { kind := 2, size := 9, zero := [.i 0, .x (.slice none 0 0), .x (.slice none 0 0), .x (.slice none 0 0), .x (.slice none 0 0), .x (.slice none 0 0), .i 0, .i 0, .x (.pointer none)], flds := [(0, 5, true), (5, 3, true), (8, 1, false)] }),
 (193, { kind := 2, size := 2, zero := [.i 0, .i 0], flds := [(0, 1, false), (1, 1, false)], cmp := true }),
 (195, { kind := 8, size := 1, zero := [.x (.pointer none)] }),
 (196, { kind := 1, size := 1, zero := [.x (.slice none 0 0)], elem := 294, esize := 5, ebytes := 56 }),
 (197, { kind := 1, size := 1, zero := [.x (.slice none 0 0)], elem := 299, esize := 5, ebytes := 40 }),
 (198, { kind := 1, size := 1, zero := [.x (.slice none 0 0)], elem := 253, esize := 4, ebytes := 32 }),
 (199, { kind := 1, size := 1, zero := [.x (.slice none 0 0)], elem := 266, esize := 5, ebytes := 56 }),
 (200, { kind := 1, size := 1, zero := [.x (.slice none 0 0)], elem := 257, esize := 12, ebytes := 128 }),
 (202, { kind := 2, size := 15, zero := [.i 0, .i 0, .s [], .i 0, .i 0, .x (.slice none 0 0), .x (.slice none 0 0), .x (.slice none 0 0), .x (.slice none 0 0), .x (.slice none 0 0), .x (.slice none 0 0), .x (.slice none 0 0), .x (.slice none 0 0), .i 0, .b false], flds := [(0, 1, false), (1, 1, false), (2, 1, false), (3, 1, false), (4, 1, false), (5, 1, false), (6, 1, false), (7, 1, false), (8, 1, false), (9, 1, false), (10, 1, false), (11, 1, false), (12, 1, false), (13, 1, false), (14, 1, false)] }),
 (204, { kind := 1, size := 1, zero := [.x (.slice none 0 0)], elem := 435, esize := 6, ebytes := 80 }),
 (205, { kind := 1, size := 1, zero := [.x (.slice none 0 0)], elem := 207, esize := 5, ebytes := 64 }),
 (207, { kind := 2, size := 5, zero := [.i 0, .i 0, .i 0, .s [], .x (.slice none 0 0)], flds := [(0, 1, false), (1, 1, false), (2, 1, false), (3, 1, false), (4, 1, false)] }),
 (209, { kind := 2, size := 37, zero := [.i 0, .i 0, .i 0, .i 0, .i 0, .i 0, .b false, .i 0, .i 0, .i 0, .i 0, .x (.slice none 0 0), .i 0, .i 0, .i 0, .s [], .x (.slice none 0 0), .i 0, .i 0, .i 0, .s [], .x (.slice none 0 0), .i 0, .i 0, .i 0, .s [], .x (.slice none 0 0), .i 0, .i 0, .i 0, .s [], .x (.slice none 0 0), .i 0, .i 0, .i 0, .s [], .x (.slice none 0 0)], flds := [(0, 1, false), (1, 1, false), (2, 1, false), (3, 1, false), (4, 1, false), (5, 1, false), (6, 1, false), (7, 1, false), (8, 1, false), (9, 1, false), (10, 1, false), (11, 1, false), (12, 5, true), (17, 5, true), (22, 5, true), (27, 5, true), (32, 5, true)] }),
 (219, { kind := 13, size := 1, zero := [.x .nilFunc] }),
 (223, { kind := 7, size := 1, zero := [.x (.int .u64 0)] }),
 (227, { kind := 8, size := 1, zero := [.x (.pointer none)] }),
 (232, { kind := 1, size := 1, zero := [.x (.slice none 0 0)], elem := 288, esize := 15, ebytes := 176 }),
 (234, { kind := 2, size := 4, zero := [.x (.slice none 0 0), .i 0, .i 0, .x (.slice none 0 0)], flds := [(0, 3, true), (3, 1, false)] }),
 (241, { kind := 2, size := 7, zero := [.i 0, .i 0, .i 0, .i 0, .i 0, .i 0, .i 0], flds := [(0, 3, true), (3, 1, false), (4, 1, false), (5, 1, false), (6, 1, false)], cmp := true }),
 (253, { kind := 2, size := 4, zero := [.i 0, .i 0, .i 0, .b false], flds := [(0, 1, false), (1, 1, false), (2, 1, false), (3, 1, false)] }),
 (257, { kind := 2, size := 12, zero := [.i 0, .i 0, .i 0, .i 0, .i 0, .i 0, .i 0, .x (.slice none 0 0), .x (.slice none 0 0), .i 0, .i 0, .i 0], flds := [(0, 1, false), (1, 1, false), (2, 1, false), (3, 1, false), (4, 1, false), (5, 1, false), (6, 1, false), (7, 1, false), (8, 1, false), (9, 1, false), (10, 1, false), (11, 1, false)] }),
 (264, { kind := 1, size := 1, zero := [.x (.slice none 0 0)], elem := 268, esize := 4, ebytes := 32 }),
 (266, { kind := 2, size := 5, zero := [.i 0, .i 0, .i 0, .x (.slice none 0 0), .i 0], flds := [(0, 1, false), (1, 1, false), (2, 1, false), (3, 1, false), (4, 1, false)] }),
 (268, { kind := 2, size := 4, zero := [.i 0, .i 0, .b false, .i 0], flds := [(0, 1, false), (1, 1, false), (2, 1, false), (3, 1, false)] }),
 (271, { kind := 8, size := 1, zero := [.x (.pointer none)] }),
 (288, { kind := 2, size := 15, zero := [.i 0, .i 0, .i 0, .i 0, .x (.slice none 0 0), .i 0, .i 0, .i 0, .i 0, .i 0, .i 0, .x (.slice none 0 0), .x (.slice none 0 0), .s [], .i 0], flds := [(0, 1, false), (1, 13, true), (14, 1, false)] }),
 (294, { kind := 2, size := 5, zero := [.i 0, .i 0, .x (.slice none 0 0), .i 0, .i 0], flds := [(0, 1, false), (1, 1, false), (2, 1, false), (3, 1, false), (4, 1, false)] }),
 (299, { kind := 2, size := 5, zero := [.i 0, .i 0, .i 0, .i 0, .i 0], flds := [(0, 1, false), (1, 1, false), (2, 1, false), (3, 1, false), (4, 1, false)], cmp := true }),
 (306, { kind := 12, size := 1, zero := [.x (.map none)], elem := 3, esize := 309 }),
 (311, { kind := 2, size := 7, zero := [.i 0, .i 0, .i 0, .i 0, .i 0, .i 0, .x (.slice none 0 0)], flds := [(0, 1, false), (1, 1, false), (2, 1, false), (3, 1, false), (4, 1, false), (5, 1, false), (6, 1, false)] }),
 (315, { kind := 13, size := 1, zero := [.x .nilFunc] }),
 (317, { kind := 8, size := 1, zero := [.x (.pointer none)] }),
 (322, { kind := 13, size := 1, zero := [.x .nilFunc] }),
 (329, { kind := 13, size := 1, zero := [.x .nilFunc] }),
 (333, { kind := 13, size := 1, zero := [.x .nilFunc] }),
 (344, { kind := 2, size := 3, zero := [.s [], .i 0, .i 0], flds := [(0, 1, false), (1, 1, false), (2, 1, false)] }),
 (345, { kind := 1, size := 1, zero := [.x (.slice none 0 0)], elem := 344, esize := 3, ebytes := 32 }),
 (348, { kind := 1, size := 1, zero := [.x (.slice none 0 0)], elem := 23, esize := 1, ebytes := 24 }),
 (349, { kind := 1, size := 1, zero := [.x (.slice none 0 0)], elem := 353, esize := 6, ebytes := 48 }),
 (353, { kind := 2, size := 6, zero := [.i 0, .i 0, .i 0, .i 0, .i 0, .i 0], flds := [(0, 1, false), (1, 1, false), (2, 1, false), (3, 1, false), (4, 1, false), (5, 1, false)], cmp := true }),
 (374, { kind := 13, size := 1, zero := [.x .nilFunc] }),
 (376, { kind := 13, size := 1, zero := [.x .nilFunc] }),
 (382, { kind := 13, size := 1, zero := [.x .nilFunc] }),
 (384, { kind := 13, size := 1, zero := [.x .nilFunc] }),
 (394, { kind := 13, size := 1, zero := [.x .nilFunc] }),
 (435, { kind := 2, size := 6, zero := [.s [], .i 0, .i 0, .i 0, .s [], .x (.slice none 0 0)], flds := [(0, 1, false), (1, 5, true)] }),
 (436, { kind := 13, size := 1, zero := [.x .nilFunc] }),
 (452, { kind := 1, size := 1, zero := [.x (.slice none 0 0)], elem := 455, esize := 3, ebytes := 24 }),
 (455, { kind := 2, size := 3, zero := [.i 0, .i 0, .i 0], flds := [(0, 1, false), (1, 1, false), (2, 1, false)], cmp := true }),
 (477, { kind := 13, size := 1, zero := [.x .nilFunc] }),
 (480, { kind := 13, size := 1, zero := [.x .nilFunc] }),
 (498, { kind := 1, size := 1, zero := [.x (.slice none 0 0)], elem := 9, esize := 1, ebytes := 16 }),
 (514, { kind := 13, size := 1, zero := [.x .nilFunc] }),
 (535, { kind := 13, size := 1, zero := [.x .nilFunc] }),
 (542, { kind := 1, size := 1, zero := [.x (.slice none 0 0)], elem := 544, esize := 3, ebytes := 32 }),
 (544, { kind := 2, size := 3, zero := [.s [], .i 0, .i 0], flds := [(0, 1, false), (1, 1, false), (2, 1, false)] }),
 (559, { kind := 13, size := 1, zero := [.x .nilFunc] }),
 (560, { kind := 1, size := 1, zero := [.x (.slice none 0 0)], elem := 38, esize := 1, ebytes := 24 })]
theorem tab_ok : TabOk Tryz.prog tab := TabOk.of_all (by kernel_rfl)
theorem mixed : Tryz.prog.follows .mixedOrders = true := by kernel_rfl
theorem b3 : Body Tryz.prog 3 := ⟨Tryz.f3, Tryz.func3, rfl, rfl⟩
theorem b4 : Body Tryz.prog 4 := ⟨Tryz.f4, Tryz.func4, rfl, rfl⟩
theorem b5 : Body Tryz.prog 5 := ⟨Tryz.f5, Tryz.func5, rfl, rfl⟩
theorem b6 : Body Tryz.prog 6 := ⟨Tryz.f6, Tryz.func6, rfl, rfl⟩
theorem b7 : Body Tryz.prog 7 := ⟨Tryz.f7, Tryz.func7, rfl, rfl⟩
theorem b8 : Body Tryz.prog 8 := ⟨Tryz.f8, Tryz.func8, rfl, rfl⟩
theorem b9 : Body Tryz.prog 9 := ⟨Tryz.f9, Tryz.func9, rfl, rfl⟩
theorem b10 : Body Tryz.prog 10 := ⟨Tryz.f10, Tryz.func10, rfl, rfl⟩
theorem b11 : Body Tryz.prog 11 := ⟨Tryz.f11, Tryz.func11, rfl, rfl⟩
theorem b12 : Body Tryz.prog 12 := ⟨Tryz.f12, Tryz.func12, rfl, rfl⟩
theorem b13 : Body Tryz.prog 13 := ⟨Tryz.f13, Tryz.func13, rfl, rfl⟩
theorem b14 : Body Tryz.prog 14 := ⟨Tryz.f14, Tryz.func14, rfl, rfl⟩
theorem b15 : Body Tryz.prog 15 := ⟨Tryz.f15, Tryz.func15, rfl, rfl⟩
theorem b16 : Body Tryz.prog 16 := ⟨Tryz.f16, Tryz.func16, rfl, rfl⟩
theorem b17 : Body Tryz.prog 17 := ⟨Tryz.f17, Tryz.func17, rfl, rfl⟩
theorem b18 : Body Tryz.prog 18 := ⟨Tryz.f18, Tryz.func18, rfl, rfl⟩
theorem b19 : Body Tryz.prog 19 := ⟨Tryz.f19, Tryz.func19, rfl, rfl⟩
theorem b20 : Body Tryz.prog 20 := ⟨Tryz.f20, Tryz.func20, rfl, rfl⟩
theorem b21 : Body Tryz.prog 21 := ⟨Tryz.f21, Tryz.func21, rfl, rfl⟩
theorem b22 : Body Tryz.prog 22 := ⟨Tryz.f22, Tryz.func22, rfl, rfl⟩
theorem b23 : Body Tryz.prog 23 := ⟨Tryz.f23, Tryz.func23, rfl, rfl⟩
theorem b24 : Body Tryz.prog 24 := ⟨Tryz.f24, Tryz.func24, rfl, rfl⟩
theorem b25 : Body Tryz.prog 25 := ⟨Tryz.f25, Tryz.func25, rfl, rfl⟩
theorem b26 : Body Tryz.prog 26 := ⟨Tryz.f26, Tryz.func26, rfl, rfl⟩
theorem b27 : Body Tryz.prog 27 := ⟨Tryz.f27, Tryz.func27, rfl, rfl⟩
theorem b29 : Body Tryz.prog 29 := ⟨Tryz.f29, Tryz.func29, rfl, rfl⟩
theorem b30 : Body Tryz.prog 30 := ⟨Tryz.f30, Tryz.func30, rfl, rfl⟩
theorem b31 : Body Tryz.prog 31 := ⟨Tryz.f31, Tryz.func31, rfl, rfl⟩
theorem b35 : Body Tryz.prog 35 := ⟨Tryz.f35, Tryz.func35, rfl, rfl⟩
theorem b36 : Body Tryz.prog 36 := ⟨Tryz.f36, Tryz.func36, rfl, rfl⟩
theorem b37 : Body Tryz.prog 37 := ⟨Tryz.f37, Tryz.func37, rfl, rfl⟩
theorem b38 : Body Tryz.prog 38 := ⟨Tryz.f38, Tryz.func38, rfl, rfl⟩
theorem b39 : Body Tryz.prog 39 := ⟨Tryz.f39, Tryz.func39, rfl, rfl⟩
theorem b40 : Body Tryz.prog 40 := ⟨Tryz.f40, Tryz.func40, rfl, rfl⟩
theorem b41 : Body Tryz.prog 41 := ⟨Tryz.f41, Tryz.func41, rfl, rfl⟩
theorem b42 : Body Tryz.prog 42 := ⟨Tryz.f42, Tryz.func42, rfl, rfl⟩
theorem b44 : Body Tryz.prog 44 := ⟨Tryz.f44, Tryz.func44, rfl, rfl⟩
theorem b45 : Body Tryz.prog 45 := ⟨Tryz.f45, Tryz.func45, rfl, rfl⟩
theorem b46 : Body Tryz.prog 46 := ⟨Tryz.f46, Tryz.func46, rfl, rfl⟩
theorem b47 : Body Tryz.prog 47 := ⟨Tryz.f47, Tryz.func47, rfl, rfl⟩
theorem b48 : Body Tryz.prog 48 := ⟨Tryz.f48, Tryz.func48, rfl, rfl⟩
theorem b49 : Body Tryz.prog 49 := ⟨Tryz.f49, Tryz.func49, rfl, rfl⟩
theorem b50 : Body Tryz.prog 50 := ⟨Tryz.f50, Tryz.func50, rfl, rfl⟩
theorem b51 : Body Tryz.prog 51 := ⟨Tryz.f51, Tryz.func51, rfl, rfl⟩
theorem b52 : Body Tryz.prog 52 := ⟨Tryz.f52, Tryz.func52, rfl, rfl⟩
theorem b53 : Body Tryz.prog 53 := ⟨Tryz.f53, Tryz.func53, rfl, rfl⟩
theorem b54 : Body Tryz.prog 54 := ⟨Tryz.f54, Tryz.func54, rfl, rfl⟩
theorem b56 : Body Tryz.prog 56 := ⟨Tryz.f56, Tryz.func56, rfl, rfl⟩
theorem b65 : Body Tryz.prog 65 := ⟨Tryz.f65, Tryz.func65, rfl, rfl⟩
theorem b66 : Body Tryz.prog 66 := ⟨Tryz.f66, Tryz.func66, rfl, rfl⟩
theorem b67 : Body Tryz.prog 67 := ⟨Tryz.f67, Tryz.func67, rfl, rfl⟩
theorem b68 : Body Tryz.prog 68 := ⟨Tryz.f68, Tryz.func68, rfl, rfl⟩
theorem b69 : Body Tryz.prog 69 := ⟨Tryz.f69, Tryz.func69, rfl, rfl⟩
theorem b75 : Body Tryz.prog 75 := ⟨Tryz.f75, Tryz.func75, rfl, rfl⟩
theorem b76 : Body Tryz.prog 76 := ⟨Tryz.f76, Tryz.func76, rfl, rfl⟩
theorem b77 : Body Tryz.prog 77 := ⟨Tryz.f77, Tryz.func77, rfl, rfl⟩
theorem b78 : Body Tryz.prog 78 := ⟨Tryz.f78, Tryz.func78, rfl, rfl⟩
theorem b79 : Body Tryz.prog 79 := ⟨Tryz.f79, Tryz.func79, rfl, rfl⟩
theorem b80 : Body Tryz.prog 80 := ⟨Tryz.f80, Tryz.func80, rfl, rfl⟩
theorem b81 : Body Tryz.prog 81 := ⟨Tryz.f81, Tryz.func81, rfl, rfl⟩
theorem b128 : Body Tryz.prog 128 := ⟨Tryz.f128, Tryz.func128, rfl, rfl⟩
theorem b129 : Body Tryz.prog 129 := ⟨Tryz.f129, Tryz.func129, rfl, rfl⟩
theorem b130 : Body Tryz.prog 130 := ⟨Tryz.f130, Tryz.func130, rfl, rfl⟩
theorem b132 : Body Tryz.prog 132 := ⟨Tryz.f132, Tryz.func132, rfl, rfl⟩
theorem b133 : Body Tryz.prog 133 := ⟨Tryz.f133, Tryz.func133, rfl, rfl⟩
theorem b134 : Body Tryz.prog 134 := ⟨Tryz.f134, Tryz.func134, rfl, rfl⟩
theorem b165 : Body Tryz.prog 165 := ⟨Tryz.f165, Tryz.func165, rfl, rfl⟩
theorem b166 : Body Tryz.prog 166 := ⟨Tryz.f166, Tryz.func166, rfl, rfl⟩
theorem b168 : Body Tryz.prog 168 := ⟨Tryz.f168, Tryz.func168, rfl, rfl⟩
theorem b169 : Body Tryz.prog 169 := ⟨Tryz.f169, Tryz.func169, rfl, rfl⟩
theorem b170 : Body Tryz.prog 170 := ⟨Tryz.f170, Tryz.func170, rfl, rfl⟩
theorem b172 : Body Tryz.prog 172 := ⟨Tryz.f172, Tryz.func172, rfl, rfl⟩
theorem b205 : Body Tryz.prog 205 := ⟨Tryz.f205, Tryz.func205, rfl, rfl⟩
theorem b232 : Body Tryz.prog 232 := ⟨Tryz.f232, Tryz.func232, rfl, rfl⟩
theorem b261 : Body Tryz.prog 261 := ⟨Tryz.f261, Tryz.func261, rfl, rfl⟩
theorem b293 : Body Tryz.prog 293 := ⟨Tryz.f293, Tryz.func293, rfl, rfl⟩
theorem b312 : Body Tryz.prog 312 := ⟨Tryz.f312, Tryz.func312, rfl, rfl⟩
theorem b387 : Body Tryz.prog 387 := ⟨Tryz.f387, Tryz.func387, rfl, rfl⟩
theorem zr {Q : Exit → Act → World → Prop} {id : Nat} {l : List Oper} {st : Go.Vc.St} (h : Go.Vc.run Tryz.prog tab l.toArray l st (fun st' => st'.atEnd (Q .normal))) : Go.Vc.At st ((Code.region id l.toArray false).wp Tryz.prog Q) := Go.Vc.At.region tab_ok h
theorem zq {Q : Exit → Act → World → Prop} {x y : Code} {st : Go.Vc.St} (h : Go.Vc.At st (x.wp Tryz.prog (Exit.then (y.wp Tryz.prog Q) Q))) : Go.Vc.At st ((Code.seq x y).wp Tryz.prog Q) := Go.Vc.At.seq h
end Go.Proofs.YtdigebokbhmfaaaGreatDoor.Ap
namespace Go.Proofs
open Go.Shelf
def Tryz.lays169_ren : Go.Shelf.Ren := ⟨fun | 169 => 63 | n => n, fun | 70 => 122 | 9 => 9 | 0 => 0 | 72 => 125 | 37 => 123 | 127 => 164 | 3 => 3 | 5 => 5 | n => n, fun | n => n⟩
theorem Tryz.lays169 : Go.Proofs.Lays.n169 Tryz.prog Tryz.lays169_ren := {
 mixed := by kernel_rfl
 f169 := Tryz.func63.trans (congrArg some (by kernel_rfl))
 t0 := Tryz.underlying0
 a0 := Tryz.isAgg0
 z0 := Tryz.sizeOf0
 v0 := Tryz.zeroValue0
 t3 := Tryz.underlying3
 a3 := Tryz.isAgg3
 z3 := Tryz.sizeOf3
 v3 := Tryz.zeroValue3
 t9 := Tryz.underlying9
 a9 := Tryz.isAgg9
 z9 := Tryz.sizeOf9
 v9 := Tryz.zeroValue9
 t37 := Tryz.underlying123
 a37 := Tryz.isAgg123
 z37 := Tryz.sizeOf123
 v37 := Tryz.zeroValue123
 t70 := Tryz.underlying122
 a70 := Tryz.isAgg122
 z70 := Tryz.sizeOf122
 v70 := Tryz.zeroValue122
 t72 := Tryz.underlying125
 a72 := Tryz.isAgg125
 z72 := Tryz.sizeOf125
 v72 := Tryz.zeroValue125
 t127 := Tryz.underlying164
 a127 := Tryz.isAgg164
 z127 := Tryz.sizeOf164
 v127 := Tryz.zeroValue164 }
theorem Tryz.Builder_Extra_169 : Builder.Extra Tryz.prog Tryz.lays169_ren := {
 sizeBuilder := by kernel_rfl
 liesBuilder := by kernel_rfl
 t5 := Tryz.underlying5
 a5 := Tryz.isAgg5
 z5 := Tryz.sizeOf5
 v5 := Tryz.zeroValue5
 infoByte := by kernel_rfl
 cellsByte := by kernel_rfl
 sizeByte := by kernel_rfl
 neB5 := by decide }
open Go.RowKit in
theorem Tryz.Builder_String_any (B b : Nat) (l : List UInt8) (w : World) (h : Lib.IsBuilder 125 5 B b (Lib.byteCells l) w) (hBw : B ≤ w.heap.size) :
  Calls Tryz.prog 63 #[.pointer (some ⟨b, 0, none⟩)] w fun e w' => e = .returned (.string ⟨l.toArray⟩) ∧ Below B w w' := Any.Builder_String_any Tryz.lays169 Tryz.Builder_Extra_169 B b l w h hBw
def Tryz.lays137_ren : Go.Shelf.Ren := ⟨fun | 137 => 196 | 217 => 282 | 266 => 365 | n => n, fun | 9 => 9 | 5 => 5 | 3 => 3 | n => n, fun | n => n⟩
theorem Tryz.lays137 : Go.Proofs.Lays.n137 Tryz.prog Tryz.lays137_ren := {
 mixed := by kernel_rfl
 f137 := Tryz.func196.trans (congrArg some (by kernel_rfl))
 f217 := Tryz.func282.trans (congrArg some (by kernel_rfl))
 f266 := Tryz.func365.trans (congrArg some (by kernel_rfl))
 t3 := Tryz.underlying3
 a3 := Tryz.isAgg3
 z3 := Tryz.sizeOf3
 v3 := Tryz.zeroValue3
 t5 := Tryz.underlying5
 a5 := Tryz.isAgg5
 z5 := Tryz.sizeOf5
 v5 := Tryz.zeroValue5
 t9 := Tryz.underlying9
 a9 := Tryz.isAgg9
 z9 := Tryz.sizeOf9
 v9 := Tryz.zeroValue9 }
open Go.RowKit in
theorem Tryz.strings_IndexByte (s : ByteArray) (c : Int) (w : World) :
  Calls Tryz.prog 196 #[.string s, .int .u8 c] w fun e w' => e = .returned (.int .i64 (Lib.indexByte s.data.toList c.toNat.toUInt8)) ∧ w' = w := Any.strings_IndexByte Tryz.lays137 s c w
def Tryz.lays103_ren : Go.Shelf.Ren := ⟨fun | 103 => 198 | 210 => 285 | 206 => 371 | n => n, fun | 9 => 9 | 4 => 4 | 24 => 279 | 3 => 3 | n => n, fun | n => n⟩
theorem Tryz.lays103 : Go.Proofs.Lays.n103 Tryz.prog Tryz.lays103_ren := {
 mixed := by kernel_rfl
 f103 := Tryz.func198.trans (congrArg some (by kernel_rfl))
 f206 := Tryz.func371.trans (congrArg some (by kernel_rfl))
 f210 := Tryz.func285.trans (congrArg some (by kernel_rfl))
 t3 := Tryz.underlying3
 a3 := Tryz.isAgg3
 z3 := Tryz.sizeOf3
 v3 := Tryz.zeroValue3
 t4 := Tryz.underlying4
 a4 := Tryz.isAgg4
 z4 := Tryz.sizeOf4
 v4 := Tryz.zeroValue4
 t9 := Tryz.underlying9
 a9 := Tryz.isAgg9
 z9 := Tryz.sizeOf9
 v9 := Tryz.zeroValue9
 t24 := Tryz.underlying279
 a24 := Tryz.isAgg279
 z24 := Tryz.sizeOf279
 v24 := Tryz.zeroValue279 }
open Go.RowKit in
theorem Tryz.strings_CutPrefix (s p : ByteArray) (w : World) :
  Calls Tryz.prog 198 #[.string s, .string p] w fun e w' => e = .returned (.tuple #[.string ⟨(Lib.trimPrefix s.data.toList p.data.toList).toArray⟩, .bool (Lib.hasPrefix s.data.toList p.data.toList)]) ∧ w' = w := Any.strings_CutPrefix Tryz.lays103 s p w
def Tryz.lays122_ren : Go.Shelf.Ren := ⟨fun | 122 => 73 | 215 => 116 | n => n, fun | 3 => 3 | 4 => 4 | n => n, fun | n => n⟩
theorem Tryz.lays122 : Go.Proofs.Lays.n122 Tryz.prog Tryz.lays122_ren := {
 mixed := by kernel_rfl
 f122 := Tryz.func73.trans (congrArg some (by kernel_rfl))
 f215 := Tryz.func116.trans (congrArg some (by kernel_rfl))
 t3 := Tryz.underlying3
 a3 := Tryz.isAgg3
 z3 := Tryz.sizeOf3
 v3 := Tryz.zeroValue3
 t4 := Tryz.underlying4
 a4 := Tryz.isAgg4
 z4 := Tryz.sizeOf4
 v4 := Tryz.zeroValue4 }
open Go.RowKit in
theorem Tryz.cmp_Compare_int (x y : Int) (w : World) :
  Calls Tryz.prog 73 #[.int .i64 x, .int .i64 y] w fun e w' => e = .returned (.int .i64 (Lib.compareInt x y)) ∧ w' = w := Any.cmp_Compare_int Tryz.lays122 x y w
open Go.RowKit in
def Tryz.laysM171_ren : Go.Shelf.Ren := ⟨fun | 171 => 100 | 243 => 145 | 246 => 200 | 283 => 289 | 284 => 290 | 285 => 291 | 286 => 292 | 129 => 115 | 317 => 372 | 318 => 373 | 319 => 374 | 320 => 375 | 337 => 438 | 338 => 439 | n => n, fun | 3 => 3 | 9 => 9 | 2 => 2 | 4 => 4 | 171 => 366 | 0 => 0 | 53 => 136 | 37 => 123 | 5 => 5 | 173 => 368 | 212 => 448 | 51 => 173 | 20 => 20 | 213 => 449 | 46 => 142 | 232 => 551 | 233 => 552 | n => n, fun | 17 => 2 | 18 => 6 | 19 => 7 | n => n⟩
theorem Tryz.laysM171 : Go.Proofs.LaysM.n171 Tryz.prog Tryz.laysM171_ren := {
 mixed := by kernel_rfl
 f129 := Tryz.func115.trans (congrArg some (by kernel_rfl))
 f171 := Tryz.func100.trans (congrArg some (by kernel_rfl))
 f243 := Tryz.func145.trans (congrArg some (by kernel_rfl))
 f246 := Tryz.func200.trans (congrArg some (by kernel_rfl))
 f283 := Tryz.func289.trans (congrArg some (by kernel_rfl))
 f284 := Tryz.func290.trans (congrArg some (by kernel_rfl))
 f285 := Tryz.func291.trans (congrArg some (by kernel_rfl))
 f286 := Tryz.func292.trans (congrArg some (by kernel_rfl))
 f317 := Tryz.func372.trans (congrArg some (by kernel_rfl))
 f318 := Tryz.func373.trans (congrArg some (by kernel_rfl))
 f319 := Tryz.func374.trans (congrArg some (by kernel_rfl))
 f320 := Tryz.func375.trans (congrArg some (by kernel_rfl))
 f337 := Tryz.func438.trans (congrArg some (by kernel_rfl))
 f338 := Tryz.func439.trans (congrArg some (by kernel_rfl))
 t0 := Tryz.underlying0
 a0 := Tryz.isAgg0
 z0 := Tryz.sizeOf0
 v0 := Tryz.zeroValue0
 t2 := Tryz.underlying2
 a2 := Tryz.isAgg2
 z2 := Tryz.sizeOf2
 v2 := Tryz.zeroValue2
 t3 := Tryz.underlying3
 a3 := Tryz.isAgg3
 z3 := Tryz.sizeOf3
 v3 := Tryz.zeroValue3
 t4 := Tryz.underlying4
 a4 := Tryz.isAgg4
 z4 := Tryz.sizeOf4
 v4 := Tryz.zeroValue4
 t5 := Tryz.underlying5
 a5 := Tryz.isAgg5
 z5 := Tryz.sizeOf5
 v5 := Tryz.zeroValue5
 t9 := Tryz.underlying9
 a9 := Tryz.isAgg9
 z9 := Tryz.sizeOf9
 v9 := Tryz.zeroValue9
 t20 := Tryz.underlying20
 a20 := Tryz.isAgg20
 z20 := Tryz.sizeOf20
 v20 := Tryz.zeroValue20
 t37 := Tryz.underlying123
 a37 := Tryz.isAgg123
 z37 := Tryz.sizeOf123
 v37 := Tryz.zeroValue123
 t46 := Tryz.underlying142
 a46 := Tryz.isAgg142
 z46 := Tryz.sizeOf142
 v46 := Tryz.zeroValue142
 t51 := Tryz.underlying173
 a51 := Tryz.isAgg173
 z51 := Tryz.sizeOf173
 v51 := Tryz.zeroValue173
 t53 := Tryz.underlying136
 a53 := Tryz.isAgg136
 z53 := Tryz.sizeOf136
 v53 := Tryz.zeroValue136
 t171 := Tryz.underlying366
 a171 := Tryz.isAgg366
 z171 := Tryz.sizeOf366
 v171 := Tryz.zeroValue366
 t173 := Tryz.underlying368
 a173 := Tryz.isAgg368
 z173 := Tryz.sizeOf368
 v173 := Tryz.zeroValue368
 t212 := Tryz.underlying448
 a212 := Tryz.isAgg448
 z212 := Tryz.sizeOf448
 v212 := Tryz.zeroValue448
 t213 := Tryz.underlying449
 a213 := Tryz.isAgg449
 z213 := Tryz.sizeOf449
 t232 := Tryz.underlying551
 a232 := Tryz.isAgg551
 z232 := Tryz.sizeOf551
 v232 := Tryz.zeroValue551
 t233 := Tryz.underlying552
 a233 := Tryz.isAgg552
 z233 := Tryz.sizeOf552
 v233 := Tryz.zeroValue552
 g17 := by kernel_rfl
 g18 := by kernel_rfl
 g19 := by kernel_rfl
 i0 := by kernel_rfl
 i2 := by kernel_rfl
 i3 := by kernel_rfl
 i4 := by kernel_rfl
 i5 := by kernel_rfl
 i9 := by kernel_rfl
 i20 := by kernel_rfl
 i37 := by kernel_rfl
 i46 := by kernel_rfl
 i51 := by kernel_rfl
 i53 := by kernel_rfl
 i171 := by kernel_rfl
 i173 := by kernel_rfl
 i212 := by kernel_rfl
 i232 := by kernel_rfl
 i233 := by kernel_rfl
 m17 := by kernel_rfl
 m18 := by kernel_rfl
 m19 := by kernel_rfl }
open Go.RowKit Go.Sort Go.Lib in
theorem Tryz.strconv_Itoa (n : Int) (h0 : -9223372036854775808 ≤ n) (h1 : n ≤ 9223372036854775807) (w : World) (htab : Lib.TabIs Tryz.prog w "internal/strconv.uint64pow10" .u64 Lib.pow10Tab) :
  Calls Tryz.prog 100 #[.int .i64 n] w fun e w' => e = .returned (.string ⟨(Lib.itoa n).toArray⟩) ∧ ∃ k os, w' = grow (w.drewN k) os := Any.strconv_Itoa Tryz.laysM171 n h0 h1 w htab
def Tryz.laysC172_ren : Go.Shelf.Ren := ⟨fun | 172 => 197 | 244 => 283 | 245 => 284 | 247 => 366 | 279 => 367 | 280 => 368 | 281 => 369 | 282 => 370 | 287 => 435 | 316 => 436 | 171 => 100 | 205 => 437 | 321 => 480 | 322 => 481 | 243 => 145 | 246 => 200 | 283 => 289 | 284 => 290 | 285 => 291 | 286 => 292 | 129 => 115 | 317 => 372 | 318 => 373 | 319 => 374 | 320 => 375 | 337 => 438 | 338 => 439 | n => n, fun | 9 => 9 | 3 => 3 | 75 => 127 | 76 => 128 | 4 => 4 | 5 => 5 | 167 => 440 | 37 => 123 | 0 => 0 | 85 => 441 | 2 => 2 | 168 => 443 | 53 => 136 | 175 => 505 | 46 => 142 | 210 => 508 | 127 => 164 | 145 => 550 | 143 => 548 | 21 => 21 | 171 => 366 | 173 => 368 | 212 => 448 | 51 => 173 | 20 => 20 | 213 => 449 | 232 => 551 | 233 => 552 | 80 => 133 | n => n, fun | 15 => 3 | 16 => 4 | 17 => 2 | 18 => 6 | 19 => 7 | n => n⟩
theorem Tryz.laysC172 : Go.Proofs.LaysC.n172 Tryz.prog Tryz.laysC172_ren := {
 mixed := by kernel_rfl
 f129 := Tryz.func115.trans (congrArg some (by kernel_rfl))
 f171 := Tryz.func100.trans (congrArg some (by kernel_rfl))
 f172 := Tryz.func197.trans (congrArg some (by kernel_rfl))
 f205 := Tryz.func437.trans (congrArg some (by kernel_rfl))
 f243 := Tryz.func145.trans (congrArg some (by kernel_rfl))
 f244 := Tryz.func283.trans (congrArg some (by kernel_rfl))
 f245 := Tryz.func284.trans (congrArg some (by kernel_rfl))
 f246 := Tryz.func200.trans (congrArg some (by kernel_rfl))
 f247 := Tryz.func366.trans (congrArg some (by kernel_rfl))
 f279 := Tryz.func367.trans (congrArg some (by kernel_rfl))
 f280 := Tryz.func368.trans (congrArg some (by kernel_rfl))
 f281 := Tryz.func369.trans (congrArg some (by kernel_rfl))
 f282 := Tryz.func370.trans (congrArg some (by kernel_rfl))
 f283 := Tryz.func289.trans (congrArg some (by kernel_rfl))
 f284 := Tryz.func290.trans (congrArg some (by kernel_rfl))
 f285 := Tryz.func291.trans (congrArg some (by kernel_rfl))
 f286 := Tryz.func292.trans (congrArg some (by kernel_rfl))
 f287 := Tryz.func435.trans (congrArg some (by kernel_rfl))
 f316 := Tryz.func436.trans (congrArg some (by kernel_rfl))
 f317 := Tryz.func372.trans (congrArg some (by kernel_rfl))
 f318 := Tryz.func373.trans (congrArg some (by kernel_rfl))
 f319 := Tryz.func374.trans (congrArg some (by kernel_rfl))
 f320 := Tryz.func375.trans (congrArg some (by kernel_rfl))
 f321 := Tryz.func480.trans (congrArg some (by kernel_rfl))
 f322 := Tryz.func481.trans (congrArg some (by kernel_rfl))
 f337 := Tryz.func438.trans (congrArg some (by kernel_rfl))
 f338 := Tryz.func439.trans (congrArg some (by kernel_rfl))
 t0 := Tryz.underlying0
 a0 := Tryz.isAgg0
 z0 := Tryz.sizeOf0
 v0 := Tryz.zeroValue0
 t2 := Tryz.underlying2
 a2 := Tryz.isAgg2
 z2 := Tryz.sizeOf2
 v2 := Tryz.zeroValue2
 t3 := Tryz.underlying3
 a3 := Tryz.isAgg3
 z3 := Tryz.sizeOf3
 v3 := Tryz.zeroValue3
 t4 := Tryz.underlying4
 a4 := Tryz.isAgg4
 z4 := Tryz.sizeOf4
 v4 := Tryz.zeroValue4
 t5 := Tryz.underlying5
 a5 := Tryz.isAgg5
 z5 := Tryz.sizeOf5
 v5 := Tryz.zeroValue5
 t9 := Tryz.underlying9
 a9 := Tryz.isAgg9
 z9 := Tryz.sizeOf9
 v9 := Tryz.zeroValue9
 t20 := Tryz.underlying20
 a20 := Tryz.isAgg20
 z20 := Tryz.sizeOf20
 v20 := Tryz.zeroValue20
 t21 := Tryz.underlying21
 a21 := Tryz.isAgg21
 z21 := Tryz.sizeOf21
 v21 := Tryz.zeroValue21
 t37 := Tryz.underlying123
 a37 := Tryz.isAgg123
 z37 := Tryz.sizeOf123
 v37 := Tryz.zeroValue123
 t46 := Tryz.underlying142
 a46 := Tryz.isAgg142
 z46 := Tryz.sizeOf142
 v46 := Tryz.zeroValue142
 t51 := Tryz.underlying173
 a51 := Tryz.isAgg173
 z51 := Tryz.sizeOf173
 v51 := Tryz.zeroValue173
 t53 := Tryz.underlying136
 a53 := Tryz.isAgg136
 z53 := Tryz.sizeOf136
 v53 := Tryz.zeroValue136
 t75 := Tryz.underlying127
 a75 := Tryz.isAgg127
 z75 := Tryz.sizeOf127
 v75 := Tryz.zeroValue127
 t76 := Tryz.underlying128
 a76 := Tryz.isAgg128
 z76 := Tryz.sizeOf128
 v76 := Tryz.zeroValue128
 t85 := Tryz.underlying441
 a85 := Tryz.isAgg441
 z85 := Tryz.sizeOf441
 v85 := Tryz.zeroValue441
 t127 := Tryz.underlying164
 a127 := Tryz.isAgg164
 z127 := Tryz.sizeOf164
 v127 := Tryz.zeroValue164
 t143 := Tryz.underlying548
 a143 := Tryz.isAgg548
 z143 := Tryz.sizeOf548
 v143 := Tryz.zeroValue548
 t145 := Tryz.underlying550
 a145 := Tryz.isAgg550
 z145 := Tryz.sizeOf550
 v145 := Tryz.zeroValue550
 t167 := Tryz.underlying440
 a167 := Tryz.isAgg440
 z167 := Tryz.sizeOf440
 v167 := Tryz.zeroValue440
 t168 := Tryz.underlying443
 a168 := Tryz.isAgg443
 z168 := Tryz.sizeOf443
 v168 := Tryz.zeroValue443
 t171 := Tryz.underlying366
 a171 := Tryz.isAgg366
 z171 := Tryz.sizeOf366
 v171 := Tryz.zeroValue366
 t173 := Tryz.underlying368
 a173 := Tryz.isAgg368
 z173 := Tryz.sizeOf368
 v173 := Tryz.zeroValue368
 t175 := Tryz.underlying505
 a175 := Tryz.isAgg505
 z175 := Tryz.sizeOf505
 v175 := Tryz.zeroValue505
 t210 := Tryz.underlying508
 a210 := Tryz.isAgg508
 z210 := Tryz.sizeOf508
 v210 := Tryz.zeroValue508
 t212 := Tryz.underlying448
 a212 := Tryz.isAgg448
 z212 := Tryz.sizeOf448
 v212 := Tryz.zeroValue448
 t213 := Tryz.underlying449
 a213 := Tryz.isAgg449
 z213 := Tryz.sizeOf449
 t232 := Tryz.underlying551
 a232 := Tryz.isAgg551
 z232 := Tryz.sizeOf551
 v232 := Tryz.zeroValue551
 t233 := Tryz.underlying552
 a233 := Tryz.isAgg552
 z233 := Tryz.sizeOf552
 v233 := Tryz.zeroValue552
 g15 := by kernel_rfl
 g16 := by kernel_rfl
 g17 := by kernel_rfl
 g18 := by kernel_rfl
 g19 := by kernel_rfl
 t80 := Tryz.underlying133
 a80 := Tryz.isAgg133
 z80 := Tryz.sizeOf133
 v80 := Tryz.zeroValue133
 i0 := by kernel_rfl
 i2 := by kernel_rfl
 i3 := by kernel_rfl
 i4 := by kernel_rfl
 i5 := by kernel_rfl
 i9 := by kernel_rfl
 i20 := by kernel_rfl
 i21 := by kernel_rfl
 i37 := by kernel_rfl
 i46 := by kernel_rfl
 i51 := by kernel_rfl
 i53 := by kernel_rfl
 i75 := by kernel_rfl
 i76 := by kernel_rfl
 i80 := by kernel_rfl
 i85 := by kernel_rfl
 i127 := by kernel_rfl
 i143 := by kernel_rfl
 i145 := by kernel_rfl
 i167 := by kernel_rfl
 i168 := by kernel_rfl
 i171 := by kernel_rfl
 i173 := by kernel_rfl
 i175 := by kernel_rfl
 i210 := by kernel_rfl
 i212 := by kernel_rfl
 i232 := by kernel_rfl
 i233 := by kernel_rfl
 m15 := by kernel_rfl
 m16 := by kernel_rfl
 m17 := by kernel_rfl
 m18 := by kernel_rfl
 m19 := by kernel_rfl
 c0 := by kernel_rfl
 c2 := by kernel_rfl
 c3 := by kernel_rfl
 c4 := by kernel_rfl
 c5 := by kernel_rfl
 c9 := by kernel_rfl
 c20 := by kernel_rfl
 c21 := by kernel_rfl
 c37 := by kernel_rfl
 c46 := by kernel_rfl
 c51 := by kernel_rfl
 c53 := by kernel_rfl
 c75 := by kernel_rfl
 c76 := by kernel_rfl
 c80 := by kernel_rfl
 c85 := by kernel_rfl
 c127 := by kernel_rfl
 c143 := by kernel_rfl
 c145 := by kernel_rfl
 c167 := by kernel_rfl
 c168 := by kernel_rfl
 c171 := by kernel_rfl
 c173 := by kernel_rfl
 c175 := by kernel_rfl
 c210 := by kernel_rfl
 c212 := by kernel_rfl
 c213 := by kernel_rfl
 c232 := by kernel_rfl
 c233 := by kernel_rfl }
open Go.RowKit in
theorem Tryz.strconv_Atoi_ok (s : ByteArray) (hmax : s.size ≤ 9223372036854775806) (v : Int) (h : Lib.atoiAll s.data.toList = .ok v) (w : World) :
  Calls Tryz.prog 197 #[.string s] w fun e w' => e = .returned (.tuple #[.int .i64 v, .nilIface]) ∧ (w' = w ∨ ∃ t, w' = Lib.bytesWorld w 5 t) := Any.strconv_Atoi_ok Tryz.laysC172 s hmax v h w
open Go.RowKit in
open Go.RowKit in
theorem Tryz.strconv_Atoi_range (s : ByteArray) (hlim : s.size ≤ 281474976710656) (h : Lib.atoiAll s.data.toList = .range) (ev : Value) (w : World) (hv : w.cell? ⟨4, 0, none⟩ = some ev) (hev : ev = .nilIface ∨ ∃ te pe, ev = .iface te pe) :
  Calls Tryz.prog 197 #[.string s] w fun e w' => ∃ N, e = .returned (.tuple #[.int .i64 (Lib.atoiSat s.data.toList), .iface 443 (.pointer (some ⟨N, 0, none⟩))]) ∧ w.heap.size ≤ N ∧ w'.heap[N]? = some (.cells #[.string ⟨#[65, 116, 111, 105]⟩, .string s, ev] 508 (0, 0)) ∧ Below w.heap.size w w' := Any.strconv_Atoi_range Tryz.laysC172 s hlim h ev w hv hev
open Go.RowKit in
def Tryz.lays151_ren : Go.Shelf.Ren := ⟨fun | 151 => 142 | 152 => 199 | 137 => 196 | 119 => 286 | 224 => 287 | 225 => 288 | 217 => 282 | 266 => 365 | n => n, fun | 9 => 9 | 21 => 21 | 4 => 4 | 3 => 3 | 5 => 5 | 0 => 0 | 46 => 142 | n => n, fun | n => n⟩
theorem Tryz.lays151 : Go.Proofs.Lays.n151 Tryz.prog Tryz.lays151_ren := {
 mixed := by kernel_rfl
 f119 := Tryz.func286.trans (congrArg some (by kernel_rfl))
 f137 := Tryz.func196.trans (congrArg some (by kernel_rfl))
 f151 := Tryz.func142.trans (congrArg some (by kernel_rfl))
 f152 := Tryz.func199.trans (congrArg some (by kernel_rfl))
 f217 := Tryz.func282.trans (congrArg some (by kernel_rfl))
 f224 := Tryz.func287.trans (congrArg some (by kernel_rfl))
 f225 := Tryz.func288.trans (congrArg some (by kernel_rfl))
 f266 := Tryz.func365.trans (congrArg some (by kernel_rfl))
 t0 := Tryz.underlying0
 a0 := Tryz.isAgg0
 z0 := Tryz.sizeOf0
 v0 := Tryz.zeroValue0
 t3 := Tryz.underlying3
 a3 := Tryz.isAgg3
 z3 := Tryz.sizeOf3
 v3 := Tryz.zeroValue3
 t4 := Tryz.underlying4
 a4 := Tryz.isAgg4
 z4 := Tryz.sizeOf4
 v4 := Tryz.zeroValue4
 t5 := Tryz.underlying5
 a5 := Tryz.isAgg5
 z5 := Tryz.sizeOf5
 v5 := Tryz.zeroValue5
 t9 := Tryz.underlying9
 a9 := Tryz.isAgg9
 z9 := Tryz.sizeOf9
 v9 := Tryz.zeroValue9
 t21 := Tryz.underlying21
 a21 := Tryz.isAgg21
 z21 := Tryz.sizeOf21
 v21 := Tryz.zeroValue21
 t46 := Tryz.underlying142
 a46 := Tryz.isAgg142
 z46 := Tryz.sizeOf142
 v46 := Tryz.zeroValue142 }
open Go.RowKit Go.Lib in
theorem Tryz.strings_ContainsRune_ascii (s : ByteArray) (r : Int) (w : World) (h0 : 0 ≤ r) (h1 : r < 128) :
  Calls Tryz.prog 142 #[.string s, .int .i32 r] w fun e w' => e = .returned (.bool (decide (0 ≤ Lib.indexByte s.data.toList r.toNat.toUInt8))) ∧ w' = w := Any.strings_ContainsRune_ascii Tryz.lays151 s r w h0 h1
end Go.Proofs
namespace Go.Proofs
open Go.Shelf
def Tryz.lays189_ren : Go.Shelf.Ren := ⟨fun | 189 => 44 | 125 => 71 | 257 => 74 | 128 => 114 | 129 => 115 | 294 => 117 | 295 => 118 | 296 => 119 | 297 => 120 | 298 => 121 | 299 => 122 | 216 => 123 | 300 => 124 | 301 => 125 | 328 => 161 | 329 => 157 | 330 => 158 | 331 => 162 | 332 => 163 | 215 => 116 | 343 => 203 | n => n, fun | 28 => 23 | 3 => 3 | 46 => 142 | 0 => 0 | 51 => 173 | 53 => 136 | 4 => 4 | 183 => 167 | 182 => 166 | 131 => 93 | 5 => 5 | 9 => 9 | 218 => 223 | 222 => 227 | 228 => 283 | 229 => 284 | n => n, fun | n => n⟩
theorem Tryz.lays189 : Go.Proofs.Lays.n189 Tryz.prog Tryz.lays189_ren := {
 mixed := by kernel_rfl
 f125 := Tryz.func71.trans (congrArg some (by kernel_rfl))
 f128 := Tryz.func114.trans (congrArg some (by kernel_rfl))
 f129 := Tryz.func115.trans (congrArg some (by kernel_rfl))
 f189 := Tryz.func44.trans (congrArg some (by kernel_rfl))
 f215 := Tryz.func116.trans (congrArg some (by kernel_rfl))
 f216 := Tryz.func123.trans (congrArg some (by kernel_rfl))
 f257 := Tryz.func74.trans (congrArg some (by kernel_rfl))
 f294 := Tryz.func117.trans (congrArg some (by kernel_rfl))
 f295 := Tryz.func118.trans (congrArg some (by kernel_rfl))
 f296 := Tryz.func119.trans (congrArg some (by kernel_rfl))
 f297 := Tryz.func120.trans (congrArg some (by kernel_rfl))
 f298 := Tryz.func121.trans (congrArg some (by kernel_rfl))
 f299 := Tryz.func122.trans (congrArg some (by kernel_rfl))
 f300 := Tryz.func124.trans (congrArg some (by kernel_rfl))
 f301 := Tryz.func125.trans (congrArg some (by kernel_rfl))
 f328 := Tryz.func161.trans (congrArg some (by kernel_rfl))
 f329 := Tryz.func157.trans (congrArg some (by kernel_rfl))
 f330 := Tryz.func158.trans (congrArg some (by kernel_rfl))
 f331 := Tryz.func162.trans (congrArg some (by kernel_rfl))
 f332 := Tryz.func163.trans (congrArg some (by kernel_rfl))
 f343 := Tryz.func203.trans (congrArg some (by kernel_rfl))
 t0 := Tryz.underlying0
 a0 := Tryz.isAgg0
 z0 := Tryz.sizeOf0
 v0 := Tryz.zeroValue0
 t3 := Tryz.underlying3
 a3 := Tryz.isAgg3
 z3 := Tryz.sizeOf3
 v3 := Tryz.zeroValue3
 t4 := Tryz.underlying4
 a4 := Tryz.isAgg4
 z4 := Tryz.sizeOf4
 v4 := Tryz.zeroValue4
 t5 := Tryz.underlying5
 a5 := Tryz.isAgg5
 z5 := Tryz.sizeOf5
 v5 := Tryz.zeroValue5
 t9 := Tryz.underlying9
 a9 := Tryz.isAgg9
 z9 := Tryz.sizeOf9
 v9 := Tryz.zeroValue9
 t28 := Tryz.underlying23
 a28 := Tryz.isAgg23
 z28 := Tryz.sizeOf23
 v28 := Tryz.zeroValue23
 t46 := Tryz.underlying142
 a46 := Tryz.isAgg142
 z46 := Tryz.sizeOf142
 v46 := Tryz.zeroValue142
 t51 := Tryz.underlying173
 a51 := Tryz.isAgg173
 z51 := Tryz.sizeOf173
 v51 := Tryz.zeroValue173
 t53 := Tryz.underlying136
 a53 := Tryz.isAgg136
 z53 := Tryz.sizeOf136
 v53 := Tryz.zeroValue136
 t131 := Tryz.underlying93
 a131 := Tryz.isAgg93
 z131 := Tryz.sizeOf93
 v131 := Tryz.zeroValue93
 t182 := Tryz.underlying166
 a182 := Tryz.isAgg166
 z182 := Tryz.sizeOf166
 v182 := Tryz.zeroValue166
 t183 := Tryz.underlying167
 a183 := Tryz.isAgg167
 z183 := Tryz.sizeOf167
 v183 := Tryz.zeroValue167
 t218 := Tryz.underlying223
 a218 := Tryz.isAgg223
 z218 := Tryz.sizeOf223
 v218 := Tryz.zeroValue223
 t222 := Tryz.underlying227
 a222 := Tryz.isAgg227
 z222 := Tryz.sizeOf227
 v222 := Tryz.zeroValue227
 t228 := Tryz.underlying283
 a228 := Tryz.isAgg283
 z228 := Tryz.sizeOf283
 v228 := Tryz.zeroValue283
 t229 := Tryz.underlying284
 a229 := Tryz.isAgg284
 z229 := Tryz.sizeOf284
 v229 := Tryz.zeroValue284 }
open Go.Sort Go.RowKit in
theorem Tryz.slices_Sort_int (blk off cap : Nat) (zs : List Int) (w : World) (hH : Holds (Value.int .i64) w blk off zs.toArray) (hblk : blk < w.heap.size) (hsz : zs.length < 4611686018427387904) :
  Calls Tryz.prog 44 #[.slice (some ⟨blk, off, none⟩) zs.length cap] w fun e w' =>
   e = .returned (.tuple #[]) ∧ ∃ n os, w' = grow (putRow (Value.int .i64) (Sort.ahead w n) blk off (zs.mergeSort fun x y => decide (x ≤ y)).toArray) os := Any.slices_Sort_int Tryz.lays189 blk off cap zs w hH hblk hsz
theorem Tryz.slices_Sort_int_none (p : Option Addr) (cap : Nat) (w : World) :
  Calls Tryz.prog 44 #[.slice p 0 cap] w fun e w' => e = .returned (.tuple #[]) ∧ w' = w := Any.slices_Sort_int_none Tryz.lays189 p cap w
end Go.Proofs
namespace Go.Proofs.YtdigebokbhmfaaaGreatDoor
open Go.Vc
def tab : Tab := [(3, { kind := 6, size := 1, zero := [.i 0] }),
 (4, { kind := 5, size := 1, zero := [.b false] }),
 (5, { kind := 10, size := 1, zero := [.x (.int .u8 0)] }),
 (9, { kind := 4, size := 1, zero := [.s []] }),
 (23, { kind := 1, size := 1, zero := [.x (.slice none 0 0)], elem := 3, esize := 1, ebytes := 8 }),
 (2, { kind := 6, size := 1, zero := [.i 0] }),
 (21, { kind := 11, size := 1, zero := [.x (.int .i32 0)] }),
 (22, { kind := 1, size := 1, zero := [.x (.slice none 0 0)], elem := 74, esize := 16, ebytes := 192 }),
 (27, { kind := 8, size := 1, zero := [.x (.pointer none)] }),
 (32, { kind := 6, size := 1, zero := [.i 0] }),
 (35, { kind := 1, size := 1, zero := [.x (.slice none 0 0)], elem := 27, esize := 1, ebytes := 8 }),
 (38, { kind := 1, size := 1, zero := [.x (.slice none 0 0)], elem := 99, esize := 3, ebytes := 24 }),
 (40, { kind := 2, size := 13, zero := [.i 0, .i 0, .i 0, .x (.slice none 0 0), .i 0, .i 0, .i 0, .i 0, .i 0, .i 0, .x (.slice none 0 0), .x (.slice none 0 0), .s []], flds := [(0, 1, false), (1, 1, false), (2, 1, false), (3, 1, false), (4, 1, false), (5, 1, false), (6, 1, false), (7, 1, false), (8, 1, false), (9, 1, false), (10, 1, false), (11, 1, false), (12, 1, false)] }),
 (44, { kind := 13, size := 1, zero := [.x .nilFunc] }),
 (50, { kind := 8, size := 1, zero := [.x (.pointer none)] }),
 (53, { kind := 2, size := 3, zero := [.x (.slice none 0 0), .i 0, .i 0], flds := [(0, 1, false), (1, 1, false), (2, 1, false)] }),
 (57, { kind := 13, size := 1, zero := [.x .nilFunc] }),
 (67, { kind := 2, size := 3, zero := [.i 0, .s [], .i 0], flds := [(0, 1, false), (1, 1, false), (2, 1, false)] }),
 (74, { kind := 2, size := 16, zero := [.i 0, .i 0, .i 0, .i 0, .x (.slice none 0 0), .i 0, .i 0, .i 0, .i 0, .i 0, .i 0, .x (.slice none 0 0), .x (.slice none 0 0), .s [], .s [], .i 0], flds := [(0, 1, false), (1, 13, true), (14, 1, false), (15, 1, false)] }),
 (78, { kind := 1, size := 1, zero := [.x (.slice none 0 0)], elem := 86, esize := 18, ebytes := 224 }),
 (79, { kind := 12, size := 1, zero := [.x (.map none)], elem := 3, esize := 3 }),
 (81, { kind := 2, size := 3, zero := [.x (.pointer none), .x (.slice none 0 0), .x (.map none)], flds := [(0, 1, false), (1, 1, false), (2, 1, false)] }),
 (82, { kind := 1, size := 1, zero := [.x (.slice none 0 0)], elem := 136, esize := 1, ebytes := 8 }),
 (86, { kind := 2, size := 18, zero := [.i 0, .s [], .i 0, .i 0, .i 0, .i 0, .x (.slice none 0 0), .i 0, .i 0, .i 0, .i 0, .i 0, .i 0, .x (.slice none 0 0), .x (.slice none 0 0), .s [], .i 0, .x (.slice none 0 0)], flds := [(0, 3, true), (3, 13, true), (16, 1, false), (17, 1, false)] }),
 (92, { kind := 12, size := 1, zero := [.x (.map none)], elem := 3, esize := 4 }),
 (95, { kind := 13, size := 1, zero := [.x .nilFunc] }),
 (99, { kind := 2, size := 3, zero := [.i 0, .i 0, .i 0], flds := [(0, 1, false), (1, 1, false), (2, 1, false)], cmp := true }),
 (100, { kind := 12, size := 1, zero := [.x (.map none)], elem := 3, esize := 23 }),
 (102, { kind := 12, size := 1, zero := [.x (.map none)], elem := 121, esize := 3 }),
 (103, { kind := 1, size := 1, zero := [.x (.slice none 0 0)], elem := 121, esize := 2, ebytes := 24 }),
 (105, { kind := 2, size := 2, zero := [.x (.slice none 0 0), .x (.map none)], flds := [(0, 1, false), (1, 1, false)] }),
 (111, { kind := 1, size := 1, zero := [.x (.slice none 0 0)], elem := 202, esize := 15, ebytes := 256 }),
 (112, { kind := 1, size := 1, zero := [.x (.slice none 0 0)], elem := 241, esize := 7, ebytes := 56 }),
 (113, { kind := 1, size := 1, zero := [.x (.slice none 0 0)], elem := 193, esize := 2, ebytes := 16 }),
 (121, { kind := 2, size := 2, zero := [.i 0, .s []], flds := [(0, 1, false), (1, 1, false)] }),
 (122, { kind := 8, size := 1, zero := [.x (.pointer none)] }),
 (123, { kind := 1, size := 1, zero := [.x (.slice none 0 0)], elem := 5, esize := 1, ebytes := 1 }),
 (125, { kind := 2, size := 2, zero := [.x (.pointer none), .x (.slice none 0 0)], flds := [(0, 1, false), (1, 1, false)] }),
 (127, { kind := 9, size := 1, zero := [.x .nilIface] }),
 (130, { kind := 13, size := 1, zero := [.x .nilFunc] }),
 (136, { kind := 7, size := 1, zero := [.x (.int .u64 0)] }),
 (142, { kind := 7, size := 1, zero := [.x (.int .u64 0)] }),
 (147, { kind := 13, size := 1, zero := [.x .nilFunc] }),
 (158, { kind := 8, size := 1, zero := [.x (.pointer none)] }),
 (160, { kind := 13, size := 1, zero := [.x .nilFunc] }),
 (164, { kind := 8, size := 1, zero := [.x (.pointer none)] }),
 (166, { kind := 6, size := 1, zero := [.i 0] }),
 (173, { kind := 14, size := 1, zero := [.x (.int .u32 0)] }),
 (193, { kind := 2, size := 2, zero := [.i 0, .i 0], flds := [(0, 1, false), (1, 1, false)], cmp := true }),
 (196, { kind := 1, size := 1, zero := [.x (.slice none 0 0)], elem := 294, esize := 5, ebytes := 56 }),
 (197, { kind := 1, size := 1, zero := [.x (.slice none 0 0)], elem := 299, esize := 5, ebytes := 40 }),
 (198, { kind := 1, size := 1, zero := [.x (.slice none 0 0)], elem := 253, esize := 4, ebytes := 32 }),
 (199, { kind := 1, size := 1, zero := [.x (.slice none 0 0)], elem := 266, esize := 5, ebytes := 56 }),
 (200, { kind := 1, size := 1, zero := [.x (.slice none 0 0)], elem := 257, esize := 12, ebytes := 128 }),
 (202, { kind := 2, size := 15, zero := [.i 0, .i 0, .s [], .i 0, .i 0, .x (.slice none 0 0), .x (.slice none 0 0), .x (.slice none 0 0), .x (.slice none 0 0), .x (.slice none 0 0), .x (.slice none 0 0), .x (.slice none 0 0), .x (.slice none 0 0), .i 0, .b false], flds := [(0, 1, false), (1, 1, false), (2, 1, false), (3, 1, false), (4, 1, false), (5, 1, false), (6, 1, false), (7, 1, false), (8, 1, false), (9, 1, false), (10, 1, false), (11, 1, false), (12, 1, false), (13, 1, false), (14, 1, false)] }),
 (204, { kind := 1, size := 1, zero := [.x (.slice none 0 0)], elem := 435, esize := 6, ebytes := 80 }),
 (205, { kind := 1, size := 1, zero := [.x (.slice none 0 0)], elem := 207, esize := 5, ebytes := 64 }),
 (207, { kind := 2, size := 5, zero := [.i 0, .i 0, .i 0, .s [], .x (.slice none 0 0)], flds := [(0, 1, false), (1, 1, false), (2, 1, false), (3, 1, false), (4, 1, false)] }),
 (212, { kind := 2, size := 2, zero := [.s [], .b false], flds := [(0, 1, false), (1, 1, false)] }),
 (216, { kind := 3, size := 21, zero := [.s [], .s [], .s [], .s [], .s [], .s [], .s [], .s [], .s [], .s [], .s [], .s [], .s [], .s [], .s [], .s [], .s [], .s [], .s [], .s [], .s []], elem := 9, esize := 1, ebytes := 21 }),
 (217, { kind := 3, size := 8, zero := [.b false, .b false, .b false, .b false, .b false, .b false, .b false, .b false], elem := 4, esize := 1, ebytes := 8 }),
 (219, { kind := 13, size := 1, zero := [.x .nilFunc] }),
 (220, { kind := 0, size := 1, zero := [.x (.pointer none)] }),
 (223, { kind := 7, size := 1, zero := [.x (.int .u64 0)] }),
 (227, { kind := 8, size := 1, zero := [.x (.pointer none)] }),
 (241, { kind := 2, size := 7, zero := [.i 0, .i 0, .i 0, .i 0, .i 0, .i 0, .i 0], flds := [(0, 3, true), (3, 1, false), (4, 1, false), (5, 1, false), (6, 1, false)], cmp := true }),
 (253, { kind := 2, size := 4, zero := [.i 0, .i 0, .i 0, .b false], flds := [(0, 1, false), (1, 1, false), (2, 1, false), (3, 1, false)] }),
 (257, { kind := 2, size := 12, zero := [.i 0, .i 0, .i 0, .i 0, .i 0, .i 0, .i 0, .x (.slice none 0 0), .x (.slice none 0 0), .i 0, .i 0, .i 0], flds := [(0, 1, false), (1, 1, false), (2, 1, false), (3, 1, false), (4, 1, false), (5, 1, false), (6, 1, false), (7, 1, false), (8, 1, false), (9, 1, false), (10, 1, false), (11, 1, false)] }),
 (264, { kind := 1, size := 1, zero := [.x (.slice none 0 0)], elem := 268, esize := 4, ebytes := 32 }),
 (266, { kind := 2, size := 5, zero := [.i 0, .i 0, .i 0, .x (.slice none 0 0), .i 0], flds := [(0, 1, false), (1, 1, false), (2, 1, false), (3, 1, false), (4, 1, false)] }),
 (268, { kind := 2, size := 4, zero := [.i 0, .i 0, .b false, .i 0], flds := [(0, 1, false), (1, 1, false), (2, 1, false), (3, 1, false)] }),
 (294, { kind := 2, size := 5, zero := [.i 0, .i 0, .x (.slice none 0 0), .i 0, .i 0], flds := [(0, 1, false), (1, 1, false), (2, 1, false), (3, 1, false), (4, 1, false)] }),
 (299, { kind := 2, size := 5, zero := [.i 0, .i 0, .i 0, .i 0, .i 0], flds := [(0, 1, false), (1, 1, false), (2, 1, false), (3, 1, false), (4, 1, false)], cmp := true }),
 (315, { kind := 13, size := 1, zero := [.x .nilFunc] }),
 (322, { kind := 13, size := 1, zero := [.x .nilFunc] }),
 (344, { kind := 2, size := 3, zero := [.s [], .i 0, .i 0], flds := [(0, 1, false), (1, 1, false), (2, 1, false)] }),
 (345, { kind := 1, size := 1, zero := [.x (.slice none 0 0)], elem := 344, esize := 3, ebytes := 32 }),
 (348, { kind := 1, size := 1, zero := [.x (.slice none 0 0)], elem := 23, esize := 1, ebytes := 24 }),
 (366, { kind := 3, size := 24, zero := [.x (.int .u8 0), .x (.int .u8 0), .x (.int .u8 0), .x (.int .u8 0), .x (.int .u8 0), .x (.int .u8 0), .x (.int .u8 0), .x (.int .u8 0), .x (.int .u8 0), .x (.int .u8 0), .x (.int .u8 0), .x (.int .u8 0), .x (.int .u8 0), .x (.int .u8 0), .x (.int .u8 0), .x (.int .u8 0), .x (.int .u8 0), .x (.int .u8 0), .x (.int .u8 0), .x (.int .u8 0), .x (.int .u8 0), .x (.int .u8 0), .x (.int .u8 0), .x (.int .u8 0)], elem := 5, esize := 1, ebytes := 24 }),
 (374, { kind := 13, size := 1, zero := [.x .nilFunc] }),
 (376, { kind := 13, size := 1, zero := [.x .nilFunc] }),
 (382, { kind := 13, size := 1, zero := [.x .nilFunc] }),
 (435, { kind := 2, size := 6, zero := [.s [], .i 0, .i 0, .i 0, .s [], .x (.slice none 0 0)], flds := [(0, 1, false), (1, 5, true)] }),
 (436, { kind := 13, size := 1, zero := [.x .nilFunc] }),
 (440, { kind := 6, size := 1, zero := [.i 0] }),
 (443, { kind := 8, size := 1, zero := [.x (.pointer none)] }),
 (448, { kind := 3, size := 20, zero := [.x (.int .u64 0), .x (.int .u64 0), .x (.int .u64 0), .x (.int .u64 0), .x (.int .u64 0), .x (.int .u64 0), .x (.int .u64 0), .x (.int .u64 0), .x (.int .u64 0), .x (.int .u64 0), .x (.int .u64 0), .x (.int .u64 0), .x (.int .u64 0), .x (.int .u64 0), .x (.int .u64 0), .x (.int .u64 0), .x (.int .u64 0), .x (.int .u64 0), .x (.int .u64 0), .x (.int .u64 0)], elem := 136, esize := 1, ebytes := 20 }),
 (449, { kind := 3, size := 65, zero := [.x (.int .u8 0), .x (.int .u8 0), .x (.int .u8 0), .x (.int .u8 0), .x (.int .u8 0), .x (.int .u8 0), .x (.int .u8 0), .x (.int .u8 0), .x (.int .u8 0), .x (.int .u8 0), .x (.int .u8 0), .x (.int .u8 0), .x (.int .u8 0), .x (.int .u8 0), .x (.int .u8 0), .x (.int .u8 0), .x (.int .u8 0), .x (.int .u8 0), .x (.int .u8 0), .x (.int .u8 0), .x (.int .u8 0), .x (.int .u8 0), .x (.int .u8 0), .x (.int .u8 0), .x (.int .u8 0), .x (.int .u8 0), .x (.int .u8 0), .x (.int .u8 0), .x (.int .u8 0), .x (.int .u8 0), .x (.int .u8 0), .x (.int .u8 0), .x (.int .u8 0), .x (.int .u8 0), .x (.int .u8 0), .x (.int .u8 0), .x (.int .u8 0), .x (.int .u8 0), .x (.int .u8 0), .x (.int .u8 0), .x (.int .u8 0), .x (.int .u8 0), .x (.int .u8 0), .x (.int .u8 0), .x (.int .u8 0), .x (.int .u8 0), .x (.int .u8 0), .x (.int .u8 0), .x (.int .u8 0), .x (.int .u8 0), .x (.int .u8 0), .x (.int .u8 0), .x (.int .u8 0), .x (.int .u8 0), .x (.int .u8 0), .x (.int .u8 0), .x (.int .u8 0), .x (.int .u8 0), .x (.int .u8 0), .x (.int .u8 0), .x (.int .u8 0), .x (.int .u8 0), .x (.int .u8 0), .x (.int .u8 0), .x (.int .u8 0)], elem := 5, esize := 1, ebytes := 65 }),
 (452, { kind := 1, size := 1, zero := [.x (.slice none 0 0)], elem := 455, esize := 3, ebytes := 24 }),
 (455, { kind := 2, size := 3, zero := [.i 0, .i 0, .i 0], flds := [(0, 1, false), (1, 1, false), (2, 1, false)], cmp := true }),
 (477, { kind := 13, size := 1, zero := [.x .nilFunc] }),
 (480, { kind := 13, size := 1, zero := [.x .nilFunc] }),
 (498, { kind := 1, size := 1, zero := [.x (.slice none 0 0)], elem := 9, esize := 1, ebytes := 16 }),
 (508, { kind := 2, size := 3, zero := [.s [], .s [], .x .nilIface], flds := [(0, 1, false), (1, 1, false), (2, 1, false)] }),
 (514, { kind := 13, size := 1, zero := [.x .nilFunc] }),
 (535, { kind := 13, size := 1, zero := [.x .nilFunc] }),
 (542, { kind := 1, size := 1, zero := [.x (.slice none 0 0)], elem := 544, esize := 3, ebytes := 32 }),
 (544, { kind := 2, size := 3, zero := [.s [], .i 0, .i 0], flds := [(0, 1, false), (1, 1, false), (2, 1, false)] }),
 (551, { kind := 3, size := 32, zero := [.x (.int .u8 0), .x (.int .u8 0), .x (.int .u8 0), .x (.int .u8 0), .x (.int .u8 0), .x (.int .u8 0), .x (.int .u8 0), .x (.int .u8 0), .x (.int .u8 0), .x (.int .u8 0), .x (.int .u8 0), .x (.int .u8 0), .x (.int .u8 0), .x (.int .u8 0), .x (.int .u8 0), .x (.int .u8 0), .x (.int .u8 0), .x (.int .u8 0), .x (.int .u8 0), .x (.int .u8 0), .x (.int .u8 0), .x (.int .u8 0), .x (.int .u8 0), .x (.int .u8 0), .x (.int .u8 0), .x (.int .u8 0), .x (.int .u8 0), .x (.int .u8 0), .x (.int .u8 0), .x (.int .u8 0), .x (.int .u8 0), .x (.int .u8 0)], elem := 5, esize := 1, ebytes := 32 }),
 (552, { kind := 3, size := 64, zero := [.x (.int .u8 0), .x (.int .u8 0), .x (.int .u8 0), .x (.int .u8 0), .x (.int .u8 0), .x (.int .u8 0), .x (.int .u8 0), .x (.int .u8 0), .x (.int .u8 0), .x (.int .u8 0), .x (.int .u8 0), .x (.int .u8 0), .x (.int .u8 0), .x (.int .u8 0), .x (.int .u8 0), .x (.int .u8 0), .x (.int .u8 0), .x (.int .u8 0), .x (.int .u8 0), .x (.int .u8 0), .x (.int .u8 0), .x (.int .u8 0), .x (.int .u8 0), .x (.int .u8 0), .x (.int .u8 0), .x (.int .u8 0), .x (.int .u8 0), .x (.int .u8 0), .x (.int .u8 0), .x (.int .u8 0), .x (.int .u8 0), .x (.int .u8 0), .x (.int .u8 0), .x (.int .u8 0), .x (.int .u8 0), .x (.int .u8 0), .x (.int .u8 0), .x (.int .u8 0), .x (.int .u8 0), .x (.int .u8 0), .x (.int .u8 0), .x (.int .u8 0), .x (.int .u8 0), .x (.int .u8 0), .x (.int .u8 0), .x (.int .u8 0), .x (.int .u8 0), .x (.int .u8 0), .x (.int .u8 0), .x (.int .u8 0), .x (.int .u8 0), .x (.int .u8 0), .x (.int .u8 0), .x (.int .u8 0), .x (.int .u8 0), .x (.int .u8 0), .x (.int .u8 0), .x (.int .u8 0), .x (.int .u8 0), .x (.int .u8 0), .x (.int .u8 0), .x (.int .u8 0), .x (.int .u8 0), .x (.int .u8 0)], elem := 5, esize := 1, ebytes := 64 }),
 (559, { kind := 13, size := 1, zero := [.x .nilFunc] }),
 (560, { kind := 1, size := 1, zero := [.x (.slice none 0 0)], elem := 38, esize := 1, ebytes := 24 })]
theorem tab_ok : TabOk Tryz.prog tab := TabOk.of_all (by kernel_rfl)
theorem mixed : Tryz.prog.follows .mixedOrders = true := by kernel_rfl
theorem b6 : Body Tryz.prog 6 := ⟨Tryz.f6, Tryz.func6, rfl, rfl⟩
theorem b8 : Body Tryz.prog 8 := ⟨Tryz.f8, Tryz.func8, rfl, rfl⟩
theorem b11 : Body Tryz.prog 11 := ⟨Tryz.f11, Tryz.func11, rfl, rfl⟩
theorem b12 : Body Tryz.prog 12 := ⟨Tryz.f12, Tryz.func12, rfl, rfl⟩
theorem b13 : Body Tryz.prog 13 := ⟨Tryz.f13, Tryz.func13, rfl, rfl⟩
theorem b14 : Body Tryz.prog 14 := ⟨Tryz.f14, Tryz.func14, rfl, rfl⟩
theorem b15 : Body Tryz.prog 15 := ⟨Tryz.f15, Tryz.func15, rfl, rfl⟩
theorem b16 : Body Tryz.prog 16 := ⟨Tryz.f16, Tryz.func16, rfl, rfl⟩
theorem b18 : Body Tryz.prog 18 := ⟨Tryz.f18, Tryz.func18, rfl, rfl⟩
theorem b19 : Body Tryz.prog 19 := ⟨Tryz.f19, Tryz.func19, rfl, rfl⟩
theorem b20 : Body Tryz.prog 20 := ⟨Tryz.f20, Tryz.func20, rfl, rfl⟩
theorem b26 : Body Tryz.prog 26 := ⟨Tryz.f26, Tryz.func26, rfl, rfl⟩
theorem b27 : Body Tryz.prog 27 := ⟨Tryz.f27, Tryz.func27, rfl, rfl⟩
theorem b28 : Body Tryz.prog 28 := ⟨Tryz.f28, Tryz.func28, rfl, rfl⟩
theorem b29 : Body Tryz.prog 29 := ⟨Tryz.f29, Tryz.func29, rfl, rfl⟩
theorem b35 : Body Tryz.prog 35 := ⟨Tryz.f35, Tryz.func35, rfl, rfl⟩
theorem b36 : Body Tryz.prog 36 := ⟨Tryz.f36, Tryz.func36, rfl, rfl⟩
theorem b38 : Body Tryz.prog 38 := ⟨Tryz.f38, Tryz.func38, rfl, rfl⟩
theorem b39 : Body Tryz.prog 39 := ⟨Tryz.f39, Tryz.func39, rfl, rfl⟩
theorem b40 : Body Tryz.prog 40 := ⟨Tryz.f40, Tryz.func40, rfl, rfl⟩
theorem b41 : Body Tryz.prog 41 := ⟨Tryz.f41, Tryz.func41, rfl, rfl⟩
theorem b42 : Body Tryz.prog 42 := ⟨Tryz.f42, Tryz.func42, rfl, rfl⟩
theorem b44 : Body Tryz.prog 44 := ⟨Tryz.f44, Tryz.func44, rfl, rfl⟩
theorem b45 : Body Tryz.prog 45 := ⟨Tryz.f45, Tryz.func45, rfl, rfl⟩
theorem b46 : Body Tryz.prog 46 := ⟨Tryz.f46, Tryz.func46, rfl, rfl⟩
theorem b47 : Body Tryz.prog 47 := ⟨Tryz.f47, Tryz.func47, rfl, rfl⟩
theorem b49 : Body Tryz.prog 49 := ⟨Tryz.f49, Tryz.func49, rfl, rfl⟩
theorem b51 : Body Tryz.prog 51 := ⟨Tryz.f51, Tryz.func51, rfl, rfl⟩
theorem b52 : Body Tryz.prog 52 := ⟨Tryz.f52, Tryz.func52, rfl, rfl⟩
theorem b54 : Body Tryz.prog 54 := ⟨Tryz.f54, Tryz.func54, rfl, rfl⟩
theorem b55 : Body Tryz.prog 55 := ⟨Tryz.f55, Tryz.func55, rfl, rfl⟩
theorem b56 : Body Tryz.prog 56 := ⟨Tryz.f56, Tryz.func56, rfl, rfl⟩
theorem b57 : Body Tryz.prog 57 := ⟨Tryz.f57, Tryz.func57, rfl, rfl⟩
theorem b58 : Body Tryz.prog 58 := ⟨Tryz.f58, Tryz.func58, rfl, rfl⟩
theorem b59 : Body Tryz.prog 59 := ⟨Tryz.f59, Tryz.func59, rfl, rfl⟩
theorem b60 : Body Tryz.prog 60 := ⟨Tryz.f60, Tryz.func60, rfl, rfl⟩
theorem b61 : Body Tryz.prog 61 := ⟨Tryz.f61, Tryz.func61, rfl, rfl⟩
theorem b62 : Body Tryz.prog 62 := ⟨Tryz.f62, Tryz.func62, rfl, rfl⟩
theorem b63 : Body Tryz.prog 63 := ⟨Tryz.f63, Tryz.func63, rfl, rfl⟩
theorem b65 : Body Tryz.prog 65 := ⟨Tryz.f65, Tryz.func65, rfl, rfl⟩
theorem b66 : Body Tryz.prog 66 := ⟨Tryz.f66, Tryz.func66, rfl, rfl⟩
theorem b67 : Body Tryz.prog 67 := ⟨Tryz.f67, Tryz.func67, rfl, rfl⟩
theorem b68 : Body Tryz.prog 68 := ⟨Tryz.f68, Tryz.func68, rfl, rfl⟩
theorem b69 : Body Tryz.prog 69 := ⟨Tryz.f69, Tryz.func69, rfl, rfl⟩
theorem b75 : Body Tryz.prog 75 := ⟨Tryz.f75, Tryz.func75, rfl, rfl⟩
theorem b76 : Body Tryz.prog 76 := ⟨Tryz.f76, Tryz.func76, rfl, rfl⟩
theorem b78 : Body Tryz.prog 78 := ⟨Tryz.f78, Tryz.func78, rfl, rfl⟩
theorem b83 : Body Tryz.prog 83 := ⟨Tryz.f83, Tryz.func83, rfl, rfl⟩
theorem b84 : Body Tryz.prog 84 := ⟨Tryz.f84, Tryz.func84, rfl, rfl⟩
theorem b85 : Body Tryz.prog 85 := ⟨Tryz.f85, Tryz.func85, rfl, rfl⟩
theorem b86 : Body Tryz.prog 86 := ⟨Tryz.f86, Tryz.func86, rfl, rfl⟩
theorem b87 : Body Tryz.prog 87 := ⟨Tryz.f87, Tryz.func87, rfl, rfl⟩
theorem b88 : Body Tryz.prog 88 := ⟨Tryz.f88, Tryz.func88, rfl, rfl⟩
theorem b89 : Body Tryz.prog 89 := ⟨Tryz.f89, Tryz.func89, rfl, rfl⟩
theorem b90 : Body Tryz.prog 90 := ⟨Tryz.f90, Tryz.func90, rfl, rfl⟩
theorem b91 : Body Tryz.prog 91 := ⟨Tryz.f91, Tryz.func91, rfl, rfl⟩
theorem b92 : Body Tryz.prog 92 := ⟨Tryz.f92, Tryz.func92, rfl, rfl⟩
theorem b93 : Body Tryz.prog 93 := ⟨Tryz.f93, Tryz.func93, rfl, rfl⟩
theorem b94 : Body Tryz.prog 94 := ⟨Tryz.f94, Tryz.func94, rfl, rfl⟩
theorem b95 : Body Tryz.prog 95 := ⟨Tryz.f95, Tryz.func95, rfl, rfl⟩
theorem b96 : Body Tryz.prog 96 := ⟨Tryz.f96, Tryz.func96, rfl, rfl⟩
theorem b97 : Body Tryz.prog 97 := ⟨Tryz.f97, Tryz.func97, rfl, rfl⟩
theorem b98 : Body Tryz.prog 98 := ⟨Tryz.f98, Tryz.func98, rfl, rfl⟩
theorem b99 : Body Tryz.prog 99 := ⟨Tryz.f99, Tryz.func99, rfl, rfl⟩
theorem b100 : Body Tryz.prog 100 := ⟨Tryz.f100, Tryz.func100, rfl, rfl⟩
theorem b138 : Body Tryz.prog 138 := ⟨Tryz.f138, Tryz.func138, rfl, rfl⟩
theorem b139 : Body Tryz.prog 139 := ⟨Tryz.f139, Tryz.func139, rfl, rfl⟩
theorem b140 : Body Tryz.prog 140 := ⟨Tryz.f140, Tryz.func140, rfl, rfl⟩
theorem b141 : Body Tryz.prog 141 := ⟨Tryz.f141, Tryz.func141, rfl, rfl⟩
theorem b142 : Body Tryz.prog 142 := ⟨Tryz.f142, Tryz.func142, rfl, rfl⟩
theorem b143 : Body Tryz.prog 143 := ⟨Tryz.f143, Tryz.func143, rfl, rfl⟩
theorem b168 : Body Tryz.prog 168 := ⟨Tryz.f168, Tryz.func168, rfl, rfl⟩
theorem b169 : Body Tryz.prog 169 := ⟨Tryz.f169, Tryz.func169, rfl, rfl⟩
theorem b170 : Body Tryz.prog 170 := ⟨Tryz.f170, Tryz.func170, rfl, rfl⟩
theorem b196 : Body Tryz.prog 196 := ⟨Tryz.f196, Tryz.func196, rfl, rfl⟩
theorem b197 : Body Tryz.prog 197 := ⟨Tryz.f197, Tryz.func197, rfl, rfl⟩
theorem b198 : Body Tryz.prog 198 := ⟨Tryz.f198, Tryz.func198, rfl, rfl⟩
theorem b293 : Body Tryz.prog 293 := ⟨Tryz.f293, Tryz.func293, rfl, rfl⟩
theorem b387 : Body Tryz.prog 387 := ⟨Tryz.f387, Tryz.func387, rfl, rfl⟩
theorem zr {Q : Exit → Act → World → Prop} {id : Nat} {l : List Oper} {st : Go.Vc.St} (h : Go.Vc.run Tryz.prog tab l.toArray l st (fun st' => st'.atEnd (Q .normal))) : Go.Vc.At st ((Code.region id l.toArray false).wp Tryz.prog Q) := Go.Vc.At.region tab_ok h
theorem zq {Q : Exit → Act → World → Prop} {x y : Code} {st : Go.Vc.St} (h : Go.Vc.At st (x.wp Tryz.prog (Exit.then (y.wp Tryz.prog Q) Q))) : Go.Vc.At st ((Code.seq x y).wp Tryz.prog Q) := Go.Vc.At.seq h
end Go.Proofs.YtdigebokbhmfaaaGreatDoor
namespace Go.Proofs.YtdigebokbhmfaaaGreatDoor
open Go.Vc
@[reducible] def sv (l : List UInt8) : Value := .string (bs l)
@[reducible] def vI (n : Int) : Value := .int .i64 n
@[reducible] def rS (l : List UInt8) : RV := .s (.c (.s l))
def usesTab : List (List UInt8) := [[107, 116], [99], [99], [99, 119, 110, 109], [110, 114], [119, 115], [119, 109, 115], [99, 119, 109, 114, 115], [99, 110, 109, 114], [110, 114], [99, 110, 109, 116], [114, 116], [110, 114], [114], [99, 116], [119, 110], [99, 109], [99, 107], [110, 109, 114], [110, 109, 114], [110, 109, 114]]
structure Gl (w : World) : Prop where
 size : 8 ≤ w.heap.size
 uses : ∃ T, w.heap[0]? = some (.cells (usesTab.map sv).toArray T (0, 0))
 pow : Lib.TabIs Tryz.prog w "internal/strconv.uint64pow10" .u64 Lib.pow10Tab
 errS : ∃ te pe, w.cell? ⟨3, 0, none⟩ = some (.iface te pe)
 errR : ∃ te pe, w.cell? ⟨4, 0, none⟩ = some (.iface te pe)
theorem g2 : Tryz.prog.globalNamed "internal/strconv.uint64pow10" = some 2 := by kernel_rfl
theorem Gl.fr {S : List Nat} {w w' : World} (h : Gl w) (hf : Fr S w w') (hS : ∀ b ∈ S, 8 ≤ b) : Gl w' := by
 have hz := h.size
 have e : ∀ k, k < 8 → w'.heap[k]? = w.heap[k]? := fun k hk => hf.block k (by omega) fun hm => by have := hS k hm; omega
 have ec : ∀ k o, k < 8 → w'.cell? ⟨k, o, none⟩ = w.cell? ⟨k, o, none⟩ := fun k o hk => by simp only [World.cell?, e k hk]
 refine ⟨Nat.le_trans hz hf.size, ?_, ?_, ?_, ?_⟩
 ·rw [e 0 (by decide)]; exact h.uses
 ·have := h.pow
  unfold Lib.TabIs World.var? at this ⊢
  rw [g2] at this ⊢
  simp only [Option.bind_some] at this ⊢
  rw [e 2 (by decide)]; exact this
 ·rw [ec 3 0 (by decide)]; exact h.errS
 ·rw [ec 4 0 (by decide)]; exact h.errR
theorem Gl.ext {w w' : World} (h : Gl w) (hf : Ext w w') : Gl w' := h.fr hf (fun b hb => by cases hb)
def AnsP (P : Program) (f : FuncId) (args : List Value) (Good : RV → Prop) (w : World) : Prop :=
 Calls P f args.toArray w (fun e w' => ∃ r : RV, e = .returned r.den ∧ noPr r = true ∧ Good r ∧ Ext w w')
theorem ansP_call {P : Program} {f : FuncId} {args : List Value} {Good : RV → Prop} {st : St} {d : Option Nat} {K : St → Prop} (hb : Body P f) (h : ∀ w, Holds st w → AnsP P f args Good w)
  (hk : ∀ r, Good r → noPr r = true → goPut st d r K) : UCall P st f args d K :=
 .inl ⟨hb, fun hwf w hw => (h w hw).mono fun e w' ⟨r, he, hn, hg, hx⟩ => ⟨r, st, he, ⟨rfl, rfl, rfl, rfl⟩, hwf, noPr_ok hn, hw.ext hx, hk r hg hn⟩⟩
theorem ext_refl (w : World) : Ext w w := Fr.refl [] w
theorem itoa_c (n : Int) (h : inR n) (w : World) (hG : Gl w) : Ans Tryz.prog 100 [vI n] (rS (Lib.itoa n)) w :=
 (Tryz.strconv_Itoa n h.1 h.2 w hG.pow).mono fun e w' ⟨he, k, os, hw⟩ => ⟨he, hw ▸ Ext.of_below (Lib.below_grow _ w (Nat.le_refl _) k os)⟩
theorem bytesWorld_ext (w : World) (t : TypeId) (s : ByteArray) : Ext w (Lib.bytesWorld w t s) :=
 Ext.of_below (Lib.bytesWorld_below w t s)
theorem atoi_ok (l : List UInt8) (v : Int) (hl : l.length ≤ 1000) (h : Lib.atoiAll l = .ok v) (w : World) : Ans Tryz.prog 197 [sv l] (.tup [.c (.i v), .c (.x .nilIface)]) w :=
 (Tryz.strconv_Atoi_ok (bs l) (by rw [size_bs]; omega) v h w).mono fun e w' ⟨he, hw⟩ => ⟨he, by
  rcases hw with rfl | ⟨t, rfl⟩
  ·exact ext_refl _
  ·exact bytesWorld_ext _ _ _⟩
theorem atoi_bad (l : List UInt8) (hl : l.length ≤ 1000) (h : ∀ v, Lib.atoiAll l ≠ .ok v) (w : World) (hG : Gl w) : AnsP Tryz.prog 197 [sv l] (fun r => ∃ (n : Int) (t : TypeId) (u : Value), r = .tup [.c (.i n), .c (.x (.iface t u))]) w := by
 cases hc : Lib.atoiAll l
 ·rename_i v
  exact absurd hc (h v)
 ·skip
  obtain ⟨te, pe, he⟩ := hG.errS
  exact (Any.strconv_Atoi_syntax Tryz.laysC172 (bs l) (by rw [size_bs]; omega) hc _ w he (.inr ⟨_, _, rfl⟩)).mono fun e w' ⟨N, he, _, _, hb⟩ => ⟨.tup [.c (.i 0), .c (.x (.iface 443 (.pointer (some ⟨N, 0, none⟩))))], he, rfl, ⟨_, _, _, rfl⟩, Ext.of_below hb⟩
 ·skip
  obtain ⟨te, pe, he⟩ := hG.errR
  exact (Tryz.strconv_Atoi_range (bs l) (by rw [size_bs]; omega) hc _ w he (.inr ⟨_, _, rfl⟩)).mono fun e w' ⟨N, he, _, _, hb⟩ => ⟨.tup [.c (.i _), .c (.x (.iface 443 (.pointer (some ⟨N, 0, none⟩))))], he, rfl, ⟨_, _, _, rfl⟩, Ext.of_below hb⟩
theorem indexByte_c (l : List UInt8) (c : Int) (w : World) : Ans Tryz.prog 196 [sv l, .int .u8 c] (.i (Lib.indexByte l c.toNat.toUInt8)) w :=
 (Tryz.strings_IndexByte (bs l) c w).mono fun e w' ⟨he, hw⟩ => ⟨he, hw ▸ ext_refl _⟩
theorem cutPrefix_c (l p : List UInt8) (w : World) : Ans Tryz.prog 198 [sv l, sv p] (.tup [.c (.s (Lib.trimPrefix l p)), .c (.b (Lib.hasPrefix l p))]) w :=
 (Tryz.strings_CutPrefix (bs l) (bs p) w).mono fun e w' ⟨he, hw⟩ => ⟨he, hw ▸ ext_refl _⟩
theorem containsRune_c (l : List UInt8) (r : Int) (h0 : 0 ≤ r) (h1 : r < 128) (w : World) : Ans Tryz.prog 142 [sv l, .int .i32 r] (.b (decide (0 ≤ Lib.indexByte l r.toNat.toUInt8))) w :=
 (Tryz.strings_ContainsRune_ascii (bs l) r w h0 h1).mono fun e w' ⟨he, hw⟩ => ⟨he, hw ▸ ext_refl _⟩
end Go.Proofs.YtdigebokbhmfaaaGreatDoor
