/- Texts that the law leans on. -/
import Derived.Test.YtlobacpdhglnkaaGreatDoorPVcFam
import Derived.Test.YtlobacpdhglnkaaGreatDoorPVcGuard
import Derived.Test.YtlobacpdhglnkaaGreatDoorX00
import Derived.Test.YtlobacpdhglnkaaGreatDoorProg
import Derived.KernelRfl
import Derived.Lib.AppendIntMem
set_option linter.unusedVariables false
set_option linter.unusedSimpArgs false
namespace Go.Proofs.YtlobacpdhglnkaaGreatDoor
open Go.Vc
def tab : Tab := [(3, { kind := 6, size := 1, zero := [.i 0] }),
 (4, { kind := 5, size := 1, zero := [.b false] }),
 (5, { kind := 10, size := 1, zero := [.x (.int .u8 0)] }),
 (9, { kind := 4, size := 1, zero := [.s []] }),
 (2, { kind := 6, size := 1, zero := [.i 0] }),
 (20, { kind := 9, size := 1, zero := [.x .nilIface] }),
 (21, { kind := 11, size := 1, zero := [.x (.int .i32 0)] }),
 (22, { kind := 1, size := 1, zero := [.x (.slice none 0 0)], elem := 3, esize := 1, ebytes := 8 }),
 (24, { kind := 2, size := 3, zero := [.x (.slice none 0 0), .i 0, .i 0], flds := [(0, 1, false), (1, 1, false), (2, 1, false)] }),
 (25, { kind := 1, size := 1, zero := [.x (.slice none 0 0)], elem := 64, esize := 16, ebytes := 192 }),
 (28, { kind := 8, size := 1, zero := [.x (.pointer none)] }),
 (30, { kind := 1, size := 1, zero := [.x (.slice none 0 0)], elem := 50, esize := 3, ebytes := 24 }),
 (38, { kind := 2, size := 13, zero := [.i 0, .i 0, .i 0, .x (.slice none 0 0), .i 0, .i 0, .i 0, .i 0, .i 0, .i 0, .x (.slice none 0 0), .x (.slice none 0 0), .s []], flds := [(0, 1, false), (1, 1, false), (2, 1, false), (3, 1, false), (4, 1, false), (5, 1, false), (6, 1, false), (7, 1, false), (8, 1, false), (9, 1, false), (10, 1, false), (11, 1, false), (12, 1, false)] }),
 (44, { kind := 8, size := 1, zero := [.x (.pointer none)] }),
 (50, { kind := 2, size := 3, zero := [.i 0, .i 0, .i 0], flds := [(0, 1, false), (1, 1, false), (2, 1, false)], cmp := true }),
 (51, { kind := 6, size := 1, zero := [.i 0] }),
 (57, { kind := 1, size := 1, zero := [.x (.slice none 0 0)], elem := 22, esize := 1, ebytes := 24 }),
 (64, { kind := 2, size := 16, zero := [.i 0, .i 0, .i 0, .i 0, .x (.slice none 0 0), .i 0, .i 0, .i 0, .i 0, .i 0, .i 0, .x (.slice none 0 0), .x (.slice none 0 0), .s [], .s [], .i 0], flds := [(0, 1, false), (1, 13, true), (14, 1, false), (15, 1, false)] }),
 (67, { kind := 2, size := 3, zero := [.i 0, .s [], .i 0], flds := [(0, 1, false), (1, 1, false), (2, 1, false)] }),
 (73, { kind := 13, size := 1, zero := [.x .nilFunc] }),
 (74, { kind := 1, size := 1, zero := [.x (.slice none 0 0)], elem := 80, esize := 18, ebytes := 224 }),
 (75, { kind := 12, size := 1, zero := [.x (.map none)], elem := 3, esize := 3 }),
 (77, { kind := 2, size := 3, zero := [.x (.pointer none), .x (.slice none 0 0), .x (.map none)], flds := [(0, 1, false), (1, 1, false), (2, 1, false)] }),
 (78, { kind := 1, size := 1, zero := [.x (.slice none 0 0)], elem := 160, esize := 1, ebytes := 8 }),
 (80, { kind := 2, size := 18, zero := [.i 0, .s [], .i 0, .i 0, .i 0, .i 0, .x (.slice none 0 0), .i 0, .i 0, .i 0, .i 0, .i 0, .i 0, .x (.slice none 0 0), .x (.slice none 0 0), .s [], .i 0, .x (.slice none 0 0)], flds := [(0, 3, true), (3, 13, true), (16, 1, false), (17, 1, false)] }),
 (86, { kind := 12, size := 1, zero := [.x (.map none)], elem := 133, esize := 3 }),
 (87, { kind := 1, size := 1, zero := [.x (.slice none 0 0)], elem := 133, esize := 2, ebytes := 24 }),
 (89, { kind := 2, size := 2, zero := [.x (.slice none 0 0), .x (.map none)], flds := [(0, 1, false), (1, 1, false)] }),
 (91, { kind := 13, size := 1, zero := [.x .nilFunc] }),
 (95, { kind := 13, size := 1, zero := [.x .nilFunc] }),
 (96, { kind := 1, size := 1, zero := [.x (.slice none 0 0)], elem := 100, esize := 2, ebytes := 32 }),
 (98, { kind := 12, size := 1, zero := [.x (.map none)], elem := 3, esize := 4 }),
 (100, { kind := 2, size := 2, zero := [.i 0, .x (.slice none 0 0)], flds := [(0, 1, false), (1, 1, false)] }),
 (107, { kind := 13, size := 1, zero := [.x .nilFunc] }),
 (109, { kind := 7, size := 1, zero := [.x (.int .u64 0)] }),
 (116, { kind := 1, size := 1, zero := [.x (.slice none 0 0)], elem := 119, esize := 3, ebytes := 24 }),
 (119, { kind := 2, size := 3, zero := [.i 0, .i 0, .i 0], flds := [(0, 1, false), (1, 1, false), (2, 1, false)], cmp := true }),
 (121, { kind := 13, size := 1, zero := [.x .nilFunc] }),
 (122, { kind := 1, size := 1, zero := [.x (.slice none 0 0)], elem := 121, esize := 1, ebytes := 8 }),
 (133, { kind := 2, size := 2, zero := [.i 0, .s []], flds := [(0, 1, false), (1, 1, false)] }),
 (138, { kind := 13, size := 1, zero := [.x .nilFunc] }),
 (139, { kind := 13, size := 1, zero := [.x .nilFunc] }),
 (141, { kind := 1, size := 1, zero := [.x (.slice none 0 0)], elem := 30, esize := 1, ebytes := 24 }),
 (144, { kind := 8, size := 1, zero := [.x (.pointer none)] }),
 (145, { kind := 1, size := 1, zero := [.x (.slice none 0 0)], elem := 5, esize := 1, ebytes := 1 }),
 (147, { kind := 2, size := 2, zero := [.x (.pointer none), .x (.slice none 0 0)], flds := [(0, 1, false), (1, 1, false)] }),
 (149, { kind := 9, size := 1, zero := [.x .nilIface] }),
 (152, { kind := 13, size := 1, zero := [.x .nilFunc] }),
 (158, { kind := 14, size := 1, zero := [.x (.int .u32 0)] }),
 (160, { kind := 7, size := 1, zero := [.x (.int .u64 0)] }),
 (166, { kind := 8, size := 1, zero := [.x (.pointer none)] }),
 (168, { kind := 13, size := 1, zero := [.x .nilFunc] }),
 (173, { kind := 6, size := 1, zero := [.i 0] }),
 (181, { kind := 8, size := 1, zero := [.x (.pointer none)] }),
 (191, { kind := 2, size := 2, zero := [.s [], .b false], flds := [(0, 1, false), (1, 1, false)] }),
 (201, { kind := 7, size := 1, zero := [.x (.int .u64 0)] }),
 (205, { kind := 8, size := 1, zero := [.x (.pointer none)] }),
 (207, { kind := 3, size := 21, zero := [.s [], .s [], .s [], .s [], .s [], .s [], .s [], .s [], .s [], .s [], .s [], .s [], .s [], .s [], .s [], .s [], .s [], .s [], .s [], .s [], .s []], elem := 9, esize := 1, ebytes := 21 }),
 (208, { kind := 3, size := 8, zero := [.b false, .b false, .b false, .b false, .b false, .b false, .b false, .b false], elem := 4, esize := 1, ebytes := 8 }),
 (210, { kind := 0, size := 1, zero := [.x (.pointer none)] }),
 (238, { kind := 1, size := 1, zero := [.x (.slice none 0 0)], elem := 299, esize := 15, ebytes := 256 }),
 (239, { kind := 1, size := 1, zero := [.x (.slice none 0 0)], elem := 322, esize := 7, ebytes := 56 }),
 (240, { kind := 1, size := 1, zero := [.x (.slice none 0 0)], elem := 290, esize := 2, ebytes := 16 }),
 (253, { kind := 3, size := 24, zero := [.x (.int .u8 0), .x (.int .u8 0), .x (.int .u8 0), .x (.int .u8 0), .x (.int .u8 0), .x (.int .u8 0), .x (.int .u8 0), .x (.int .u8 0), .x (.int .u8 0), .x (.int .u8 0), .x (.int .u8 0), .x (.int .u8 0), .x (.int .u8 0), .x (.int .u8 0), .x (.int .u8 0), .x (.int .u8 0), .x (.int .u8 0), .x (.int .u8 0), .x (.int .u8 0), .x (.int .u8 0), .x (.int .u8 0), .x (.int .u8 0), .x (.int .u8 0), .x (.int .u8 0)], elem := 5, esize := 1, ebytes := 24 }),
 (276, { kind := 6, size := 1, zero := [.i 0] }),
 (279, { kind := 8, size := 1, zero := [.x (.pointer none)] }),
 (284, { kind := 3, size := 20, zero := [.x (.int .u64 0), .x (.int .u64 0), .x (.int .u64 0), .x (.int .u64 0), .x (.int .u64 0), .x (.int .u64 0), .x (.int .u64 0), .x (.int .u64 0), .x (.int .u64 0), .x (.int .u64 0), .x (.int .u64 0), .x (.int .u64 0), .x (.int .u64 0), .x (.int .u64 0), .x (.int .u64 0), .x (.int .u64 0), .x (.int .u64 0), .x (.int .u64 0), .x (.int .u64 0), .x (.int .u64 0)], elem := 160, esize := 1, ebytes := 20 }),
 (285, { kind := 3, size := 65, zero := [.x (.int .u8 0), .x (.int .u8 0), .x (.int .u8 0), .x (.int .u8 0), .x (.int .u8 0), .x (.int .u8 0), .x (.int .u8 0), .x (.int .u8 0), .x (.int .u8 0), .x (.int .u8 0), .x (.int .u8 0), .x (.int .u8 0), .x (.int .u8 0), .x (.int .u8 0), .x (.int .u8 0), .x (.int .u8 0), .x (.int .u8 0), .x (.int .u8 0), .x (.int .u8 0), .x (.int .u8 0), .x (.int .u8 0), .x (.int .u8 0), .x (.int .u8 0), .x (.int .u8 0), .x (.int .u8 0), .x (.int .u8 0), .x (.int .u8 0), .x (.int .u8 0), .x (.int .u8 0), .x (.int .u8 0), .x (.int .u8 0), .x (.int .u8 0), .x (.int .u8 0), .x (.int .u8 0), .x (.int .u8 0), .x (.int .u8 0), .x (.int .u8 0), .x (.int .u8 0), .x (.int .u8 0), .x (.int .u8 0), .x (.int .u8 0), .x (.int .u8 0), .x (.int .u8 0), .x (.int .u8 0), .x (.int .u8 0), .x (.int .u8 0), .x (.int .u8 0), .x (.int .u8 0), .x (.int .u8 0), .x (.int .u8 0), .x (.int .u8 0), .x (.int .u8 0), .x (.int .u8 0), .x (.int .u8 0), .x (.int .u8 0), .x (.int .u8 0), .x (.int .u8 0), .x (.int .u8 0), .x (.int .u8 0), .x (.int .u8 0), .x (.int .u8 0), .x (.int .u8 0), .x (.int .u8 0), .x (.int .u8 0), .x (.int .u8 0)], elem := 5, esize := 1, ebytes := 65 }),
 (290, { kind := 2, size := 2, zero := [.i 0, .i 0], flds := [(0, 1, false), (1, 1, false)], cmp := true }),
 (293, { kind := 1, size := 1, zero := [.x (.slice none 0 0)], elem := 364, esize := 5, ebytes := 56 }),
 (294, { kind := 1, size := 1, zero := [.x (.slice none 0 0)], elem := 367, esize := 5, ebytes := 40 }),
 (295, { kind := 1, size := 1, zero := [.x (.slice none 0 0)], elem := 334, esize := 4, ebytes := 32 }),
 (296, { kind := 1, size := 1, zero := [.x (.slice none 0 0)], elem := 347, esize := 5, ebytes := 56 }),
 (297, { kind := 1, size := 1, zero := [.x (.slice none 0 0)], elem := 338, esize := 12, ebytes := 128 }),
 (299, { kind := 2, size := 15, zero := [.i 0, .i 0, .s [], .i 0, .i 0, .x (.slice none 0 0), .x (.slice none 0 0), .x (.slice none 0 0), .x (.slice none 0 0), .x (.slice none 0 0), .x (.slice none 0 0), .x (.slice none 0 0), .x (.slice none 0 0), .i 0, .b false], flds := [(0, 1, false), (1, 1, false), (2, 1, false), (3, 1, false), (4, 1, false), (5, 1, false), (6, 1, false), (7, 1, false), (8, 1, false), (9, 1, false), (10, 1, false), (11, 1, false), (12, 1, false), (13, 1, false), (14, 1, false)] }),
 (301, { kind := 1, size := 1, zero := [.x (.slice none 0 0)], elem := 503, esize := 6, ebytes := 80 }),
 (302, { kind := 1, size := 1, zero := [.x (.slice none 0 0)], elem := 304, esize := 5, ebytes := 64 }),
 (304, { kind := 2, size := 5, zero := [.i 0, .i 0, .i 0, .s [], .x (.slice none 0 0)], flds := [(0, 1, false), (1, 1, false), (2, 1, false), (3, 1, false), (4, 1, false)] }),
 (318, { kind := 2, size := 3, zero := [.s [], .s [], .x .nilIface], flds := [(0, 1, false), (1, 1, false), (2, 1, false)] }),
 (322, { kind := 2, size := 7, zero := [.i 0, .i 0, .i 0, .i 0, .i 0, .i 0, .i 0], flds := [(0, 3, true), (3, 1, false), (4, 1, false), (5, 1, false), (6, 1, false)], cmp := true }),
 (334, { kind := 2, size := 4, zero := [.i 0, .i 0, .i 0, .b false], flds := [(0, 1, false), (1, 1, false), (2, 1, false), (3, 1, false)] }),
 (338, { kind := 2, size := 12, zero := [.i 0, .i 0, .i 0, .i 0, .i 0, .i 0, .i 0, .x (.slice none 0 0), .x (.slice none 0 0), .i 0, .i 0, .i 0], flds := [(0, 1, false), (1, 1, false), (2, 1, false), (3, 1, false), (4, 1, false), (5, 1, false), (6, 1, false), (7, 1, false), (8, 1, false), (9, 1, false), (10, 1, false), (11, 1, false)] }),
 (345, { kind := 1, size := 1, zero := [.x (.slice none 0 0)], elem := 349, esize := 4, ebytes := 32 }),
 (347, { kind := 2, size := 5, zero := [.i 0, .i 0, .i 0, .x (.slice none 0 0), .i 0], flds := [(0, 1, false), (1, 1, false), (2, 1, false), (3, 1, false), (4, 1, false)] }),
 (349, { kind := 2, size := 4, zero := [.i 0, .i 0, .b false, .i 0], flds := [(0, 1, false), (1, 1, false), (2, 1, false), (3, 1, false)] }),
 (364, { kind := 2, size := 5, zero := [.i 0, .i 0, .x (.slice none 0 0), .i 0, .i 0], flds := [(0, 1, false), (1, 1, false), (2, 1, false), (3, 1, false), (4, 1, false)] }),
 (367, { kind := 2, size := 5, zero := [.i 0, .i 0, .i 0, .i 0, .i 0], flds := [(0, 1, false), (1, 1, false), (2, 1, false), (3, 1, false), (4, 1, false)], cmp := true }),
 (368, { kind := 13, size := 1, zero := [.x .nilFunc] }),
 (370, { kind := 13, size := 1, zero := [.x .nilFunc] }),
 (375, { kind := 13, size := 1, zero := [.x .nilFunc] }),
 (378, { kind := 13, size := 1, zero := [.x .nilFunc] }),
 (388, { kind := 3, size := 32, zero := [.x (.int .u8 0), .x (.int .u8 0), .x (.int .u8 0), .x (.int .u8 0), .x (.int .u8 0), .x (.int .u8 0), .x (.int .u8 0), .x (.int .u8 0), .x (.int .u8 0), .x (.int .u8 0), .x (.int .u8 0), .x (.int .u8 0), .x (.int .u8 0), .x (.int .u8 0), .x (.int .u8 0), .x (.int .u8 0), .x (.int .u8 0), .x (.int .u8 0), .x (.int .u8 0), .x (.int .u8 0), .x (.int .u8 0), .x (.int .u8 0), .x (.int .u8 0), .x (.int .u8 0), .x (.int .u8 0), .x (.int .u8 0), .x (.int .u8 0), .x (.int .u8 0), .x (.int .u8 0), .x (.int .u8 0), .x (.int .u8 0), .x (.int .u8 0)], elem := 5, esize := 1, ebytes := 32 }),
 (389, { kind := 3, size := 64, zero := [.x (.int .u8 0), .x (.int .u8 0), .x (.int .u8 0), .x (.int .u8 0), .x (.int .u8 0), .x (.int .u8 0), .x (.int .u8 0), .x (.int .u8 0), .x (.int .u8 0), .x (.int .u8 0), .x (.int .u8 0), .x (.int .u8 0), .x (.int .u8 0), .x (.int .u8 0), .x (.int .u8 0), .x (.int .u8 0), .x (.int .u8 0), .x (.int .u8 0), .x (.int .u8 0), .x (.int .u8 0), .x (.int .u8 0), .x (.int .u8 0), .x (.int .u8 0), .x (.int .u8 0), .x (.int .u8 0), .x (.int .u8 0), .x (.int .u8 0), .x (.int .u8 0), .x (.int .u8 0), .x (.int .u8 0), .x (.int .u8 0), .x (.int .u8 0), .x (.int .u8 0), .x (.int .u8 0), .x (.int .u8 0), .x (.int .u8 0), .x (.int .u8 0), .x (.int .u8 0), .x (.int .u8 0), .x (.int .u8 0), .x (.int .u8 0), .x (.int .u8 0), .x (.int .u8 0), .x (.int .u8 0), .x (.int .u8 0), .x (.int .u8 0), .x (.int .u8 0), .x (.int .u8 0), .x (.int .u8 0), .x (.int .u8 0), .x (.int .u8 0), .x (.int .u8 0), .x (.int .u8 0), .x (.int .u8 0), .x (.int .u8 0), .x (.int .u8 0), .x (.int .u8 0), .x (.int .u8 0), .x (.int .u8 0), .x (.int .u8 0), .x (.int .u8 0), .x (.int .u8 0), .x (.int .u8 0), .x (.int .u8 0)], elem := 5, esize := 1, ebytes := 64 }),
 (403, { kind := 13, size := 1, zero := [.x .nilFunc] }),
 (424, { kind := 2, size := 3, zero := [.s [], .i 0, .i 0], flds := [(0, 1, false), (1, 1, false), (2, 1, false)] }),
 (425, { kind := 1, size := 1, zero := [.x (.slice none 0 0)], elem := 424, esize := 3, ebytes := 32 }),
 (443, { kind := 1, size := 1, zero := [.x (.slice none 0 0)], elem := 446, esize := 3, ebytes := 24 }),
 (446, { kind := 2, size := 3, zero := [.i 0, .i 0, .i 0], flds := [(0, 1, false), (1, 1, false), (2, 1, false)], cmp := true }),
 (503, { kind := 2, size := 6, zero := [.s [], .i 0, .i 0, .i 0, .s [], .x (.slice none 0 0)], flds := [(0, 1, false), (1, 5, true)] }),
 (504, { kind := 13, size := 1, zero := [.x .nilFunc] }),
 (508, { kind := 1, size := 1, zero := [.x (.slice none 0 0)], elem := 9, esize := 1, ebytes := 16 }),
 (513, { kind := 13, size := 1, zero := [.x .nilFunc] }),
 (530, { kind := 13, size := 1, zero := [.x .nilFunc] }),
 (560, { kind := 13, size := 1, zero := [.x .nilFunc] }),
 (572, { kind := 13, size := 1, zero := [.x .nilFunc] }),
 (579, { kind := 1, size := 1, zero := [.x (.slice none 0 0)], elem := 581, esize := 3, ebytes := 32 }),
 (581, { kind := 2, size := 3, zero := [.s [], .i 0, .i 0], flds := [(0, 1, false), (1, 1, false), (2, 1, false)] })]
theorem tab_ok : TabOk Tryz.prog tab := TabOk.of_all (by kernel_rfl)
theorem mixed : Tryz.prog.follows .mixedOrders = true := by kernel_rfl
theorem b3 : Body Tryz.prog 3 := ⟨Tryz.f3, Tryz.func3, rfl, rfl⟩
theorem b4 : Body Tryz.prog 4 := ⟨Tryz.f4, Tryz.func4, rfl, rfl⟩
theorem b5 : Body Tryz.prog 5 := ⟨Tryz.f5, Tryz.func5, rfl, rfl⟩
theorem b6 : Body Tryz.prog 6 := ⟨Tryz.f6, Tryz.func6, rfl, rfl⟩
theorem b7 : Body Tryz.prog 7 := ⟨Tryz.f7, Tryz.func7, rfl, rfl⟩
theorem b8 : Body Tryz.prog 8 := ⟨Tryz.f8, Tryz.func8, rfl, rfl⟩
theorem b9 : Body Tryz.prog 9 := ⟨Tryz.f9, Tryz.func9, rfl, rfl⟩
theorem b10 : Body Tryz.prog 10 := ⟨Tryz.f10, Tryz.func10, rfl, rfl⟩
theorem b11 : Body Tryz.prog 11 := ⟨Tryz.f11, Tryz.func11, rfl, rfl⟩
theorem b12 : Body Tryz.prog 12 := ⟨Tryz.f12, Tryz.func12, rfl, rfl⟩
theorem b13 : Body Tryz.prog 13 := ⟨Tryz.f13, Tryz.func13, rfl, rfl⟩
theorem b14 : Body Tryz.prog 14 := ⟨Tryz.f14, Tryz.func14, rfl, rfl⟩
theorem b15 : Body Tryz.prog 15 := ⟨Tryz.f15, Tryz.func15, rfl, rfl⟩
theorem b16 : Body Tryz.prog 16 := ⟨Tryz.f16, Tryz.func16, rfl, rfl⟩
theorem b17 : Body Tryz.prog 17 := ⟨Tryz.f17, Tryz.func17, rfl, rfl⟩
theorem b18 : Body Tryz.prog 18 := ⟨Tryz.f18, Tryz.func18, rfl, rfl⟩
theorem b19 : Body Tryz.prog 19 := ⟨Tryz.f19, Tryz.func19, rfl, rfl⟩
theorem b20 : Body Tryz.prog 20 := ⟨Tryz.f20, Tryz.func20, rfl, rfl⟩
theorem b21 : Body Tryz.prog 21 := ⟨Tryz.f21, Tryz.func21, rfl, rfl⟩
theorem b22 : Body Tryz.prog 22 := ⟨Tryz.f22, Tryz.func22, rfl, rfl⟩
theorem b23 : Body Tryz.prog 23 := ⟨Tryz.f23, Tryz.func23, rfl, rfl⟩
theorem b24 : Body Tryz.prog 24 := ⟨Tryz.f24, Tryz.func24, rfl, rfl⟩
theorem b25 : Body Tryz.prog 25 := ⟨Tryz.f25, Tryz.func25, rfl, rfl⟩
theorem b26 : Body Tryz.prog 26 := ⟨Tryz.f26, Tryz.func26, rfl, rfl⟩
theorem b27 : Body Tryz.prog 27 := ⟨Tryz.f27, Tryz.func27, rfl, rfl⟩
theorem b28 : Body Tryz.prog 28 := ⟨Tryz.f28, Tryz.func28, rfl, rfl⟩
theorem b29 : Body Tryz.prog 29 := ⟨Tryz.f29, Tryz.func29, rfl, rfl⟩
theorem b30 : Body Tryz.prog 30 := ⟨Tryz.f30, Tryz.func30, rfl, rfl⟩
theorem b31 : Body Tryz.prog 31 := ⟨Tryz.f31, Tryz.func31, rfl, rfl⟩
theorem b32 : Body Tryz.prog 32 := ⟨Tryz.f32, Tryz.func32, rfl, rfl⟩
theorem b33 : Body Tryz.prog 33 := ⟨Tryz.f33, Tryz.func33, rfl, rfl⟩
theorem b34 : Body Tryz.prog 34 := ⟨Tryz.f34, Tryz.func34, rfl, rfl⟩
theorem b35 : Body Tryz.prog 35 := ⟨Tryz.f35, Tryz.func35, rfl, rfl⟩
theorem b36 : Body Tryz.prog 36 := ⟨Tryz.f36, Tryz.func36, rfl, rfl⟩
theorem b37 : Body Tryz.prog 37 := ⟨Tryz.f37, Tryz.func37, rfl, rfl⟩
theorem b38 : Body Tryz.prog 38 := ⟨Tryz.f38, Tryz.func38, rfl, rfl⟩
theorem b39 : Body Tryz.prog 39 := ⟨Tryz.f39, Tryz.func39, rfl, rfl⟩
theorem b40 : Body Tryz.prog 40 := ⟨Tryz.f40, Tryz.func40, rfl, rfl⟩
theorem b41 : Body Tryz.prog 41 := ⟨Tryz.f41, Tryz.func41, rfl, rfl⟩
theorem b42 : Body Tryz.prog 42 := ⟨Tryz.f42, Tryz.func42, rfl, rfl⟩
theorem b43 : Body Tryz.prog 43 := ⟨Tryz.f43, Tryz.func43, rfl, rfl⟩
theorem b44 : Body Tryz.prog 44 := ⟨Tryz.f44, Tryz.func44, rfl, rfl⟩
theorem b45 : Body Tryz.prog 45 := ⟨Tryz.f45, Tryz.func45, rfl, rfl⟩
theorem b46 : Body Tryz.prog 46 := ⟨Tryz.f46, Tryz.func46, rfl, rfl⟩
theorem b47 : Body Tryz.prog 47 := ⟨Tryz.f47, Tryz.func47, rfl, rfl⟩
theorem b48 : Body Tryz.prog 48 := ⟨Tryz.f48, Tryz.func48, rfl, rfl⟩
theorem b49 : Body Tryz.prog 49 := ⟨Tryz.f49, Tryz.func49, rfl, rfl⟩
theorem b50 : Body Tryz.prog 50 := ⟨Tryz.f50, Tryz.func50, rfl, rfl⟩
theorem b51 : Body Tryz.prog 51 := ⟨Tryz.f51, Tryz.func51, rfl, rfl⟩
theorem b53 : Body Tryz.prog 53 := ⟨Tryz.f53, Tryz.func53, rfl, rfl⟩
theorem b54 : Body Tryz.prog 54 := ⟨Tryz.f54, Tryz.func54, rfl, rfl⟩
theorem b55 : Body Tryz.prog 55 := ⟨Tryz.f55, Tryz.func55, rfl, rfl⟩
theorem b56 : Body Tryz.prog 56 := ⟨Tryz.f56, Tryz.func56, rfl, rfl⟩
theorem b57 : Body Tryz.prog 57 := ⟨Tryz.f57, Tryz.func57, rfl, rfl⟩
theorem b58 : Body Tryz.prog 58 := ⟨Tryz.f58, Tryz.func58, rfl, rfl⟩
theorem b59 : Body Tryz.prog 59 := ⟨Tryz.f59, Tryz.func59, rfl, rfl⟩
theorem b60 : Body Tryz.prog 60 := ⟨Tryz.f60, Tryz.func60, rfl, rfl⟩
theorem b61 : Body Tryz.prog 61 := ⟨Tryz.f61, Tryz.func61, rfl, rfl⟩
theorem b62 : Body Tryz.prog 62 := ⟨Tryz.f62, Tryz.func62, rfl, rfl⟩
theorem b63 : Body Tryz.prog 63 := ⟨Tryz.f63, Tryz.func63, rfl, rfl⟩
theorem b64 : Body Tryz.prog 64 := ⟨Tryz.f64, Tryz.func64, rfl, rfl⟩
theorem b67 : Body Tryz.prog 67 := ⟨Tryz.f67, Tryz.func67, rfl, rfl⟩
theorem b72 : Body Tryz.prog 72 := ⟨Tryz.f72, Tryz.func72, rfl, rfl⟩
theorem b73 : Body Tryz.prog 73 := ⟨Tryz.f73, Tryz.func73, rfl, rfl⟩
theorem b74 : Body Tryz.prog 74 := ⟨Tryz.f74, Tryz.func74, rfl, rfl⟩
theorem b75 : Body Tryz.prog 75 := ⟨Tryz.f75, Tryz.func75, rfl, rfl⟩
theorem b76 : Body Tryz.prog 76 := ⟨Tryz.f76, Tryz.func76, rfl, rfl⟩
theorem b77 : Body Tryz.prog 77 := ⟨Tryz.f77, Tryz.func77, rfl, rfl⟩
theorem b78 : Body Tryz.prog 78 := ⟨Tryz.f78, Tryz.func78, rfl, rfl⟩
theorem b79 : Body Tryz.prog 79 := ⟨Tryz.f79, Tryz.func79, rfl, rfl⟩
theorem b80 : Body Tryz.prog 80 := ⟨Tryz.f80, Tryz.func80, rfl, rfl⟩
theorem b81 : Body Tryz.prog 81 := ⟨Tryz.f81, Tryz.func81, rfl, rfl⟩
theorem b82 : Body Tryz.prog 82 := ⟨Tryz.f82, Tryz.func82, rfl, rfl⟩
theorem b83 : Body Tryz.prog 83 := ⟨Tryz.f83, Tryz.func83, rfl, rfl⟩
theorem b84 : Body Tryz.prog 84 := ⟨Tryz.f84, Tryz.func84, rfl, rfl⟩
theorem b86 : Body Tryz.prog 86 := ⟨Tryz.f86, Tryz.func86, rfl, rfl⟩
theorem b87 : Body Tryz.prog 87 := ⟨Tryz.f87, Tryz.func87, rfl, rfl⟩
theorem b88 : Body Tryz.prog 88 := ⟨Tryz.f88, Tryz.func88, rfl, rfl⟩
theorem b91 : Body Tryz.prog 91 := ⟨Tryz.f91, Tryz.func91, rfl, rfl⟩
theorem b92 : Body Tryz.prog 92 := ⟨Tryz.f92, Tryz.func92, rfl, rfl⟩
theorem b93 : Body Tryz.prog 93 := ⟨Tryz.f93, Tryz.func93, rfl, rfl⟩
theorem b94 : Body Tryz.prog 94 := ⟨Tryz.f94, Tryz.func94, rfl, rfl⟩
theorem b95 : Body Tryz.prog 95 := ⟨Tryz.f95, Tryz.func95, rfl, rfl⟩
theorem b96 : Body Tryz.prog 96 := ⟨Tryz.f96, Tryz.func96, rfl, rfl⟩
theorem b97 : Body Tryz.prog 97 := ⟨Tryz.f97, Tryz.func97, rfl, rfl⟩
theorem b98 : Body Tryz.prog 98 := ⟨Tryz.f98, Tryz.func98, rfl, rfl⟩
theorem b99 : Body Tryz.prog 99 := ⟨Tryz.f99, Tryz.func99, rfl, rfl⟩
theorem b101 : Body Tryz.prog 101 := ⟨Tryz.f101, Tryz.func101, rfl, rfl⟩
theorem b106 : Body Tryz.prog 106 := ⟨Tryz.f106, Tryz.func106, rfl, rfl⟩
theorem b107 : Body Tryz.prog 107 := ⟨Tryz.f107, Tryz.func107, rfl, rfl⟩
theorem b108 : Body Tryz.prog 108 := ⟨Tryz.f108, Tryz.func108, rfl, rfl⟩
theorem b109 : Body Tryz.prog 109 := ⟨Tryz.f109, Tryz.func109, rfl, rfl⟩
theorem b111 : Body Tryz.prog 111 := ⟨Tryz.f111, Tryz.func111, rfl, rfl⟩
theorem b112 : Body Tryz.prog 112 := ⟨Tryz.f112, Tryz.func112, rfl, rfl⟩
theorem b113 : Body Tryz.prog 113 := ⟨Tryz.f113, Tryz.func113, rfl, rfl⟩
theorem b114 : Body Tryz.prog 114 := ⟨Tryz.f114, Tryz.func114, rfl, rfl⟩
theorem b115 : Body Tryz.prog 115 := ⟨Tryz.f115, Tryz.func115, rfl, rfl⟩
theorem b116 : Body Tryz.prog 116 := ⟨Tryz.f116, Tryz.func116, rfl, rfl⟩
theorem b117 : Body Tryz.prog 117 := ⟨Tryz.f117, Tryz.func117, rfl, rfl⟩
theorem b118 : Body Tryz.prog 118 := ⟨Tryz.f118, Tryz.func118, rfl, rfl⟩
theorem b119 : Body Tryz.prog 119 := ⟨Tryz.f119, Tryz.func119, rfl, rfl⟩
theorem b120 : Body Tryz.prog 120 := ⟨Tryz.f120, Tryz.func120, rfl, rfl⟩
theorem b121 : Body Tryz.prog 121 := ⟨Tryz.f121, Tryz.func121, rfl, rfl⟩
theorem b122 : Body Tryz.prog 122 := ⟨Tryz.f122, Tryz.func122, rfl, rfl⟩
theorem b123 : Body Tryz.prog 123 := ⟨Tryz.f123, Tryz.func123, rfl, rfl⟩
theorem b124 : Body Tryz.prog 124 := ⟨Tryz.f124, Tryz.func124, rfl, rfl⟩
theorem b125 : Body Tryz.prog 125 := ⟨Tryz.f125, Tryz.func125, rfl, rfl⟩
theorem b126 : Body Tryz.prog 126 := ⟨Tryz.f126, Tryz.func126, rfl, rfl⟩
theorem b128 : Body Tryz.prog 128 := ⟨Tryz.f128, Tryz.func128, rfl, rfl⟩
theorem b140 : Body Tryz.prog 140 := ⟨Tryz.f140, Tryz.func140, rfl, rfl⟩
theorem b141 : Body Tryz.prog 141 := ⟨Tryz.f141, Tryz.func141, rfl, rfl⟩
theorem b142 : Body Tryz.prog 142 := ⟨Tryz.f142, Tryz.func142, rfl, rfl⟩
theorem b143 : Body Tryz.prog 143 := ⟨Tryz.f143, Tryz.func143, rfl, rfl⟩
theorem b144 : Body Tryz.prog 144 := ⟨Tryz.f144, Tryz.func144, rfl, rfl⟩
theorem b145 : Body Tryz.prog 145 := ⟨Tryz.f145, Tryz.func145, rfl, rfl⟩
theorem b146 : Body Tryz.prog 146 := ⟨Tryz.f146, Tryz.func146, rfl, rfl⟩
theorem b147 : Body Tryz.prog 147 := ⟨Tryz.f147, Tryz.func147, rfl, rfl⟩
theorem b148 : Body Tryz.prog 148 := ⟨Tryz.f148, Tryz.func148, rfl, rfl⟩
theorem b161 : Body Tryz.prog 161 := ⟨Tryz.f161, Tryz.func161, rfl, rfl⟩
theorem b162 : Body Tryz.prog 162 := ⟨Tryz.f162, Tryz.func162, rfl, rfl⟩
theorem b163 : Body Tryz.prog 163 := ⟨Tryz.f163, Tryz.func163, rfl, rfl⟩
theorem b164 : Body Tryz.prog 164 := ⟨Tryz.f164, Tryz.func164, rfl, rfl⟩
theorem b165 : Body Tryz.prog 165 := ⟨Tryz.f165, Tryz.func165, rfl, rfl⟩
theorem b166 : Body Tryz.prog 166 := ⟨Tryz.f166, Tryz.func166, rfl, rfl⟩
theorem b167 : Body Tryz.prog 167 := ⟨Tryz.f167, Tryz.func167, rfl, rfl⟩
theorem b168 : Body Tryz.prog 168 := ⟨Tryz.f168, Tryz.func168, rfl, rfl⟩
theorem b169 : Body Tryz.prog 169 := ⟨Tryz.f169, Tryz.func169, rfl, rfl⟩
theorem b170 : Body Tryz.prog 170 := ⟨Tryz.f170, Tryz.func170, rfl, rfl⟩
theorem b171 : Body Tryz.prog 171 := ⟨Tryz.f171, Tryz.func171, rfl, rfl⟩
theorem b172 : Body Tryz.prog 172 := ⟨Tryz.f172, Tryz.func172, rfl, rfl⟩
theorem b173 : Body Tryz.prog 173 := ⟨Tryz.f173, Tryz.func173, rfl, rfl⟩
theorem b174 : Body Tryz.prog 174 := ⟨Tryz.f174, Tryz.func174, rfl, rfl⟩
theorem b188 : Body Tryz.prog 188 := ⟨Tryz.f188, Tryz.func188, rfl, rfl⟩
theorem b197 : Body Tryz.prog 197 := ⟨Tryz.f197, Tryz.func197, rfl, rfl⟩
theorem b198 : Body Tryz.prog 198 := ⟨Tryz.f198, Tryz.func198, rfl, rfl⟩
theorem b199 : Body Tryz.prog 199 := ⟨Tryz.f199, Tryz.func199, rfl, rfl⟩
theorem b200 : Body Tryz.prog 200 := ⟨Tryz.f200, Tryz.func200, rfl, rfl⟩
theorem zr {Q : Exit → Act → World → Prop} {id : Nat} {l : List Oper} {st : Go.Vc.St} (h : Go.Vc.run Tryz.prog tab l.toArray l st (fun st' => st'.atEnd (Q .normal))) : Go.Vc.At st ((Code.region id l.toArray false).wp Tryz.prog Q) := Go.Vc.At.region tab_ok h
theorem zq {Q : Exit → Act → World → Prop} {x y : Code} {st : Go.Vc.St} (h : Go.Vc.At st (x.wp Tryz.prog (Exit.then (y.wp Tryz.prog Q) Q))) : Go.Vc.At st ((Code.seq x y).wp Tryz.prog Q) := Go.Vc.At.seq h
end Go.Proofs.YtlobacpdhglnkaaGreatDoor
namespace Go.Proofs.YtlobacpdhglnkaaGreatDoor
open Go.Vc
@[reducible] def sv (l : List UInt8) : Value := .string (bs l)
@[reducible] def vI (n : Int) : Value := .int .i64 n
@[reducible] def rS (l : List UInt8) : RV := .s (.c (.s l))
def usesTab : List (List UInt8) := [[107, 116], [99], [99], [99, 119, 110, 109], [110, 114], [119, 115], [119, 109, 115], [99, 119, 109, 114, 115], [99, 110, 109, 114], [110, 114], [99, 110, 109, 116], [114, 116], [110, 114], [114], [99, 116], [119, 110], [99, 109], [99, 107], [110, 109, 114], [110, 109, 114], [110, 109, 114]]
structure Gl (w : World) : Prop where
 size : 8 ≤ w.heap.size
 uses : ∃ T, w.heap[0]? = some (.cells (usesTab.map sv).toArray T (0, 0))
 pow : Lib.TabIs Tryz.prog w "internal/strconv.uint64pow10" .u64 Lib.pow10Tab
 errS : ∃ te pe, w.cell? ⟨3, 0, none⟩ = some (.iface te pe)
 errR : ∃ te pe, w.cell? ⟨4, 0, none⟩ = some (.iface te pe)
theorem g2 : Tryz.prog.globalNamed "internal/strconv.uint64pow10" = some 2 := by kernel_rfl
theorem Gl.fr {S : List Nat} {w w' : World} (h : Gl w) (hf : Fr S w w') (hS : ∀ b ∈ S, 8 ≤ b) : Gl w' := by
 have hz := h.size
 have e : ∀ k, k < 8 → w'.heap[k]? = w.heap[k]? := fun k hk => hf.block k (by omega) fun hm => by have := hS k hm; omega
 have ec : ∀ k o, k < 8 → w'.cell? ⟨k, o, none⟩ = w.cell? ⟨k, o, none⟩ := fun k o hk => by simp only [World.cell?, e k hk]
 refine ⟨Nat.le_trans hz hf.size, ?_, ?_, ?_, ?_⟩
 ·rw [e 0 (by decide)]; exact h.uses
 ·have := h.pow
  unfold Lib.TabIs World.var? at this ⊢
  rw [g2] at this ⊢
  simp only [Option.bind_some] at this ⊢
  rw [e 2 (by decide)]; exact this
 ·rw [ec 3 0 (by decide)]; exact h.errS
 ·rw [ec 4 0 (by decide)]; exact h.errR
theorem Gl.ext {w w' : World} (h : Gl w) (hf : Ext w w') : Gl w' := h.fr hf (fun b hb => by cases hb)
def AnsP (P : Program) (f : FuncId) (args : List Value) (Good : RV → Prop) (w : World) : Prop :=
 Calls P f args.toArray w (fun e w' => ∃ r : RV, e = .returned r.den ∧ noPr r = true ∧ Good r ∧ Ext w w')
theorem ansP_call {P : Program} {f : FuncId} {args : List Value} {Good : RV → Prop} {st : St} {d : Option Nat} {K : St → Prop} (hb : Body P f) (h : ∀ w, Holds st w → AnsP P f args Good w)
  (hk : ∀ r, Good r → noPr r = true → goPut st d r K) : UCall P st f args d K :=
 .inl ⟨hb, fun hwf w hw => (h w hw).mono fun e w' ⟨r, he, hn, hg, hx⟩ => ⟨r, st, he, ⟨rfl, rfl, rfl, rfl⟩, hwf, noPr_ok hn, hw.ext hx, hk r hg hn⟩⟩
theorem ext_refl (w : World) : Ext w w := Fr.refl [] w
theorem itoa_c (n : Int) (h : inR n) (w : World) (hG : Gl w) : Ans Tryz.prog 148 [vI n] (rS (Lib.itoa n)) w :=
 (Tryz.strconv_Itoa n h.1 h.2 w hG.pow).mono fun e w' ⟨he, k, os, hw⟩ => ⟨he, hw ▸ Ext.of_below (Lib.below_grow _ w (Nat.le_refl _) k os)⟩
theorem bytesWorld_ext (w : World) (t : TypeId) (s : ByteArray) : Ext w (Lib.bytesWorld w t s) :=
 Ext.of_below (Lib.bytesWorld_below w t s)
theorem atoi_ok (l : List UInt8) (v : Int) (hl : l.length ≤ 1000) (h : Lib.atoiAll l = .ok v) (w : World) : Ans Tryz.prog 198 [sv l] (.tup [.c (.i v), .c (.x .nilIface)]) w :=
 (Tryz.strconv_Atoi_ok (bs l) (by rw [size_bs]; omega) v h w).mono fun e w' ⟨he, hw⟩ => ⟨he, by
  rcases hw with rfl | ⟨t, rfl⟩
  ·exact ext_refl _
  ·exact bytesWorld_ext _ _ _⟩
theorem atoi_bad (l : List UInt8) (hl : l.length ≤ 1000) (h : ∀ v, Lib.atoiAll l ≠ .ok v) (w : World) (hG : Gl w) : AnsP Tryz.prog 198 [sv l] (fun r => ∃ (n : Int) (t : TypeId) (u : Value), r = .tup [.c (.i n), .c (.x (.iface t u))]) w := by
 cases hc : Lib.atoiAll l
 ·rename_i v
  exact absurd hc (h v)
 ·skip
  obtain ⟨te, pe, he⟩ := hG.errS
  exact (Any.strconv_Atoi_syntax Tryz.laysC172 (bs l) (by rw [size_bs]; omega) hc _ w he (.inr ⟨_, _, rfl⟩)).mono fun e w' ⟨N, he, _, _, hb⟩ => ⟨.tup [.c (.i 0), .c (.x (.iface 279 (.pointer (some ⟨N, 0, none⟩))))], he, rfl, ⟨_, _, _, rfl⟩, Ext.of_below hb⟩
 ·skip
  obtain ⟨te, pe, he⟩ := hG.errR
  exact (Tryz.strconv_Atoi_range (bs l) (by rw [size_bs]; omega) hc _ w he (.inr ⟨_, _, rfl⟩)).mono fun e w' ⟨N, he, _, _, hb⟩ => ⟨.tup [.c (.i _), .c (.x (.iface 279 (.pointer (some ⟨N, 0, none⟩))))], he, rfl, ⟨_, _, _, rfl⟩, Ext.of_below hb⟩
theorem indexByte_c (l : List UInt8) (c : Int) (w : World) : Ans Tryz.prog 197 [sv l, .int .u8 c] (.i (Lib.indexByte l c.toNat.toUInt8)) w :=
 (Tryz.strings_IndexByte (bs l) c w).mono fun e w' ⟨he, hw⟩ => ⟨he, hw ▸ ext_refl _⟩
theorem cutPrefix_c (l p : List UInt8) (w : World) : Ans Tryz.prog 199 [sv l, sv p] (.tup [.c (.s (Lib.trimPrefix l p)), .c (.b (Lib.hasPrefix l p))]) w :=
 (Tryz.strings_CutPrefix (bs l) (bs p) w).mono fun e w' ⟨he, hw⟩ => ⟨he, hw ▸ ext_refl _⟩
theorem containsRune_c (l : List UInt8) (r : Int) (h0 : 0 ≤ r) (h1 : r < 128) (w : World) : Ans Tryz.prog 188 [sv l, .int .i32 r] (.b (decide (0 ≤ Lib.indexByte l r.toNat.toUInt8))) w :=
 (Tryz.strings_ContainsRune_ascii (bs l) r w h0 h1).mono fun e w' ⟨he, hw⟩ => ⟨he, hw ▸ ext_refl _⟩
end Go.Proofs.YtlobacpdhglnkaaGreatDoor
