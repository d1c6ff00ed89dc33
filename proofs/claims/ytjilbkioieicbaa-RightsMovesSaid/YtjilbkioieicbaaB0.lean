/- The types and bodies that the walks use, and how spans, lots and deeds lie in memory. -/
import Derived.Test.YtjilbkioieicbaaProg
import Derived.Test.YtjilbkioieicbaaP0
import Derived.KernelRfl
import Derived.Test.YtjilbkioieicbaaVcKit
namespace Go.Proofs.Ytjilbkioieicbaa
open Go.Vc Rt
set_option linter.unusedVariables false
def tab : Tab := [(3, { kind := 6, size := 1, zero := [.i 0] }),
  (52, { kind := 1, size := 1, zero := [.x (.slice none 0 0)], elem := 56, esize := 3, ebytes := 24 }),
  (22, { kind := 1, size := 1, zero := [.x (.slice none 0 0)], elem := 3, esize := 1, ebytes := 8 }),
  (54, { kind := 2, size := 7, zero := [.i 0, .i 0, .i 0, .i 0, .i 0, .i 0, .x (.slice none 0 0)], flds := [(0, 1, false), (1, 1, false), (2, 1, false), (3, 1, false), (4, 1, false), (5, 1, false), (6, 1, false)] }),
  (47, { kind := 1, size := 1, zero := [.x (.slice none 0 0)], elem := 58, esize := 7, ebytes := 56 }),
  (56, { kind := 2, size := 3, zero := [.i 0, .i 0, .i 0], flds := [(0, 1, false), (1, 1, false), (2, 1, false)], cmp := true }),
  (58, { kind := 2, size := 7, zero := [.i 0, .i 0, .i 0, .i 0, .i 0, .i 0, .i 0], flds := [(0, 3, true), (3, 1, false), (4, 1, false), (5, 1, false), (6, 1, false)], cmp := true }),
  (45, { kind := 1, size := 1, zero := [.x (.slice none 0 0)], elem := 54, esize := 7, ebytes := 72 }),
  (30, { kind := 6, size := 1, zero := [.i 0] }),
  (23, { kind := 1, size := 1, zero := [.x (.slice none 0 0)], elem := 42, esize := 4, ebytes := 32 }),
  (24, { kind := 1, size := 1, zero := [.x (.slice none 0 0)], elem := 40, esize := 3, ebytes := 24 }),
  (73, { kind := 1, size := 1, zero := [.x (.slice none 0 0)], elem := 22, esize := 1, ebytes := 24 }),
  (48, { kind := 1, size := 1, zero := [.x (.slice none 0 0)], elem := 30, esize := 1, ebytes := 8 }),
  (42, { kind := 2, size := 4, zero := [.i 0, .i 0, .i 0, .i 0], flds := [(0, 1, false), (1, 1, false), (2, 1, false), (3, 1, false)], cmp := true }),
  (25, { kind := 1, size := 1, zero := [.x (.slice none 0 0)], elem := 38, esize := 4, ebytes := 32 }),
  (26, { kind := 1, size := 1, zero := [.x (.slice none 0 0)], elem := 4, esize := 1, ebytes := 1 }),
  (89, { kind := 2, size := 7, zero := [.i 0, .i 0, .i 0, .i 0, .i 0, .i 0, .i 0], flds := [(0, 1, false), (1, 1, false), (2, 1, false), (3, 1, false), (4, 1, false), (5, 1, false), (6, 1, false)], cmp := true }),
  (86, { kind := 2, size := 5, zero := [.x (.slice none 0 0), .x (.slice none 0 0), .x (.slice none 0 0), .x (.slice none 0 0), .x (.slice none 0 0)], flds := [(0, 1, false), (1, 1, false), (2, 1, false), (3, 1, false), (4, 1, false)] }),
  (38, { kind := 2, size := 4, zero := [.i 0, .i 0, .i 0, .i 0], flds := [(0, 1, false), (1, 1, false), (2, 1, false), (3, 1, false)], cmp := true }),
  (107, { kind := 2, size := 3, zero := [.i 0, .i 0, .i 0], flds := [(0, 1, false), (1, 1, false), (2, 1, false)], cmp := true }),
  (84, { kind := 1, size := 1, zero := [.x (.slice none 0 0)], elem := 26, esize := 1, ebytes := 24 }),
  (133, { kind := 2, size := 5, zero := [.x (.slice none 0 0), .x (.slice none 0 0), .x (.slice none 0 0), .x (.slice none 0 0), .x (.slice none 0 0)], flds := [(0, 1, false), (1, 1, false), (2, 1, false), (3, 1, false), (4, 1, false)] }),
  (40, { kind := 2, size := 3, zero := [.i 0, .i 0, .i 0], flds := [(0, 1, false), (1, 1, false), (2, 1, false)], cmp := true }),
  (100, { kind := 1, size := 1, zero := [.x (.slice none 0 0)], elem := 107, esize := 3, ebytes := 24 }),
  (112, { kind := 2, size := 1, zero := [.x (.slice none 0 0)], flds := [(0, 1, false)] }),
  (160, { kind := 7, size := 1, zero := [.x (.int .u64 0)] }),
  (4, { kind := 5, size := 1, zero := [.b false] }),
  (5, { kind := 0, size := 1, zero := [.x (.int .u8 0)] }),
  (138, { kind := 0, size := 1, zero := [.x (.pointer none)] }),
  (150, { kind := 1, size := 1, zero := [.x (.slice none 0 0)], elem := 52, esize := 1, ebytes := 24 }),
  (129, { kind := 0, size := 1, zero := [.x (.pointer none)] }),
  (127, { kind := 0, size := 1, zero := [.x .nilFunc] }),
  (81, { kind := 1, size := 1, zero := [.x (.slice none 0 0)], elem := 89, esize := 7, ebytes := 56 }),
  (83, { kind := 0, size := 1, zero := [.x (.pointer none)] }),
  (116, { kind := 0, size := 1, zero := [.x .nilFunc] }),
  (121, { kind := 0, size := 1, zero := [.x .nilFunc] }),
  (82, { kind := 1, size := 1, zero := [.x (.slice none 0 0)], elem := 5, esize := 1, ebytes := 1 }),
  (143, { kind := 0, size := 1, zero := [.x .nilFunc] }),
  (155, { kind := 0, size := 1, zero := [.x .nilFunc] }),
  (99, { kind := 0, size := 1, zero := [.x .nilFunc] }),
  (137, { kind := 0, size := 1, zero := [.x .nilFunc] }),
  (162, { kind := 0, size := 1, zero := [.x .nilFunc] })]
theorem tab_ok : TabOk Try.prog tab := TabOk.of_all (by kernel_rfl)
theorem mixed : Try.prog.follows .mixedOrders = true := by kernel_rfl
theorem b3 : Body Try.prog 3 := ⟨Try.f3, Try.func3, rfl, rfl⟩
theorem b4 : Body Try.prog 4 := ⟨Try.f4, Try.func4, rfl, rfl⟩
theorem b5 : Body Try.prog 5 := ⟨Try.f5, Try.func5, rfl, rfl⟩
theorem b6 : Body Try.prog 6 := ⟨Try.f6, Try.func6, rfl, rfl⟩
theorem b7 : Body Try.prog 7 := ⟨Try.f7, Try.func7, rfl, rfl⟩
theorem b8 : Body Try.prog 8 := ⟨Try.f8, Try.func8, rfl, rfl⟩
theorem b9 : Body Try.prog 9 := ⟨Try.f9, Try.func9, rfl, rfl⟩
theorem b10 : Body Try.prog 10 := ⟨Try.f10, Try.func10, rfl, rfl⟩
theorem b11 : Body Try.prog 11 := ⟨Try.f11, Try.func11, rfl, rfl⟩
theorem b12 : Body Try.prog 12 := ⟨Try.f12, Try.func12, rfl, rfl⟩
theorem b13 : Body Try.prog 13 := ⟨Try.f13, Try.func13, rfl, rfl⟩
theorem b14 : Body Try.prog 14 := ⟨Try.f14, Try.func14, rfl, rfl⟩
theorem b15 : Body Try.prog 15 := ⟨Try.f15, Try.func15, rfl, rfl⟩
theorem b16 : Body Try.prog 16 := ⟨Try.f16, Try.func16, rfl, rfl⟩
theorem b17 : Body Try.prog 17 := ⟨Try.f17, Try.func17, rfl, rfl⟩
theorem b18 : Body Try.prog 18 := ⟨Try.f18, Try.func18, rfl, rfl⟩
theorem b19 : Body Try.prog 19 := ⟨Try.f19, Try.func19, rfl, rfl⟩
theorem b20 : Body Try.prog 20 := ⟨Try.f20, Try.func20, rfl, rfl⟩
theorem b21 : Body Try.prog 21 := ⟨Try.f21, Try.func21, rfl, rfl⟩
theorem b22 : Body Try.prog 22 := ⟨Try.f22, Try.func22, rfl, rfl⟩
theorem b23 : Body Try.prog 23 := ⟨Try.f23, Try.func23, rfl, rfl⟩
theorem b24 : Body Try.prog 24 := ⟨Try.f24, Try.func24, rfl, rfl⟩
theorem b25 : Body Try.prog 25 := ⟨Try.f25, Try.func25, rfl, rfl⟩
theorem b26 : Body Try.prog 26 := ⟨Try.f26, Try.func26, rfl, rfl⟩
theorem b27 : Body Try.prog 27 := ⟨Try.f27, Try.func27, rfl, rfl⟩
theorem b28 : Body Try.prog 28 := ⟨Try.f28, Try.func28, rfl, rfl⟩
theorem b29 : Body Try.prog 29 := ⟨Try.f29, Try.func29, rfl, rfl⟩
theorem b30 : Body Try.prog 30 := ⟨Try.f30, Try.func30, rfl, rfl⟩
theorem b31 : Body Try.prog 31 := ⟨Try.f31, Try.func31, rfl, rfl⟩
theorem b32 : Body Try.prog 32 := ⟨Try.f32, Try.func32, rfl, rfl⟩
theorem b33 : Body Try.prog 33 := ⟨Try.f33, Try.func33, rfl, rfl⟩
theorem b34 : Body Try.prog 34 := ⟨Try.f34, Try.func34, rfl, rfl⟩
theorem b35 : Body Try.prog 35 := ⟨Try.f35, Try.func35, rfl, rfl⟩
theorem b36 : Body Try.prog 36 := ⟨Try.f36, Try.func36, rfl, rfl⟩
theorem b37 : Body Try.prog 37 := ⟨Try.f37, Try.func37, rfl, rfl⟩
theorem b38 : Body Try.prog 38 := ⟨Try.f38, Try.func38, rfl, rfl⟩
theorem b39 : Body Try.prog 39 := ⟨Try.f39, Try.func39, rfl, rfl⟩
theorem b40 : Body Try.prog 40 := ⟨Try.f40, Try.func40, rfl, rfl⟩
theorem b41 : Body Try.prog 41 := ⟨Try.f41, Try.func41, rfl, rfl⟩
theorem b42 : Body Try.prog 42 := ⟨Try.f42, Try.func42, rfl, rfl⟩
theorem b43 : Body Try.prog 43 := ⟨Try.f43, Try.func43, rfl, rfl⟩
theorem b44 : Body Try.prog 44 := ⟨Try.f44, Try.func44, rfl, rfl⟩
theorem b45 : Body Try.prog 45 := ⟨Try.f45, Try.func45, rfl, rfl⟩
theorem b46 : Body Try.prog 46 := ⟨Try.f46, Try.func46, rfl, rfl⟩
theorem b47 : Body Try.prog 47 := ⟨Try.f47, Try.func47, rfl, rfl⟩
theorem b48 : Body Try.prog 48 := ⟨Try.f48, Try.func48, rfl, rfl⟩
theorem b49 : Body Try.prog 49 := ⟨Try.f49, Try.func49, rfl, rfl⟩
theorem b50 : Body Try.prog 50 := ⟨Try.f50, Try.func50, rfl, rfl⟩
theorem b51 : Body Try.prog 51 := ⟨Try.f51, Try.func51, rfl, rfl⟩
theorem b52 : Body Try.prog 52 := ⟨Try.f52, Try.func52, rfl, rfl⟩
theorem b53 : Body Try.prog 53 := ⟨Try.f53, Try.func53, rfl, rfl⟩
theorem b54 : Body Try.prog 54 := ⟨Try.f54, Try.func54, rfl, rfl⟩
theorem b55 : Body Try.prog 55 := ⟨Try.f55, Try.func55, rfl, rfl⟩
theorem b56 : Body Try.prog 56 := ⟨Try.f56, Try.func56, rfl, rfl⟩
theorem b57 : Body Try.prog 57 := ⟨Try.f57, Try.func57, rfl, rfl⟩
theorem b58 : Body Try.prog 58 := ⟨Try.f58, Try.func58, rfl, rfl⟩
theorem b59 : Body Try.prog 59 := ⟨Try.f59, Try.func59, rfl, rfl⟩
theorem b60 : Body Try.prog 60 := ⟨Try.f60, Try.func60, rfl, rfl⟩
theorem b61 : Body Try.prog 61 := ⟨Try.f61, Try.func61, rfl, rfl⟩
theorem b62 : Body Try.prog 62 := ⟨Try.f62, Try.func62, rfl, rfl⟩
theorem b63 : Body Try.prog 63 := ⟨Try.f63, Try.func63, rfl, rfl⟩
theorem b64 : Body Try.prog 64 := ⟨Try.f64, Try.func64, rfl, rfl⟩
theorem b65 : Body Try.prog 65 := ⟨Try.f65, Try.func65, rfl, rfl⟩
theorem b66 : Body Try.prog 66 := ⟨Try.f66, Try.func66, rfl, rfl⟩
theorem b67 : Body Try.prog 67 := ⟨Try.f67, Try.func67, rfl, rfl⟩
theorem b68 : Body Try.prog 68 := ⟨Try.f68, Try.func68, rfl, rfl⟩
theorem b69 : Body Try.prog 69 := ⟨Try.f69, Try.func69, rfl, rfl⟩
theorem b70 : Body Try.prog 70 := ⟨Try.f70, Try.func70, rfl, rfl⟩
theorem b71 : Body Try.prog 71 := ⟨Try.f71, Try.func71, rfl, rfl⟩
theorem b72 : Body Try.prog 72 := ⟨Try.f72, Try.func72, rfl, rfl⟩
theorem b73 : Body Try.prog 73 := ⟨Try.f73, Try.func73, rfl, rfl⟩
theorem b74 : Body Try.prog 74 := ⟨Try.f74, Try.func74, rfl, rfl⟩
theorem b75 : Body Try.prog 75 := ⟨Try.f75, Try.func75, rfl, rfl⟩
theorem b76 : Body Try.prog 76 := ⟨Try.f76, Try.func76, rfl, rfl⟩
theorem b77 : Body Try.prog 77 := ⟨Try.f77, Try.func77, rfl, rfl⟩
theorem b78 : Body Try.prog 78 := ⟨Try.f78, Try.func78, rfl, rfl⟩
theorem b79 : Body Try.prog 79 := ⟨Try.f79, Try.func79, rfl, rfl⟩
theorem b80 : Body Try.prog 80 := ⟨Try.f80, Try.func80, rfl, rfl⟩
theorem b81 : Body Try.prog 81 := ⟨Try.f81, Try.func81, rfl, rfl⟩
theorem b82 : Body Try.prog 82 := ⟨Try.f82, Try.func82, rfl, rfl⟩
theorem b83 : Body Try.prog 83 := ⟨Try.f83, Try.func83, rfl, rfl⟩
theorem b84 : Body Try.prog 84 := ⟨Try.f84, Try.func84, rfl, rfl⟩
theorem b85 : Body Try.prog 85 := ⟨Try.f85, Try.func85, rfl, rfl⟩
theorem b86 : Body Try.prog 86 := ⟨Try.f86, Try.func86, rfl, rfl⟩
theorem b87 : Body Try.prog 87 := ⟨Try.f87, Try.func87, rfl, rfl⟩
theorem b88 : Body Try.prog 88 := ⟨Try.f88, Try.func88, rfl, rfl⟩
theorem b89 : Body Try.prog 89 := ⟨Try.f89, Try.func89, rfl, rfl⟩
theorem b90 : Body Try.prog 90 := ⟨Try.f90, Try.func90, rfl, rfl⟩
theorem b91 : Body Try.prog 91 := ⟨Try.f91, Try.func91, rfl, rfl⟩
theorem b92 : Body Try.prog 92 := ⟨Try.f92, Try.func92, rfl, rfl⟩
theorem b93 : Body Try.prog 93 := ⟨Try.f93, Try.func93, rfl, rfl⟩
theorem b94 : Body Try.prog 94 := ⟨Try.f94, Try.func94, rfl, rfl⟩
theorem b95 : Body Try.prog 95 := ⟨Try.f95, Try.func95, rfl, rfl⟩
theorem b96 : Body Try.prog 96 := ⟨Try.f96, Try.func96, rfl, rfl⟩
theorem b97 : Body Try.prog 97 := ⟨Try.f97, Try.func97, rfl, rfl⟩
theorem b98 : Body Try.prog 98 := ⟨Try.f98, Try.func98, rfl, rfl⟩
theorem b99 : Body Try.prog 99 := ⟨Try.f99, Try.func99, rfl, rfl⟩
theorem b100 : Body Try.prog 100 := ⟨Try.f100, Try.func100, rfl, rfl⟩
theorem b101 : Body Try.prog 101 := ⟨Try.f101, Try.func101, rfl, rfl⟩
theorem b102 : Body Try.prog 102 := ⟨Try.f102, Try.func102, rfl, rfl⟩
theorem b103 : Body Try.prog 103 := ⟨Try.f103, Try.func103, rfl, rfl⟩
theorem b104 : Body Try.prog 104 := ⟨Try.f104, Try.func104, rfl, rfl⟩
theorem b105 : Body Try.prog 105 := ⟨Try.f105, Try.func105, rfl, rfl⟩
theorem b106 : Body Try.prog 106 := ⟨Try.f106, Try.func106, rfl, rfl⟩
theorem b107 : Body Try.prog 107 := ⟨Try.f107, Try.func107, rfl, rfl⟩
theorem b108 : Body Try.prog 108 := ⟨Try.f108, Try.func108, rfl, rfl⟩
theorem b109 : Body Try.prog 109 := ⟨Try.f109, Try.func109, rfl, rfl⟩
theorem b110 : Body Try.prog 110 := ⟨Try.f110, Try.func110, rfl, rfl⟩
theorem b111 : Body Try.prog 111 := ⟨Try.f111, Try.func111, rfl, rfl⟩
theorem b112 : Body Try.prog 112 := ⟨Try.f112, Try.func112, rfl, rfl⟩
theorem b113 : Body Try.prog 113 := ⟨Try.f113, Try.func113, rfl, rfl⟩
theorem b114 : Body Try.prog 114 := ⟨Try.f114, Try.func114, rfl, rfl⟩
theorem b115 : Body Try.prog 115 := ⟨Try.f115, Try.func115, rfl, rfl⟩
theorem b116 : Body Try.prog 116 := ⟨Try.f116, Try.func116, rfl, rfl⟩
theorem b117 : Body Try.prog 117 := ⟨Try.f117, Try.func117, rfl, rfl⟩
theorem b118 : Body Try.prog 118 := ⟨Try.f118, Try.func118, rfl, rfl⟩
theorem b119 : Body Try.prog 119 := ⟨Try.f119, Try.func119, rfl, rfl⟩
theorem b120 : Body Try.prog 120 := ⟨Try.f120, Try.func120, rfl, rfl⟩
theorem b121 : Body Try.prog 121 := ⟨Try.f121, Try.func121, rfl, rfl⟩
theorem b122 : Body Try.prog 122 := ⟨Try.f122, Try.func122, rfl, rfl⟩
theorem b123 : Body Try.prog 123 := ⟨Try.f123, Try.func123, rfl, rfl⟩
theorem b124 : Body Try.prog 124 := ⟨Try.f124, Try.func124, rfl, rfl⟩
theorem b125 : Body Try.prog 125 := ⟨Try.f125, Try.func125, rfl, rfl⟩
theorem b126 : Body Try.prog 126 := ⟨Try.f126, Try.func126, rfl, rfl⟩
theorem b127 : Body Try.prog 127 := ⟨Try.f127, Try.func127, rfl, rfl⟩
theorem b128 : Body Try.prog 128 := ⟨Try.f128, Try.func128, rfl, rfl⟩
theorem b129 : Body Try.prog 129 := ⟨Try.f129, Try.func129, rfl, rfl⟩
theorem b130 : Body Try.prog 130 := ⟨Try.f130, Try.func130, rfl, rfl⟩
theorem b131 : Body Try.prog 131 := ⟨Try.f131, Try.func131, rfl, rfl⟩
theorem b132 : Body Try.prog 132 := ⟨Try.f132, Try.func132, rfl, rfl⟩
theorem b133 : Body Try.prog 133 := ⟨Try.f133, Try.func133, rfl, rfl⟩
theorem b134 : Body Try.prog 134 := ⟨Try.f134, Try.func134, rfl, rfl⟩
theorem b135 : Body Try.prog 135 := ⟨Try.f135, Try.func135, rfl, rfl⟩
theorem b136 : Body Try.prog 136 := ⟨Try.f136, Try.func136, rfl, rfl⟩
theorem b137 : Body Try.prog 137 := ⟨Try.f137, Try.func137, rfl, rfl⟩
theorem b138 : Body Try.prog 138 := ⟨Try.f138, Try.func138, rfl, rfl⟩
theorem b139 : Body Try.prog 139 := ⟨Try.f139, Try.func139, rfl, rfl⟩
theorem b140 : Body Try.prog 140 := ⟨Try.f140, Try.func140, rfl, rfl⟩
theorem b141 : Body Try.prog 141 := ⟨Try.f141, Try.func141, rfl, rfl⟩
theorem b143 : Body Try.prog 143 := ⟨Try.f143, Try.func143, rfl, rfl⟩
theorem b144 : Body Try.prog 144 := ⟨Try.f144, Try.func144, rfl, rfl⟩
theorem b145 : Body Try.prog 145 := ⟨Try.f145, Try.func145, rfl, rfl⟩
theorem b146 : Body Try.prog 146 := ⟨Try.f146, Try.func146, rfl, rfl⟩
theorem b147 : Body Try.prog 147 := ⟨Try.f147, Try.func147, rfl, rfl⟩
theorem b148 : Body Try.prog 148 := ⟨Try.f148, Try.func148, rfl, rfl⟩
theorem b149 : Body Try.prog 149 := ⟨Try.f149, Try.func149, rfl, rfl⟩
theorem b150 : Body Try.prog 150 := ⟨Try.f150, Try.func150, rfl, rfl⟩
theorem b151 : Body Try.prog 151 := ⟨Try.f151, Try.func151, rfl, rfl⟩
theorem b152 : Body Try.prog 152 := ⟨Try.f152, Try.func152, rfl, rfl⟩
theorem b153 : Body Try.prog 153 := ⟨Try.f153, Try.func153, rfl, rfl⟩
theorem b154 : Body Try.prog 154 := ⟨Try.f154, Try.func154, rfl, rfl⟩
theorem b155 : Body Try.prog 155 := ⟨Try.f155, Try.func155, rfl, rfl⟩
theorem b156 : Body Try.prog 156 := ⟨Try.f156, Try.func156, rfl, rfl⟩
theorem b157 : Body Try.prog 157 := ⟨Try.f157, Try.func157, rfl, rfl⟩
theorem b158 : Body Try.prog 158 := ⟨Try.f158, Try.func158, rfl, rfl⟩
theorem b159 : Body Try.prog 159 := ⟨Try.f159, Try.func159, rfl, rfl⟩
theorem b160 : Body Try.prog 160 := ⟨Try.f160, Try.func160, rfl, rfl⟩
theorem b161 : Body Try.prog 161 := ⟨Try.f161, Try.func161, rfl, rfl⟩
theorem b162 : Body Try.prog 162 := ⟨Try.f162, Try.func162, rfl, rfl⟩
theorem b163 : Body Try.prog 163 := ⟨Try.f163, Try.func163, rfl, rfl⟩
theorem b164 : Body Try.prog 164 := ⟨Try.f164, Try.func164, rfl, rfl⟩
theorem b165 : Body Try.prog 165 := ⟨Try.f165, Try.func165, rfl, rfl⟩
theorem b166 : Body Try.prog 166 := ⟨Try.f166, Try.func166, rfl, rfl⟩
theorem b167 : Body Try.prog 167 := ⟨Try.f167, Try.func167, rfl, rfl⟩

def encS (s : Span) : List CV := [.i s.m, .i s.f, .i s.t]
def encL (l : Lot) : List CV := [.i l.s.m, .i l.s.f, .i l.s.t, .i l.o, .i l.h, .i l.u, .i l.p]
def encI (n : Int) : List CV := [.i n]
def spT : Ty Span := flat 3 encS (fun _ => rfl)
def loT : Ty Lot := flat 7 encL (fun _ => rfl)
/-- A deed's cells; v: the slice of its spans. -/
def encD (d : Deed) (v : Value) : List CV := [.i d.mark, .i d.kind, .i d.author, .i d.who, .i d.day, .i d.til, .x v]
def deT : Ty Deed where
  size := 7
  rel := fun S w d l => ∃ v, l = encD d v ∧ SlOf spT S w v d.spans
  len := fun ⟨v, h, _⟩ => by rw [h]; rfl
  fr := fun hf ⟨v, h, h'⟩ => ⟨v, h, h'.fr hf⟩
  av := fun hs ⟨v, h, h'⟩ => ⟨v, h, h'.avoid hs⟩
theorem encS_ints (s : Span) : intsOnly (encS s) = true := rfl
theorem encL_ints (l : Lot) : intsOnly (encL l) = true := rfl
theorem encI_ints (n : Int) : intsOnly (encI n) = true := rfl
theorem nopS (xs : List Span) : NoP (xs.map encS) := NoP.map (fun _ => rfl) xs
theorem nopL (xs : List Lot) : NoP (xs.map encL) := NoP.map (fun _ => rfl) xs
theorem nopI (xs : List Int) : NoP (xs.map encI) := NoP.map (fun _ => rfl) xs
/-- A span, a lot, as a value. -/
def vS (s : Span) : Value := .agg #[.int .i64 s.m, .int .i64 s.f, .int .i64 s.t]
def vL (l : Lot) : Value := .agg #[.int .i64 l.s.m, .int .i64 l.s.f, .int .i64 l.s.t, .int .i64 l.o, .int .i64 l.h, .int .i64 l.u, .int .i64 l.p]
def vD (d : Deed) (v : Value) : Value := .agg #[.int .i64 d.mark, .int .i64 d.kind, .int .i64 d.author, .int .i64 d.who, .int .i64 d.day, .int .i64 d.til, v]
def vI (n : Int) : Value := .int .i64 n
end Go.Proofs.Ytjilbkioieicbaa
