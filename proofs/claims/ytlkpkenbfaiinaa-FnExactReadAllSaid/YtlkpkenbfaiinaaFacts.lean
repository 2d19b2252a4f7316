/- Plain facts on the types and functions of the loaded program. -/
import Derived.Test.YtlkpkenbfaiinaaProg
import Derived.Test.YtlkpkenbfaiinaaSl10
import Derived.KernelRfl
namespace Go.Proofs.Ytlkpkenbfaiinaa
open Go.Sl
theorem ag_100 : aggB Try.prog 100 = some true := by kernel_rfl
theorem ag_130 : aggB Try.prog 130 = some false := by kernel_rfl
theorem ag_132 : aggB Try.prog 132 = some true := by kernel_rfl
theorem ag_134 : aggB Try.prog 134 = some true := by kernel_rfl
theorem ag_2 : aggB Try.prog 2 = some false := by kernel_rfl
theorem ag_4 : aggB Try.prog 4 = some false := by kernel_rfl
theorem ag_41 : aggB Try.prog 41 = some false := by kernel_rfl
theorem ag_43 : aggB Try.prog 43 = some true := by kernel_rfl
theorem ag_51 : aggB Try.prog 51 = some true := by kernel_rfl
theorem ag_71 : aggB Try.prog 71 = some true := by kernel_rfl
theorem ag_73 : aggB Try.prog 73 = some true := by kernel_rfl
theorem ag_98 : aggB Try.prog 98 = some true := by kernel_rfl
theorem al_43 : allSz Try.prog 43 = true := by kernel_rfl
theorem ar_136 : arrB Try.prog 136 = some (16, 41) := by kernel_rfl
theorem by_132 : bytesB Try.prog 132 = some 12 := by kernel_rfl
theorem by_2 : bytesB Try.prog 2 = some 8 := by kernel_rfl
theorem by_4 : bytesB Try.prog 4 = some 1 := by kernel_rfl
theorem by_41 : bytesB Try.prog 41 = some 4 := by kernel_rfl
theorem by_43 : bytesB Try.prog 43 = some 12 := by kernel_rfl
theorem by_98 : bytesB Try.prog 98 = some 8 := by kernel_rfl
theorem cb_100 : callB Try.prog 100 = true := by kernel_rfl
theorem cb_101 : callB Try.prog 101 = true := by kernel_rfl
theorem cb_102 : callB Try.prog 102 = true := by kernel_rfl
theorem cb_103 : callB Try.prog 103 = true := by kernel_rfl
theorem cb_104 : callB Try.prog 104 = true := by kernel_rfl
theorem cb_105 : callB Try.prog 105 = true := by kernel_rfl
theorem cb_106 : callB Try.prog 106 = true := by kernel_rfl
theorem cb_107 : callB Try.prog 107 = true := by kernel_rfl
theorem cb_108 : callB Try.prog 108 = true := by kernel_rfl
theorem cb_109 : callB Try.prog 109 = true := by kernel_rfl
theorem cb_110 : callB Try.prog 110 = true := by kernel_rfl
theorem cb_111 : callB Try.prog 111 = true := by kernel_rfl
theorem cb_114 : callB Try.prog 114 = true := by kernel_rfl
theorem cb_120 : callB Try.prog 120 = true := by kernel_rfl
theorem cb_123 : callB Try.prog 123 = true := by kernel_rfl
theorem cb_124 : callB Try.prog 124 = true := by kernel_rfl
theorem cb_125 : callB Try.prog 125 = true := by kernel_rfl
theorem cb_126 : callB Try.prog 126 = true := by kernel_rfl
theorem cb_127 : callB Try.prog 127 = true := by kernel_rfl
theorem cb_128 : callB Try.prog 128 = true := by kernel_rfl
theorem cb_129 : callB Try.prog 129 = true := by kernel_rfl
theorem cb_130 : callB Try.prog 130 = true := by kernel_rfl
theorem cb_132 : callB Try.prog 132 = true := by kernel_rfl
theorem cb_133 : callB Try.prog 133 = true := by kernel_rfl
theorem cb_134 : callB Try.prog 134 = true := by kernel_rfl
theorem cb_135 : callB Try.prog 135 = true := by kernel_rfl
theorem cb_136 : callB Try.prog 136 = true := by kernel_rfl
theorem cb_137 : callB Try.prog 137 = true := by kernel_rfl
theorem cb_138 : callB Try.prog 138 = true := by kernel_rfl
theorem cb_139 : callB Try.prog 139 = true := by kernel_rfl
theorem cb_140 : callB Try.prog 140 = true := by kernel_rfl
theorem cb_144 : callB Try.prog 144 = true := by kernel_rfl
theorem cb_146 : callB Try.prog 146 = true := by kernel_rfl
theorem cb_147 : callB Try.prog 147 = true := by kernel_rfl
theorem cb_148 : callB Try.prog 148 = true := by kernel_rfl
theorem cb_149 : callB Try.prog 149 = true := by kernel_rfl
theorem cb_150 : callB Try.prog 150 = true := by kernel_rfl
theorem cb_151 : callB Try.prog 151 = true := by kernel_rfl
theorem cb_155 : callB Try.prog 155 = true := by kernel_rfl
theorem cb_156 : callB Try.prog 156 = true := by kernel_rfl
theorem cb_160 : callB Try.prog 160 = true := by kernel_rfl
theorem cb_161 : callB Try.prog 161 = true := by kernel_rfl
theorem cb_162 : callB Try.prog 162 = true := by kernel_rfl
theorem cb_167 : callB Try.prog 167 = true := by kernel_rfl
theorem cb_18 : callB Try.prog 18 = true := by kernel_rfl
theorem cb_19 : callB Try.prog 19 = true := by kernel_rfl
theorem cb_20 : callB Try.prog 20 = true := by kernel_rfl
theorem cb_21 : callB Try.prog 21 = true := by kernel_rfl
theorem cb_22 : callB Try.prog 22 = true := by kernel_rfl
theorem cb_23 : callB Try.prog 23 = true := by kernel_rfl
theorem cb_24 : callB Try.prog 24 = true := by kernel_rfl
theorem cb_25 : callB Try.prog 25 = true := by kernel_rfl
theorem cb_26 : callB Try.prog 26 = true := by kernel_rfl
theorem cb_30 : callB Try.prog 30 = true := by kernel_rfl
theorem cb_31 : callB Try.prog 31 = true := by kernel_rfl
theorem cb_32 : callB Try.prog 32 = true := by kernel_rfl
theorem cb_33 : callB Try.prog 33 = true := by kernel_rfl
theorem cb_34 : callB Try.prog 34 = true := by kernel_rfl
theorem cb_35 : callB Try.prog 35 = true := by kernel_rfl
theorem cb_36 : callB Try.prog 36 = true := by kernel_rfl
theorem cb_37 : callB Try.prog 37 = true := by kernel_rfl
theorem cb_38 : callB Try.prog 38 = true := by kernel_rfl
theorem cb_39 : callB Try.prog 39 = true := by kernel_rfl
theorem cb_40 : callB Try.prog 40 = true := by kernel_rfl
theorem cb_41 : callB Try.prog 41 = true := by kernel_rfl
theorem cb_42 : callB Try.prog 42 = true := by kernel_rfl
theorem cb_43 : callB Try.prog 43 = true := by kernel_rfl
theorem cb_44 : callB Try.prog 44 = true := by kernel_rfl
theorem cb_45 : callB Try.prog 45 = true := by kernel_rfl
theorem cb_46 : callB Try.prog 46 = true := by kernel_rfl
theorem cb_47 : callB Try.prog 47 = true := by kernel_rfl
theorem cb_48 : callB Try.prog 48 = true := by kernel_rfl
theorem cb_49 : callB Try.prog 49 = true := by kernel_rfl
theorem cb_50 : callB Try.prog 50 = true := by kernel_rfl
theorem cb_51 : callB Try.prog 51 = true := by kernel_rfl
theorem cb_52 : callB Try.prog 52 = true := by kernel_rfl
theorem cb_53 : callB Try.prog 53 = true := by kernel_rfl
theorem cb_54 : callB Try.prog 54 = true := by kernel_rfl
theorem cb_55 : callB Try.prog 55 = true := by kernel_rfl
theorem cb_56 : callB Try.prog 56 = true := by kernel_rfl
theorem cb_57 : callB Try.prog 57 = true := by kernel_rfl
theorem cb_58 : callB Try.prog 58 = true := by kernel_rfl
theorem cb_59 : callB Try.prog 59 = true := by kernel_rfl
theorem cb_60 : callB Try.prog 60 = true := by kernel_rfl
theorem cb_61 : callB Try.prog 61 = true := by kernel_rfl
theorem cb_62 : callB Try.prog 62 = true := by kernel_rfl
theorem cb_73 : callB Try.prog 73 = true := by kernel_rfl
theorem cb_74 : callB Try.prog 74 = true := by kernel_rfl
theorem cb_75 : callB Try.prog 75 = true := by kernel_rfl
theorem cb_76 : callB Try.prog 76 = true := by kernel_rfl
theorem cb_77 : callB Try.prog 77 = true := by kernel_rfl
theorem cb_78 : callB Try.prog 78 = true := by kernel_rfl
theorem cb_79 : callB Try.prog 79 = true := by kernel_rfl
theorem cb_80 : callB Try.prog 80 = true := by kernel_rfl
theorem cb_81 : callB Try.prog 81 = true := by kernel_rfl
theorem cb_85 : callB Try.prog 85 = true := by kernel_rfl
theorem cb_86 : callB Try.prog 86 = true := by kernel_rfl
theorem cb_87 : callB Try.prog 87 = true := by kernel_rfl
theorem cb_88 : callB Try.prog 88 = true := by kernel_rfl
theorem cb_89 : callB Try.prog 89 = true := by kernel_rfl
theorem cb_90 : callB Try.prog 90 = true := by kernel_rfl
theorem cb_91 : callB Try.prog 91 = true := by kernel_rfl
theorem cb_92 : callB Try.prog 92 = true := by kernel_rfl
theorem cb_93 : callB Try.prog 93 = true := by kernel_rfl
theorem cb_94 : callB Try.prog 94 = true := by kernel_rfl
theorem cb_95 : callB Try.prog 95 = true := by kernel_rfl
theorem cb_96 : callB Try.prog 96 = true := by kernel_rfl
theorem cb_97 : callB Try.prog 97 = true := by kernel_rfl
theorem cb_98 : callB Try.prog 98 = true := by kernel_rfl
theorem cb_99 : callB Try.prog 99 = true := by kernel_rfl
theorem fd_100_0 : fieldB Try.prog 100 0 = some (0, 41) := by kernel_rfl
theorem fd_100_1 : fieldB Try.prog 100 1 = some (1, 41) := by kernel_rfl
theorem fd_132_0 : fieldB Try.prog 132 0 = some (0, 130) := by kernel_rfl
theorem fd_132_1 : fieldB Try.prog 132 1 = some (1, 41) := by kernel_rfl
theorem fd_132_2 : fieldB Try.prog 132 2 = some (2, 41) := by kernel_rfl
theorem fd_134_0 : fieldB Try.prog 134 0 = some (0, 130) := by kernel_rfl
theorem fd_134_1 : fieldB Try.prog 134 1 = some (1, 41) := by kernel_rfl
theorem fd_134_2 : fieldB Try.prog 134 2 = some (2, 41) := by kernel_rfl
theorem fd_138_0 : fieldB Try.prog 138 0 = some (0, 130) := by kernel_rfl
theorem fd_138_1 : fieldB Try.prog 138 1 = some (1, 136) := by kernel_rfl
theorem fd_43_0 : fieldB Try.prog 43 0 = some (0, 41) := by kernel_rfl
theorem fd_43_1 : fieldB Try.prog 43 1 = some (1, 41) := by kernel_rfl
theorem fd_43_2 : fieldB Try.prog 43 2 = some (2, 41) := by kernel_rfl
theorem fd_51_0 : fieldB Try.prog 51 0 = some (0, 41) := by kernel_rfl
theorem fd_51_1 : fieldB Try.prog 51 1 = some (1, 41) := by kernel_rfl
theorem fd_51_2 : fieldB Try.prog 51 2 = some (2, 41) := by kernel_rfl
theorem fd_71_0 : fieldB Try.prog 71 0 = some (0, 41) := by kernel_rfl
theorem fd_71_1 : fieldB Try.prog 71 1 = some (1, 41) := by kernel_rfl
theorem fd_71_2 : fieldB Try.prog 71 2 = some (2, 41) := by kernel_rfl
theorem fd_73_0 : fieldB Try.prog 73 0 = some (0, 41) := by kernel_rfl
theorem fd_73_1 : fieldB Try.prog 73 1 = some (1, 41) := by kernel_rfl
theorem fd_73_2 : fieldB Try.prog 73 2 = some (2, 41) := by kernel_rfl
theorem fd_98_0 : fieldB Try.prog 98 0 = some (0, 41) := by kernel_rfl
theorem fd_98_1 : fieldB Try.prog 98 1 = some (1, 41) := by kernel_rfl
theorem lf_41 : leafs Try.prog 9 41 = some [.float .f32] := by kernel_rfl
theorem lf_71 : leafs Try.prog 9 71 = some [.float .f32, .float .f32, .float .f32] := by kernel_rfl
theorem mixed : Try.prog.follows .mixedOrders = true := by kernel_rfl
theorem pl_43 : placesB Try.prog 43 = some (.inl [(0, 1), (1, 1), (2, 1)]) := by kernel_rfl
theorem sl_154 : sliceB Try.prog 154 = some 4 := by kernel_rfl
theorem sl_22 : sliceB Try.prog 22 = some 100 := by kernel_rfl
theorem sl_26 : sliceB Try.prog 26 = some 98 := by kernel_rfl
theorem sl_30 : sliceB Try.prog 30 = some 2 := by kernel_rfl
theorem sl_39 : sliceB Try.prog 39 = some 51 := by kernel_rfl
theorem sl_46 : sliceB Try.prog 46 = some 43 := by kernel_rfl
theorem sl_64 : sliceB Try.prog 64 = some 41 := by kernel_rfl
theorem sl_84 : sliceB Try.prog 84 = some 134 := by kernel_rfl
theorem sl_87 : sliceB Try.prog 87 = some 132 := by kernel_rfl
theorem sz_100 : szB Try.prog 100 = some 2 := by kernel_rfl
theorem sz_130 : szB Try.prog 130 = some 1 := by kernel_rfl
theorem sz_132 : szB Try.prog 132 = some 3 := by kernel_rfl
theorem sz_134 : szB Try.prog 134 = some 3 := by kernel_rfl
theorem sz_2 : szB Try.prog 2 = some 1 := by kernel_rfl
theorem sz_4 : szB Try.prog 4 = some 1 := by kernel_rfl
theorem sz_41 : szB Try.prog 41 = some 1 := by kernel_rfl
theorem sz_43 : szB Try.prog 43 = some 3 := by kernel_rfl
theorem sz_51 : szB Try.prog 51 = some 3 := by kernel_rfl
theorem sz_71 : szB Try.prog 71 = some 3 := by kernel_rfl
theorem sz_73 : szB Try.prog 73 = some 3 := by kernel_rfl
theorem sz_98 : szB Try.prog 98 = some 2 := by kernel_rfl
theorem un_130 : Try.prog.underlying 130 = some (.int .i8) := by kernel_rfl
theorem un_2 : Try.prog.underlying 2 = some (.int .i64) := by kernel_rfl
theorem un_3 : Try.prog.underlying 3 = some (.int .i64) := by kernel_rfl
theorem un_4 : Try.prog.underlying 4 = some (.bool) := by kernel_rfl
theorem un_41 : Try.prog.underlying 41 = some (.float .f32) := by kernel_rfl
theorem un_56 : Try.prog.underlying 56 = some (.float .f64) := by kernel_rfl
theorem zr_132 : zeroB Try.prog 132 = some [.int .i8 0, .float .f32 0, .float .f32 0] := by kernel_rfl
theorem zr_2 : zeroB Try.prog 2 = some [.int .i64 0] := by kernel_rfl
theorem zr_4 : zeroB Try.prog 4 = some [.bool false] := by kernel_rfl
theorem zr_41 : zeroB Try.prog 41 = some [.float .f32 0] := by kernel_rfl
theorem zr_43 : zeroB Try.prog 43 = some [.float .f32 0, .float .f32 0, .float .f32 0] := by kernel_rfl
theorem zr_73 : zeroB Try.prog 73 = some [.float .f32 0, .float .f32 0, .float .f32 0] := by kernel_rfl
theorem zr_98 : zeroB Try.prog 98 = some [.float .f32 0, .float .f32 0] := by kernel_rfl
theorem x32 (a : Nat) (w : World) : (callFunc 166 (List.toArray [.float .f32 a])).run Try.prog w = .ok (.value (.int .u32 (a : Int))) w := by
  rw [run_callFunc_extern Try.func166 (by kernel_rfl) (by kernel_rfl) (by kernel_rfl) (show Extern.find Try.f166 = some Extern.MathFloatBits.float32bits from by kernel_rfl)]
  rfl
theorem xfloor (z K : Nat) (e : Int) (h : Ieee.double.read z = .number false K e) (w : World) : (callFunc 152 (List.toArray [.float .f64 z])).run Try.prog w = .ok (.value (.float .f64 (Ieee.double.nearest false (flr K e) 0))) w := by
  rw [run_callFunc_extern Try.func152 (by kernel_rfl) (by kernel_rfl) (by kernel_rfl) (show Extern.find Try.f152 = some (Extern.MathFloor.toIntegral "math.archFloor" .down) from by kernel_rfl)]
  simp [run_floor h]
end Go.Proofs.Ytlkpkenbfaiinaa
