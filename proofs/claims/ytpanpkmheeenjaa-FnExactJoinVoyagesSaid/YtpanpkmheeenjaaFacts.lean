/- Plain facts on the types and functions of the loaded program. -/
import Derived.Test.YtpanpkmheeenjaaProg
import Derived.Test.YtpanpkmheeenjaaSl1
import Derived.KernelRfl
namespace Go.Proofs.Ytpanpkmheeenjaa
open Go.Sl
theorem ag_2 : aggB Try.prog 2 = some false := by kernel_rfl
theorem ag_22 : aggB Try.prog 22 = some false := by kernel_rfl
theorem ag_23 : aggB Try.prog 23 = some false := by kernel_rfl
theorem ag_24 : aggB Try.prog 24 = some true := by kernel_rfl
theorem ag_26 : aggB Try.prog 26 = some true := by kernel_rfl
theorem ag_28 : aggB Try.prog 28 = some true := by kernel_rfl
theorem ag_47 : aggB Try.prog 47 = some false := by kernel_rfl
theorem ag_53 : aggB Try.prog 53 = some true := by kernel_rfl
theorem ag_54 : aggB Try.prog 54 = some true := by kernel_rfl
theorem al_28 : allSz Try.prog 28 = true := by kernel_rfl
theorem al_54 : allSz Try.prog 54 = true := by kernel_rfl
theorem al_89 : allSz Try.prog 89 = true := by kernel_rfl
theorem ar_24 : arrB Try.prog 24 = some (16, 23) := by kernel_rfl
theorem by_2 : bytesB Try.prog 2 = some 8 := by kernel_rfl
theorem by_23 : bytesB Try.prog 23 = some 4 := by kernel_rfl
theorem cb_100 : callB Try.prog 100 = true := by kernel_rfl
theorem cb_101 : callB Try.prog 101 = true := by kernel_rfl
theorem cb_102 : callB Try.prog 102 = true := by kernel_rfl
theorem cb_103 : callB Try.prog 103 = true := by kernel_rfl
theorem cb_17 : callB Try.prog 17 = true := by kernel_rfl
theorem cb_18 : callB Try.prog 18 = true := by kernel_rfl
theorem cb_19 : callB Try.prog 19 = true := by kernel_rfl
theorem cb_20 : callB Try.prog 20 = true := by kernel_rfl
theorem cb_21 : callB Try.prog 21 = true := by kernel_rfl
theorem cb_22 : callB Try.prog 22 = true := by kernel_rfl
theorem cb_23 : callB Try.prog 23 = true := by kernel_rfl
theorem cb_24 : callB Try.prog 24 = true := by kernel_rfl
theorem cb_25 : callB Try.prog 25 = true := by kernel_rfl
theorem cb_26 : callB Try.prog 26 = true := by kernel_rfl
theorem cb_27 : callB Try.prog 27 = true := by kernel_rfl
theorem cb_28 : callB Try.prog 28 = true := by kernel_rfl
theorem cb_29 : callB Try.prog 29 = true := by kernel_rfl
theorem cb_30 : callB Try.prog 30 = true := by kernel_rfl
theorem cb_31 : callB Try.prog 31 = true := by kernel_rfl
theorem cb_32 : callB Try.prog 32 = true := by kernel_rfl
theorem cb_33 : callB Try.prog 33 = true := by kernel_rfl
theorem cb_34 : callB Try.prog 34 = true := by kernel_rfl
theorem cb_35 : callB Try.prog 35 = true := by kernel_rfl
theorem cb_36 : callB Try.prog 36 = true := by kernel_rfl
theorem cb_37 : callB Try.prog 37 = true := by kernel_rfl
theorem cb_38 : callB Try.prog 38 = true := by kernel_rfl
theorem cb_39 : callB Try.prog 39 = true := by kernel_rfl
theorem cb_40 : callB Try.prog 40 = true := by kernel_rfl
theorem cb_41 : callB Try.prog 41 = true := by kernel_rfl
theorem cb_42 : callB Try.prog 42 = true := by kernel_rfl
theorem cb_43 : callB Try.prog 43 = true := by kernel_rfl
theorem cb_44 : callB Try.prog 44 = true := by kernel_rfl
theorem cb_45 : callB Try.prog 45 = true := by kernel_rfl
theorem cb_46 : callB Try.prog 46 = true := by kernel_rfl
theorem cb_47 : callB Try.prog 47 = true := by kernel_rfl
theorem cb_48 : callB Try.prog 48 = true := by kernel_rfl
theorem cb_49 : callB Try.prog 49 = true := by kernel_rfl
theorem cb_50 : callB Try.prog 50 = true := by kernel_rfl
theorem cb_51 : callB Try.prog 51 = true := by kernel_rfl
theorem cb_52 : callB Try.prog 52 = true := by kernel_rfl
theorem cb_53 : callB Try.prog 53 = true := by kernel_rfl
theorem cb_54 : callB Try.prog 54 = true := by kernel_rfl
theorem cb_55 : callB Try.prog 55 = true := by kernel_rfl
theorem cb_56 : callB Try.prog 56 = true := by kernel_rfl
theorem cb_57 : callB Try.prog 57 = true := by kernel_rfl
theorem cb_58 : callB Try.prog 58 = true := by kernel_rfl
theorem cb_59 : callB Try.prog 59 = true := by kernel_rfl
theorem cb_60 : callB Try.prog 60 = true := by kernel_rfl
theorem cb_61 : callB Try.prog 61 = true := by kernel_rfl
theorem cb_62 : callB Try.prog 62 = true := by kernel_rfl
theorem cb_63 : callB Try.prog 63 = true := by kernel_rfl
theorem cb_64 : callB Try.prog 64 = true := by kernel_rfl
theorem cb_65 : callB Try.prog 65 = true := by kernel_rfl
theorem cb_66 : callB Try.prog 66 = true := by kernel_rfl
theorem cb_67 : callB Try.prog 67 = true := by kernel_rfl
theorem cb_68 : callB Try.prog 68 = true := by kernel_rfl
theorem cb_69 : callB Try.prog 69 = true := by kernel_rfl
theorem cb_70 : callB Try.prog 70 = true := by kernel_rfl
theorem cb_71 : callB Try.prog 71 = true := by kernel_rfl
theorem cb_72 : callB Try.prog 72 = true := by kernel_rfl
theorem cb_73 : callB Try.prog 73 = true := by kernel_rfl
theorem cb_74 : callB Try.prog 74 = true := by kernel_rfl
theorem cb_75 : callB Try.prog 75 = true := by kernel_rfl
theorem cb_76 : callB Try.prog 76 = true := by kernel_rfl
theorem cb_77 : callB Try.prog 77 = true := by kernel_rfl
theorem cb_78 : callB Try.prog 78 = true := by kernel_rfl
theorem cb_79 : callB Try.prog 79 = true := by kernel_rfl
theorem cb_80 : callB Try.prog 80 = true := by kernel_rfl
theorem cb_81 : callB Try.prog 81 = true := by kernel_rfl
theorem cb_82 : callB Try.prog 82 = true := by kernel_rfl
theorem cb_83 : callB Try.prog 83 = true := by kernel_rfl
theorem cb_84 : callB Try.prog 84 = true := by kernel_rfl
theorem cb_85 : callB Try.prog 85 = true := by kernel_rfl
theorem cb_86 : callB Try.prog 86 = true := by kernel_rfl
theorem cb_88 : callB Try.prog 88 = true := by kernel_rfl
theorem cb_89 : callB Try.prog 89 = true := by kernel_rfl
theorem cb_90 : callB Try.prog 90 = true := by kernel_rfl
theorem cb_91 : callB Try.prog 91 = true := by kernel_rfl
theorem cb_92 : callB Try.prog 92 = true := by kernel_rfl
theorem cb_93 : callB Try.prog 93 = true := by kernel_rfl
theorem cb_94 : callB Try.prog 94 = true := by kernel_rfl
theorem cb_95 : callB Try.prog 95 = true := by kernel_rfl
theorem cb_96 : callB Try.prog 96 = true := by kernel_rfl
theorem cb_97 : callB Try.prog 97 = true := by kernel_rfl
theorem cb_98 : callB Try.prog 98 = true := by kernel_rfl
theorem cb_99 : callB Try.prog 99 = true := by kernel_rfl
theorem fd_26_0 : fieldB Try.prog 26 0 = some (0, 22) := by kernel_rfl
theorem fd_26_1 : fieldB Try.prog 26 1 = some (1, 24) := by kernel_rfl
theorem fd_28_0 : fieldB Try.prog 28 0 = some (0, 22) := by kernel_rfl
theorem fd_28_1 : fieldB Try.prog 28 1 = some (1, 24) := by kernel_rfl
theorem fd_53_0 : fieldB Try.prog 53 0 = some (0, 22) := by kernel_rfl
theorem fd_53_1 : fieldB Try.prog 53 1 = some (1, 24) := by kernel_rfl
theorem fd_54_0 : fieldB Try.prog 54 0 = some (0, 22) := by kernel_rfl
theorem fd_54_1 : fieldB Try.prog 54 1 = some (1, 24) := by kernel_rfl
theorem fd_89_0 : fieldB Try.prog 89 0 = some (0, 23) := by kernel_rfl
theorem fd_89_1 : fieldB Try.prog 89 1 = some (1, 23) := by kernel_rfl
theorem lf_26 : leafs Try.prog 9 26 = some [.int .i8, .float .f32, .float .f32, .float .f32, .float .f32, .float .f32, .float .f32, .float .f32, .float .f32, .float .f32, .float .f32, .float .f32, .float .f32, .float .f32, .float .f32, .float .f32, .float .f32] := by kernel_rfl
theorem mixed : Try.prog.follows .mixedOrders = true := by kernel_rfl
theorem pl_28 : placesB Try.prog 28 = some (.inl [(0, 1), (1, 16)]) := by kernel_rfl
theorem pl_54 : placesB Try.prog 54 = some (.inl [(0, 1), (1, 16)]) := by kernel_rfl
theorem pl_89 : placesB Try.prog 89 = some (.inl [(0, 1), (1, 1)]) := by kernel_rfl
theorem sl_111 : sliceB Try.prog 111 = some 47 := by kernel_rfl
theorem sl_47 : sliceB Try.prog 47 = some 23 := by kernel_rfl
theorem sl_60 : sliceB Try.prog 60 = some 2 := by kernel_rfl
theorem sz_2 : szB Try.prog 2 = some 1 := by kernel_rfl
theorem sz_22 : szB Try.prog 22 = some 1 := by kernel_rfl
theorem sz_23 : szB Try.prog 23 = some 1 := by kernel_rfl
theorem sz_24 : szB Try.prog 24 = some 16 := by kernel_rfl
theorem sz_26 : szB Try.prog 26 = some 17 := by kernel_rfl
theorem sz_28 : szB Try.prog 28 = some 17 := by kernel_rfl
theorem sz_47 : szB Try.prog 47 = some 1 := by kernel_rfl
theorem sz_53 : szB Try.prog 53 = some 17 := by kernel_rfl
theorem sz_54 : szB Try.prog 54 = some 17 := by kernel_rfl
theorem sz_89 : szB Try.prog 89 = some 2 := by kernel_rfl
theorem un_2 : Try.prog.underlying 2 = some (.int .i64) := by kernel_rfl
theorem un_22 : Try.prog.underlying 22 = some (.int .i8) := by kernel_rfl
theorem un_23 : Try.prog.underlying 23 = some (.float .f32) := by kernel_rfl
theorem un_3 : Try.prog.underlying 3 = some (.int .i64) := by kernel_rfl
theorem un_36 : Try.prog.underlying 36 = some (.float .f64) := by kernel_rfl
theorem un_4 : Try.prog.underlying 4 = some (.bool) := by kernel_rfl
theorem zr_2 : zeroB Try.prog 2 = some [.int .i64 0] := by kernel_rfl
theorem zr_23 : zeroB Try.prog 23 = some [.float .f32 0] := by kernel_rfl
theorem zr_24 : zeroB Try.prog 24 = some [.float .f32 0, .float .f32 0, .float .f32 0, .float .f32 0, .float .f32 0, .float .f32 0, .float .f32 0, .float .f32 0, .float .f32 0, .float .f32 0, .float .f32 0, .float .f32 0, .float .f32 0, .float .f32 0, .float .f32 0, .float .f32 0] := by kernel_rfl
theorem zr_28 : zeroB Try.prog 28 = some [.int .i8 0, .float .f32 0, .float .f32 0, .float .f32 0, .float .f32 0, .float .f32 0, .float .f32 0, .float .f32 0, .float .f32 0, .float .f32 0, .float .f32 0, .float .f32 0, .float .f32 0, .float .f32 0, .float .f32 0, .float .f32 0, .float .f32 0] := by kernel_rfl
theorem zr_47 : zeroB Try.prog 47 = some [.slice none 0 0] := by kernel_rfl
theorem zr_54 : zeroB Try.prog 54 = some [.int .i8 0, .float .f32 0, .float .f32 0, .float .f32 0, .float .f32 0, .float .f32 0, .float .f32 0, .float .f32 0, .float .f32 0, .float .f32 0, .float .f32 0, .float .f32 0, .float .f32 0, .float .f32 0, .float .f32 0, .float .f32 0, .float .f32 0] := by kernel_rfl
theorem zr_89 : zeroB Try.prog 89 = some [.float .f32 0, .float .f32 0] := by kernel_rfl
theorem x32 (a : Nat) (w : World) : (callFunc 87 (List.toArray [.float .f32 a])).run Try.prog w = .ok (.value (.int .u32 (a : Int))) w := by
  rw [run_callFunc_extern Try.func87 (by kernel_rfl) (by kernel_rfl) (by kernel_rfl) (show Extern.find Try.f87 = some Extern.MathFloatBits.float32bits from by kernel_rfl)]
  rfl
end Go.Proofs.Ytpanpkmheeenjaa
