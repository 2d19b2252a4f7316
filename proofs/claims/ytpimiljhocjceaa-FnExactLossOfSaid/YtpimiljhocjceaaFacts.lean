/- Plain facts on the types and functions of the loaded program. -/
import Derived.Test.YtpimiljhocjceaaProg
import Derived.Test.YtpimiljhocjceaaSlO
import Derived.KernelRfl
namespace Go.Proofs.Ytpimiljhocjceaa
open Go.Sl
theorem ag_2 : aggB Try.prog 2 = some false := by kernel_rfl
theorem ag_22 : aggB Try.prog 22 = some false := by kernel_rfl
theorem ag_23 : aggB Try.prog 23 = some false := by kernel_rfl
theorem ag_25 : aggB Try.prog 25 = some true := by kernel_rfl
theorem ag_27 : aggB Try.prog 27 = some true := by kernel_rfl
theorem ag_32 : aggB Try.prog 32 = some true := by kernel_rfl
theorem ag_34 : aggB Try.prog 34 = some true := by kernel_rfl
theorem ag_37 : aggB Try.prog 37 = some true := by kernel_rfl
theorem ag_39 : aggB Try.prog 39 = some true := by kernel_rfl
theorem ag_42 : aggB Try.prog 42 = some true := by kernel_rfl
theorem ar_32 : arrB Try.prog 32 = some (8, 23) := by kernel_rfl
theorem ar_34 : arrB Try.prog 34 = some (8, 23) := by kernel_rfl
theorem ar_37 : arrB Try.prog 37 = some (16, 23) := by kernel_rfl
theorem cb_14 : callB Try.prog 14 = true := by kernel_rfl
theorem cb_16 : callB Try.prog 16 = true := by kernel_rfl
theorem cb_17 : callB Try.prog 17 = true := by kernel_rfl
theorem cb_18 : callB Try.prog 18 = true := by kernel_rfl
theorem cb_19 : callB Try.prog 19 = true := by kernel_rfl
theorem cb_20 : callB Try.prog 20 = true := by kernel_rfl
theorem cb_21 : callB Try.prog 21 = true := by kernel_rfl
theorem cb_22 : callB Try.prog 22 = true := by kernel_rfl
theorem cb_23 : callB Try.prog 23 = true := by kernel_rfl
theorem cb_24 : callB Try.prog 24 = true := by kernel_rfl
theorem cb_47 : callB Try.prog 47 = true := by kernel_rfl
theorem cb_48 : callB Try.prog 48 = true := by kernel_rfl
theorem cb_49 : callB Try.prog 49 = true := by kernel_rfl
theorem cb_50 : callB Try.prog 50 = true := by kernel_rfl
theorem cb_51 : callB Try.prog 51 = true := by kernel_rfl
theorem cb_52 : callB Try.prog 52 = true := by kernel_rfl
theorem cb_53 : callB Try.prog 53 = true := by kernel_rfl
theorem cb_54 : callB Try.prog 54 = true := by kernel_rfl
theorem cb_55 : callB Try.prog 55 = true := by kernel_rfl
theorem cb_56 : callB Try.prog 56 = true := by kernel_rfl
theorem cb_57 : callB Try.prog 57 = true := by kernel_rfl
theorem cb_58 : callB Try.prog 58 = true := by kernel_rfl
theorem cb_59 : callB Try.prog 59 = true := by kernel_rfl
theorem cb_60 : callB Try.prog 60 = true := by kernel_rfl
theorem cb_75 : callB Try.prog 75 = true := by kernel_rfl
theorem cb_87 : callB Try.prog 87 = true := by kernel_rfl
theorem cb_88 : callB Try.prog 88 = true := by kernel_rfl
theorem cb_89 : callB Try.prog 89 = true := by kernel_rfl
theorem cb_90 : callB Try.prog 90 = true := by kernel_rfl
theorem cb_98 : callB Try.prog 98 = true := by kernel_rfl
theorem cb_99 : callB Try.prog 99 = true := by kernel_rfl
theorem fd_25_0 : fieldB Try.prog 25 0 = some (0, 22) := by kernel_rfl
theorem fd_25_1 : fieldB Try.prog 25 1 = some (1, 23) := by kernel_rfl
theorem fd_25_2 : fieldB Try.prog 25 2 = some (2, 23) := by kernel_rfl
theorem fd_27_0 : fieldB Try.prog 27 0 = some (0, 22) := by kernel_rfl
theorem fd_27_1 : fieldB Try.prog 27 1 = some (1, 23) := by kernel_rfl
theorem fd_27_2 : fieldB Try.prog 27 2 = some (2, 23) := by kernel_rfl
theorem fd_39_0 : fieldB Try.prog 39 0 = some (0, 22) := by kernel_rfl
theorem fd_39_1 : fieldB Try.prog 39 1 = some (1, 37) := by kernel_rfl
theorem fd_42_0 : fieldB Try.prog 42 0 = some (0, 22) := by kernel_rfl
theorem fd_42_1 : fieldB Try.prog 42 1 = some (1, 37) := by kernel_rfl
theorem lf_25 : leafs Try.prog 9 25 = some [.int .i8, .float .f32, .float .f32] := by kernel_rfl
theorem lf_32 : leafs Try.prog 9 32 = some [.float .f32, .float .f32, .float .f32, .float .f32, .float .f32, .float .f32, .float .f32, .float .f32] := by kernel_rfl
theorem lf_39 : leafs Try.prog 9 39 = some [.int .i8, .float .f32, .float .f32, .float .f32, .float .f32, .float .f32, .float .f32, .float .f32, .float .f32, .float .f32, .float .f32, .float .f32, .float .f32, .float .f32, .float .f32, .float .f32, .float .f32] := by kernel_rfl
theorem mixed : Try.prog.follows .mixedOrders = true := by kernel_rfl
theorem sl_49 : sliceB Try.prog 49 = some 2 := by kernel_rfl
theorem sl_80 : sliceB Try.prog 80 = some 23 := by kernel_rfl
theorem sz_2 : szB Try.prog 2 = some 1 := by kernel_rfl
theorem sz_22 : szB Try.prog 22 = some 1 := by kernel_rfl
theorem sz_23 : szB Try.prog 23 = some 1 := by kernel_rfl
theorem sz_25 : szB Try.prog 25 = some 3 := by kernel_rfl
theorem sz_27 : szB Try.prog 27 = some 3 := by kernel_rfl
theorem sz_32 : szB Try.prog 32 = some 8 := by kernel_rfl
theorem sz_34 : szB Try.prog 34 = some 8 := by kernel_rfl
theorem sz_37 : szB Try.prog 37 = some 16 := by kernel_rfl
theorem sz_39 : szB Try.prog 39 = some 17 := by kernel_rfl
theorem sz_42 : szB Try.prog 42 = some 17 := by kernel_rfl
theorem un_2 : Try.prog.underlying 2 = some (.int .i64) := by kernel_rfl
theorem un_22 : Try.prog.underlying 22 = some (.int .i8) := by kernel_rfl
theorem un_23 : Try.prog.underlying 23 = some (.float .f32) := by kernel_rfl
theorem un_3 : Try.prog.underlying 3 = some (.int .i64) := by kernel_rfl
theorem un_4 : Try.prog.underlying 4 = some (.bool) := by kernel_rfl
theorem un_45 : Try.prog.underlying 45 = some (.float .f64) := by kernel_rfl
theorem zr_27 : zeroB Try.prog 27 = some [.int .i8 0, .float .f32 0, .float .f32 0] := by kernel_rfl
theorem zr_34 : zeroB Try.prog 34 = some [.float .f32 0, .float .f32 0, .float .f32 0, .float .f32 0, .float .f32 0, .float .f32 0, .float .f32 0, .float .f32 0] := by kernel_rfl
theorem zr_37 : zeroB Try.prog 37 = some [.float .f32 0, .float .f32 0, .float .f32 0, .float .f32 0, .float .f32 0, .float .f32 0, .float .f32 0, .float .f32 0, .float .f32 0, .float .f32 0, .float .f32 0, .float .f32 0, .float .f32 0, .float .f32 0, .float .f32 0, .float .f32 0] := by kernel_rfl
theorem zr_42 : zeroB Try.prog 42 = some [.int .i8 0, .float .f32 0, .float .f32 0, .float .f32 0, .float .f32 0, .float .f32 0, .float .f32 0, .float .f32 0, .float .f32 0, .float .f32 0, .float .f32 0, .float .f32 0, .float .f32 0, .float .f32 0, .float .f32 0, .float .f32 0, .float .f32 0] := by kernel_rfl
theorem x32 (a : Nat) (w : World) : (callFunc 86 (List.toArray [.float .f32 a])).run Try.prog w = .ok (.value (.int .u32 (a : Int))) w := by
  rw [run_callFunc_extern Try.func86 (by kernel_rfl) (by kernel_rfl) (by kernel_rfl) (show Extern.find Try.f86 = some Extern.MathFloatBits.float32bits from by kernel_rfl)]
  rfl
end Go.Proofs.Ytpimiljhocjceaa
