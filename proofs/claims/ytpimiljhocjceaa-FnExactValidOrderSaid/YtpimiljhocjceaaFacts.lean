/- Plain facts on the types and functions of the loaded program. -/
import Derived.Test.YtpimiljhocjceaaProg
import Derived.Test.YtpimiljhocjceaaSlR
import Derived.KernelRfl
namespace Go.Proofs.Ytpimiljhocjceaa
open Go.Sl
theorem ag_22 : aggB Try.prog 22 = some false := by kernel_rfl
theorem ag_23 : aggB Try.prog 23 = some false := by kernel_rfl
theorem ag_25 : aggB Try.prog 25 = some true := by kernel_rfl
theorem ag_27 : aggB Try.prog 27 = some true := by kernel_rfl
theorem cb_13 : callB Try.prog 13 = true := by kernel_rfl
theorem cb_14 : callB Try.prog 14 = true := by kernel_rfl
theorem cb_15 : callB Try.prog 15 = true := by kernel_rfl
theorem cb_46 : callB Try.prog 46 = true := by kernel_rfl
theorem cb_47 : callB Try.prog 47 = true := by kernel_rfl
theorem cb_48 : callB Try.prog 48 = true := by kernel_rfl
theorem cb_49 : callB Try.prog 49 = true := by kernel_rfl
theorem cb_56 : callB Try.prog 56 = true := by kernel_rfl
theorem cb_57 : callB Try.prog 57 = true := by kernel_rfl
theorem cb_75 : callB Try.prog 75 = true := by kernel_rfl
theorem fd_25_0 : fieldB Try.prog 25 0 = some (0, 22) := by kernel_rfl
theorem fd_25_1 : fieldB Try.prog 25 1 = some (1, 23) := by kernel_rfl
theorem fd_25_2 : fieldB Try.prog 25 2 = some (2, 23) := by kernel_rfl
theorem fd_27_0 : fieldB Try.prog 27 0 = some (0, 22) := by kernel_rfl
theorem fd_27_1 : fieldB Try.prog 27 1 = some (1, 23) := by kernel_rfl
theorem fd_27_2 : fieldB Try.prog 27 2 = some (2, 23) := by kernel_rfl
theorem lf_25 : leafs Try.prog 9 25 = some [.int .i8, .float .f32, .float .f32] := by kernel_rfl
theorem sz_22 : szB Try.prog 22 = some 1 := by kernel_rfl
theorem sz_23 : szB Try.prog 23 = some 1 := by kernel_rfl
theorem sz_25 : szB Try.prog 25 = some 3 := by kernel_rfl
theorem sz_27 : szB Try.prog 27 = some 3 := by kernel_rfl
theorem un_2 : Try.prog.underlying 2 = some (.int .i64) := by kernel_rfl
theorem un_22 : Try.prog.underlying 22 = some (.int .i8) := by kernel_rfl
theorem un_4 : Try.prog.underlying 4 = some (.bool) := by kernel_rfl
theorem zr_27 : zeroB Try.prog 27 = some [.int .i8 0, .float .f32 0, .float .f32 0] := by kernel_rfl
end Go.Proofs.Ytpimiljhocjceaa
