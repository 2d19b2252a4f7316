/- Plain facts on the types and functions of the loaded program. -/
import Derived.Test.YtahmalmekclpeaaProg
import Derived.Test.YtahmalmekclpeaaSlK
import Derived.KernelRfl
namespace Go.Proofs.Ytahmalmekclpeaa
open Go.Sl
theorem ag_2 : aggB Try.prog 2 = some false := by kernel_rfl
theorem ag_22 : aggB Try.prog 22 = some false := by kernel_rfl
theorem ag_24 : aggB Try.prog 24 = some true := by kernel_rfl
theorem ag_26 : aggB Try.prog 26 = some true := by kernel_rfl
theorem cb_10 : callB Try.prog 10 = true := by kernel_rfl
theorem cb_11 : callB Try.prog 11 = true := by kernel_rfl
theorem cb_31 : callB Try.prog 31 = true := by kernel_rfl
theorem cb_32 : callB Try.prog 32 = true := by kernel_rfl
theorem cb_52 : callB Try.prog 52 = true := by kernel_rfl
theorem cb_53 : callB Try.prog 53 = true := by kernel_rfl
theorem cb_54 : callB Try.prog 54 = true := by kernel_rfl
theorem cb_55 : callB Try.prog 55 = true := by kernel_rfl
theorem cb_65 : callB Try.prog 65 = true := by kernel_rfl
theorem cb_67 : callB Try.prog 67 = true := by kernel_rfl
theorem cb_9 : callB Try.prog 9 = true := by kernel_rfl
theorem fd_24_0 : fieldB Try.prog 24 0 = some (0, 22) := by kernel_rfl
theorem fd_24_1 : fieldB Try.prog 24 1 = some (1, 22) := by kernel_rfl
theorem fd_26_0 : fieldB Try.prog 26 0 = some (0, 22) := by kernel_rfl
theorem fd_26_1 : fieldB Try.prog 26 1 = some (1, 22) := by kernel_rfl
theorem lf_24 : leafs Try.prog 9 24 = some [.float .f32, .float .f32] := by kernel_rfl
theorem sl_37 : sliceB Try.prog 37 = some 2 := by kernel_rfl
theorem sl_67 : sliceB Try.prog 67 = some 22 := by kernel_rfl
theorem sz_2 : szB Try.prog 2 = some 1 := by kernel_rfl
theorem sz_22 : szB Try.prog 22 = some 1 := by kernel_rfl
theorem sz_24 : szB Try.prog 24 = some 2 := by kernel_rfl
theorem sz_26 : szB Try.prog 26 = some 2 := by kernel_rfl
theorem un_4 : Try.prog.underlying 4 = some (.bool) := by kernel_rfl
theorem zr_22 : zeroB Try.prog 22 = some [.float .f32 0] := by kernel_rfl
theorem zr_26 : zeroB Try.prog 26 = some [.float .f32 0, .float .f32 0] := by kernel_rfl
end Go.Proofs.Ytahmalmekclpeaa
