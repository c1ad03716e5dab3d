/- Runs, by the kernel. Printed by genlib.py of this session. -/
import Derived.Test.YtpknkndjflijaaaAxLibTab
namespace Go.Ax.Try
set_option maxRecDepth 100000
theorem runOps21 : run cfg0 100 7 [.str [108, 111, 99, 107]] = some ops21 := by kernel_rfl
theorem runOps22 : run cfg0 100 7 [.str [115, 101, 109, 97, 112, 104, 111, 114, 101]] = some ops22 := by kernel_rfl
theorem runOps23 : run cfg0 100 7 [.str [107, 115, 101, 116]] = some ops23 := by kernel_rfl
theorem runOps24 : run cfg0 100 7 [.str [97, 116, 111, 109, 105, 99]] = some ops24 := by kernel_rfl
theorem runOps25 : run cfg0 100 7 [.str [114, 101, 110, 97, 109, 101]] = some ops25 := by kernel_rfl
theorem runOps26 : run cfg0 100 7 [.str [110, 111, 116, 104, 105, 110, 103]] = some ops26 := by kernel_rfl
theorem runNames : run cfg0 100 4 [] = some names := by kernel_rfl
end Go.Ax.Try
