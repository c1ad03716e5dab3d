/- Runs, by the kernel. Printed by genlib.py of this session. -/
import Derived.Test.YtpknkndjflijaaaAxLibTab
namespace Go.Ax.Try
set_option maxRecDepth 100000
theorem runOps14 : run cfg0 100 7 [.str [119, 114, 105, 116, 101, 115, 110, 97, 112]] = some ops14 := by kernel_rfl
theorem runOps15 : run cfg0 100 7 [.str [109, 101, 101, 116, 105, 110, 103]] = some ops15 := by kernel_rfl
theorem runOps16 : run cfg0 100 7 [.str [115, 119, 97, 112]] = some ops16 := by kernel_rfl
theorem runOps17 : run cfg0 100 7 [.str [108, 111, 103]] = some ops17 := by kernel_rfl
theorem runOps18 : run cfg0 100 7 [.str [100, 101, 113, 117, 101]] = some ops18 := by kernel_rfl
theorem runOps19 : run cfg0 100 7 [.str [112, 114, 105, 111, 114, 105, 116, 121]] = some ops19 := by kernel_rfl
theorem runOps20 : run cfg0 100 7 [.str [109, 97, 112]] = some ops20 := by kernel_rfl
end Go.Ax.Try
