/- Runs, by the kernel. Printed by genlib.py of this session. -/
import Derived.Test.YtpknkndjflijaaaAxLibTab
namespace Go.Ax.Try
set_option maxRecDepth 100000
theorem runOps0 : run cfg0 100 7 [.str [114, 101, 103, 105, 115, 116, 101, 114]] = some ops0 := by kernel_rfl
theorem runOps1 : run cfg0 100 7 [.str [99, 97, 115]] = some ops1 := by kernel_rfl
theorem runOps2 : run cfg0 100 7 [.str [99, 111, 117, 110, 116, 101, 114]] = some ops2 := by kernel_rfl
theorem runOps3 : run cfg0 100 7 [.str [116, 101, 115, 116, 115, 101, 116]] = some ops3 := by kernel_rfl
theorem runOps4 : run cfg0 100 7 [.str [109, 97, 120, 105, 109, 117, 109]] = some ops4 := by kernel_rfl
theorem runOps5 : run cfg0 100 7 [.str [113, 117, 101, 117, 101]] = some ops5 := by kernel_rfl
theorem runOps6 : run cfg0 100 7 [.str [115, 116, 97, 99, 107]] = some ops6 := by kernel_rfl
end Go.Ax.Try
