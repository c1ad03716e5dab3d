/- Runs, by the kernel. Printed by genlib.py of this session. -/
import Derived.Test.YtpknkndjflijaaaAxLibTab
namespace Go.Ax.Try
set_option maxRecDepth 100000
theorem runOps7 : run cfg0 100 7 [.str [98, 97, 103]] = some ops7 := by kernel_rfl
theorem runOps8 : run cfg0 100 7 [.str [99, 111, 110, 115, 101, 110, 115, 117, 115]] = some ops8 := by kernel_rfl
theorem runOps9 : run cfg0 100 7 [.str [101, 120, 99, 104, 97, 110, 103, 101, 114]] = some ops9 := by kernel_rfl
theorem runOps10 : run cfg0 100 7 [.str [115, 110, 97, 112, 115, 104, 111, 116]] = some ops10 := by kernel_rfl
theorem runOps11 : run cfg0 100 7 [.str [108, 97, 116, 116, 105, 99, 101]] = some ops11 := by kernel_rfl
theorem runOps12 : run cfg0 100 7 [.str [98, 97, 116, 99, 104]] = some ops12 := by kernel_rfl
theorem runOps13 : run cfg0 100 7 [.str [97, 100, 111, 112, 116]] = some ops13 := by kernel_rfl
end Go.Ax.Try
