/-
  None
-/
import Derived.Test.YtfihakfjjoednaaGreatDoorHa
import Derived.Test.YtfihakfjjoednaaGreatDoorEa
import Derived.KernelRfl
set_option linter.all false
set_option maxRecDepth 100000
namespace Go.Ev.PN
open Go Go.Ev
theorem km0_8_1674 : Me.ok (evF itr ft 40) m0_8_1674 := ⟨by kernel_rfl, by kernel_rfl, by kernel_rfl, by kernel_rfl, by kernel_rfl, by kernel_rfl⟩
end Go.Ev.PN
