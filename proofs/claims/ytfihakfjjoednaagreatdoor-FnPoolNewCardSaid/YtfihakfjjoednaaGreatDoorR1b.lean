/-
  None
-/
import Derived.Test.YtfihakfjjoednaaGreatDoorHa
import Derived.Test.YtfihakfjjoednaaGreatDoorEa
import Derived.KernelRfl
set_option linter.all false
set_option maxRecDepth 100000
namespace Go.Ev.PN
open Go Go.Ev
theorem km1_8_1676 : Me.ok (evF itr ft 40) m1_8_1676 := ⟨by kernel_rfl, by kernel_rfl, by kernel_rfl, by kernel_rfl, by kernel_rfl, by kernel_rfl⟩
end Go.Ev.PN
