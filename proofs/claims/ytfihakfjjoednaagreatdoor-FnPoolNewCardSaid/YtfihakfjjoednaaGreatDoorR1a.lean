/-
  None
-/
import Derived.Test.YtfihakfjjoednaaGreatDoorHa
import Derived.Test.YtfihakfjjoednaaGreatDoorEa
import Derived.KernelRfl
set_option linter.all false
set_option maxRecDepth 100000
namespace Go.Ev.PN
open Go Go.Ev
theorem km1_5_10 : Me.ok (evF itr ft 40) m1_5_10 := ⟨by kernel_rfl, by kernel_rfl, by kernel_rfl, by kernel_rfl, by kernel_rfl, by kernel_rfl⟩
theorem km1_6_1021 : Me.ok (evF itr ft 40) m1_6_1021 := ⟨by kernel_rfl, by kernel_rfl, by kernel_rfl, by kernel_rfl, by kernel_rfl, by kernel_rfl⟩
theorem km1_9_3633 : Me.ok (evF itr ft 40) m1_9_3633 := ⟨by kernel_rfl, by kernel_rfl, by kernel_rfl, by kernel_rfl, by kernel_rfl, by kernel_rfl⟩
end Go.Ev.PN
