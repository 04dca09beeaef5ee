/-
  None
-/
import Derived.Test.YtfihakfjjoednaaGreatDoorHa
import Derived.Test.YtfihakfjjoednaaGreatDoorEa
import Derived.KernelRfl
set_option linter.all false
set_option maxRecDepth 100000
namespace Go.Ev.PN
open Go Go.Ev
theorem km1_36_7116 : Me.ok (evF itr ft 40) m1_36_7116 := ⟨by kernel_rfl, by kernel_rfl, by kernel_rfl, by kernel_rfl, by kernel_rfl, by kernel_rfl⟩
theorem km1_36_8607 : Me.ok (evF itr ft 40) m1_36_8607 := ⟨by kernel_rfl, by kernel_rfl, by kernel_rfl, by kernel_rfl, by kernel_rfl, by kernel_rfl⟩
end Go.Ev.PN
