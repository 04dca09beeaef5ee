/-
  None
-/
import Derived.Test.YtfihakfjjoednaaGreatDoorHa
import Derived.Test.YtfihakfjjoednaaGreatDoorEa
import Derived.KernelRfl
set_option linter.all false
set_option maxRecDepth 100000
namespace Go.Ev.PN
open Go Go.Ev
theorem km0_11_9985 : Me.ok (evF itr ft 40) m0_11_9985 := ⟨by kernel_rfl, by kernel_rfl, by kernel_rfl, by kernel_rfl, by kernel_rfl, by kernel_rfl⟩
theorem km0_12_10991 : Me.ok (evF itr ft 40) m0_12_10991 := ⟨by kernel_rfl, by kernel_rfl, by kernel_rfl, by kernel_rfl, by kernel_rfl, by kernel_rfl⟩
noncomputable def F0 : Cal := memo [m0_36_4132, m0_36_5623, m0_36_7114, m0_36_8605] (evF itr ft 40)
theorem km0_10_4113 : Me.ok (evG itr ft F0) m0_10_4113 := ⟨by kernel_rfl, by kernel_rfl, by kernel_rfl, by kernel_rfl, by kernel_rfl, by kernel_rfl⟩
noncomputable def top0 : Cal := memo [m0_5_10, m0_6_1021, m0_8_1674, m0_9_3631, m0_10_4113, m0_11_9985, m0_12_10991] (evF itr ft 40)
end Go.Ev.PN
