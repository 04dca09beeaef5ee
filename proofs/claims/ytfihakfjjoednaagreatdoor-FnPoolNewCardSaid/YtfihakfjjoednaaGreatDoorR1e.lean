/-
  None
-/
import Derived.Test.YtfihakfjjoednaaGreatDoorHa
import Derived.Test.YtfihakfjjoednaaGreatDoorEa
import Derived.KernelRfl
set_option linter.all false
set_option maxRecDepth 100000
namespace Go.Ev.PN
open Go Go.Ev
theorem km1_11_9987 : Me.ok (evF itr ft 40) m1_11_9987 := ⟨by kernel_rfl, by kernel_rfl, by kernel_rfl, by kernel_rfl, by kernel_rfl, by kernel_rfl⟩
theorem km1_12_10993 : Me.ok (evF itr ft 40) m1_12_10993 := ⟨by kernel_rfl, by kernel_rfl, by kernel_rfl, by kernel_rfl, by kernel_rfl, by kernel_rfl⟩
noncomputable def F1 : Cal := memo [m1_36_4134, m1_36_5625, m1_36_7116, m1_36_8607] (evF itr ft 40)
theorem km1_10_4115 : Me.ok (evG itr ft F1) m1_10_4115 := ⟨by kernel_rfl, by kernel_rfl, by kernel_rfl, by kernel_rfl, by kernel_rfl, by kernel_rfl⟩
noncomputable def top1 : Cal := memo [m1_5_10, m1_6_1021, m1_8_1676, m1_9_3633, m1_10_4115, m1_11_9987, m1_12_10993] (evF itr ft 40)
end Go.Ev.PN
