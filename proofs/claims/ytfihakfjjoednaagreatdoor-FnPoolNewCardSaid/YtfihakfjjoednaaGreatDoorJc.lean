/-
  The row's closed facts, one by one.
-/
import Derived.Test.YtfihakfjjoednaaGreatDoorRows
import Derived.KernelRfl
import Derived.JoinedOf
set_option linter.all false
namespace Go.Proofs.YtfihakfjjoednaaGreatDoor
set_option maxRecDepth 100000
theorem j12 : ((Rows.fnPoolNewRow.recurses == Tryz.prog.recurses 3)) = true := by kernel_rfl
theorem j13 : ((Rows.fnPoolNewRow.named == Tryz.prog.varsNamed 3)) = true := by kernel_rfl
end Go.Proofs.YtfihakfjjoednaaGreatDoor
