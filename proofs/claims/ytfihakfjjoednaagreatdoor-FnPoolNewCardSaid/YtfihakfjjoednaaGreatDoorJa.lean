/-
  The row's closed facts, one by one.
-/
import Derived.Test.YtfihakfjjoednaaGreatDoorRows
import Derived.KernelRfl
import Derived.JoinedOf
set_option linter.all false
namespace Go.Proofs.YtfihakfjjoednaaGreatDoor
set_option maxRecDepth 100000
theorem j1 : (Rows.fnPoolNewRow.wf (OpenSpec.ofChange Rows.fnPoolNewSpec)) = true := by kernel_rfl
theorem j2 : (laidOutB Tryz.prog) = true := by kernel_rfl
theorem j3 : (mapsRowed Tryz.prog) = true := by kernel_rfl
theorem j4 : (Tryz.f3.params.all (Tryz.prog.readableRec ·)) = true := by kernel_rfl
theorem j5 : (namedTie Tryz.prog Rows.fnPoolNewRow.named Rows.fnPoolNewSpec.vars) = true := by kernel_rfl
theorem j6 : ((Rows.fnPoolNewRow.stops == [])) = true := by kernel_rfl
theorem j7 : ((Tryz.prog.stops == [])) = true := by kernel_rfl
theorem j8 : ((Rows.fnPoolNewRow.knobs == [])) = true := by kernel_rfl
theorem j9 : ((Tryz.prog.stopKnobs == [])) = true := by kernel_rfl
theorem j10 : ((Rows.fnPoolNewRow.inPlace == Tryz.prog.inPlace 3)) = true := by kernel_rfl
theorem j11 : ((Rows.fnPoolNewRow.unfollowed == Tryz.prog.unfollowed 3)) = true := by kernel_rfl
end Go.Proofs.YtfihakfjjoednaaGreatDoor
