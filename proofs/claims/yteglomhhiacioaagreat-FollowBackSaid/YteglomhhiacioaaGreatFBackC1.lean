/- followBack: closed facts of its row (1). -/
import Derived.Test.YteglomhhiacioaaGreatRows
import Derived.WalkKit
import Derived.ProofKit
import Derived.OpenShut
namespace Go.Proofs.YteglomhhiacioaaGreat.followBack
open Go.ChangeShapes Go.WideShapes Go.ChangeAt Go.RowKit
set_option maxRecDepth 100000
theorem c0 : (Rows.followBackRow.wf (OpenSpec.ofChange Rows.followBackSpec)) = true := by kernel_rfl
theorem c1 : (laidOutB Tryz.prog) = true := by kernel_rfl
theorem c2 : (mapsRowed Tryz.prog) = true := by kernel_rfl
theorem c3 : (Tryz.f4.params.all (Tryz.prog.readableRec ·)) = true := by kernel_rfl
theorem c4 : (namedTie Tryz.prog Rows.followBackRow.named Rows.followBackSpec.vars) = true := by kernel_rfl
theorem c9 : (Rows.followBackRow.inPlace == Tryz.prog.inPlace 4) = true := by kernel_rfl
end Go.Proofs.YteglomhhiacioaaGreat.followBack
