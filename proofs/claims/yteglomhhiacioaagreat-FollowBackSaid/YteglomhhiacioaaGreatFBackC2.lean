/- followBack: closed facts of its row (2). -/
import Derived.Test.YteglomhhiacioaaGreatRows
import Derived.WalkKit
import Derived.ProofKit
import Derived.OpenShut
namespace Go.Proofs.YteglomhhiacioaaGreat.followBack
open Go.ChangeShapes Go.WideShapes Go.ChangeAt Go.RowKit
set_option maxRecDepth 100000
theorem c10 : (Rows.followBackRow.unfollowed == Tryz.prog.unfollowed 4) = true := by kernel_rfl
theorem c11 : (Rows.followBackRow.recurses == Tryz.prog.recurses 4) = true := by kernel_rfl
theorem c12 : (Rows.followBackRow.named == Tryz.prog.varsNamed 4) = true := by kernel_rfl
end Go.Proofs.YteglomhhiacioaaGreat.followBack
