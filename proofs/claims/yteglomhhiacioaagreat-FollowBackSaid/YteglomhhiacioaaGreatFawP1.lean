/- varve/varvelaw42.awake's run, piece 1. -/
import Derived.Test.YteglomhhiacioaaGreatFawS
namespace Go.Den.VvF
open Go.Proofs
set_option maxRecDepth 1000000
theorem awP1 : piece E1 8943 [3, 5, 6, 7, 9, 11, 13, 8, 10, 12, 0] [3, 4, 5, 8, 82, 107] awS0 = some awS1 := by kernel_rfl
end Go.Den.VvF
