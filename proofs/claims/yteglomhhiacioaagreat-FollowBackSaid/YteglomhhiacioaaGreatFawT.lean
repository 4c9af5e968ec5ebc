/- varve/varvelaw42.awake returns true. -/
import Derived.Test.YteglomhhiacioaaGreatFawP1
import Derived.Test.YteglomhhiacioaaGreatFawP2
namespace Go.Den.VvF
open Go.Proofs
set_option maxRecDepth 1000000
theorem awLast : ∃ H, run E1 9942 awS2 = some (.done 6 (.bool true) H) := ok_some (f := 6) (v := (.bool true)) (by kernel_rfl)
theorem awR0 : Reach E1 6 [] awS0 := Reach.startOf E1_good (by kernel_rfl) (by kernel_rfl)
theorem awR1 : Reach E1 6 [] awS1 := awR0.piece E1_good awP1
theorem awR2 : Reach E1 6 [] awS2 := awR1.piece E1_good awP2
theorem aw_calls (w : World) : Calls Tryz.prog 6 ⟨[]⟩ w fun e w1 => e = .returned (.bool true) ∧ RowKit.Below w.heap.size w w1 := by
  obtain ⟨H, h⟩ := awLast
  exact awR2.done E1_good h (by kernel_rfl) w
end Go.Den.VvF
