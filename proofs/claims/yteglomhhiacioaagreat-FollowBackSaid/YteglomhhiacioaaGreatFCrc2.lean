/- crc.Table's run, pieces 5 on. -/
import Derived.Test.YteglomhhiacioaaGreatFCrcS
namespace Go.Den.VvF
open Go.Proofs
set_option maxRecDepth 1000000
theorem crcP5 : piece E0 11904 [5, 19, 6, 7, 3, 8, 9, 10, 11, 1, 4, 12, 13, 14, 15, 2, 16, 18, 17, 0, 20] [0, 1] crcS4 = some crcS5 := by kernel_rfl
theorem crcP6 : piece E0 11923 [1, 4, 12, 13, 14, 10, 15, 11, 3, 2, 16, 18, 17, 5, 19, 6, 7, 8, 9, 0, 20] [0, 1] crcS5 = some crcS6 := by kernel_rfl
theorem crcP7 : piece E0 11923 [11, 1, 4, 12, 13, 14, 10, 15, 3, 2, 16, 18, 17, 5, 19, 6, 7, 8, 9, 0, 20] [0, 1] crcS6 = some crcS7 := by kernel_rfl
theorem crcP8 : piece E0 11921 [10, 11, 1, 4, 12, 13, 14, 15, 3, 2, 16, 18, 17, 5, 19, 6, 7, 8, 9, 0, 20] [0, 1] crcS7 = some crcS8 := by kernel_rfl
end Go.Den.VvF
