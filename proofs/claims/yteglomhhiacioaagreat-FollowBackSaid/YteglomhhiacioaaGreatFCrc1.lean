/- crc.Table's run, pieces 1 on. -/
import Derived.Test.YteglomhhiacioaaGreatFCrcS
namespace Go.Den.VvF
open Go.Proofs
set_option maxRecDepth 1000000
theorem crcP1 : piece E0 11937 [1, 4, 12, 13, 14, 10, 15, 11, 3, 2, 16, 18, 17, 5, 19, 6, 7, 8, 9, 0] [0, 1] crcS0 = some crcS1 := by kernel_rfl
theorem crcP2 : piece E0 11923 [11, 1, 4, 12, 13, 14, 10, 15, 3, 2, 16, 18, 17, 5, 19, 6, 7, 8, 9, 0, 20] [0, 1] crcS1 = some crcS2 := by kernel_rfl
theorem crcP3 : piece E0 11921 [10, 11, 1, 4, 12, 13, 14, 15, 3, 2, 16, 18, 17, 5, 19, 6, 7, 8, 9, 0, 20] [0, 1] crcS2 = some crcS3 := by kernel_rfl
theorem crcP4 : piece E0 11921 [10, 15, 11, 1, 4, 12, 13, 14, 3, 2, 16, 18, 17, 5, 19, 6, 7, 8, 9, 0, 20] [0, 1] crcS3 = some crcS4 := by kernel_rfl
end Go.Den.VvF
