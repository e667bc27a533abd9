/- A law, run: its numbers' places are 3 of 5, 4 or 5 of 8. -/
import Derived.Test.YtnkkfmnpkgjabaaGreatZw1a
namespace Go.Proofs.YtnkkfmnpkgjabaaGreat.Y
set_option maxRecDepth 100000
set_option maxHeartbeats 40000000
theorem Wr_3_4 : x2 3 (.cs (.arg 0) (.cs (.arg 1) .nl)) (S00 (.cs (.ptr 1 (8 * 4294967296 + 4)) (.cs (.ptr 0 (5 * 4294967296 + 3)) .nl))) (fun v _ => veqB v (.bool true)) = true := by kernel_rfl
theorem Wr_3_5 : x2 3 (.cs (.arg 0) (.cs (.arg 1) .nl)) (S00 (.cs (.ptr 1 (8 * 4294967296 + 5)) (.cs (.ptr 0 (5 * 4294967296 + 3)) .nl))) (fun v _ => veqB v (.bool true)) = true := by kernel_rfl
end Go.Proofs.YtnkkfmnpkgjabaaGreat.Y
