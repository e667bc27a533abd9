/- A law, run: its numbers' places are 4 of 5, 0 or 1 of 8. -/
import Derived.Test.YtnkkfmnpkgjabaaGreatZw1a
namespace Go.Proofs.YtnkkfmnpkgjabaaGreat.Y
set_option maxRecDepth 100000
set_option maxHeartbeats 40000000
theorem Wr_4_0 : x2 3 (.cs (.arg 0) (.cs (.arg 1) .nl)) (S00 (.cs (.ptr 1 (8 * 4294967296 + 0)) (.cs (.ptr 0 (5 * 4294967296 + 4)) .nl))) (fun v _ => veqB v (.bool true)) = true := by kernel_rfl
theorem Wr_4_1 : x2 3 (.cs (.arg 0) (.cs (.arg 1) .nl)) (S00 (.cs (.ptr 1 (8 * 4294967296 + 1)) (.cs (.ptr 0 (5 * 4294967296 + 4)) .nl))) (fun v _ => veqB v (.bool true)) = true := by kernel_rfl
end Go.Proofs.YtnkkfmnpkgjabaaGreat.Y
