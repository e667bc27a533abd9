/- A law, run: its first number's place is 2 of 5. -/
import Derived.Test.YtnkkfmnpkgjabaaGreatZw1a
namespace Go.Proofs.YtnkkfmnpkgjabaaGreat.Y
set_option maxRecDepth 100000
set_option maxHeartbeats 40000000
theorem Wr_2 : x2 3 (.cs (.arg 0) (.cs (.arg 1) .nl)) (S00 (.cs (.ptr 0 (5 * 4294967296 + 2)) .nl)) (fun v _ => veqB v (.bool true)) = true := by kernel_rfl
end Go.Proofs.YtnkkfmnpkgjabaaGreat.Y
