/- Digests by the program: what it answers to some texts, run by the kernel. -/
import Derived.Test.YtnkkfmnpkgjabaaGreatZw0g
namespace Go.Proofs.YtnkkfmnpkgjabaaGreat.Y
set_option linter.unusedVariables false
set_option maxRecDepth 100000
set_option maxHeartbeats 40000000
theorem tab2 (ξ : Nat → Int) (H : Nat → V) : CallOk Tryz.prog ξ 103 (.cs (.str 16 5999821256148560000189058791084989384) .nl) H H (.str 32 63337233525112895456873073875510352036977075318798470715467945849244709220649) := known_of (x0_ok ξ 103) (by kernel_rfl) rfl H
theorem tab4 (ξ : Nat → Int) (H : Nat → V) : CallOk Tryz.prog ξ 103 (.cs (.str 16 59746533210912039599950832088755959467) .nl) H H (.str 32 38636615881908094310111389978262392591113745711627710841203141528197901342766) := known_of (x0_ok ξ 103) (by kernel_rfl) rfl H
theorem tab6 (ξ : Nat → Int) (H : Nat → V) : CallOk Tryz.prog ξ 103 (.cs (.str 16 143787032286228777770058548244747225381) .nl) H H (.str 32 2892725142683587689851355163853405750824879292912377050366077977388591122563) := known_of (x0_ok ξ 103) (by kernel_rfl) rfl H
theorem tab8 (ξ : Nat → Int) (H : Nat → V) : CallOk Tryz.prog ξ 103 (.cs (.str 16 289838231803129678421420024653483462712) .nl) H H (.str 32 107290699734055168779843094248167941293819140173603306086416385279834934435283) := known_of (x0_ok ξ 103) (by kernel_rfl) rfl H
theorem tab10 (ξ : Nat → Int) (H : Nat → V) : CallOk Tryz.prog ξ 103 (.cs (.str 16 146122828917119597105030503475923754350) .nl) H H (.str 32 43087825086250923931464326759375992787789606775652920264158221661864213408159) := known_of (x0_ok ξ 103) (by kernel_rfl) rfl H
theorem tab12 (ξ : Nat → Int) (H : Nat → V) : CallOk Tryz.prog ξ 103 (.cs (.str 16 182398767749195836556574233623557826880) .nl) H H (.str 32 5083465132844531562703806580516404073096369694878848060641278864067023216239) := known_of (x0_ok ξ 103) (by kernel_rfl) rfl H
theorem tab14 (ξ : Nat → Int) (H : Nat → V) : CallOk Tryz.prog ξ 103 (.cs (.str 16 216517262540327172161081771599167898419) .nl) H H (.str 32 23199066819986236891320916639376709739756595207617296115974363644920334949924) := known_of (x0_ok ξ 103) (by kernel_rfl) rfl H
theorem tab16 (ξ : Nat → Int) (H : Nat → V) : CallOk Tryz.prog ξ 103 (.cs (.str 16 136431334545584404547165545091725903032) .nl) H H (.str 32 51002168986133966480059544199295523603920404515736827556687938933934759962256) := known_of (x0_ok ξ 103) (by kernel_rfl) rfl H
end Go.Proofs.YtnkkfmnpkgjabaaGreat.Y
