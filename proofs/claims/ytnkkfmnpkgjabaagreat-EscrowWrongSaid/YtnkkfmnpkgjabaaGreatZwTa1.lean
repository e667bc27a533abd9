/- Digests by the program: what it answers to some texts, run by the kernel. -/
import Derived.Test.YtnkkfmnpkgjabaaGreatZw0g
namespace Go.Proofs.YtnkkfmnpkgjabaaGreat.Y
set_option linter.unusedVariables false
set_option maxRecDepth 100000
set_option maxHeartbeats 40000000
theorem tab1 (ξ : Nat → Int) (H : Nat → V) : CallOk Tryz.prog ξ 103 (.cs (.str 16 139683794965015499063421702763451862795) .nl) H H (.str 32 93158325113456946273689364298725341349169283717827212858406419814241513514316) := known_of (x0_ok ξ 103) (by kernel_rfl) rfl H
theorem tab3 (ξ : Nat → Int) (H : Nat → V) : CallOk Tryz.prog ξ 103 (.cs (.str 16 329051536153590305153833087861823243988) .nl) H H (.str 32 91695564754710311288069099783497266087813993394853825170692189119220703670518) := known_of (x0_ok ξ 103) (by kernel_rfl) rfl H
theorem tab5 (ξ : Nat → Int) (H : Nat → V) : CallOk Tryz.prog ξ 103 (.cs (.str 16 101320211691766909071051160276052285704) .nl) H H (.str 32 65773673943051082569894905121875507462419944298545193101706806925159222781276) := known_of (x0_ok ξ 103) (by kernel_rfl) rfl H
theorem tab7 (ξ : Nat → Int) (H : Nat → V) : CallOk Tryz.prog ξ 103 (.cs (.str 16 277260087962528210935728447901253964093) .nl) H H (.str 32 23689958907755259429795494983933517928238909097386759451862451251278263865883) := known_of (x0_ok ξ 103) (by kernel_rfl) rfl H
theorem tab9 (ξ : Nat → Int) (H : Nat → V) : CallOk Tryz.prog ξ 103 (.cs (.str 16 164964805064607949428761939759637686001) .nl) H H (.str 32 107558480474011184552246656431461042478622114642546695212089069070574813297529) := known_of (x0_ok ξ 103) (by kernel_rfl) rfl H
theorem tab11 (ξ : Nat → Int) (H : Nat → V) : CallOk Tryz.prog ξ 103 (.cs (.str 16 174826248262382908577033167648717936448) .nl) H H (.str 32 3324902665347341023679639903603767669834086417346101958477770845007312734509) := known_of (x0_ok ξ 103) (by kernel_rfl) rfl H
theorem tab13 (ξ : Nat → Int) (H : Nat → V) : CallOk Tryz.prog ξ 103 (.cs (.str 16 195192255395313008711236304193505151156) .nl) H H (.str 32 101983014442511617129903355399594454837212338616938451101556149545142499748888) := known_of (x0_ok ξ 103) (by kernel_rfl) rfl H
theorem tab15 (ξ : Nat → Int) (H : Nat → V) : CallOk Tryz.prog ξ 103 (.cs (.str 16 85017764219711433105015340805299995765) .nl) H H (.str 32 97207795607996817960360708904647737292615330934131083724309742454738114424158) := known_of (x0_ok ξ 103) (by kernel_rfl) rfl H
theorem tab0 (ξ : Nat → Int) (H : Nat → V) : CallOk Tryz.prog ξ 103 (.cs (.str 7 32481100117144624) .nl) H H (.str 32 68485832211878256116817698631788017623949271503697440746343758526072044726942) := known_of (x0_ok ξ 103) (by kernel_rfl) rfl H
end Go.Proofs.YtnkkfmnpkgjabaaGreat.Y
