/-
  No cell of these rows narrows 'for every input' (looked for: loops, veiled, ifaces, maps, wideKeys, modest, calm, conditions, laid).
  DERIVED. THE GIVEN ROWS OF THIS SEAT. 5 by the template 'for every input the law returns true; each argument reads behind the call as it read before'; 0 by the template 'total and deterministic' (their statements: YtnkkfmnpkgjabaaTotals.lean).
  GIVEN WITH THE SEED: the statements are not yours to turn. If you find one false, say at which input.
  Laid BY PROGRAM, IN A SANDBOX (cutbox-rows.mjs): the forced cells as the released guide's own fill.sh prints them over the translation 626483fe8f12b67f… (all of the seat's roots in one cut). By AI agents, Wed Nov 11 2026. No macro, syntax, notation, axiom, sorry.
-/
import Derived.Test.YtnkkfmnpkgjabaaChecked
import GoSem.Claim
import GoSem.ClaimJoined
import GoSem.ClaimMapViews
import Derived.JoinedTies
import Derived.KernelRfl
namespace Go.Proofs.Ytnkkfmnpkgjabaa
/- THE CELL 'sum', in the pinned program and in every row, IS THE sha256 OF THE DUMP (.gsa) THAT YtnkkfmnpkgjabaaProg.lean LOADS. Nothing in Lean hashes anything: it is a label: what it is worth is what the hold of that sum in a sandbox is worth. -/
noncomputable def Try.pinned : Pinned := { name := "ytnkkfmnpkgjabaa", sum := "626483fe8f12b67f45710902779d6a9f196aebd6c2938d9fe9250a4d7bfcb071", checked := Try.checked }
namespace Rows
def none {H : Type} : Left H := { results := [], args := [] }

/-- 'handsellaw24.NetPlays': WHATEVER THE INPUT: true; the input reads as it did. -/
def netPlaysSpec : ChangeSpec := { name := "netPlays", fn := fun _ => fun
  | [d] => { results := [.lit (.bool true)], args := [d] }
  | _ => none }
def netPlaysRow : OpenClaim := { program := "ytnkkfmnpkgjabaa", sum := "626483fe8f12b67f45710902779d6a9f196aebd6c2938d9fe9250a4d7bfcb071", func := "handsel/handsellaw24.NetPlays", spec := "netPlays", apart := false }
def NetPlaysSaid : Prop := netPlaysRow.holds Try.pinned (OpenSpec.ofChange netPlaysSpec)

/-- ITS FALSE NEIGHBOUR: 'it returns false'. Refute it at one input. -/
def netPlaysWrong : ChangeSpec := { name := "netPlays", fn := fun _ => fun
  | [d] => { results := [.lit (.bool false)], args := [d] }
  | _ => none }
def NetPlaysWrongFalsely : Prop := netPlaysRow.holds Try.pinned (OpenSpec.ofChange netPlaysWrong)

/-- 'handsellaw09.BankCaps': WHATEVER THE INPUT: true; the input reads as it did. -/
def bankCapsSpec : ChangeSpec := { name := "bankCaps", fn := fun _ => fun
  | [d1, d2] => { results := [.lit (.bool true)], args := [d1, d2] }
  | _ => none }
def bankCapsRow : OpenClaim := { program := "ytnkkfmnpkgjabaa", sum := "626483fe8f12b67f45710902779d6a9f196aebd6c2938d9fe9250a4d7bfcb071", func := "handsel/handsellaw09.BankCaps", spec := "bankCaps", inPlace := ["slices.overlaps[handsel/api.Fund]"], unfollowed := true, recurses := true, apart := false }
def BankCapsSaid : Prop := bankCapsRow.holds Try.pinned (OpenSpec.ofChange bankCapsSpec)

/-- ITS FALSE NEIGHBOUR: 'it returns false'. Refute it at one input. -/
def bankCapsWrong : ChangeSpec := { name := "bankCaps", fn := fun _ => fun
  | [d1, d2] => { results := [.lit (.bool false)], args := [d1, d2] }
  | _ => none }
def BankCapsWrongFalsely : Prop := bankCapsRow.holds Try.pinned (OpenSpec.ofChange bankCapsWrong)

/-- 'handsellaw09.BankOrder': WHATEVER THE INPUT: true; the input reads as it did. -/
def bankOrderSpec : ChangeSpec := { name := "bankOrder", fn := fun _ => fun
  | [d] => { results := [.lit (.bool true)], args := [d] }
  | _ => none }
def bankOrderRow : OpenClaim := { program := "ytnkkfmnpkgjabaa", sum := "626483fe8f12b67f45710902779d6a9f196aebd6c2938d9fe9250a4d7bfcb071", func := "handsel/handsellaw09.BankOrder", spec := "bankOrder", inPlace := ["slices.overlaps[handsel/api.Fund]"], unfollowed := true, recurses := true, apart := false }
def BankOrderSaid : Prop := bankOrderRow.holds Try.pinned (OpenSpec.ofChange bankOrderSpec)

/-- ITS FALSE NEIGHBOUR: 'it returns false'. Refute it at one input. -/
def bankOrderWrong : ChangeSpec := { name := "bankOrder", fn := fun _ => fun
  | [d] => { results := [.lit (.bool false)], args := [d] }
  | _ => none }
def BankOrderWrongFalsely : Prop := bankOrderRow.holds Try.pinned (OpenSpec.ofChange bankOrderWrong)

/-- 'handsellaw09.BankPlays': WHATEVER THE INPUT: true; the input reads as it did. -/
def bankPlaysSpec : ChangeSpec := { name := "bankPlays", fn := fun _ => fun
  | [d1, d2] => { results := [.lit (.bool true)], args := [d1, d2] }
  | _ => none }
def bankPlaysRow : OpenClaim := { program := "ytnkkfmnpkgjabaa", sum := "626483fe8f12b67f45710902779d6a9f196aebd6c2938d9fe9250a4d7bfcb071", func := "handsel/handsellaw09.BankPlays", spec := "bankPlays", inPlace := ["slices.overlaps[handsel/api.Fund]"], unfollowed := true, recurses := true, apart := false }
def BankPlaysSaid : Prop := bankPlaysRow.holds Try.pinned (OpenSpec.ofChange bankPlaysSpec)

/-- ITS FALSE NEIGHBOUR: 'it returns false'. Refute it at one input. -/
def bankPlaysWrong : ChangeSpec := { name := "bankPlays", fn := fun _ => fun
  | [d1, d2] => { results := [.lit (.bool false)], args := [d1, d2] }
  | _ => none }
def BankPlaysWrongFalsely : Prop := bankPlaysRow.holds Try.pinned (OpenSpec.ofChange bankPlaysWrong)

/-- 'handsellaw09.BankNumbers': WHATEVER THE INPUT: true; the input reads as it did. -/
def bankNumbersSpec : ChangeSpec := { name := "bankNumbers", fn := fun _ => fun
  | [d] => { results := [.lit (.bool true)], args := [d] }
  | _ => none }
def bankNumbersRow : OpenClaim := { program := "ytnkkfmnpkgjabaa", sum := "626483fe8f12b67f45710902779d6a9f196aebd6c2938d9fe9250a4d7bfcb071", func := "handsel/handsellaw09.BankNumbers", spec := "bankNumbers", inPlace := ["slices.overlaps[handsel/api.Fund]"], unfollowed := true, recurses := true, apart := false }
def BankNumbersSaid : Prop := bankNumbersRow.holds Try.pinned (OpenSpec.ofChange bankNumbersSpec)

/-- ITS FALSE NEIGHBOUR: 'it returns false'. Refute it at one input. -/
def bankNumbersWrong : ChangeSpec := { name := "bankNumbers", fn := fun _ => fun
  | [d] => { results := [.lit (.bool false)], args := [d] }
  | _ => none }
def BankNumbersWrongFalsely : Prop := bankNumbersRow.holds Try.pinned (OpenSpec.ofChange bankNumbersWrong)

/- THE SECOND FORM. 'bulk': how many values and letters a reading holds, each counted each time it is reached (what is shared counts as often as it is met; a slice's spare places count too). A statement '..UptoSaid' is the law's where the arguments, and the package variables that the reading takes, are together of bulk at most 1048576: NARROWER than '..Said'. Prove '..Said' where nothing that the law and all that it calls make is longer than what came in: it says more and counts as full. Else prove '..UptoSaid'. A law counts once. -/
mutual
def uptoBulk {H : Type} : DataW H → Nat
  | .lit (.string bytes) => bytes.length + 1
  | .lit _ => 1
  | .nil => 1
  | .ptr d => uptoBulk d + 1
  | .slice elems spare => uptoBulkAll elems + uptoBulkAll spare + 1
  | .agg parts => uptoBulkAll parts + 1
  | .iface _ d => uptoBulk d + 1
  | .map entries => uptoBulkEntries entries + 1
  | .held _ => 1
def uptoBulkAll {H : Type} : List (DataW H) → Nat
  | [] => 0
  | d :: r => uptoBulk d + uptoBulkAll r
def uptoBulkEntries {H : Type} : List (Lit × DataW H) → Nat
  | [] => 0
  | x :: r => uptoBulkEntry x + uptoBulkEntries r
def uptoBulkEntry {H : Type} : Lit × DataW H → Nat
  | (.string bytes, d) => bytes.length + uptoBulk d + 1
  | (_, d) => uptoBulk d + 1
 end
def uptoSmall : (H : Type) → List (DataW H) → Bool := fun _ ds => decide (uptoBulkAll ds ≤ 1048576)
def OpenSpec.upto (s : _root_.Go.ChangeSpec) : _root_.Go.OpenSpec := { _root_.Go.OpenSpec.ofChange s with cond := some uptoSmall }

/-- 'handsellaw24.NetPlays', WHERE WHAT IT READS IS OF BULK AT MOST 1048576: true; the input reads as it did. -/
def netPlaysUptoRow : OpenClaim := { program := "ytnkkfmnpkgjabaa", sum := "626483fe8f12b67f45710902779d6a9f196aebd6c2938d9fe9250a4d7bfcb071", func := "handsel/handsellaw24.NetPlays", spec := "netPlays", apart := false, narrowed := true }
def NetPlaysUptoSaid : Prop := netPlaysUptoRow.holds Try.pinned (OpenSpec.upto netPlaysSpec)

/-- 'handsellaw09.BankCaps', WHERE WHAT IT READS IS OF BULK AT MOST 1048576: true; the input reads as it did. -/
def bankCapsUptoRow : OpenClaim := { program := "ytnkkfmnpkgjabaa", sum := "626483fe8f12b67f45710902779d6a9f196aebd6c2938d9fe9250a4d7bfcb071", func := "handsel/handsellaw09.BankCaps", spec := "bankCaps", inPlace := ["slices.overlaps[handsel/api.Fund]"], unfollowed := true, recurses := true, apart := false, narrowed := true }
def BankCapsUptoSaid : Prop := bankCapsUptoRow.holds Try.pinned (OpenSpec.upto bankCapsSpec)

/-- 'handsellaw09.BankOrder', WHERE WHAT IT READS IS OF BULK AT MOST 1048576: true; the input reads as it did. -/
def bankOrderUptoRow : OpenClaim := { program := "ytnkkfmnpkgjabaa", sum := "626483fe8f12b67f45710902779d6a9f196aebd6c2938d9fe9250a4d7bfcb071", func := "handsel/handsellaw09.BankOrder", spec := "bankOrder", inPlace := ["slices.overlaps[handsel/api.Fund]"], unfollowed := true, recurses := true, apart := false, narrowed := true }
def BankOrderUptoSaid : Prop := bankOrderUptoRow.holds Try.pinned (OpenSpec.upto bankOrderSpec)

/-- 'handsellaw09.BankPlays', WHERE WHAT IT READS IS OF BULK AT MOST 1048576: true; the input reads as it did. -/
def bankPlaysUptoRow : OpenClaim := { program := "ytnkkfmnpkgjabaa", sum := "626483fe8f12b67f45710902779d6a9f196aebd6c2938d9fe9250a4d7bfcb071", func := "handsel/handsellaw09.BankPlays", spec := "bankPlays", inPlace := ["slices.overlaps[handsel/api.Fund]"], unfollowed := true, recurses := true, apart := false, narrowed := true }
def BankPlaysUptoSaid : Prop := bankPlaysUptoRow.holds Try.pinned (OpenSpec.upto bankPlaysSpec)

/-- 'handsellaw09.BankNumbers', WHERE WHAT IT READS IS OF BULK AT MOST 1048576: true; the input reads as it did. -/
def bankNumbersUptoRow : OpenClaim := { program := "ytnkkfmnpkgjabaa", sum := "626483fe8f12b67f45710902779d6a9f196aebd6c2938d9fe9250a4d7bfcb071", func := "handsel/handsellaw09.BankNumbers", spec := "bankNumbers", inPlace := ["slices.overlaps[handsel/api.Fund]"], unfollowed := true, recurses := true, apart := false, narrowed := true }
def BankNumbersUptoSaid : Prop := bankNumbersUptoRow.holds Try.pinned (OpenSpec.upto bankNumbersSpec)

end Rows
end Go.Proofs.Ytnkkfmnpkgjabaa
