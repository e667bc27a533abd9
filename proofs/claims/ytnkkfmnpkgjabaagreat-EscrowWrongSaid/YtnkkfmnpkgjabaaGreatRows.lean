/-
  No cell of these rows narrows 'for every input' (looked for: loops, veiled, ifaces, maps, wideKeys, modest, calm, conditions, laid).
  DERIVED. THE GIVEN ROWS OF THIS SEAT. 7 by the template 'for every input the law returns true; each argument reads behind the call as it read before'; 0 by the template 'total and deterministic' (their statements: YtnkkfmnpkgjabaaGreatTotals.lean).
  GIVEN WITH THE SEED: the statements are not yours to turn. If you find one false, say at which input.
  Laid BY PROGRAM, IN A SANDBOX (cutbox-rows.mjs): the forced cells as the released guide's own fill.sh prints them over the translation b82c11d5cbe6bb5f… (all of the seat's roots in one cut). By AI agents, Wed Nov 11 2026. No macro, syntax, notation, axiom, sorry.
-/
import Derived.Test.YtnkkfmnpkgjabaaGreatChecked
import GoSem.Claim
import GoSem.ClaimJoined
import GoSem.ClaimMapViews
import Derived.JoinedTies
import Derived.KernelRfl
namespace Go.Proofs.YtnkkfmnpkgjabaaGreat
/- THE CELL 'sum', in the pinned program and in every row, IS THE sha256 OF THE DUMP (.gsa) THAT YtnkkfmnpkgjabaaGreatProg.lean LOADS. Nothing in Lean hashes anything: it is a label: what it is worth is what the hold of that sum in a sandbox is worth. -/
noncomputable def Tryz.pinned : Pinned := { name := "ytnkkfmnpkgjabaagreat", sum := "b82c11d5cbe6bb5f0db17933b43f666fb856a20bbac4c6c5b0e106948575ecca", checked := Tryz.checked }
namespace Rows
def none {H : Type} : Left H := { results := [], args := [] }

/-- 'handsellaw10.EscrowWrong': WHATEVER THE INPUT: true; the input reads as it did. -/
def escrowWrongSpec : ChangeSpec := { name := "escrowWrong", fn := fun _ => fun
  | [d1, d2] => { results := [.lit (.bool true)], args := [d1, d2] }
  | _ => none }
def escrowWrongRow : OpenClaim := { program := "ytnkkfmnpkgjabaagreat", sum := "b82c11d5cbe6bb5f0db17933b43f666fb856a20bbac4c6c5b0e106948575ecca", func := "handsel/handsellaw10.EscrowWrong", spec := "escrowWrong", inPlace := ["slices.overlaps[handsel/api.Fund]", "internal/abi.NoEscape"], unfollowed := true, recurses := true, plainKeys := false, apart := false }
def EscrowWrongSaid : Prop := escrowWrongRow.holds Tryz.pinned (OpenSpec.ofChange escrowWrongSpec)

/-- ITS FALSE NEIGHBOUR: 'it returns false'. Refute it at one input. -/
def escrowWrongWrong : ChangeSpec := { name := "escrowWrong", fn := fun _ => fun
  | [d1, d2] => { results := [.lit (.bool false)], args := [d1, d2] }
  | _ => none }
def EscrowWrongWrongFalsely : Prop := escrowWrongRow.holds Tryz.pinned (OpenSpec.ofChange escrowWrongWrong)

/-- 'handsellaw10.EscrowPlays': WHATEVER THE INPUT: true; the input reads as it did. -/
def escrowPlaysSpec : ChangeSpec := { name := "escrowPlays", fn := fun _ => fun
  | [d1, d2] => { results := [.lit (.bool true)], args := [d1, d2] }
  | _ => none }
def escrowPlaysRow : OpenClaim := { program := "ytnkkfmnpkgjabaagreat", sum := "b82c11d5cbe6bb5f0db17933b43f666fb856a20bbac4c6c5b0e106948575ecca", func := "handsel/handsellaw10.EscrowPlays", spec := "escrowPlays", inPlace := ["slices.overlaps[handsel/api.Fund]", "internal/abi.NoEscape"], unfollowed := true, recurses := true, plainKeys := false, apart := false }
def EscrowPlaysSaid : Prop := escrowPlaysRow.holds Tryz.pinned (OpenSpec.ofChange escrowPlaysSpec)

/-- ITS FALSE NEIGHBOUR: 'it returns false'. Refute it at one input. -/
def escrowPlaysWrong : ChangeSpec := { name := "escrowPlays", fn := fun _ => fun
  | [d1, d2] => { results := [.lit (.bool false)], args := [d1, d2] }
  | _ => none }
def EscrowPlaysWrongFalsely : Prop := escrowPlaysRow.holds Tryz.pinned (OpenSpec.ofChange escrowPlaysWrong)

/-- 'handsellaw10.EscrowNumbers': WHATEVER THE INPUT: true; the input reads as it did. -/
def escrowNumbersSpec : ChangeSpec := { name := "escrowNumbers", fn := fun _ => fun
  | [d1, d2] => { results := [.lit (.bool true)], args := [d1, d2] }
  | _ => none }
def escrowNumbersRow : OpenClaim := { program := "ytnkkfmnpkgjabaagreat", sum := "b82c11d5cbe6bb5f0db17933b43f666fb856a20bbac4c6c5b0e106948575ecca", func := "handsel/handsellaw10.EscrowNumbers", spec := "escrowNumbers", inPlace := ["slices.overlaps[handsel/api.Fund]", "internal/abi.NoEscape"], unfollowed := true, recurses := true, plainKeys := false, apart := false }
def EscrowNumbersSaid : Prop := escrowNumbersRow.holds Tryz.pinned (OpenSpec.ofChange escrowNumbersSpec)

/-- ITS FALSE NEIGHBOUR: 'it returns false'. Refute it at one input. -/
def escrowNumbersWrong : ChangeSpec := { name := "escrowNumbers", fn := fun _ => fun
  | [d1, d2] => { results := [.lit (.bool false)], args := [d1, d2] }
  | _ => none }
def EscrowNumbersWrongFalsely : Prop := escrowNumbersRow.holds Tryz.pinned (OpenSpec.ofChange escrowNumbersWrong)

/-- 'handsellaw10.EscrowEnds': WHATEVER THE INPUT: true; the input reads as it did. -/
def escrowEndsSpec : ChangeSpec := { name := "escrowEnds", fn := fun _ => fun
  | [d1, d2, d3, d4] => { results := [.lit (.bool true)], args := [d1, d2, d3, d4] }
  | _ => none }
def escrowEndsRow : OpenClaim := { program := "ytnkkfmnpkgjabaagreat", sum := "b82c11d5cbe6bb5f0db17933b43f666fb856a20bbac4c6c5b0e106948575ecca", func := "handsel/handsellaw10.EscrowEnds", spec := "escrowEnds", inPlace := ["slices.overlaps[handsel/api.Fund]", "internal/abi.NoEscape"], unfollowed := true, recurses := true, plainKeys := false, apart := false }
def EscrowEndsSaid : Prop := escrowEndsRow.holds Tryz.pinned (OpenSpec.ofChange escrowEndsSpec)

/-- ITS FALSE NEIGHBOUR: 'it returns false'. Refute it at one input. -/
def escrowEndsWrong : ChangeSpec := { name := "escrowEnds", fn := fun _ => fun
  | [d1, d2, d3, d4] => { results := [.lit (.bool false)], args := [d1, d2, d3, d4] }
  | _ => none }
def EscrowEndsWrongFalsely : Prop := escrowEndsRow.holds Tryz.pinned (OpenSpec.ofChange escrowEndsWrong)

/-- 'handsellaw10.EscrowTimes': WHATEVER THE INPUT: true; the input reads as it did. -/
def escrowTimesSpec : ChangeSpec := { name := "escrowTimes", fn := fun _ => fun
  | [d1, d2, d3] => { results := [.lit (.bool true)], args := [d1, d2, d3] }
  | _ => none }
def escrowTimesRow : OpenClaim := { program := "ytnkkfmnpkgjabaagreat", sum := "b82c11d5cbe6bb5f0db17933b43f666fb856a20bbac4c6c5b0e106948575ecca", func := "handsel/handsellaw10.EscrowTimes", spec := "escrowTimes", inPlace := ["slices.overlaps[handsel/api.Fund]", "internal/abi.NoEscape"], unfollowed := true, recurses := true, plainKeys := false, apart := false }
def EscrowTimesSaid : Prop := escrowTimesRow.holds Tryz.pinned (OpenSpec.ofChange escrowTimesSpec)

/-- ITS FALSE NEIGHBOUR: 'it returns false'. Refute it at one input. -/
def escrowTimesWrong : ChangeSpec := { name := "escrowTimes", fn := fun _ => fun
  | [d1, d2, d3] => { results := [.lit (.bool false)], args := [d1, d2, d3] }
  | _ => none }
def EscrowTimesWrongFalsely : Prop := escrowTimesRow.holds Tryz.pinned (OpenSpec.ofChange escrowTimesWrong)

/-- 'handsellaw10.EscrowFull': WHATEVER THE INPUT: true; the input reads as it did. -/
def escrowFullSpec : ChangeSpec := { name := "escrowFull", fn := fun _ => fun
  | [d] => { results := [.lit (.bool true)], args := [d] }
  | _ => none }
def escrowFullRow : OpenClaim := { program := "ytnkkfmnpkgjabaagreat", sum := "b82c11d5cbe6bb5f0db17933b43f666fb856a20bbac4c6c5b0e106948575ecca", func := "handsel/handsellaw10.EscrowFull", spec := "escrowFull", inPlace := ["slices.overlaps[handsel/api.Fund]", "internal/abi.NoEscape"], unfollowed := true, recurses := true, plainKeys := false, apart := false }
def EscrowFullSaid : Prop := escrowFullRow.holds Tryz.pinned (OpenSpec.ofChange escrowFullSpec)

/-- ITS FALSE NEIGHBOUR: 'it returns false'. Refute it at one input. -/
def escrowFullWrong : ChangeSpec := { name := "escrowFull", fn := fun _ => fun
  | [d] => { results := [.lit (.bool false)], args := [d] }
  | _ => none }
def EscrowFullWrongFalsely : Prop := escrowFullRow.holds Tryz.pinned (OpenSpec.ofChange escrowFullWrong)

/-- 'handsellaw10.EscrowLocks': WHATEVER THE INPUT: true; the input reads as it did. -/
def escrowLocksSpec : ChangeSpec := { name := "escrowLocks", fn := fun _ => fun
  | [d1, d2] => { results := [.lit (.bool true)], args := [d1, d2] }
  | _ => none }
def escrowLocksRow : OpenClaim := { program := "ytnkkfmnpkgjabaagreat", sum := "b82c11d5cbe6bb5f0db17933b43f666fb856a20bbac4c6c5b0e106948575ecca", func := "handsel/handsellaw10.EscrowLocks", spec := "escrowLocks", inPlace := ["slices.overlaps[handsel/api.Fund]", "internal/abi.NoEscape"], unfollowed := true, recurses := true, plainKeys := false, apart := false }
def EscrowLocksSaid : Prop := escrowLocksRow.holds Tryz.pinned (OpenSpec.ofChange escrowLocksSpec)

/-- ITS FALSE NEIGHBOUR: 'it returns false'. Refute it at one input. -/
def escrowLocksWrong : ChangeSpec := { name := "escrowLocks", fn := fun _ => fun
  | [d1, d2] => { results := [.lit (.bool false)], args := [d1, d2] }
  | _ => none }
def EscrowLocksWrongFalsely : Prop := escrowLocksRow.holds Tryz.pinned (OpenSpec.ofChange escrowLocksWrong)

/- THE SECOND FORM. 'bulk': how many values and letters a reading holds, each counted each time it is reached (what is shared counts as often as it is met; a slice's spare places count too). A statement '..UptoSaid' is the law's where the arguments, and the package variables that the reading takes, are together of bulk at most 1048576: NARROWER than '..Said'. Prove '..Said' where nothing that the law and all that it calls make is longer than what came in: it says more and counts as full. Else prove '..UptoSaid'. A law counts once. -/
mutual
def uptoBulk {H : Type} : DataW H → Nat
  | .lit (.string bytes) => bytes.length + 1
  | .lit _ => 1
  | .nil => 1
  | .ptr d => uptoBulk d + 1
  | .slice elems spare => uptoBulkAll elems + uptoBulkAll spare + 1
  | .agg parts => uptoBulkAll parts + 1
  | .iface _ d => uptoBulk d + 1
  | .map entries => uptoBulkEntries entries + 1
  | .held _ => 1
def uptoBulkAll {H : Type} : List (DataW H) → Nat
  | [] => 0
  | d :: r => uptoBulk d + uptoBulkAll r
def uptoBulkEntries {H : Type} : List (Lit × DataW H) → Nat
  | [] => 0
  | x :: r => uptoBulkEntry x + uptoBulkEntries r
def uptoBulkEntry {H : Type} : Lit × DataW H → Nat
  | (.string bytes, d) => bytes.length + uptoBulk d + 1
  | (_, d) => uptoBulk d + 1
 end
def uptoSmall : (H : Type) → List (DataW H) → Bool := fun _ ds => decide (uptoBulkAll ds ≤ 1048576)
def OpenSpec.upto (s : _root_.Go.ChangeSpec) : _root_.Go.OpenSpec := { _root_.Go.OpenSpec.ofChange s with cond := some uptoSmall }

/-- 'handsellaw10.EscrowWrong', WHERE WHAT IT READS IS OF BULK AT MOST 1048576: true; the input reads as it did. -/
def escrowWrongUptoRow : OpenClaim := { program := "ytnkkfmnpkgjabaagreat", sum := "b82c11d5cbe6bb5f0db17933b43f666fb856a20bbac4c6c5b0e106948575ecca", func := "handsel/handsellaw10.EscrowWrong", spec := "escrowWrong", inPlace := ["slices.overlaps[handsel/api.Fund]", "internal/abi.NoEscape"], unfollowed := true, recurses := true, plainKeys := false, apart := false, narrowed := true }
def EscrowWrongUptoSaid : Prop := escrowWrongUptoRow.holds Tryz.pinned (OpenSpec.upto escrowWrongSpec)

/-- 'handsellaw10.EscrowPlays', WHERE WHAT IT READS IS OF BULK AT MOST 1048576: true; the input reads as it did. -/
def escrowPlaysUptoRow : OpenClaim := { program := "ytnkkfmnpkgjabaagreat", sum := "b82c11d5cbe6bb5f0db17933b43f666fb856a20bbac4c6c5b0e106948575ecca", func := "handsel/handsellaw10.EscrowPlays", spec := "escrowPlays", inPlace := ["slices.overlaps[handsel/api.Fund]", "internal/abi.NoEscape"], unfollowed := true, recurses := true, plainKeys := false, apart := false, narrowed := true }
def EscrowPlaysUptoSaid : Prop := escrowPlaysUptoRow.holds Tryz.pinned (OpenSpec.upto escrowPlaysSpec)

/-- 'handsellaw10.EscrowNumbers', WHERE WHAT IT READS IS OF BULK AT MOST 1048576: true; the input reads as it did. -/
def escrowNumbersUptoRow : OpenClaim := { program := "ytnkkfmnpkgjabaagreat", sum := "b82c11d5cbe6bb5f0db17933b43f666fb856a20bbac4c6c5b0e106948575ecca", func := "handsel/handsellaw10.EscrowNumbers", spec := "escrowNumbers", inPlace := ["slices.overlaps[handsel/api.Fund]", "internal/abi.NoEscape"], unfollowed := true, recurses := true, plainKeys := false, apart := false, narrowed := true }
def EscrowNumbersUptoSaid : Prop := escrowNumbersUptoRow.holds Tryz.pinned (OpenSpec.upto escrowNumbersSpec)

/-- 'handsellaw10.EscrowEnds', WHERE WHAT IT READS IS OF BULK AT MOST 1048576: true; the input reads as it did. -/
def escrowEndsUptoRow : OpenClaim := { program := "ytnkkfmnpkgjabaagreat", sum := "b82c11d5cbe6bb5f0db17933b43f666fb856a20bbac4c6c5b0e106948575ecca", func := "handsel/handsellaw10.EscrowEnds", spec := "escrowEnds", inPlace := ["slices.overlaps[handsel/api.Fund]", "internal/abi.NoEscape"], unfollowed := true, recurses := true, plainKeys := false, apart := false, narrowed := true }
def EscrowEndsUptoSaid : Prop := escrowEndsUptoRow.holds Tryz.pinned (OpenSpec.upto escrowEndsSpec)

/-- 'handsellaw10.EscrowTimes', WHERE WHAT IT READS IS OF BULK AT MOST 1048576: true; the input reads as it did. -/
def escrowTimesUptoRow : OpenClaim := { program := "ytnkkfmnpkgjabaagreat", sum := "b82c11d5cbe6bb5f0db17933b43f666fb856a20bbac4c6c5b0e106948575ecca", func := "handsel/handsellaw10.EscrowTimes", spec := "escrowTimes", inPlace := ["slices.overlaps[handsel/api.Fund]", "internal/abi.NoEscape"], unfollowed := true, recurses := true, plainKeys := false, apart := false, narrowed := true }
def EscrowTimesUptoSaid : Prop := escrowTimesUptoRow.holds Tryz.pinned (OpenSpec.upto escrowTimesSpec)

/-- 'handsellaw10.EscrowFull', WHERE WHAT IT READS IS OF BULK AT MOST 1048576: true; the input reads as it did. -/
def escrowFullUptoRow : OpenClaim := { program := "ytnkkfmnpkgjabaagreat", sum := "b82c11d5cbe6bb5f0db17933b43f666fb856a20bbac4c6c5b0e106948575ecca", func := "handsel/handsellaw10.EscrowFull", spec := "escrowFull", inPlace := ["slices.overlaps[handsel/api.Fund]", "internal/abi.NoEscape"], unfollowed := true, recurses := true, plainKeys := false, apart := false, narrowed := true }
def EscrowFullUptoSaid : Prop := escrowFullUptoRow.holds Tryz.pinned (OpenSpec.upto escrowFullSpec)

/-- 'handsellaw10.EscrowLocks', WHERE WHAT IT READS IS OF BULK AT MOST 1048576: true; the input reads as it did. -/
def escrowLocksUptoRow : OpenClaim := { program := "ytnkkfmnpkgjabaagreat", sum := "b82c11d5cbe6bb5f0db17933b43f666fb856a20bbac4c6c5b0e106948575ecca", func := "handsel/handsellaw10.EscrowLocks", spec := "escrowLocks", inPlace := ["slices.overlaps[handsel/api.Fund]", "internal/abi.NoEscape"], unfollowed := true, recurses := true, plainKeys := false, apart := false, narrowed := true }
def EscrowLocksUptoSaid : Prop := escrowLocksUptoRow.holds Tryz.pinned (OpenSpec.upto escrowLocksSpec)

end Rows
end Go.Proofs.YtnkkfmnpkgjabaaGreat
