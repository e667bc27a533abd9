/- 'EscrowWrong': whatever the numbers, it answers true, and nothing that was there has turned. -/
import Derived.Test.YtnkkfmnpkgjabaaGreatZwWr0
import Derived.Test.YtnkkfmnpkgjabaaGreatZwWr1
import Derived.Test.YtnkkfmnpkgjabaaGreatZwWr2
import Derived.Test.YtnkkfmnpkgjabaaGreatZwWr3a
import Derived.Test.YtnkkfmnpkgjabaaGreatZwWr3b
import Derived.Test.YtnkkfmnpkgjabaaGreatZwWr3c
import Derived.Test.YtnkkfmnpkgjabaaGreatZwWr3d
import Derived.Test.YtnkkfmnpkgjabaaGreatZwWr4a
import Derived.Test.YtnkkfmnpkgjabaaGreatZwWr4b
import Derived.Test.YtnkkfmnpkgjabaaGreatZwWr4c
import Derived.Test.YtnkkfmnpkgjabaaGreatZwWr4d
import Derived.Test.YtnkkfmnpkgjabaaGreatRows
import Derived.WalkKit
import Derived.ProofKit
import Derived.OpenShut
import Derived.Below
namespace Go.Proofs.YtnkkfmnpkgjabaaGreat.Y
open Go.RowKit Go.ChangeShapes Go.WideShapes
set_option linter.unusedVariables false
theorem escrowWrong (a0 a1 : Int) (w : World) : Calls Tryz.prog 3 #[.int .i64 a0, .int .i64 a1] w fun e w' => e = .returned (.bool true) ∧ Below w.heap.size w w' := by
  have go : ∀ {tk : V}, TkOk (xi2 a0 a1) tk → x2 3 (.cs (.arg 0) (.cs (.arg 1) .nl)) (S00 tk) (fun v _ => veqB v (.bool true)) = true → Calls Tryz.prog 3 #[.int .i64 a0, .int .i64 a1] w fun e w' => e = .returned (.bool true) ∧ Below w.heap.size w w' :=
    fun htk h => callTrue (x2_ok _ _) htk h (us := [.int .i64 a0, .int .i64 a1]) ⟨_, _, rfl, rfl, _, _, rfl, rfl, rfl⟩ w
  obtain ⟨r, hr, hlt⟩ := plc_lt (v := a0) (m := 5) (by omega)
  obtain ⟨q, hq, hlt2⟩ := plc_lt (v := a1) (m := 8) (by omega)
  have hr : plc (xi2 a0 a1 0) 5 = (r : Int) := hr
  have hq : plc (xi2 a0 a1 1) 8 = (q : Int) := hq
  match r, hlt, hr with
  | 0, _, hr => exact go (TkOk.nl.cs hr (by omega)) Wr_0
  | 1, _, hr => exact go (TkOk.nl.cs hr (by omega)) Wr_1
  | 2, _, hr => exact go (TkOk.nl.cs hr (by omega)) Wr_2
  | 3, _, hr => match q, hlt2, hq with
    | 0, _, hq => exact go ((TkOk.nl.cs hr (by omega)).cs hq (by omega)) Wr_3_0
    | 1, _, hq => exact go ((TkOk.nl.cs hr (by omega)).cs hq (by omega)) Wr_3_1
    | 2, _, hq => exact go ((TkOk.nl.cs hr (by omega)).cs hq (by omega)) Wr_3_2
    | 3, _, hq => exact go ((TkOk.nl.cs hr (by omega)).cs hq (by omega)) Wr_3_3
    | 4, _, hq => exact go ((TkOk.nl.cs hr (by omega)).cs hq (by omega)) Wr_3_4
    | 5, _, hq => exact go ((TkOk.nl.cs hr (by omega)).cs hq (by omega)) Wr_3_5
    | 6, _, hq => exact go ((TkOk.nl.cs hr (by omega)).cs hq (by omega)) Wr_3_6
    | 7, _, hq => exact go ((TkOk.nl.cs hr (by omega)).cs hq (by omega)) Wr_3_7
  | 4, _, hr => match q, hlt2, hq with
    | 0, _, hq => exact go ((TkOk.nl.cs hr (by omega)).cs hq (by omega)) Wr_4_0
    | 1, _, hq => exact go ((TkOk.nl.cs hr (by omega)).cs hq (by omega)) Wr_4_1
    | 2, _, hq => exact go ((TkOk.nl.cs hr (by omega)).cs hq (by omega)) Wr_4_2
    | 3, _, hq => exact go ((TkOk.nl.cs hr (by omega)).cs hq (by omega)) Wr_4_3
    | 4, _, hq => exact go ((TkOk.nl.cs hr (by omega)).cs hq (by omega)) Wr_4_4
    | 5, _, hq => exact go ((TkOk.nl.cs hr (by omega)).cs hq (by omega)) Wr_4_5
    | 6, _, hq => exact go ((TkOk.nl.cs hr (by omega)).cs hq (by omega)) Wr_4_6
    | 7, _, hq => exact go ((TkOk.nl.cs hr (by omega)).cs hq (by omega)) Wr_4_7
end Go.Proofs.YtnkkfmnpkgjabaaGreat.Y

/- 'EscrowWrong': whatever the numbers, the law answers true and nothing that was there has turned; no condition. -/
namespace Go.Proofs.YtnkkfmnpkgjabaaGreat.escrowWrong
open Go.ChangeShapes Go.WideShapes Go.ChangeAt Go.RowKit
set_option linter.unusedVariables false      -- a walk need not use every 'w<i>' (that an integer argument fits its kind)

theorem own : ownKnob Tryz.prog.godebug = none := by kernel_rfl

/-! ### STEP 1: THE WALK: the Go text returns true. 'Grown w w'': the world has at most new blocks (Derived/RowKit3.lean). Part the cases AHEAD of 'go_enter' where a test parts the walk; take each callee by a contract of your own. -/
theorem walk (a0 : Int) (a1 : Int) (w0 : (Lit.int .i64 a0).wf = true) (w1 : (Lit.int .i64 a1).wf = true) (w : World) :
    Calls Tryz.prog 3 #[.int .i64 a0, .int .i64 a1] w fun e w' => e = .returned (.bool true) ∧ Below w.heap.size w w' :=
  Y.escrowWrong a0 a1 w

/-! ### THE ROW's STEP: WRITTEN OUT: LEAVE IT -/
set_option maxRecDepth 100000 in
theorem lifted (os : Os) (started : os.Started) (H : Type) (enc : TypeId × Value → H) :
    ReturnsInHanded {} Tryz.checked os 3 .any (Rows.escrowWrongSpec.pre6 enc Tryz.prog Tryz.f3 Rows.escrowWrongRow.domain false) (Rows.escrowWrongSpec.post enc Tryz.prog Tryz.f3 false true false false) := by
  refine returnsInHanded_of_change (C := Tryz.checked) own started (by kernel_rfl) Tryz.func3
    (ChangeSpec.witness6 (enc := enc) (C := Tryz.checked) false ⟨#[], #[.int .i64 0, .int .i64 0], []⟩ 8 (by kernel_rfl) (by kernel_rfl) (by kernel_rfl) (by kernel_rfl)) ?_
  intro W base args ds gs before hval0 hW hcnd _
  have hval : ∀ (j : Nat) t v, Tryz.f3.params[j]? = some t → args[j]? = some v → Value.okWide Tryz.prog W .any base t v := hval0
  have hW' := hW
  obtain ⟨p, q, hA0, hV, rfl, hfz, hnd⟩ := hW
  have hA : DataW.TrodAll enc Tryz.prog W 0 (fun _ => true) true Tryz.f3.params.toList args.toList ds p := hA0
  rw [Tryz.params3] at hA hval
  obtain ⟨v0, vs0, d0, ds0, p0, q0, hargs, rfl, rfl, h0, r0⟩ := trodAll_cons hA
  obtain ⟨v1, vs1, d1, ds1, p1, q1, rfl, rfl, rfl, h1, r1⟩ := trodAll_cons r0
  obtain ⟨rfl, rfl, rfl⟩ := trodAll_nil r1
  obtain rfl : args = #[v0, v1] := by cases args; simp_all
  obtain ⟨rfl, rfl⟩ := trodVars_none hV
  obtain ⟨a0, rfl, rfl, rfl, w0⟩ := open_int Tryz.underlying3 (hval 0 3 v0 rfl rfl) h0
  obtain ⟨a1, rfl, rfl, rfl, w1⟩ := open_int Tryz.underlying3 (hval 1 3 v1 rfl rfl) h1
  clear hA0 hval0
  simp only [List.append_nil] at hW'
  refine (walk a0 a1 w0 w1 W).mono fun e W' ⟨he, hg⟩ => ?_
  subst he
  exact ⟨_, rfl, _, _, _, [], _, [], hW', (trodAll_cons_mk (shut_bool Tryz.underlying4 _) trodAll_mk0), (trodAll_cons_mk (shut_int Tryz.underlying3 w0) (trodAll_cons_mk (shut_int Tryz.underlying3 w1) trodAll_mk0)), rfl, hg.frame _, fun h => by cases h⟩

theorem over : Rows.escrowWrongRow.holds Tryz.pinned (OpenSpec.ofChange Rows.escrowWrongSpec) :=
  OpenClaim.holds_of_wide 3 Tryz.f3 rfl rfl rfl rfl rfl rfl rfl ⟨rfl, rfl, rfl, rfl, rfl⟩ rfl rfl rfl rfl rfl (by kernel_rfl) Tryz.func3 (by kernel_rfl)
    (of_decide_eq_true (by kernel_rfl)) (by unfold Func.isWrapper; first | (rw [if_pos (by decide +kernel)]; kernel_rfl) | (rw [if_neg (by decide +kernel)]; exact ⟨rfl, rfl⟩))
    (fun os started H enc _ => lifted os started H enc)

/-- ████ THE STATEMENT ████ -/
theorem proved : Rows.EscrowWrongSaid :=
  over
#print axioms proved
end Go.Proofs.YtnkkfmnpkgjabaaGreat.escrowWrong
