/- 'BankKeeps': whatever the numbers, the law answers true and nothing that was there has turned; no condition. -/
import Derived.Test.YtlgebdoadfljhaaRows
import Derived.WalkKit
import Derived.ProofKit
import Derived.OpenShut
import Derived.Below
import Derived.Carry
import Derived.ChangeSlices
import Derived.Test.YtlgebdoadfljhaaKeepW
namespace Go.Proofs.Ytlgebdoadfljhaa.bankKeeps
open Go.ChangeShapes Go.WideShapes Go.ChangeAt Go.RowKit
set_option linter.unusedVariables false
set_option linter.unusedSimpArgs false

theorem own : ownKnob Try.prog.godebug = none := by kernel_rfl
theorem laidOut : laidOutB Try.prog = true := by kernel_rfl
theorem cells3 : Try.prog.cellsOf 3 = 1 := by kernel_rfl

/-! ### STEP 1: THE WALK -/
theorem walk (B : Option Addr) (n c : Nat) (z : Nat → Int) (w : World) (hz : ∀ k, k < n → -9223372036854775808 ≤ z k ∧ z k ≤ 9223372036854775807)
    (hr : 0 < n → ∃ g o, B = some ⟨g, o, none⟩ ∧ g < w.heap.size ∧ ∀ k, k < n → w.cell? ⟨g, o + k, none⟩ = some (.int .i64 (z k))) (hn : n ≤ 9223372036854775807) :
    Calls Try.prog 5 #[.slice B n c] w fun e w' => e = .returned (.bool true) ∧ Below w.heap.size w w' :=
  (keeps_walk B n c z w hz hr hn).mono fun _ _ h => ⟨h.1, h.2.below⟩

set_option maxRecDepth 100000 in
theorem lifted (os : Os) (started : os.Started) (H : Type) (enc : TypeId × Value → H) :
    ReturnsInHanded {} Try.checked os 5 .any (Rows.bankKeepsSpec.pre6 enc Try.prog Try.f5 Rows.bankKeepsRow.domain false) (Rows.bankKeepsSpec.post enc Try.prog Try.f5 false true false false) := by
  refine returnsInHanded_of_change (C := Try.checked) own started (by kernel_rfl) Try.func5
    (ChangeSpec.witness6 (enc := enc) (C := Try.checked) false ⟨#[], #[.slice none 0 0], []⟩ 8 (by kernel_rfl) (by kernel_rfl) (by kernel_rfl) (by kernel_rfl)) ?_
  intro W base args ds gs before hval0 hW hcnd _
  have hval : ∀ (j : Nat) t v, Try.f5.params[j]? = some t → args[j]? = some v → Value.okWide Try.prog W .any base t v := hval0
  have hW' := hW
  obtain ⟨p, q, hA0, hV, rfl, hfz, hnd⟩ := hW
  have hA : DataW.TrodAll enc Try.prog W 0 (fun _ => true) true Try.f5.params.toList args.toList ds p := hA0
  rw [Try.params5] at hA hval
  obtain ⟨v0, d0, rfl, rfl, h0⟩ := trodAll_one hA
  obtain ⟨rfl, rfl⟩ := trodVars_none hV
  obtain ⟨a0, len, cap, rfl⟩ := okWide_slice Try.underlying37 (hval 0 37 v0 rfl rfl)
  have h0k := h0
  obtain ⟨fuel, hf⟩ := h0
  clear hA0 hval0
  simp only [List.append_nil] at hW'
  have hlt : ∀ x ∈ p, x.block < W.heap.size := fun x hx => by simpa using hW'.lt x hx
  have hargs : ∀ (W' : World), Below W.heap.size W W' → DataW.Trod enc Try.prog W' 0 (fun b => decide (b < W.heap.size)) true 37 (.slice a0 len cap) d0 p :=
    fun W' hn => Below.trod laidOut (by kernel_rfl) (of_decide_eq_true (by kernel_rfl)) h0k hn hlt
  have key : ∃ z : Nat → Int, (∀ k, k < len → -9223372036854775808 ≤ z k ∧ z k ≤ 9223372036854775807) ∧ (0 < len → ∃ g o, a0 = some ⟨g, o, none⟩ ∧ g < W.heap.size ∧ ∀ k, k < len → W.cell? ⟨g, o + k, none⟩ = some (.int .i64 (z k))) ∧ len ≤ 9223372036854775807 := by
    rcases open_ints Try.underlying37 Try.underlying3 cells3 hf with ⟨hcs, hx⟩ | ⟨a, len', cap', zs, hcs, _, hl, hm, hz, hx, hcell, hwz⟩
    · simp [Value.cells] at hcs
      obtain ⟨rfl, rfl, rfl⟩ := hcs
      exact ⟨fun _ => 0, by omega, by omega, by omega⟩
    · simp [Value.cells] at hcs
      obtain ⟨rfl, rfl, rfl⟩ := hcs
      simp only [if_true] at hz
      refine ⟨fun k => zs.getD k 0, fun k hk => ?_, fun hp => ?_, by unfold maxLen at hm; omega⟩
      · have hmem : zs.getD k 0 ∈ zs := by
          rw [List.getD_eq_getElem?_getD, List.getElem?_eq_getElem (by omega)]
          exact List.getElem_mem _
        have := hwz _ hmem
        simpa [Lit.wf, show IntKind.i64.min = -9223372036854775808 from rfl] using this
      · obtain ⟨b, off, spot⟩ := a
        have hspot : spot = none := by simpa [Addr.add] using World.cell?_spot (hcell 0 (by omega))
        subst hspot
        have hc0 := hcell 0 (by omega)
        exact ⟨b, off, rfl, World.block_lt_of_cell? W _ hc0, fun k hk => by rw [← add_plain]; exact hcell k (by omega)⟩
  obtain ⟨z, hz, hr, hn⟩ := key
  refine (walk a0 len cap z W hz hr hn).mono fun e W' ⟨he, hg⟩ => ?_
  subst he
  exact ⟨_, rfl, _, _, _, [], p, [], hW', (trodAll_cons_mk (shut_bool Try.underlying4 _) trodAll_mk0), trodAll_mk1 (hargs _ hg), rfl, hg.frame _, fun h => by cases h⟩

theorem over : Rows.bankKeepsRow.holds Try.pinned (OpenSpec.ofChange Rows.bankKeepsSpec) :=
  OpenClaim.holds_of_wide 5 Try.f5 rfl rfl rfl rfl rfl rfl rfl ⟨rfl, rfl, rfl, rfl, rfl⟩ rfl rfl rfl rfl rfl (by kernel_rfl) Try.func5 (by kernel_rfl)
    (of_decide_eq_true (by kernel_rfl)) (by unfold Func.isWrapper; first | (rw [if_pos (by decide +kernel)]; kernel_rfl) | (rw [if_neg (by decide +kernel)]; exact ⟨rfl, rfl⟩))
    (fun os started H enc _ => lifted os started H enc)

/-- ████ THE STATEMENT ████ -/
theorem proved : Rows.BankKeepsSaid :=
  over
#print axioms proved
end Go.Proofs.Ytlgebdoadfljhaa.bankKeeps
