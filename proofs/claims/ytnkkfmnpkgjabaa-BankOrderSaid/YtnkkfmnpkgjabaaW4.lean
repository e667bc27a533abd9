/- 'BankOrder': whatever the numbers, the law answers true and nothing that was there has turned; no condition. -/
import Derived.Test.YtnkkfmnpkgjabaaRows
import Derived.WalkKit
import Derived.ProofKit
import Derived.OpenShut
import Derived.Below
import Derived.Carry
import Derived.ChangeSlices
import Derived.Test.YtnkkfmnpkgjabaaW1
import Derived.Test.YtnkkfmnpkgjabaaR9
namespace Go.Proofs.Ytnkkfmnpkgjabaa.bankOrder
open Go.ChangeShapes Go.WideShapes Go.ChangeAt Go.RowKit Go.Proofs.Ytnkkfmnpkgjabaa.X
set_option linter.unusedVariables false
set_option linter.unusedSimpArgs false

theorem own : ownKnob Try.prog.godebug = none := by kernel_rfl
theorem laidOut : laidOutB Try.prog = true := by kernel_rfl

set_option maxRecDepth 100000 in
theorem lifted (os : Os) (started : os.Started) (H : Type) (enc : TypeId × Value → H) :
    ReturnsInHanded {} Try.checked os 5 .any (Rows.bankOrderSpec.pre6 enc Try.prog Try.f5 Rows.bankOrderRow.domain false) (Rows.bankOrderSpec.post enc Try.prog Try.f5 false true false false) := by
  refine returnsInHanded_of_change (C := Try.checked) own started (by kernel_rfl) Try.func5
    (ChangeSpec.witness6 (enc := enc) (C := Try.checked) false ⟨#[], #[.slice none 0 0], []⟩ 8 (by kernel_rfl) (by kernel_rfl) (by kernel_rfl) (by kernel_rfl)) ?_
  intro W base args ds gs before hval0 hW hcnd _
  have hval : ∀ (j : Nat) t v, Try.f5.params[j]? = some t → args[j]? = some v → Value.okWide Try.prog W .any base t v := hval0
  have hW' := hW
  obtain ⟨p, q, hA0, hV, rfl, hfz, hnd⟩ := hW
  have hA : DataW.TrodAll enc Try.prog W 0 (fun _ => true) true Try.f5.params.toList args.toList ds p := hA0
  rw [Try.params5] at hA hval
  obtain ⟨v0, d0, rfl, rfl, h0⟩ := trodAll_one hA
  obtain ⟨rfl, rfl⟩ := trodVars_none hV
  obtain ⟨a0, len, cap, rfl⟩ := okWide_slice Try.underlying56 (hval 0 56 v0 rfl rfl)
  have h0k := h0
  obtain ⟨fuel, hf⟩ := h0
  clear hA0 hval0
  simp only [List.append_nil] at hW'
  have hlt : ∀ x ∈ p, x.block < W.heap.size := fun x hx => by simpa using hW'.lt x hx
  have hargs : ∀ (W' : World), Below W.heap.size W W' → DataW.Trod enc Try.prog W' 0 (fun b => decide (b < W.heap.size)) true 56 (.slice a0 len cap) d0 p :=
    fun W' hn => Below.trod laidOut (by kernel_rfl) (of_decide_eq_true (by kernel_rfl)) h0k hn hlt
  obtain ⟨zs, ⟨hz1, hz2⟩, hzr⟩ := reads_slice (sz := 1) Try.underlying56 (reads_i64 Try.underlying3) (fun _ => rfl) (Nat.lt_succ_self 0) (by kernel_rfl) _ _ _ _ _ _ _ _ _ hf
  have hcall := c_law9_BankOrder (order_eq zs) [] W #[.slice a0 len cap] rfl (fun k x hk => by
    cases k with
    | zero => simp at hk; subst hk; exact hzr.rep1
    | succ k => simp at hk) .none
  refine hcall.mono fun e W' ⟨u, r, bs', he, ⟨hr, hbs⟩, hrep, _, hext⟩ => ?_
  subst he hr hbs
  have hg := Ext.belowNone hext
  have hu : u = .bool true := by cases hrep; rfl
  subst hu
  exact ⟨_, rfl, _, _, _, [], p, [], hW', (trodAll_cons_mk (shut_bool Try.underlying4 _) trodAll_mk0), trodAll_mk1 (hargs _ hg), rfl, hg.frame _, fun h => by cases h⟩

theorem over : Rows.bankOrderRow.holds Try.pinned (OpenSpec.ofChange Rows.bankOrderSpec) :=
  OpenClaim.holds_of_wide 5 Try.f5 rfl rfl rfl rfl rfl rfl rfl ⟨rfl, rfl, rfl, rfl, rfl⟩ rfl rfl rfl rfl rfl (by kernel_rfl) Try.func5 (by kernel_rfl)
    (of_decide_eq_true (by kernel_rfl)) (by unfold Func.isWrapper; first | (rw [if_pos (by decide +kernel)]; kernel_rfl) | (rw [if_neg (by decide +kernel)]; exact ⟨rfl, rfl⟩))
    (fun os started H enc _ => lifted os started H enc)

/-- ████ THE STATEMENT ████ -/
theorem proved : Rows.BankOrderSaid :=
  over
#print axioms proved
end Go.Proofs.Ytnkkfmnpkgjabaa.bankOrder
