/- The bank's inner functions as partial functions: what an account has, what is put. -/
import Derived.Test.YtnkkfmnpkgjabaaC6
namespace Go.Proofs.Ytnkkfmnpkgjabaa.X
open Classical
set_option linter.unusedVariables false
set_option linter.unusedSimpArgs false
set_option maxRecDepth 10000

theorem ite_some {α : Type} {p : Prop} [Decidable p] {x r : α} (h : (if p then some x else none) = some r) : p ∧ x = r := by
  by_cases hp : p
  · rw [if_pos hp] at h; exact ⟨hp, Option.some.inj h⟩
  · rw [if_neg hp] at h; cases h
noncomputable def x_has (b : SBook) (who ast : Txt) : Option Int := if Sorted b.Funds ∧ b.Funds.length ≤ 1000000 then some (amtF b.Funds (who, ast)) else none
theorem c_x_has {b : SBook} {who ast : Txt} {r : Int} (hF : x_has b who ast = some r) : APure Try.prog 43 [.agg (rBook b), sA who, sA ast] (iA r) := by
  unfold x_has at hF
  obtain ⟨⟨h1, h2⟩, rfl⟩ := ite_some hF
  exact has_c b who ast _ (posF_parts h1 (who, ast)) h2
noncomputable def x_put (b : SBook) (who ast : Txt) (n : Int) : Option SBook :=
  if Sorted b.Funds ∧ b.Funds.length ≤ 1000000 ∧ -4611686018427387904 ≤ amtF b.Funds (who, ast) + n ∧ amtF b.Funds (who, ast) + n ≤ 4611686018427387904 then some { b with Funds := setF b.Funds (who, ast) (amtF b.Funds (who, ast) + n) } else none
theorem c_x_put {b : SBook} {who ast : Txt} {n : Int} {r : SBook} (hF : x_put b who ast n = some r) : APure Try.prog 41 [.agg (rBook b), sA who, sA ast, iA n] (.agg (rBook r)) := by
  unfold x_put at hF
  obtain ⟨⟨h1, h2, h3, h4⟩, rfl⟩ := ite_some hF
  exact put_c b who ast n _ (posF_parts h1 (who, ast)) h2 ⟨h3, h4⟩
end Go.Proofs.Ytnkkfmnpkgjabaa.X
