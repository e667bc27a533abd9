/- Plain laws: any calls. -/
import Derived.Test.YtnkkfmnpkgjabaaR6
import Derived.Test.YtnkkfmnpkgjabaaF7
namespace Go.Proofs.Ytnkkfmnpkgjabaa.X
set_option linter.unusedVariables false
set_option linter.unusedSimpArgs false
set_option maxRecDepth 10000

theorem plays_round (l : List Slaw09Op) (k : Nat) (b : SBook) (h : InvB b (2 * k)) (hk : k < l.length) (hk2 : k < 80) :
    l_law9_BankPlays_b0 l k b b = some (.inr (.inr true)) ∨ ∃ c, l_law9_BankPlays_b0 l k b b = some (.inl (((k + 1 : Nat) : Int), c, c)) ∧ InvB c (2 * (k + 1)) := by
  have hx := List.getElem?_eq_getElem hk
  generalize l[k] = v at hx
  unfold l_law9_BankPlays_b0
  rw [lt_k hx, decide_eq_true (show (k : Int) < 80 by omega), Bool.and_self, cond_true, idx_k hx, Option.bind_some]
  generalize IntKind.wrap .i64 ((IntKind.wrap .i64 ((v.Who.size : Int) + (v.Whom.size : Int))) + (v.Asset.size : Int)) = n
  by_cases hn : n > 100
  · left
    rw [decide_eq_true hn, cond_true, awake_eq, Option.bind_some]
  · right
    obtain ⟨c, hc, hi⟩ := step_eq h (by omega) v
    refine ⟨c, ?_, hi⟩
    rw [decide_eq_false hn, cond_false, hc, Option.bind_some]
    dsimp only
    rw [Bool.not_true, cond_false, wrap_i64 (show -9223372036854775808 ≤ (k : Int) + 1 ∧ (k : Int) + 1 ≤ 9223372036854775807 by omega)]
    simp
theorem plays_end (l : List Slaw09Op) (k : Nat) (b : SBook) (hk : k = l.length ∨ k = 80) : l_law9_BankPlays_b0 l k b b = some (.inr (.inl ((k : Int), b, b))) := by
  have : (decide ((k : Int) < (l.length : Int)) && decide ((k : Int) < 80)) = false := by
    rcases hk with h | h
    · subst h; simp
    · subst h; simp
  unfold l_law9_BankPlays_b0
  rw [this, cond_false]
theorem plays_loop (l : List Slaw09Op) (d : Nat) : ∀ (k : Nat) (b : SBook), InvB b (2 * k) → k + d = min l.length 80 →
    ∃ o, loopF (τ := ((Int × SBook × SBook) ⊕ Bool)) (fun s : Int × SBook × SBook => l_law9_BankPlays_b0 l s.1 s.2.1 s.2.2) ((k : Int), b, b) = some o ∧ (o = .inr true ∨ ∃ j c, o = .inl (j, c, c) ∧ InvB c 200) := by
  induction d with
  | zero =>
    intro k b h hk
    exact ⟨_, loopF_inr (by exact plays_end l k b (by omega)), .inr ⟨_, _, rfl, h.mono (by omega)⟩⟩
  | succ d ih =>
    intro k b h hk
    rcases plays_round l k b h (by omega) (by omega) with hr | ⟨c, hc, hi⟩
    · exact ⟨_, loopF_inr (by exact hr), .inl rfl⟩
    · obtain ⟨e, he, hp⟩ := ih (k + 1) c hi (by omega)
      exact ⟨e, (loopF_inl (by exact hc)).trans he, hp⟩
theorem plays_eq (n : Int) (l : List Slaw09Op) : l_law9_BankPlays n l = some true := by
  obtain ⟨o, he, ho⟩ := plays_loop l _ 0 (SBook.mk (max 0 (min n 3)) 0 [] [] []) (InvB.new _) (Nat.zero_add _)
  unfold l_law9_BankPlays
  rw [show l_bank_New n = some (SBook.mk (max 0 (min n 3)) 0 [] [] []) from rfl, show l_ref9_New n = some (SBook.mk (max 0 (min n 3)) 0 [] [] []) by unfold l_ref9_New; rw [show min (max n 0) 3 = max 0 (min n 3) by omega], Option.bind_some, Option.bind_some]
  rw [show ((0 : Int), SBook.mk (max 0 (min n 3)) 0 [] [] [], SBook.mk (max 0 (min n 3)) 0 [] [] []) = (((0 : Nat) : Int), SBook.mk (max 0 (min n 3)) 0 [] [] [], SBook.mk (max 0 (min n 3)) 0 [] [] []) from rfl, he, Option.bind_some]
  rcases ho with rfl | ⟨j, c, rfl, hc⟩
  · rfl
  · have h1 := hc.accs; have h2 := hc.funds
    show Option.bind _ _ = _
    rw [refSame_eq c c hc.esc hc.esc (by omega) (by omega), sameB_refl hc.esc, Option.bind_some, awake_eq]
    rfl
end Go.Proofs.Ytnkkfmnpkgjabaa.X
