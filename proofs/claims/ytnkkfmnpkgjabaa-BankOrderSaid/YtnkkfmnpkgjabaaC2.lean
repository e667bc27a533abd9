/- The bank: texts in order, where a fund stands, what an account has. -/

import Derived.Test.YtnkkfmnpkgjabaaQ1
namespace Go.Proofs.Ytnkkfmnpkgjabaa.X
set_option linter.unusedVariables false
set_option maxRecDepth 10000

theorem isNaN_c (s : Txt) : APure Try.prog 101 [sA s] (bA false) := fun bs => by
  refine ACalls.in_ Try.func101 Try.ntmps101 (h := ?_)
  (repeat refine go (h := ?_))
  exact EndQ.fin (bs' := bs) (h := ⟨by simp, rfl⟩)
theorem compare_c (a b : Txt) : APure Try.prog 82 [sA a, sA b] (iA (cmpT a b)) := fun bs => by
  refine ACalls.in_ Try.func82 Try.ntmps82 (h := ?_)
  (repeat refine go (h := ?_))
  refine AL.call (isNaN_c a) (h := ?_)
  (repeat refine go (h := ?_))
  refine AL.call (isNaN_c b) (h := ?_)
  (repeat refine go (h := ?_))
  refine AW.cond rfl (fun h => ?_) (fun h => ?_)
  · repeat refine go (h := ?_)
    exact EndQ.fin (bs' := bs) (h := ⟨by unfold cmpT; rw [if_pos h], rfl⟩)
  · repeat refine go (h := ?_)
    have h2 : (!(Op.bytesLess a.toList b.toList || decide (a = b))) = Op.bytesLess b.toList a.toList := by
      rw [h, Bool.false_or]
      have h' : ¬ Op.bytesLess a.toList b.toList = true := by simp [h]
      rw [less_iff] at h'
      by_cases e : a = b
      · subst e; rw [h]; simp
      · have : Op.bytesLess b.toList a.toList = true := by
          rw [less_iff]
          rcases List.le_iff_lt_or_eq.1 (List.not_lt.1 h') with h3 | h3
          · exact h3
          · exact absurd (toList_inj h3).symm e
        simp [e, this]
    refine AW.cond rfl (fun h3 => ?_) (fun h3 => ?_)
    · repeat refine go (h := ?_)
      exact EndQ.fin (bs' := bs) (h := ⟨by unfold cmpT; rw [if_neg (by simp [h]), if_pos (h2 ▸ h3)], rfl⟩)
    · repeat refine go (h := ?_)
      exact EndQ.fin (bs' := bs) (h := ⟨by unfold cmpT; rw [if_neg (by simp [h]), if_neg (by rw [← h2, h3]; simp)], rfl⟩)
theorem or_c (x y : Int) : APure Try.prog 81 [.sl [intR x, intR y]] (iA (orI x y)) := fun bs => by
  refine ACalls.in_ Try.func81 Try.ntmps81 (h := ?_)
  (repeat refine go (h := ?_))
  refine AW.loop (fun k : Nat => [(8, iA k), (7, iA 2), (6, .sl [intR x, intR y]), (3, iA 0)]) (fun _ => bs) (fun k => k ≤ 2 ∧ (0 < k → x = 0) ∧ (1 < k → y = 0)) (fun k => 2 - k) 0 ⟨by omega, by omega, by omega⟩ (by repeat (first | exact Sub.nil | refine Sub.cons (k := ?_))) rfl fun k ⟨hk, h1, h2⟩ => ?_
  by_cases hlt : k < 2
  · obtain ⟨q, hq, hq2⟩ : ∃ q, [intR x, intR y][k]? = some (intR q) ∧ (k = 0 ∧ q = x ∨ k = 1 ∧ q = y) := by
      obtain rfl | rfl : k = 0 ∨ k = 1 := by omega
      · exact ⟨x, rfl, .inl ⟨rfl, rfl⟩⟩
      · exact ⟨y, rfl, .inr ⟨rfl, rfl⟩⟩
    have hl : (intR q).length = 1 := rfl
    (repeat refine go (h := ?_))
    refine AW.ifne rfl (fun h => ?_) (fun h => ?_)
    · repeat refine go (h := ?_)
      refine EndQ.fin (bs' := bs) (h := ⟨?_, rfl⟩)
      unfold orI
      rcases hq2 with ⟨rfl, rfl⟩ | ⟨rfl, rfl⟩
      · rw [if_neg h]
      · rw [if_pos (h1 (by omega))]
    · repeat refine go (h := ?_)
      refine loopQ.n (k + 1) ⟨by omega, fun _ => ?_, fun _ => ?_⟩ (by omega) (by repeat (first | exact Sub.nil | refine Sub.cons (k := ?_))) (by repeat (first | exact List.Sublist.refl _ | apply List.Sublist.cons | apply Sl.gB))
      · rcases hq2 with ⟨rfl, rfl⟩ | ⟨rfl, rfl⟩
        · exact h
        · exact h1 (by omega)
      · rcases hq2 with ⟨rfl, rfl⟩ | ⟨rfl, rfl⟩
        · omega
        · exact h
  · repeat refine go (h := ?_)
    exact EndQ.fin (bs' := bs) (h := ⟨by unfold orI; rw [if_pos (h1 (by omega)), h2 (by omega)], rfl⟩)
theorem order_c (f g : SFund) : APure Try.prog 59 [.agg (rFund f), .agg (rFund g)] (iA (fcmp f.key g.key)) := fun bs => by
  refine ACalls.in_ Try.func59 Try.ntmps59 (h := ?_)
  (repeat refine go (h := ?_)); intro g2; (repeat refine go (h := ?_)); intro g3; (repeat refine go (h := ?_))
  (repeat refine goD (h := ?_))
  refine ADl.call (compare_c f.Account g.Account) (h := ?_)
  (repeat refine goD (h := ?_))
  refine ADl.call (compare_c f.Asset g.Asset) (h := ?_)
  (repeat refine goD (h := ?_))
  refine ADl.call (or_c _ _) (h := ?_)
  (repeat refine goD (h := ?_)); (repeat refine go (h := ?_))
  exact EndQ.fin (bs' := bs) (h := ⟨rfl, rfl⟩)
end Go.Proofs.Ytnkkfmnpkgjabaa.X
