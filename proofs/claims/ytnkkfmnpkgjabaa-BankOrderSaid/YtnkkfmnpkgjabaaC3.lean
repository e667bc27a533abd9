/- The bank: where a fund stands, what an account has. -/
import Derived.Test.YtnkkfmnpkgjabaaC2
namespace Go.Proofs.Ytnkkfmnpkgjabaa.X
set_option linter.unusedVariables false
set_option maxRecDepth 10000

theorem bsf_c (l : List SFund) (q : SFund) (p : Nat) (hp : Parts l q.key p) (hl : l.length ≤ 1000000) : APure Try.prog 80 [.sl (l.map rFund), .agg (rFund q), .fn (.func 59) [] []] (.tup [iA p, bA (foundAt l q.key p)]) := fun bs => by
  refine ACalls.in_ Try.func80 Try.ntmps80 (h := ?_)
  (repeat refine go (h := ?_)); intro g; (repeat refine go (h := ?_))
  have hple := hp.le
  refine AW.loop2 (fun i j : Nat => [(10, iA j), (9, iA i), (8, iA l.length), (0, .sl (l.map rFund)), (2, .fn (.func 59) [] []), (4, .ptr g 0)]) (fun _ _ => (g, .cells (rFund q)) :: bs) (fun i j => i ≤ p ∧ p ≤ j ∧ j ≤ l.length) (fun i j => j - i) 0 l.length ⟨by omega, hple, by omega⟩ (by repeat (first | exact Sub.nil | refine Sub.cons (k := ?_))) rfl fun i j ⟨h1, h2, h3⟩ => ?_
  by_cases hlt : i < j
  · obtain ⟨m, hm, hm1, hm2⟩ : ∃ m : Nat, ((i : Int) + j) / 2 = (m : Int) ∧ i ≤ m ∧ m < j := ⟨(i + j) / 2, by omega, by omega, by omega⟩
    obtain ⟨f, hf⟩ : ∃ f, l[m]? = some f := ⟨_, List.getElem?_eq_getElem (by omega)⟩
    (repeat refine go (h := ?_))
    refine AL.s (hq := OpQ.conv_in rfl (by first | exact Wk.refl _ | exact Wk.nil | exact Wk.clip _ | exact Wk.tip _ _ _ | exact Wk.opt _ _ (by first | assumption | rfl) | exact Wk.gr _ _ | exact Wk.nil_gr | exact Wk.trans (Wk.opt _ _ (by first | assumption | rfl)) (by first | exact Wk.gr _ _ | exact Wk.nil | exact Wk.clip _ | exact Wk.tip _ _ _) | exact Wk.aggs (by repeat (first | exact Wks.nil | refine Wks.cons (by first | exact Wk.refl _ | exact Wk.nil | exact Wk.clip _ | exact Wk.tip _ _ _ | exact Wk.gr _ _ | exact Wk.nil_gr) ?_)) rfl) (by first | exact wrap_i64 (by omega) | exact wrap_u64 (by omega) | exact wrap_u8 (by omega) | rfl)) (h := ?_)
    (repeat refine go (h := ?_))
    rw [hm]
    refine AL.s (hq := OpQ.conv_in rfl (by first | exact Wk.refl _ | exact Wk.nil | exact Wk.clip _ | exact Wk.tip _ _ _ | exact Wk.opt _ _ (by first | assumption | rfl) | exact Wk.gr _ _ | exact Wk.nil_gr | exact Wk.trans (Wk.opt _ _ (by first | assumption | rfl)) (by first | exact Wk.gr _ _ | exact Wk.nil | exact Wk.clip _ | exact Wk.tip _ _ _) | exact Wk.aggs (by repeat (first | exact Wks.nil | refine Wks.cons (by first | exact Wk.refl _ | exact Wk.nil | exact Wk.clip _ | exact Wk.tip _ _ _ | exact Wk.gr _ _ | exact Wk.nil_gr) ?_)) rfl) (by first | exact wrap_i64 (by omega) | exact wrap_u64 (by omega) | exact wrap_u8 (by omega) | rfl)) (h := ?_)
    (repeat refine go (h := ?_))
    (repeat refine goD (h := ?_))
    refine ADl.callv (order_c f q) (h := ?_)
    (repeat refine goD (h := ?_)); (repeat refine go (h := ?_))
    refine AW.ifp rfl (fun h => ?_) (fun h => ?_)
    · have : m < p := by
        rcases Nat.lt_or_ge m p with h' | h'
        · exact h'
        · have := hp.ge m f hf h'; omega
      (repeat refine go (h := ?_))
      exact loopQ.n2 (m + 1) j ⟨by omega, by omega, h3⟩ (by omega) (by repeat (first | exact Sub.nil | refine Sub.cons (k := ?_))) (by repeat (first | exact List.Sublist.refl _ | apply List.Sublist.cons | apply Sl.gB))
    · have : p ≤ m := by
        rcases Nat.lt_or_ge m p with h' | h'
        · exact absurd (hp.lt m f hf h') h
        · exact h'
      (repeat refine go (h := ?_))
      exact loopQ.n2 i m ⟨h1, by omega, by omega⟩ (by omega) (by repeat (first | exact Sub.nil | refine Sub.cons (k := ?_))) (by repeat (first | exact List.Sublist.refl _ | apply List.Sublist.cons | apply Sl.gB))
  · obtain rfl : i = p := by omega
    obtain rfl : j = i := by omega
    (repeat refine go (h := ?_))
    by_cases hj : j < l.length
    · obtain ⟨f, hf⟩ : ∃ f, l[j]? = some f := ⟨_, List.getElem?_eq_getElem (by omega)⟩
      iterate 5 refine goD (h := ?_)
      rw [show decide ((j : Int) < l.length) = true by simp; omega]
      (repeat refine goD (h := ?_))
      refine ADl.callvg (fun _ => order_c f q) (h := ?_)
      (repeat refine goD (h := ?_)); (repeat refine go (h := ?_))
      refine EndQ.fin (bs' := bs) (h := ⟨?_, rfl⟩)
      unfold foundAt; rw [hf]
    · iterate 5 refine goD (h := ?_)
      rw [show decide ((j : Int) < l.length) = false by simp; omega]
      (repeat refine goD (h := ?_)); (repeat refine go (h := ?_))
      refine EndQ.fin (bs' := bs) (h := ⟨?_, rfl⟩)
      unfold foundAt; rw [List.getElem?_eq_none (by omega)]
theorem find_c (l : List SFund) (q : SFund) (p : Nat) (hp : Parts l q.key p) (hl : l.length ≤ 1000000) : APure Try.prog 58 [.sl (l.map rFund), .agg (rFund q), .fn (.func 59) [] []] (.tup [iA p, bA (foundAt l q.key p)]) := fun bs => by
  refine ACalls.in_ Try.func58 Try.ntmps58 (h := ?_)
  (repeat refine go (h := ?_)); intro g; (repeat refine go (h := ?_))
  refine AL.call (bsf_c l q p hp hl) (h := ?_)
  (repeat refine go (h := ?_))
  exact EndQ.fin (bs' := bs) (h := ⟨rfl, rfl⟩)
theorem has_c (b : SBook) (who ast : Txt) (p : Nat) (hp : Parts b.Funds (who, ast) p) (hl : b.Funds.length ≤ 1000000) : APure Try.prog 43 [bkA b, sA who, sA ast] (iA (amtAt b.Funds (who, ast) p)) := fun bs => by
  refine ACalls.in_ Try.func43 Try.ntmps43 (h := ?_)
  (repeat refine go (h := ?_)); intro g; (repeat refine go (h := ?_))
  refine AL.call (find_c b.Funds ⟨who, ast, 0⟩ p hp hl) (h := ?_)
  (repeat refine go (h := ?_))
  have hkey : SFund.key ⟨who, ast, 0⟩ = (who, ast) := rfl
  refine AW.cond rfl (fun h => ?_) (fun h => ?_) <;> rw [hkey] at h
  · obtain ⟨f, hf, hf2⟩ : ∃ f, b.Funds[p]? = some f ∧ fcmp f.key (who, ast) = 0 := by
      unfold foundAt at h
      split at h
      · exact ⟨_, by assumption, by simpa using h⟩
      · cases h
    (repeat refine go (h := ?_))
    exact EndQ.fin (bs' := bs) (h := ⟨by unfold amtAt; rw [hf]; simp only [hf2, if_true], rfl⟩)
  · (repeat refine go (h := ?_))
    refine EndQ.fin (bs' := bs) (h := ⟨?_, rfl⟩)
    unfold amtAt
    unfold foundAt at h
    split at h
    · rename_i f hf; rw [if_neg (by simpa using h)]
    · rfl
end Go.Proofs.Ytnkkfmnpkgjabaa.X
