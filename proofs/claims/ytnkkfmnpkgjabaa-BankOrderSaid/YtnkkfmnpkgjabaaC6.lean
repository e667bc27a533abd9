/- The bank: an amount is put. -/
import Derived.Test.YtnkkfmnpkgjabaaC5
namespace Go.Proofs.Ytnkkfmnpkgjabaa.X
set_option linter.unusedVariables false
set_option linter.unusedSimpArgs false
set_option maxRecDepth 10000

/-- What putting leaves ahead of the end. -/
def PutR (b : SBook) (res : List SFund) (bs : BS) (y : A) (b' : BS) : Prop :=
  ∃ q, y = .agg [iA b.Number, iA b.Time, .sl (b.Accounts.map strR), q, .sl (b.Escrows.map rEscrow)] ∧
    ((q = .nil ∨ q = .clip []) ∧ res = [] ∧ b' = bs ∨ ∃ g c n rs, q = .ms g 0 n c ∧ b' = (g, .rows rs c 3 tF) :: bs ∧ rs.take n = res.map rFund ∧ n ≤ rs.length ∧ n ≤ c)
theorem PutR.leave {b : SBook} {res : List SFund} {bs : BS} {y : A} {b' : BS} (h : PutR b res bs y b') : ∃ b2 y', Leave b' y b2 y' ∧ y' = bkA { b with Funds := res } ∧ b2 = bs := by
  obtain ⟨q, rfl, ⟨hq, rfl, rfl⟩ | ⟨g, c, n, rs, rfl, rfl, h1, h2, h3⟩⟩ := h
  · refine ⟨_, _, .less (List.Sublist.refl _) (Wk.aggs (.cons (.refl _) (.cons (.refl _) (.cons (.refl _) (.cons ?_ (.cons (.refl _) .nil))))) rfl), rfl, rfl⟩
    rcases hq with rfl | rfl
    · exact .nil
    · exact .clip _
  · exact ⟨_, _, .frz List.mem_cons_self (List.Sublist.cons _ (List.Sublist.refl _)) (fun hn => (List.nodup_cons.1 hn).1) (FrzV.aggs (.cons (.refl _) (.cons (.refl _) (.cons (.refl _) (.cons (.ms h2 h3 (Nat.le_refl _) h1) (.cons (.refl _) .nil)))))), rfl, rfl⟩
theorem put_c (b : SBook) (who ast : Txt) (by_ : Int) (p : Nat) (hp : Parts b.Funds (who, ast) p) (hl : b.Funds.length ≤ 1000000) (hb : -4611686018427387904 ≤ amtAt b.Funds (who, ast) p + by_ ∧ amtAt b.Funds (who, ast) p + by_ ≤ 4611686018427387904) :
    APure Try.prog 41 [bkA b, sA who, sA ast, iA by_] (bkA { b with Funds := putF b.Funds (who, ast) p (amtAt b.Funds (who, ast) p + by_) }) := fun bs => by
  refine ACalls.leave (R := PutR b (putF b.Funds (who, ast) p (amtAt b.Funds (who, ast) p + by_)) bs) ?_ fun _ _ h => h.leave
  have hple := hp.le
  have hs := funds_len b.Funds
  refine ACalls.in_ Try.func41 Try.ntmps41 (h := ?_)
  (repeat refine go (h := ?_)); intro g4; (repeat refine go (h := ?_)); intro g8; (repeat refine go (h := ?_)); intro g9; (repeat refine go (h := ?_))
  refine AL.call (find_c b.Funds ⟨who, ast, 0⟩ p hp hl) (h := ?_)
  (repeat refine go (h := ?_))
  refine AL.call (has_c b who ast p hp hl) (h := ?_)
  (repeat refine go (h := ?_))
  have hkey : SFund.key ⟨who, ast, 0⟩ = (who, ast) := rfl
  rw [hkey]
  generalize amtAt b.Funds (who, ast) p + by_ = n at *
  generalize hfd : foundAt b.Funds (who, ast) p = fd at *
  refine AL.callw (clone_c b.Funds hl _) (h := fun y bs' hy => ?_)
  rcases hy with ⟨h0, rfl, hy⟩ | ⟨g, c, rfl, rfl, hc⟩
  · have hfd0 : fd = false := by rw [← hfd, h0]; rfl
    subst hfd0
    have hp0 : p = 0 := by rw [h0] at hple; simpa using hple
    subst hp0
    by_cases hn : n = 0
    · subst hn
      rcases hy with rfl | rfl
      all_goals
        (repeat refine go (h := ?_))
        refine EndQ.fin (bs' := bs) (h := ⟨_, rfl, .inl ⟨?_, ?_, rfl⟩⟩)
        · simp
        · unfold putF; rw [hfd, h0]; simp
    · have hnd : decide (n = 0) = false := by simpa using hn
      have hins : putF b.Funds (who, ast) 0 n = [⟨who, ast, n⟩] := by unfold putF; rw [hfd, h0]; simp [insF, hn]
      have hyy := hy
      rcases hy with rfl | rfl
      all_goals
        (repeat refine go (h := ?_))
        refine AW.cond rfl (fun h => ?_) (fun h => ?_)
        · exfalso; simp at h
        · clear h
          (repeat refine go (h := ?_))
          refine AW.ifne rfl (fun h => ?_) (fun h => absurd h hn)
          (repeat refine go (h := ?_))
          refine AL.callw (insert_new _ ⟨who, ast, n⟩ _ hyy) (h := fun y bs' ⟨g, c, e1, e2, e3⟩ => ?_)
          subst e1; subst e2
          (repeat refine go (h := ?_))
          refine EndQ.fin (bs' := (g, .rows [rFund ⟨who, ast, n⟩] c 3 tF) :: bs) (h := ⟨_, rfl, .inr ⟨g, c, 1, _, rfl, rfl, ?_, ?_, e3⟩⟩) (hs := .cons_cons _ (.cons _ (.cons _ (.cons _ (.refl _)))))
          · rw [hins]; rfl
          · simp
  · have hd : ∀ f : SFund, rFund f = [sA f.Account, sA f.Asset, iA f.Amount] := fun _ => rfl
    (repeat refine go (h := ?_))
    refine AW.cond rfl (fun h => ?_) (fun h => ?_)
    · have hn : n = 0 ∧ fd = true := by simpa using h
      obtain ⟨rfl, rfl⟩ := hn
      clear h
      have hpl : p < b.Funds.length := by
        unfold foundAt at hfd
        split at hfd
        · rename_i f hf; exact (List.getElem?_eq_some_iff.1 hf).1
        · cases hfd
      (repeat refine go (h := ?_))
      refine AL.callw (delete_c g c p b.Funds _ _ hpl hc hl .head) (h := fun y bs' hR => ?_)
      obtain ⟨e1, e2⟩ := hR
      subst e1; subst e2
      (repeat refine go (h := ?_))
      refine EndQ.fin (bs' := (g, .rows (over (over (b.Funds.map rFund) p ((b.Funds.map rFund).drop (p + 1))) (b.Funds.length - 1) [zeroF]) c 3 tF) :: bs) (h := ⟨_, rfl, .inr ⟨g, c, b.Funds.length - 1, _, rfl, rfl, ?_, ?_, by omega⟩⟩) (hs := .cons_cons _ (.cons _ (.cons _ (.cons _ (.refl _)))))
      · have := over_erase (b.Funds.map rFund) p zeroF (by simpa using hpl)
        rw [List.length_map] at this
        rw [this]
        unfold putF; rw [hfd, if_pos rfl, if_pos rfl]; simp only [List.eraseIdx_eq_take_drop_succ, List.map_append, List.map_take, List.map_drop]
      · have := over_erase_len (b.Funds.map rFund) p zeroF (by simpa using hpl)
        rw [List.length_map] at this
        rw [this]; omega
    · (repeat refine go (h := ?_))
      refine AW.cond rfl (fun h2 => ?_) (fun h2 => ?_)
      · subst h2
        have hn : n ≠ 0 := by simpa using h
        have hpl : p < b.Funds.length := by
          unfold foundAt at hfd
          split at hfd
          · rename_i f hf; exact (List.getElem?_eq_some_iff.1 hf).1
          · cases hfd
        obtain ⟨f0, hf0⟩ : ∃ f, b.Funds[p]? = some f := ⟨_, List.getElem?_eq_getElem hpl⟩
        have hf1 : (b.Funds.map rFund)[p]? = some (rFund f0) := by rw [List.getElem?_map, hf0]; rfl
        (repeat refine go (h := ?_))
        refine EndQ.fin (bs' := (g, .rows ((b.Funds.map rFund).set p (rFund ⟨who, ast, n⟩)) c 3 tF) :: bs) (h := ⟨_, rfl, .inr ⟨g, c, b.Funds.length, _, rfl, rfl, ?_, by simp, hc⟩⟩) (hs := .cons_cons _ (.cons _ (.cons _ (.cons _ (.refl _)))))
        unfold putF; rw [hfd, if_pos rfl, if_neg hn, List.take_of_length_le (by simp), List.map_set]
      · subst h2
        (repeat refine go (h := ?_))
        refine AW.ifne rfl (fun hn => ?_) (fun hn => ?_)
        · have hputs : putF b.Funds (who, ast) p n = insF b.Funds p ⟨who, ast, n⟩ := by unfold putF; rw [hfd, if_neg (by simp), if_neg hn]
          rw [hputs]
          by_cases hpe : p = b.Funds.length
          · subst hpe
            (repeat refine go (h := ?_))
            refine AL.callw (insert_end g c b.Funds ⟨who, ast, n⟩ _ (fun g' b' => (g', b') :: _) (fun _ _ => .head) hc hl) (h := fun y bs' hR => ?_)
            obtain ⟨g', c', e1, e2, e3⟩ := hR
            subst e1; subst e2
            (repeat refine go (h := ?_))
            refine EndQ.fin (bs' := (g', .rows ((b.Funds ++ [(⟨who, ast, n⟩ : SFund)]).map rFund) c' 3 tF) :: bs) (h := ⟨_, rfl, .inr ⟨g', c', b.Funds.length + 1, _, rfl, rfl, ?_, by simp, e3⟩⟩) (hs := .cons_cons _ (.cons _ (.cons _ (.cons _ (.refl _)))))
            rw [List.take_of_length_le (by simp)]
            unfold insF; simp
          · have hpl : p < b.Funds.length := by omega
            iterate 5 refine go (h := ?_)
            refine AL.lits_own (h := fun g2 => ?_)
            refine AL.nodup (fun hnd => ?_)
            have hne : g2 ≠ g := by intro e; subst e; simp at hnd
            clear hnd
            by_cases hroom : b.Funds.length < c
            · refine AL.callw (insert_room g g2 c 1 p b.Funds ⟨who, ast, n⟩ _ _ (.tail .head) List.mem_cons_self hne hpl hroom hl) (h := fun y bs' hR => ?_)
              obtain ⟨e1, e2⟩ := hR
              subst e1; subst e2
              (repeat refine go (h := ?_))
              refine EndQ.fin (bs' := (g, .rows ((insF b.Funds p ⟨who, ast, n⟩).map rFund) c 3 tF) :: bs) (h := ⟨_, rfl, .inr ⟨g, c, b.Funds.length + 1, _, rfl, rfl, ?_, ?_, by omega⟩⟩) (hs := .cons _ (.cons_cons _ (.cons _ (.cons _ (.cons _ (.refl _))))))
              · rw [List.take_of_length_le (by rw [List.length_map, insF_len _ _ _ hple]; exact Nat.le_refl _)]
              · rw [List.length_map, insF_len _ _ _ hple]; exact Nat.le_refl _
            · refine AL.callw (insert_grow g g2 c 1 p b.Funds ⟨who, ast, n⟩ _ (.tail _ (.head _)) List.mem_cons_self hpl (by omega) hl) (h := fun y bs' hR => ?_)
              obtain ⟨g', c', e1, e2, e3⟩ := hR
              subst e1; subst e2
              (repeat refine go (h := ?_))
              refine EndQ.fin (bs' := (g', .rows ((insF b.Funds p ⟨who, ast, n⟩).map rFund) c' 3 tF) :: bs) (h := ⟨_, rfl, .inr ⟨g', c', b.Funds.length + 1, _, rfl, rfl, ?_, ?_, by omega⟩⟩) (hs := .cons_cons _ (.cons _ (.cons _ (.cons _ (.cons _ (.cons _ (.refl _)))))))
              · rw [List.take_of_length_le (by rw [List.length_map, insF_len _ _ _ hple]; exact Nat.le_refl _)]
              · rw [List.length_map, insF_len _ _ _ hple]; exact Nat.le_refl _
        · (repeat refine go (h := ?_))
          refine EndQ.fin (bs' := (g, .rows (b.Funds.map rFund) c 3 tF) :: bs) (h := ⟨_, rfl, .inr ⟨g, c, b.Funds.length, _, rfl, rfl, ?_, by simp, hc⟩⟩) (hs := .cons_cons _ (.cons _ (.cons _ (.cons _ (.refl _)))))
          unfold putF; rw [hfd, if_neg (by simp), if_pos hn, List.take_of_length_le (by simp)]
end Go.Proofs.Ytnkkfmnpkgjabaa.X
