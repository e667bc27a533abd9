/- Plain laws: gifts, moves, balances; a step to both; the example. -/
import Derived.Test.YtnkkfmnpkgjabaaR4
namespace Go.Proofs.Ytnkkfmnpkgjabaa.X
set_option linter.unusedVariables false
set_option linter.unusedSimpArgs false
set_option maxRecDepth 10000

theorem xassets_eq {b : SBook} {m : Nat} (h : InvB b m) (hm : m ≤ 1000) : x_assets b = some (compT (sortT (b.Funds.map (·.Asset)))) := by
  unfold x_assets
  rw [bankHeld_eq b h.esc, Option.bind_some, if_pos ⟨Nat.le_trans h.funds hm, Nat.zero_le _⟩, List.map_nil, List.append_nil]
theorem bankGive_eq {b : SBook} {m : Nat} (h : InvB b m) (hm : m ≤ 1000) (who ast : Txt) (n : Int) : l_bank_Give b who ast n = some (giveB b who ast n) := by
  have hf := h.funds
  obtain ⟨hd1, hd2⟩ := dist_same h
  have hle := compT_le (sortT (b.Funds.map (·.Asset)))
  rw [sortT_len, List.length_map] at hle
  unfold l_bank_Give giveB
  rw [asks_eq h, Option.bind_some, xassets_eq h hm, Option.bind_some, contains_eq _ _ (by omega), hd2, hd1]
  by_cases h0 : asksB b who ast n = 0
  · obtain ⟨q1, q2, q3, q4⟩ := asksB_zero h0
    have h1 := amtF_le h.nonneg (who, ast)
    have h2 := h.total ast
    rw [if_neg (by simpa using h0), h0]
    show Option.bind _ _ = _
    have hrest : ((l_bank_Total b ast).bind fun x32 => (ensure (-9223372036854775808 ≤ 1125899906842624 - n ∧ 1125899906842624 - n ≤ 9223372036854775807)).bind fun _ => cond (decide (x32 > (1125899906842624 - n))) (some (b, (3 : Int))) ((x_put b who ast n).bind fun x37 => some (x37, 0))) = some (if sumA b.Funds ast + n > 1125899906842624 then (b, 3) else (setB b (who, ast) (amtF b.Funds (who, ast) + n), 0)) := by
      rw [bankTotal_eq b ast h.esc h.smalls (by omega), Option.bind_some, ensure_bind (by omega), xput_eq h (by omega) who ast n (by omega), Option.bind_some]
      by_cases hb : sumA b.Funds ast + n > 1125899906842624
      · rw [decide_eq_true (show sumA b.Funds ast > 1125899906842624 - n by omega), if_pos hb]; rfl
      · rw [decide_eq_false (show ¬ sumA b.Funds ast > 1125899906842624 - n by omega), if_neg hb]; rfl
    by_cases h4 : 4 ≤ (distT b.Funds).length
    · rw [decide_eq_true (show ((distT b.Funds).length : Int) ≥ 4 by omega)]
      show Option.bind (some _) _ = _
      rw [Option.bind_some]
      cases hmem : memT (distT b.Funds) ast
      · rw [if_pos ⟨h4, rfl⟩]; rfl
      · rw [if_neg (by simp)]; exact hrest
    · rw [decide_eq_false (show ¬ ((distT b.Funds).length : Int) ≥ 4 by omega), if_neg (fun hh => h4 hh.1)]
      exact hrest
  · rw [if_pos h0, ne0 h0]; rfl
theorem refGive_eq {b : SBook} {m : Nat} (h : InvB b m) (hm : m ≤ 1000) (who ast : Txt) (n : Int) : l_ref9_Give b who ast n = some (giveB b who ast n) := by
  have hf := h.funds
  have hdl := distT_len b.Funds
  unfold l_ref9_Give giveB
  rw [refPre h who ast n (fun e => (b, e))]
  by_cases h0 : asksB b who ast n = 0
  · obtain ⟨q1, q2, q3, q4⟩ := asksB_zero h0
    have h1 := amtF_le h.nonneg (who, ast)
    have h2 := h.total ast
    have h5 := sum_nonneg h.nonneg ast
    rw [if_neg (by simpa using h0), if_neg (by simpa using h0), refAssets_eq b h.esc (by omega), Option.bind_some]
    rw [found_loop (distT b.Funds) ast false (l_ref9_Give_b0 ast (distT b.Funds)) (by omega) (fun d k hk => by
      have hx := List.getElem?_eq_getElem hk
      unfold l_ref9_Give_b0; rw [lt_k hx, cond_true]) (fun d => by unfold l_ref9_Give_b0; rw [lt_no, cond_false]), Option.bind_some]
    dsimp only
    rw [Bool.false_or]
    have hrest : ((l_ref9_Total b ast).bind fun x43 => (ensure (-9223372036854775808 ≤ x43 + n ∧ x43 + n ≤ 9223372036854775807)).bind fun _ => cond (decide ((x43 + n) > 1125899906842624)) (some (b, (3 : Int))) ((l_ref9_fund b who ast).bind fun x48 => (ensure (-9223372036854775808 ≤ x48 + n ∧ x48 + n ≤ 9223372036854775807)).bind fun _ => (l_ref9_Put b who ast (x48 + n)).bind fun x51 => some (x51, 0))) = some (if sumA b.Funds ast + n > 1125899906842624 then (b, 3) else (setB b (who, ast) (amtF b.Funds (who, ast) + n), 0)) := by
      have h3 : amtF b.Funds (who, ast) ≤ 1125899906842624 := Int.le_trans h1.2 h2
      rw [refTotal_eq b ast h.esc h.smalls (by omega), Option.bind_some, ensure_bind (by omega), fund_eq b who ast (by omega) h.sorted, Option.bind_some, ensure_bind (by omega), refPut_eq b who ast _ (by omega) h.sorted, Option.bind_some]
      by_cases hb : sumA b.Funds ast + n > 1125899906842624
      · rw [decide_eq_true hb, if_pos hb]; rfl
      · rw [decide_eq_false hb, if_neg hb]; rfl
    cases hmem : memT (distT b.Funds) ast
    · by_cases h4 : 4 ≤ (distT b.Funds).length
      · rw [decide_eq_true (show ((distT b.Funds).length : Int) ≥ 4 by omega), if_pos ⟨h4, rfl⟩]; rfl
      · rw [decide_eq_false (show ¬ ((distT b.Funds).length : Int) ≥ 4 by omega), if_neg (fun hh => h4 hh.1)]
        exact hrest
    · rw [if_neg (by simp)]
      exact hrest
  · rw [if_pos h0, if_pos h0]
theorem InvB.give {b : SBook} {m : Nat} (h : InvB b m) (who ast : Txt) (n : Int) : InvB (giveB b who ast n).1 (m + 1) := by
  unfold giveB
  by_cases h0 : asksB b who ast n = 0
  · obtain ⟨q1, q2, q3, q4⟩ := asksB_zero h0
    have h1 := amtF_le h.nonneg (who, ast)
    rw [if_neg (by simpa using h0)]
    split
    · exact h.mono (Nat.le_succ m)
    · split
      · exact h.mono (Nat.le_succ m)
      · exact h.set who ast _ (by omega) (by omega) (name_ne q1)
  · rw [if_pos h0]; exact h.mono (Nat.le_succ m)
def moveB (b : SBook) (who whom ast : Txt) (n : Int) : SBook × Int := if (takeB b who ast n).2 ≠ 0 then (b, (takeB b who ast n).2) else if memT b.Accounts whom = false then (b, 4) else (setB (takeB b who ast n).1 (whom, ast) (amtF (takeB b who ast n).1.Funds (whom, ast) + n), 0)
theorem takeB_ok {b : SBook} {who ast : Txt} {n : Int} (h : (takeB b who ast n).2 = 0) : asksB b who ast n = 0 ∧ n ≤ amtF b.Funds (who, ast) ∧ (takeB b who ast n).1 = setB b (who, ast) (amtF b.Funds (who, ast) - n) := by
  unfold takeB at h ⊢
  by_cases h0 : asksB b who ast n = 0
  · rw [if_neg (by simpa using h0)] at h ⊢
    split at h
    · cases h
    · rename_i hl
      rw [if_neg hl]
      exact ⟨h0, by omega, rfl⟩
  · rw [if_pos h0] at h; exact absurd h h0
theorem bankMove_eq {b : SBook} {m : Nat} (h : InvB b m) (hm : m ≤ 1000) (who whom ast : Txt) (n : Int) : l_bank_Move b who whom ast n = some (moveB b who whom ast n) := by
  have ha := h.accs
  unfold l_bank_Move moveB
  rw [bankTake_eq h (by omega), Option.bind_some]
  by_cases h0 : (takeB b who ast n).2 = 0
  · obtain ⟨h1, h2, h3⟩ := takeB_ok h0
    obtain ⟨q1, q2, q3, q4⟩ := asksB_zero h1
    rw [if_neg (by simpa using h0), h0, contains_eq _ _ (by omega), Option.bind_some, xput_eq (h.take who ast n) (by omega) whom ast n (by omega), Option.bind_some]
    cases memT b.Accounts whom <;> rfl
  · rw [if_pos h0, ne0 h0]; rfl
theorem refMove_eq {b : SBook} {m : Nat} (h : InvB b m) (hm : m ≤ 1000) (who whom ast : Txt) (n : Int) : l_ref9_Move b who whom ast n = some (moveB b who whom ast n) := by
  have ha := h.accs
  unfold l_ref9_Move moveB
  rw [refTake_eq h (by omega), Option.bind_some]
  by_cases h0 : (takeB b who ast n).2 = 0
  · obtain ⟨h1, h2, h3⟩ := takeB_ok h0
    obtain ⟨q1, q2, q3, q4⟩ := asksB_zero h1
    have ht := h.take who ast n
    have hf := ht.funds
    have e1 := amtF_le ht.nonneg (whom, ast)
    have e2 := ht.total ast
    have e3 : amtF (takeB b who ast n).1.Funds (whom, ast) ≤ 1125899906842624 := Int.le_trans e1.2 e2
    rw [if_neg (by simpa using h0), h0, has_eq _ _ (by omega), Option.bind_some, fund_eq _ _ _ (by omega) ht.sorted, Option.bind_some, ensure_bind (by omega), refPut_eq _ _ _ _ (by omega) ht.sorted, Option.bind_some]
    cases memT b.Accounts whom <;> rfl
  · rw [if_pos h0, ne0 h0]; rfl
theorem InvB.move {b : SBook} {m : Nat} (h : InvB b m) (who whom ast : Txt) (n : Int) : InvB (moveB b who whom ast n).1 (m + 2) := by
  unfold moveB
  by_cases h0 : (takeB b who ast n).2 = 0
  · obtain ⟨h1, h2, h3⟩ := takeB_ok h0
    obtain ⟨q1, q2, q3, q4⟩ := asksB_zero h1
    have ht := h.take who ast n
    have e1 := amtF_le ht.nonneg (whom, ast)
    have hsum : sumA (takeB b who ast n).1.Funds ast = sumA b.Funds ast - n := by
      rw [h3]
      show sumA (setF b.Funds (who, ast) _) ast = _
      rw [sumA_set h.sorted, if_pos rfl]; omega
    have := h.total ast
    rw [if_neg (by simpa using h0)]
    split
    · exact h.mono (by omega)
    · exact ht.set whom ast _ (by omega) (by omega) (name_ne q1)
  · rw [if_pos h0]; exact h.mono (by omega)
def balB (b : SBook) (who ast : Txt) : Int × Int := if asksB b who ast 1 ≠ 0 then (0, asksB b who ast 1) else (amtF b.Funds (who, ast), 0)
theorem bankBalance_eq {b : SBook} {m : Nat} (h : InvB b m) (hm : m ≤ 1000) (who ast : Txt) : l_bank_Balance b who ast = some (balB b who ast) := by
  unfold l_bank_Balance balB
  rw [asks_eq h, Option.bind_some, xhas_eq h (by omega), Option.bind_some]
  by_cases h0 : asksB b who ast 1 = 0
  · rw [if_neg (by simpa using h0), h0]; rfl
  · rw [if_pos h0, ne0 h0]; rfl
theorem refBalance_eq {b : SBook} {m : Nat} (h : InvB b m) (hm : m ≤ 1000) (who ast : Txt) : l_ref9_Balance b who ast = some (balB b who ast) := by
  have ha := h.accs
  have hf := h.funds
  unfold l_ref9_Balance balB l_ref4_Name
  rw [Option.bind_some, has_eq _ _ (by omega), Option.bind_some, fund_eq b who ast (by omega) h.sorted, Option.bind_some]
  show cond (!nameB ast) _ _ = _
  unfold asksB
  cases nameB ast
  · rfl
  · cases memT b.Accounts who <;> rfl
/-! ### a step -/
theorem place_eq (v n : Int) (hn : 0 < n ∧ n ≤ 4611686018427387904) : ∃ r, l_law0_Place v n = some r ∧ 0 ≤ r ∧ r < n := by
  have h1 : v.tmod n < n := Int.tmod_lt_of_pos v hn.1
  have h2 : -n < v.tmod n := by
    rw [← Int.neg_neg v, Int.neg_tmod]
    have := Int.tmod_lt_of_pos (-v) hn.1
    omega
  unfold l_law0_Place
  rw [ensure_bind hn.1]
  by_cases hc : v.tmod n < 0
  · rw [decide_eq_true hc, cond_true, ensure_bind (by omega)]
    exact ⟨_, rfl, by omega, by omega⟩
  · rw [decide_eq_false hc, cond_false]
    exact ⟨_, rfl, by omega, by omega⟩
theorem sameB_refl {b : SBook} (h : b.Escrows = []) : sameB b b = true := (sameB_eq h h).2 rfl
theorem step_end {b c : SBook} {m m' : Nat} (hb : InvB b m) (hc : InvB c m') (hm : m ≤ 1000) (hm' : m' ≤ 1000) (e : Int) (he : e ≠ 0 → c = b) (ast : Txt) :
    ((grd ((e == e)) (l_ref9_Same c c)).bind fun x90 => (grd (((e == e) && x90)) (l_ref9_Same b b)).bind fun x92 => (grd (((((e == e) && x90) && x92) && (!(e == 0)))) (l_ref9_Same b c)).bind fun x94 => (grd (((((e == e) && x90) && x92) && ((e == 0) || x94))) (l_bank_Total c ast)).bind fun x96 => (grd (((((e == e) && x90) && x92) && ((e == 0) || x94))) (l_ref9_Total c ast)).bind fun x98 =>
      (grd ((((((e == e) && x90) && x92) && ((e == 0) || x94)) && (x96 == x98))) (l_bank_Same b c)).bind fun x100 => (grd ((((((e == e) && x90) && x92) && ((e == 0) || x94)) && (x96 == x98))) (l_ref9_Same b c)).bind fun x102 => some (c, c, ((((((e == e) && x90) && x92) && ((e == 0) || x94)) && (x96 == x98)) && (x100 == x102)))) = some (c, c, true) := by
  have hb1 := hb.accs; have hb2 := hb.funds; have hc1 := hc.accs; have hc2 := hc.funds
  rw [refSame_eq c c hc.esc hc.esc (by omega) (by omega), refSame_eq b b hb.esc hb.esc (by omega) (by omega), refSame_eq b c hb.esc hc.esc (by omega) (by omega), bankSame_eq b c hb.esc hc.esc (by omega) (by omega), bankTotal_eq c ast hc.esc hc.smalls (by omega), refTotal_eq c ast hc.esc hc.smalls (by omega), sameB_refl hc.esc, sameB_refl hb.esc]
  by_cases h0 : e = 0
  · subst h0
    simp only [beq_self_eq_true, grd, Option.bind_some, Bool.and_self, Bool.not_true, Bool.and_false, Bool.true_or, Bool.and_true]
  · have hcb := he h0
    subst hcb
    have h0' : (e == 0) = false := by simpa using h0
    rw [sameB_refl hc.esc]
    simp only [beq_self_eq_true, grd, Option.bind_some, Bool.and_self, h0', Bool.not_false, Bool.and_true, Bool.false_or]
theorem openB_err {b : SBook} {who : Txt} (h : (openB b who).2 ≠ 0) : (openB b who).1 = b := by
  revert h
  unfold openB
  cases nameB who
  · exact fun _ => rfl
  · cases memT b.Accounts who
    · cases hd : decide ((b.Accounts.length : Int) ≥ 12)
      · intro h; exact absurd rfl h
      · exact fun _ => rfl
    · exact fun _ => rfl
theorem giveB_err {b : SBook} {who ast : Txt} {n : Int} (h : (giveB b who ast n).2 ≠ 0) : (giveB b who ast n).1 = b := by
  unfold giveB at h ⊢
  split
  · rfl
  · split
    · rfl
    · split
      · rfl
      · rename_i h1 h2 h3; rw [if_neg h1, if_neg h2, if_neg h3] at h; exact absurd rfl h
theorem takeB_err {b : SBook} {who ast : Txt} {n : Int} (h : (takeB b who ast n).2 ≠ 0) : (takeB b who ast n).1 = b := by
  unfold takeB at h ⊢
  split
  · rfl
  · split
    · rfl
    · rename_i h1 h2; rw [if_neg h1, if_neg h2] at h; exact absurd rfl h
theorem moveB_err {b : SBook} {who whom ast : Txt} {n : Int} (h : (moveB b who whom ast n).2 ≠ 0) : (moveB b who whom ast n).1 = b := by
  unfold moveB at h ⊢
  split
  · rfl
  · split
    · rfl
    · rename_i h1 h2; rw [if_neg h1, if_neg h2] at h; exact absurd rfl h
theorem step_eq {b : SBook} {m : Nat} (h : InvB b m) (hm : m ≤ 900) (o : Slaw09Op) : ∃ c, l_law9_step b b o = some (c, c, true) ∧ InvB c (m + 2) := by
  obtain ⟨k, hk, hk0, hk1⟩ := place_eq o.Kind 10 (by omega)
  unfold l_law9_step
  rw [hk, Option.bind_some]
  by_cases c1 : k < 2
  · rw [decide_eq_true c1, cond_true, bankOpen_eq h, Option.bind_some, refOpen_eq h, Option.bind_some, Option.bind_some]
    have hi := h.open_ o.Who
    exact ⟨_, step_end h hi (by omega) (by omega) _ openB_err o.Asset, hi.mono (by omega)⟩
  rw [decide_eq_false c1, cond_false]
  by_cases c2 : k < 4
  · rw [decide_eq_true c2, cond_true, bankGive_eq h (by omega), Option.bind_some, refGive_eq h (by omega), Option.bind_some, Option.bind_some]
    have hi := h.give o.Who o.Asset o.Amount
    exact ⟨_, step_end h hi (by omega) (by omega) _ giveB_err o.Asset, hi.mono (by omega)⟩
  rw [decide_eq_false c2, cond_false]
  by_cases c3 : k < 6
  · rw [decide_eq_true c3, cond_true, bankTake_eq h (by omega), Option.bind_some, refTake_eq h (by omega), Option.bind_some, Option.bind_some]
    have hi := h.take o.Who o.Asset o.Amount
    exact ⟨_, step_end h hi (by omega) (by omega) _ takeB_err o.Asset, hi.mono (by omega)⟩
  rw [decide_eq_false c3, cond_false]
  by_cases c4 : k < 9
  · rw [decide_eq_true c4, cond_true, bankMove_eq h (by omega), Option.bind_some, refMove_eq h (by omega), Option.bind_some, Option.bind_some]
    have hi := h.move o.Who o.Whom o.Asset o.Amount
    exact ⟨_, step_end h hi (by omega) (by omega) _ moveB_err o.Asset, hi.mono (by omega)⟩
  rw [decide_eq_false c4, cond_false, bankBalance_eq h (by omega), Option.bind_some, refBalance_eq h (by omega), Option.bind_some, Option.bind_some]
  exact ⟨b, by simp, h.mono (by omega)⟩
theorem InvB.new (n : Int) : InvB (SBook.mk n 0 [] [] []) 0 := ⟨rfl, .nil, (fun _ h => nomatch h), (fun _ => by show (0 : Int) ≤ _; omega), by simp, by simp, (fun _ h => nomatch h)⟩
end Go.Proofs.Ytnkkfmnpkgjabaa.X
