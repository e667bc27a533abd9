/- Plain laws: each call of the bank, and of the document, on books without escrows: both give the same. -/
import Derived.Test.YtnkkfmnpkgjabaaR3
namespace Go.Proofs.Ytnkkfmnpkgjabaa.X
set_option linter.unusedVariables false
set_option linter.unusedSimpArgs false
set_option maxRecDepth 10000

theorem le_of_sorted {zs : List (List UInt8)} (h : zs.Pairwise (fun x y => x ≤ y)) {i j : Nat} {x y : List UInt8} (hi : zs[i]? = some x) (hj : zs[j]? = some y) (hij : i < j) : x ≤ y := by
  obtain ⟨hi', rfl⟩ := List.getElem?_eq_some_iff.1 hi
  obtain ⟨hj', rfl⟩ := List.getElem?_eq_some_iff.1 hj
  exact List.pairwise_iff_getElem.1 h i j hi' hj' hij
theorem compact_upto (zs : List (List UInt8)) (h : zs.Pairwise (fun x y => x ≤ y)) : ∀ m, m ≤ zs.length → (Lib.compactUpTo zs.toArray m).Nodup ∧ ∀ x, x ∈ Lib.compactUpTo zs.toArray m ↔ x ∈ zs.take m
  | 0, _ => by simp [Lib.compactUpTo]
  | m + 1, hm => by
    obtain ⟨ih1, ih2⟩ := compact_upto zs h m (by omega)
    have hg : zs[m]? = some zs[m] := List.getElem?_eq_getElem (by omega)
    have hd : zs.toArray[m]! = zs[m] := by simp [getElem!_pos, show m < zs.length by omega]
    rw [Lib.compactUpTo_succ, List.take_add_one, hg, Option.toList_some]
    by_cases hk : Lib.keeps zs.toArray m = true
    · rw [if_pos hk, hd]
      have hnew : zs[m] ∉ zs.take m := fun hx => by
        obtain ⟨j, hj, he⟩ := List.mem_iff_getElem.1 hx
        rw [List.length_take] at hj
        rw [List.getElem_take] at he
        simp only [Lib.keeps, decide_eq_true_eq] at hk
        rcases hk with h0 | hne
        · omega
        · apply hne
          have hd1 : zs.toArray[m - 1]! = zs[m - 1] := by simp [getElem!_pos, show m - 1 < zs.length by omega]
          rw [hd, hd1]
          have hg1 : zs[m - 1]? = some zs[m - 1] := List.getElem?_eq_getElem (by omega)
          have l1 : zs[m - 1] ≤ zs[m] := le_of_sorted h hg1 hg (by omega)
          by_cases hjm : j = m - 1
          · subst hjm; exact he.symm
          · have l2 := le_of_sorted h (List.getElem?_eq_getElem (show j < zs.length by omega)) hg1 (by omega)
            rw [he] at l2
            exact List.le_antisymm l2 l1
      refine ⟨?_, fun x => ?_⟩
      · rw [List.nodup_append]
        exact ⟨ih1, by simp, fun a ha b hb e => by
          rw [List.mem_singleton] at hb
          subst hb; subst e
          exact hnew ((ih2 _).1 ha)⟩
      · rw [List.mem_append, List.mem_append, ih2]
    · rw [if_neg hk, List.append_nil]
      refine ⟨ih1, fun x => ?_⟩
      rw [ih2, List.mem_append, List.mem_singleton]
      constructor
      · exact .inl
      · rintro (h1 | rfl)
        · exact h1
        · simp only [Lib.keeps, decide_eq_true_eq, not_or, ne_eq, Classical.not_not] at hk
          have hd1 : zs.toArray[m - 1]! = zs[m - 1] := by simp [getElem!_pos, show m - 1 < zs.length by omega]
          rw [hd, hd1] at hk
          rw [hk.2, List.mem_iff_getElem]
          exact ⟨m - 1, by rw [List.length_take]; omega, by rw [List.getElem_take]⟩
def sortS (ls : List (List UInt8)) : List (List UInt8) := ls.mergeSort fun x y => decide (x ≤ y)
theorem sortS_pair (ls : List (List UInt8)) : (sortS ls).Pairwise (fun x y => x ≤ y) := by
  have := List.pairwise_mergeSort (le := fun x y : List UInt8 => decide (x ≤ y)) (fun a b c h1 h2 => by
    simp only [decide_eq_true_eq] at *; exact List.le_trans h1 h2) (fun a b => by
    simp only [Bool.or_eq_true, decide_eq_true_eq]; exact List.le_total a b) ls
  exact this.imp (by simp)
theorem mem_dist (l : List Txt) (x : Txt) : x ∈ compT (sortT l) ↔ x ∈ l := by
  unfold compT Lib.compact
  rw [List.mem_map, sortT_dat]
  constructor
  · rintro ⟨y, hy, rfl⟩
    have := ((compact_upto _ (sortS_pair (l.map dat)) _ (Nat.le_refl _)).2 y).1 hy
    rw [List.take_length] at this
    unfold sortS at this
    rw [(List.mergeSort_perm _ _).mem_iff, List.mem_map] at this
    obtain ⟨z, hz, rfl⟩ := this
    exact hz
  · intro hx
    refine ⟨dat x, ?_, rfl⟩
    refine ((compact_upto _ (sortS_pair (l.map dat)) _ (Nat.le_refl _)).2 (dat x)).2 ?_
    rw [List.take_length]
    unfold sortS
    rw [(List.mergeSort_perm _ _).mem_iff, List.mem_map]
    exact ⟨x, hx, rfl⟩
theorem nodup_dist (l : List Txt) : (compT (sortT l)).Nodup := by
  unfold compT Lib.compact
  rw [sortT_dat]
  have h := (compact_upto _ (sortS_pair (l.map dat)) _ (Nat.le_refl _)).1
  rw [List.nodup_iff_pairwise_ne, List.pairwise_map]
  refine (List.nodup_iff_pairwise_ne.1 h).imp fun {a b} hne e => hne ?_
  exact congrArg dat e
theorem nodup_le {α : Type} [DecidableEq α] : ∀ (l m : List α), l.Nodup → (∀ x ∈ l, x ∈ m) → l.length ≤ m.length
  | [], _, _, _ => Nat.zero_le _
  | x :: r, m, h, hm => by
    have h1 := List.nodup_cons.1 h
    have := nodup_le r (m.erase x) h1.2 fun y hy => (List.mem_erase_of_ne (fun e => h1.1 (by rw [← e]; exact hy))).2 (hm y (List.mem_cons_of_mem _ hy))
    have hx := hm x List.mem_cons_self
    rw [List.length_erase_of_mem hx] at this
    have : 0 < m.length := List.length_pos_of_mem hx
    simp only [List.length_cons]; omega
theorem distT_mem (fs : List SFund) (x : Txt) : (x ∈ distT fs ↔ x ≠ ⟨#[]⟩ ∧ ∃ f ∈ fs, f.Asset = x) ∧ (distT fs).Nodup := by
  have key : ∀ (fs : List SFund) (l : List Txt), l.Nodup → ((fs.foldl (fun l f => addT l f.Asset) l).Nodup ∧ (x ∈ fs.foldl (fun l f => addT l f.Asset) l ↔ x ∈ l ∨ (x ≠ ⟨#[]⟩ ∧ ∃ f ∈ fs, f.Asset = x))) := by
    intro fs
    induction fs with
    | nil => intro l hl; exact ⟨hl, by simp⟩
    | cons f r ih =>
      intro l hl
      rw [List.foldl_cons]
      by_cases hc : (decide (f.Asset = ⟨#[]⟩) || memT l f.Asset) = true
      · have : addT l f.Asset = l := by unfold addT; rw [if_pos hc]
        rw [this]
        refine ⟨(ih l hl).1, (ih l hl).2.trans ⟨fun h => h.imp id fun ⟨h1, g, hg, e⟩ => ⟨h1, g, List.mem_cons_of_mem _ hg, e⟩, fun h => ?_⟩⟩
        rcases h with h | ⟨h1, g, hg, e⟩
        · exact .inl h
        · rcases List.mem_cons.1 hg with rfl | hg
          · left
            rw [Bool.or_eq_true, decide_eq_true_eq] at hc
            rcases hc with hc | hc
            · exact absurd (e ▸ hc) h1
            · exact e ▸ memT_iff.1 hc
          · exact .inr ⟨h1, g, hg, e⟩
      · have he : addT l f.Asset = l ++ [f.Asset] := by unfold addT; rw [if_neg hc]
        rw [Bool.or_eq_true, decide_eq_true_eq, memT_iff, not_or] at hc
        have hn : (l ++ [f.Asset]).Nodup := by
          rw [List.nodup_append]
          exact ⟨hl, by simp, fun a ha b hb e => by rw [List.mem_singleton] at hb; subst hb; subst e; exact hc.2 ha⟩
        rw [he]
        refine ⟨(ih _ hn).1, (ih _ hn).2.trans ?_⟩
        rw [List.mem_append, List.mem_singleton]
        constructor
        · rintro ((h | rfl) | ⟨h1, g, hg, e⟩)
          · exact .inl h
          · exact .inr ⟨hc.1, f, List.mem_cons_self, rfl⟩
          · exact .inr ⟨h1, g, List.mem_cons_of_mem _ hg, e⟩
        · rintro (h | ⟨h1, g, hg, e⟩)
          · exact .inl (.inl h)
          · rcases List.mem_cons.1 hg with rfl | hg
            · exact .inl (.inr e.symm)
            · exact .inr ⟨h1, g, hg, e⟩
  have := key fs [] (by simp)
  exact ⟨by rw [distT, this.2]; simp, this.1⟩
/-! ### books that may be -/
structure InvB (b : SBook) (m : Nat) : Prop where
  esc : b.Escrows = []
  sorted : Sorted b.Funds
  nonneg : ∀ f ∈ b.Funds, 0 ≤ f.Amount
  total : ∀ a, sumA b.Funds a ≤ 1125899906842624
  accs : b.Accounts.length ≤ 12
  funds : b.Funds.length ≤ m
  names : ∀ f ∈ b.Funds, f.Asset ≠ ⟨#[]⟩
theorem sum_nonneg {fs : List SFund} (h : ∀ f ∈ fs, 0 ≤ f.Amount) (a : Txt) : 0 ≤ sumA fs a := by
  induction fs with
  | nil => exact Int.le_refl 0
  | cons f r ih =>
    rw [sumA_cons]
    have h1 := h f List.mem_cons_self
    have h2 := ih fun g hg => h g (List.mem_cons_of_mem _ hg)
    split <;> omega
theorem amt_le_sum {fs : List SFund} (h : ∀ f ∈ fs, 0 ≤ f.Amount) {f : SFund} (hf : f ∈ fs) : f.Amount ≤ sumA fs f.Asset := by
  induction fs with
  | nil => cases hf
  | cons g r ih =>
    rw [sumA_cons]
    have h1 := h g List.mem_cons_self
    have h2 := sum_nonneg (fun g hg => h g (List.mem_cons_of_mem _ hg)) f.Asset
    rcases List.mem_cons.1 hf with rfl | hf
    · rw [if_pos rfl]; omega
    · have := ih (fun g hg => h g (List.mem_cons_of_mem _ hg)) hf
      split <;> omega
theorem InvB.smalls {b : SBook} {m : Nat} (h : InvB b m) : Smalls b.Funds := fun f hf => ⟨h.nonneg f hf, Int.le_trans (amt_le_sum h.nonneg hf) (h.total _)⟩
theorem amtF_le {fs : List SFund} (h : ∀ f ∈ fs, 0 ≤ f.Amount) (t : Key) : 0 ≤ amtF fs t ∧ amtF fs t ≤ sumA fs t.2 := by
  induction fs with
  | nil => exact ⟨Int.le_refl 0, Int.le_refl 0⟩
  | cons g r ih =>
    have h1 := h g List.mem_cons_self
    have h2 := sum_nonneg (fun g hg => h g (List.mem_cons_of_mem _ hg)) t.2
    obtain ⟨i1, i2⟩ := ih fun g hg => h g (List.mem_cons_of_mem _ hg)
    rw [amtF_cons, sumA_cons]
    by_cases e : fcmp g.key t = 0
    · have hk := fcmp_zero.1 e
      have ha : g.Asset = t.2 := congrArg Prod.snd hk
      rw [if_pos e, if_pos ha]; omega
    · rw [if_neg e]
      split <;> split <;> omega
def setB (b : SBook) (t : Key) (n : Int) : SBook := { b with Funds := setF b.Funds t n }
theorem InvB.set {b : SBook} {m : Nat} (h : InvB b m) (who ast : Txt) (n : Int) (hn : 0 ≤ n) (hs : sumA b.Funds ast + (n - amtF b.Funds (who, ast)) ≤ 1125899906842624) (ha : ast ≠ ⟨#[]⟩) : InvB (setB b (who, ast) n) (m + 1) where
  esc := h.esc
  sorted := (setF_sorted h.sorted (who, ast) n).1
  nonneg := fun f hf => by
    rcases setF_mem (who, ast) n f hf with h1 | ⟨rfl, _⟩
    · exact h.nonneg f h1
    · exact hn
  total := fun a => by
    show sumA (setF b.Funds (who, ast) n) a ≤ _
    rw [sumA_set h.sorted]
    have := h.total a
    by_cases e : ast = a
    · subst e; rw [if_pos rfl]; exact hs
    · rw [if_neg e]; omega
  accs := h.accs
  funds := by
    have := setF_len b.Funds (who, ast) n
    have := h.funds
    show (setF b.Funds (who, ast) n).length ≤ _
    omega
  names := fun f hf => by
    rcases setF_mem (who, ast) n f hf with h1 | ⟨rfl, _⟩
    · exact h.names f h1
    · exact ha
theorem InvB.mono {b : SBook} {m m' : Nat} (h : InvB b m) (hm : m ≤ m') : InvB b m' := ⟨h.esc, h.sorted, h.nonneg, h.total, h.accs, Nat.le_trans h.funds hm, h.names⟩
/-! ### calls -/
def nameB (s : Txt) : Bool := (decide ((s.size : Int) ≥ 1)) && (decide ((s.size : Int) ≤ 16))
theorem name_ne {s : Txt} (h : nameB s = true) : s ≠ ⟨#[]⟩ := by
  rintro rfl
  exact absurd h (by decide)
def asksB (b : SBook) (who ast : Txt) (n : Int) : Int := cond (((!nameB ast) || (decide (n < 1))) || (decide (n > 1125899906842624))) 1 (cond (!memT b.Accounts who) 4 0)
theorem asksB_zero {b : SBook} {who ast : Txt} {n : Int} (h : asksB b who ast n = 0) : nameB ast = true ∧ 1 ≤ n ∧ n ≤ 1125899906842624 ∧ memT b.Accounts who = true := by
  unfold asksB at h
  cases h1 : (((!nameB ast) || (decide (n < 1))) || (decide (n > 1125899906842624)))
  · rw [h1, cond_false] at h
    simp only [Bool.or_eq_false_iff, Bool.not_eq_false', decide_eq_false_iff_not] at h1
    cases h2 : memT b.Accounts who
    · rw [h2] at h; cases h
    · exact ⟨h1.1.1, by omega, by omega, rfl⟩
  · rw [h1, cond_true] at h; cases h
theorem asks_eq {b : SBook} {m : Nat} (h : InvB b m) (who ast : Txt) (n : Int) : l_bank_asks b who ast n = some (asksB b who ast n) := by
  have ha := h.accs
  unfold l_bank_asks l_bank_name
  rw [Option.bind_some, contains_eq _ _ (by omega)]
  show cond (((!nameB ast) || _) || _) _ _ = _
  unfold asksB
  cases (((!nameB ast) || (decide (n < 1))) || (decide (n > 1125899906842624)))
  · rw [cond_false, cond_false, Option.bind_some]
    cases memT b.Accounts who <;> rfl
  · rfl
def openB (b : SBook) (who : Txt) : SBook × Int := cond (!nameB who) (b, 1) (cond (memT b.Accounts who) (b, 5) (cond (decide ((b.Accounts.length : Int) ≥ 12)) (b, 7) ({ b with Accounts := b.Accounts ++ [who] }, 0)))
theorem bankOpen_eq {b : SBook} {m : Nat} (h : InvB b m) (who : Txt) : l_bank_Open b who = some (openB b who) := by
  have ha := h.accs
  unfold l_bank_Open l_bank_name l_slices_Clip_string_string
  rw [Option.bind_some, contains_eq _ _ (by omega), Option.bind_some, Option.bind_some]
  show cond (!nameB who) _ _ = _
  unfold openB
  cases nameB who
  · rfl
  · cases memT b.Accounts who
    · cases hd : decide ((b.Accounts.length : Int) ≥ 12)
      · show (ensure _).bind _ = _
        rw [ensure_bind (by simp; omega)]
        rfl
      · rfl
    · rfl
theorem refOpen_eq {b : SBook} {m : Nat} (h : InvB b m) (who : Txt) : l_ref9_Open b who = some (openB b who) := by
  have ha := h.accs
  unfold l_ref9_Open l_ref4_Name
  rw [Option.bind_some, has_eq _ _ (by omega), Option.bind_some]
  show cond (!nameB who) _ _ = _
  unfold openB
  cases nameB who
  · rfl
  · cases memT b.Accounts who
    · cases hd : decide ((b.Accounts.length : Int) ≥ 12)
      · show (ensure _).bind _ = _
        rw [ensure_bind (by simp; omega), ensure_bind (by simp; omega)]
        rfl
      · rfl
    · rfl
theorem InvB.open_ {b : SBook} {m : Nat} (h : InvB b m) (who : Txt) : InvB (openB b who).1 m := by
  unfold openB
  cases nameB who
  · exact h
  · cases memT b.Accounts who
    · cases hd : decide ((b.Accounts.length : Int) ≥ 12)
      · refine ⟨h.esc, h.sorted, h.nonneg, h.total, ?_, h.funds, h.names⟩
        show (b.Accounts ++ [who]).length ≤ 12
        simp at hd ⊢; omega
      · exact h
    · exact h
def takeB (b : SBook) (who ast : Txt) (n : Int) : SBook × Int := if asksB b who ast n ≠ 0 then (b, asksB b who ast n) else if amtF b.Funds (who, ast) < n then (b, 6) else (setB b (who, ast) (amtF b.Funds (who, ast) - n), 0)
theorem xhas_eq {b : SBook} {m : Nat} (h : InvB b m) (hm : m ≤ 1000000) (who ast : Txt) : x_has b who ast = some (amtF b.Funds (who, ast)) := by
  unfold x_has; rw [if_pos ⟨h.sorted, Nat.le_trans h.funds hm⟩]
theorem xput_eq {b : SBook} {m : Nat} (h : InvB b m) (hm : m ≤ 1000000) (who ast : Txt) (n : Int) (hn : -1125899906842624 ≤ n ∧ n ≤ 1125899906842624) : x_put b who ast n = some (setB b (who, ast) (amtF b.Funds (who, ast) + n)) := by
  have h1 := amtF_le h.nonneg (who, ast)
  have h2 := h.total ast
  have h3 : amtF b.Funds (who, ast) ≤ 1125899906842624 := Int.le_trans h1.2 h2
  unfold x_put; rw [if_pos ⟨h.sorted, Nat.le_trans h.funds hm, by omega, by omega⟩]; rfl
theorem ne0 {x : Int} (h : x ≠ 0) : (x != 0) = true := by simpa using h
theorem bankTake_eq {b : SBook} {m : Nat} (h : InvB b m) (hm : m ≤ 1000000) (who ast : Txt) (n : Int) : l_bank_Take b who ast n = some (takeB b who ast n) := by
  unfold l_bank_Take takeB
  rw [asks_eq h, Option.bind_some]
  by_cases h0 : asksB b who ast n = 0
  · obtain ⟨q1, q2, q3, q4⟩ := asksB_zero h0
    rw [if_neg (by simpa using h0), h0]
    show (x_has b who ast).bind _ = _
    rw [xhas_eq h hm, Option.bind_some]
    by_cases hl : amtF b.Funds (who, ast) < n
    · rw [decide_eq_true hl, if_pos hl]; rfl
    · rw [decide_eq_false hl, if_neg hl, cond_false, ensure_bind (by omega), xput_eq h hm who ast (-n) (by omega)]
      rfl
  · rw [if_pos h0, ne0 h0]; rfl
theorem refPre {α : Type} {b : SBook} {m : Nat} (h : InvB b m) (who ast : Txt) (n : Int) (f : Int → α) (k : Option α) :
    ((l_ref4_Name ast).bind fun x3 => cond (((!x3) || (decide (n < 1))) || (decide (n > 1125899906842624))) (some (f 1)) ((l_ref9_Has b who).bind fun x7 => cond (!x7) (some (f 4)) k)) = if asksB b who ast n ≠ 0 then some (f (asksB b who ast n)) else k := by
  have ha := h.accs
  unfold l_ref4_Name
  rw [Option.bind_some, has_eq _ _ (by omega)]
  show cond (((!nameB ast) || _) || _) _ _ = _
  unfold asksB
  cases (((!nameB ast) || (decide (n < 1))) || (decide (n > 1125899906842624)))
  · rw [cond_false, cond_false, Option.bind_some]
    cases memT b.Accounts who <;> rfl
  · rfl
theorem refTake_eq {b : SBook} {m : Nat} (h : InvB b m) (hm : m ≤ 1000000) (who ast : Txt) (n : Int) : l_ref9_Take b who ast n = some (takeB b who ast n) := by
  have hf := h.funds
  unfold l_ref9_Take takeB
  rw [refPre h who ast n (fun e => (b, e))]
  by_cases h0 : asksB b who ast n = 0
  · obtain ⟨q1, q2, q3, q4⟩ := asksB_zero h0
    have h1 := amtF_le h.nonneg (who, ast)
    have h2 := h.total ast
    have h3 : amtF b.Funds (who, ast) ≤ 1125899906842624 := Int.le_trans h1.2 h2
    rw [if_neg (by simpa using h0), if_neg (by simpa using h0), fund_eq b who ast (by omega) h.sorted, Option.bind_some]
    by_cases hl : amtF b.Funds (who, ast) < n
    · rw [decide_eq_true hl, if_pos hl]; rfl
    · rw [decide_eq_false hl, if_neg hl, cond_false, Option.bind_some, ensure_bind (by omega), refPut_eq b who ast _ (by omega) h.sorted]
      rfl
  · rw [if_pos h0, if_pos h0]
theorem InvB.take {b : SBook} {m : Nat} (h : InvB b m) (who ast : Txt) (n : Int) : InvB (takeB b who ast n).1 (m + 1) := by
  unfold takeB
  by_cases h0 : asksB b who ast n = 0
  · obtain ⟨q1, q2, q3, q4⟩ := asksB_zero h0
    rw [if_neg (by simpa using h0)]
    split
    · exact h.mono (Nat.le_succ m)
    · have := h.total ast
      exact h.set who ast _ (by omega) (by omega) (name_ne q1)
  · rw [if_pos h0]; exact h.mono (Nat.le_succ m)
def giveB (b : SBook) (who ast : Txt) (n : Int) : SBook × Int := if asksB b who ast n ≠ 0 then (b, asksB b who ast n) else if 4 ≤ (distT b.Funds).length ∧ memT (distT b.Funds) ast = false then (b, 7) else if sumA b.Funds ast + n > 1125899906842624 then (b, 3) else (setB b (who, ast) (amtF b.Funds (who, ast) + n), 0)
theorem dist_same {b : SBook} {m : Nat} (h : InvB b m) : (compT (sortT (b.Funds.map (·.Asset)))).length = (distT b.Funds).length ∧ ∀ a, memT (compT (sortT (b.Funds.map (·.Asset)))) a = memT (distT b.Funds) a := by
  have hm : ∀ a, a ∈ compT (sortT (b.Funds.map (·.Asset))) ↔ a ∈ distT b.Funds := fun a => by
    rw [mem_dist, (distT_mem b.Funds a).1, List.mem_map]
    exact ⟨fun ⟨f, hf, e⟩ => ⟨e ▸ h.names f hf, f, hf, e⟩, fun ⟨_, f, hf, e⟩ => ⟨f, hf, e⟩⟩
  have hn1 := nodup_dist (b.Funds.map (·.Asset))
  have hn2 := (distT_mem b.Funds ⟨#[]⟩).2
  refine ⟨Nat.le_antisymm (nodup_le _ _ hn1 fun x hx => (hm x).1 hx) (nodup_le _ _ hn2 fun x hx => (hm x).2 hx), fun a => ?_⟩
  cases h1 : memT (distT b.Funds) a with
  | true => exact memT_iff.2 ((hm a).2 (memT_iff.1 h1))
  | false => exact memT_no fun hh => by rw [memT_iff.2 ((hm a).1 hh)] at h1; cases h1
end Go.Proofs.Ytnkkfmnpkgjabaa.X
