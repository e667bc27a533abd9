/- Plain laws: the bank and the document on books without escrows: accounts, what an account has, what is put, totals, assets. -/
import Derived.Test.YtnkkfmnpkgjabaaR1
namespace Go.Proofs.Ytnkkfmnpkgjabaa.X
set_option linter.unusedVariables false
set_option linter.unusedSimpArgs false
set_option maxRecDepth 10000

/-- A search: the first that meets a test. -/
theorem any_loop {α τ : Type} {l : List α} {body : Int → Option (Int ⊕ (Int ⊕ τ))} (p : α → Bool) (f : Nat → α → τ)
    (hb : ∀ (k : Nat) (x : α), l[k]? = some x → body k = some (if p x = true then .inr (.inr (f k x)) else .inl ((k + 1 : Nat) : Int))) (he : body l.length = some (.inr (.inl l.length))) :
    ∃ o, loopF body 0 = some o ∧ ((∀ x ∈ l, p x = false) ∧ o = .inl (l.length : Int) ∨ ∃ k x, l[k]? = some x ∧ p x = true ∧ (∀ i y, i < k → l[i]? = some y → p y = false) ∧ o = .inr (f k x)) := by
  have key : ∀ e k : Nat, k + e = l.length → (∀ i y, i < k → l[i]? = some y → p y = false) → ∃ o, loopF body (k : Int) = some o ∧ ((∀ x ∈ l, p x = false) ∧ o = .inl (l.length : Int) ∨ ∃ k x, l[k]? = some x ∧ p x = true ∧ (∀ i y, i < k → l[i]? = some y → p y = false) ∧ o = .inr (f k x)) := by
    intro e
    induction e with
    | zero =>
      intro k hk hp
      obtain rfl : k = l.length := by omega
      refine ⟨_, loopF_inr he, .inl ⟨fun x hx => ?_, rfl⟩⟩
      obtain ⟨i, hi⟩ := List.mem_iff_getElem?.1 hx
      exact hp i x (List.getElem?_eq_some_iff.1 hi).1 hi
    | succ e ih =>
      intro k hk hp
      have h1 : k < l.length := by omega
      have hs := hb k _ (List.getElem?_eq_getElem h1)
      by_cases hd : p l[k] = true
      · rw [if_pos hd] at hs
        exact ⟨_, loopF_inr hs, .inr ⟨k, _, List.getElem?_eq_getElem h1, hd, hp, rfl⟩⟩
      · rw [if_neg hd] at hs
        rw [loopF_inl hs]
        refine ih (k + 1) (by omega) fun i y hi hy => ?_
        rcases Nat.lt_succ_iff_lt_or_eq.1 hi with h2 | rfl
        · exact hp i y h2 hy
        · rw [List.getElem?_eq_getElem h1] at hy
          cases hy
          simpa using hd
  exact key l.length 0 (by omega) (fun i y hi => by omega)
def memT (l : List Txt) (s : Txt) : Bool := l.any fun x => decide (x = s)
theorem memT_iff {l : List Txt} {s : Txt} : memT l s = true ↔ s ∈ l := by
  unfold memT
  simp only [List.any_eq_true, decide_eq_true_eq]
  exact ⟨fun ⟨x, h1, h2⟩ => h2 ▸ h1, fun h => ⟨s, h, rfl⟩⟩
theorem memT_no {l : List Txt} {s : Txt} (h : s ∉ l) : memT l s = false := by
  cases hm : memT l s with
  | false => rfl
  | true => exact absurd (memT_iff.1 hm) h
theorem index_eq (l : List Txt) (s : Txt) (h : l.length ≤ 4611686018427387904) : ∃ i, l_slices_Index_string_string l s = some i ∧ (decide (i ≥ 0)) = memT l s := by
  unfold l_slices_Index_string_string
  obtain ⟨o, h1, h2⟩ := any_loop (l := l) (body := fun k => l_slices_Index_string_string_b0 l s k) (fun x => decide (s = x)) (fun k _ => (k : Int)) (fun k x hx => by
    have hk := (List.getElem?_eq_some_iff.1 hx).1
    simp only [l_slices_Index_string_string_b0, lt_k hx, cond_true, idx_k hx, Option.bind_some, ens_k hk h]
    by_cases e : s = x <;> simp [e]) (by simp only [l_slices_Index_string_string_b0, lt_no, cond_false])
  rw [h1]
  rcases h2 with ⟨h2, rfl⟩ | ⟨k, x, hk, hp, _, rfl⟩
  · refine ⟨-1, rfl, ?_⟩
    have : s ∉ l := fun hm => by have := h2 s hm; simp at this
    rw [memT_no this]; rfl
  · refine ⟨k, rfl, ?_⟩
    have : s ∈ l := by
      have e : s = x := by simpa using hp
      subst e; exact List.mem_of_getElem? hk
    rw [memT_iff.2 this]; simp
theorem contains_eq (l : List Txt) (s : Txt) (h : l.length ≤ 4611686018427387904) : l_slices_Contains_string_string l s = some (memT l s) := by
  obtain ⟨i, h1, h2⟩ := index_eq l s h
  unfold l_slices_Contains_string_string
  rw [h1, Option.bind_some, h2]
theorem has_eq (b : SBook) (s : Txt) (h : b.Accounts.length ≤ 4611686018427387904) : l_ref9_Has b s = some (memT b.Accounts s) := by
  unfold l_ref9_Has
  obtain ⟨o, h1, h2⟩ := any_loop (l := b.Accounts) (body := fun k => l_ref9_Has_b0 b s k) (fun x => decide (x = s)) (fun _ _ => true) (fun k x hx => by
    have hk := (List.getElem?_eq_some_iff.1 hx).1
    simp only [l_ref9_Has_b0, lt_k hx, cond_true, idx_k hx, Option.bind_some, ens_k hk h]
    by_cases e : x = s <;> simp [e]) (by simp only [l_ref9_Has_b0, lt_no, cond_false])
  rw [h1]
  rcases h2 with ⟨h2, rfl⟩ | ⟨k, x, hk, hp, _, rfl⟩
  · have : s ∉ b.Accounts := fun hm => by have := h2 s hm; simp at this
    rw [memT_no this]; rfl
  · have : s ∈ b.Accounts := by
      have e : x = s := by simpa using hp
      subst e; exact List.mem_of_getElem? hk
    rw [memT_iff.2 this]; rfl
/-- What the sorted funds have of a key is what the fund of that key has. -/
theorem amtF_of_mem {fs : List SFund} (h : Sorted fs) {f : SFund} (hf : f ∈ fs) : amtF fs f.key = f.Amount := by
  induction fs with
  | nil => cases hf
  | cons g r ih =>
    obtain ⟨h1, h2⟩ := sorted_cons.1 h
    rw [amtF_cons]
    rcases List.mem_cons.1 hf with rfl | hf
    · rw [if_pos (fcmp_zero.2 rfl)]
    · have := h1 f hf
      rw [if_neg (by omega), if_neg (by omega)]
      exact ih h2 hf
theorem amtF_of_not {fs : List SFund} {t : Key} (h : ∀ f ∈ fs, f.key ≠ t) : amtF fs t = 0 := by
  induction fs with
  | nil => rfl
  | cons g r ih =>
    rw [amtF_cons, if_neg (fun e => h g List.mem_cons_self (fcmp_zero.1 e))]
    split
    · rfl
    · exact ih fun f hf => h f (List.mem_cons_of_mem _ hf)
theorem fund_eq (b : SBook) (who ast : Txt) (h : b.Funds.length ≤ 4611686018427387904) (hs : Sorted b.Funds) : l_ref9_fund b who ast = some (amtF b.Funds (who, ast)) := by
  unfold l_ref9_fund
  obtain ⟨o, h1, h2⟩ := any_loop (l := b.Funds) (body := fun k => l_ref9_fund_b0 b who ast k) (fun x => decide (x.Account = who) && decide (x.Asset = ast)) (fun _ x => x.Amount) (fun k x hx => by
    have hk := (List.getElem?_eq_some_iff.1 hx).1
    simp only [l_ref9_fund_b0, lt_k hx, cond_true, idx_k hx, Option.bind_some, ens_k hk h]
    cases (decide (x.Account = who) && decide (x.Asset = ast)) <;> simp) (by simp only [l_ref9_fund_b0, lt_no, cond_false])
  rw [h1]
  rcases h2 with ⟨h2, rfl⟩ | ⟨k, x, hk, hp, _, rfl⟩
  · rw [amtF_of_not fun f hf e => by
      have := h2 f hf
      unfold SFund.key at e
      cases e
      simp at this]
    rfl
  · have e : x.key = (who, ast) := by
      simp only [Bool.and_eq_true, decide_eq_true_eq] at hp
      unfold SFund.key; rw [hp.1, hp.2]
    rw [← e, amtF_of_mem hs (List.mem_of_getElem? hk)]
    rfl
/-! ### what is put -/
/-- The document's way: what is less, the new one, what is more. -/
def putG (t : Key) (n : Int) : List SFund → List SFund → Bool → List SFund × Bool
  | [], l, d => (l, d)
  | f :: r, l, d => if f.key = t then putG t n r l d else if d = false ∧ fcmp t f.key < 0 then putG t n r (l ++ [⟨t.1, t.2, n⟩] ++ [f]) true else putG t n r (l ++ [f]) d
theorem putG_app (t : Key) (n : Int) : ∀ (fs l : List SFund) (d : Bool), putG t n fs l d = (l ++ (putG t n fs [] d).1, (putG t n fs [] d).2)
  | [], l, d => by simp [putG]
  | f :: r, l, d => by
    rw [putG, putG]
    split
    · exact putG_app t n r l d
    · split
      · rw [putG_app t n r (l ++ _ ++ _), putG_app t n r ([] ++ _ ++ _)]; simp
      · rw [putG_app t n r (l ++ _), putG_app t n r ([] ++ _)]; simp
/-- Behind the key nothing changes any more. -/
theorem putG_behind (t : Key) (n : Int) : ∀ (fs : List SFund), Behind t fs → putG t n fs [] true = (fs, true)
  | [], _ => rfl
  | f :: r, h => by
    have hf := h f List.mem_cons_self
    have hne : f.key ≠ t := fun e => by rw [e, fcmp_zero.2 rfl] at hf; omega
    rw [putG, if_neg hne, if_neg (by simp), putG_app, putG_behind t n r fun g hg => h g (List.mem_cons_of_mem _ hg)]
    rfl
theorem putG_set {fs : List SFund} (h : Sorted fs) (t : Key) (n : Int) : (let r := putG t n fs [] (decide (n = 0)); if r.2 = true then r.1 else r.1 ++ [⟨t.1, t.2, n⟩]) = setF fs t n := by
  induction fs with
  | nil =>
    rw [setF_nil]
    by_cases hn : n = 0 <;> simp [putG, hn]
  | cons f r ih =>
    obtain ⟨h1, h2⟩ := sorted_cons.1 h
    have ih := ih h2
    rw [setF_cons]
    by_cases he : f.key = t
    · rw [if_pos (fcmp_zero.2 he)]
      have hb : Behind t r := he ▸ h1
      by_cases hn : n = 0
      · simp only [hn, putG, if_pos he, decide_true, putG_behind t 0 r hb, if_true]
      · have hd : decide (n = 0) = false := by simpa using hn
        simp only [putG, if_pos he, hd, if_neg hn]
        cases r with
        | nil => simp [putG]
        | cons g q =>
          have hg := hb g List.mem_cons_self
          have hne : g.key ≠ t := fun e => by rw [e, fcmp_zero.2 rfl] at hg; omega
          rw [putG, if_neg hne, putG_app t n q (_ ++ _ ++ _), putG_behind t n q fun x hx => hb x (List.mem_cons_of_mem _ hx)]
          simp [hg]
    · have hz : fcmp f.key t ≠ 0 := fun e => he (fcmp_zero.1 e)
      rw [if_neg hz]
      by_cases hlt : fcmp t f.key < 0
      · have hpos : 0 < fcmp f.key t := fcmp_pos.2 hlt
        have hb : Behind t (f :: r) := fun g hg => by
          rcases List.mem_cons.1 hg with rfl | hg
          · exact hlt
          · exact fcmp_trans hlt (h1 g hg)
        have hb2 : Behind t r := fun g hg => hb g (List.mem_cons_of_mem _ hg)
        rw [if_pos hpos]
        by_cases hn : n = 0
        · simp only [hn, decide_true, putG_behind t 0 (f :: r) hb, if_true]
        · have hd : decide (n = 0) = false := by simpa using hn
          rw [if_neg hn]
          simp only [putG, if_neg he, hd, putG_app t n r (_ ++ _ ++ _), putG_behind t n r hb2]
          simp [hlt]
      · have hnp : ¬ 0 < fcmp f.key t := fun hp => hlt (fcmp_pos.1 hp)
        rw [if_neg hnp, ← ih]
        have hst : putG t n (f :: r) [] (decide (n = 0)) = putG t n r ([] ++ [f]) (decide (n = 0)) := by
          rw [putG, if_neg he, if_neg (fun hh => hlt hh.2)]
        simp only [hst, putG_app t n r ([] ++ [f])]
        split <;> simp
end Go.Proofs.Ytnkkfmnpkgjabaa.X
