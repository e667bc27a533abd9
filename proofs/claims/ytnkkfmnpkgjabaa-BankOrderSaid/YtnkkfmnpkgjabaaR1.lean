/- Plain laws: loops over lists: alike, found. -/
import Derived.Test.YtnkkfmnpkgjabaaF5
namespace Go.Proofs.Ytnkkfmnpkgjabaa.X
set_option linter.unusedVariables false
set_option linter.unusedSimpArgs false
set_option maxRecDepth 10000

/-- A loop that goes through the values st 0, st 1, .. and ends at st m. -/
theorem loop_seq {σ τ : Type} {body : σ → Option (σ ⊕ τ)} {o : τ} (st : Nat → σ) (m : Nat) (h : ∀ i, i < m → body (st i) = some (.inl (st (i + 1)))) (hm : body (st m) = some (.inr o)) : loopF body (st 0) = some o := by
  have key : ∀ d k, k + d = m → loopF body (st k) = some o := by
    intro d
    induction d with
    | zero => intro k hk; rw [show k = m by omega]; exact loopF_inr hm
    | succ d ih => intro k hk; rw [loopF_inl (h k (by omega))]; exact ih (k + 1) (by omega)
  exact key m 0 (by omega)
def all2 {α : Type} (d : α → α → Bool) : List α → List α → Bool
  | x :: r, y :: s => d x y && all2 d r s
  | [], [] => true
  | _, _ => false
theorem all2_eq {α : Type} [DecidableEq α] : ∀ (a b : List α), all2 (fun x y => decide (x = y)) a b = decide (a = b)
  | [], [] => rfl
  | x :: r, [] => by simp [all2]
  | [], y :: s => by simp [all2]
  | x :: r, y :: s => by
    rw [all2, all2_eq r s]
    by_cases h : x = y <;> by_cases h2 : r = s <;> simp [h, h2]
theorem eq_loop {α : Type} {a b : List α} {body : Int → Option (Int ⊕ (Int ⊕ Bool))} (d : α → α → Bool) (hlen : a.length = b.length)
    (hb : ∀ (k : Nat) (x y : α), a[k]? = some x → b[k]? = some y → body k = some (if d x y = true then .inl ((k + 1 : Nat) : Int) else .inr (.inr false))) (he : body a.length = some (.inr (.inl a.length))) :
    loopF body 0 = some (if all2 d a b = true then .inl (a.length : Int) else .inr false) := by
  have key : ∀ e k : Nat, k + e = a.length → loopF body (k : Int) = some (if all2 d (a.drop k) (b.drop k) = true then .inl (a.length : Int) else .inr false) := by
    intro e
    induction e with
    | zero =>
      intro k hk
      obtain rfl : k = a.length := by omega
      rw [loopF_inr he, List.drop_eq_nil_of_le (Nat.le_refl _), List.drop_eq_nil_of_le (by omega)]
      rfl
    | succ e ih =>
      intro k hk
      have h1 : k < a.length := by omega
      have h2 : k < b.length := by omega
      have hs := hb k _ _ (List.getElem?_eq_getElem h1) (List.getElem?_eq_getElem h2)
      rw [List.drop_eq_getElem_cons h1, List.drop_eq_getElem_cons h2, all2]
      by_cases hd : d a[k] b[k] = true
      · rw [if_pos hd] at hs
        rw [loopF_inl hs, ih (k + 1) (by omega), hd, Bool.true_and]
      · rw [if_neg hd] at hs
        rw [loopF_inr hs, if_neg (by simp [hd])]
  exact key a.length 0 (by omega)
theorem len_ne {α : Type} {a b : List α} : (((a.length : Int) != (b.length : Int)) = true) ↔ a.length ≠ b.length := by
  simp only [bne_iff_ne, ne_eq]; omega
/-- A test of two lists: as long, and each like the other. -/
theorem same_of {α : Type} {a b : List α} {body : Int → Option (Int ⊕ (Int ⊕ Bool))} (d : α → α → Bool)
    (hb : ∀ (k : Nat) (x y : α), a.length = b.length → a[k]? = some x → b[k]? = some y → body k = some (if d x y = true then .inl ((k + 1 : Nat) : Int) else .inr (.inr false))) (he : body a.length = some (.inr (.inl a.length))) :
    cond ((a.length : Int) != (b.length : Int)) (some false) (Option.bind (loopF body 0) fun o => (match o with | .inl _ => some true | .inr r => some r)) = some (all2 d a b) := by
  by_cases hl : a.length = b.length
  · have : ((a.length : Int) != (b.length : Int)) = false := by
      cases h : ((a.length : Int) != (b.length : Int)) with
      | false => rfl
      | true => exact absurd hl (len_ne.1 h)
    rw [this, cond_false, eq_loop d hl (fun k x y => hb k x y hl) he]
    cases all2 d a b <;> rfl
  · rw [len_ne.2 hl, cond_true]
    have : all2 d a b = false := by
      clear hb he
      induction a generalizing b with
      | nil => cases b with
        | nil => simp at hl
        | cons => rfl
      | cons x r ih => cases b with
        | nil => rfl
        | cons y s => rw [all2, ih (by simpa using hl), Bool.and_false]
    rw [this]
theorem idx_k {α : Type} {l : List α} {k : Nat} {x : α} (h : l[k]? = some x) : idxO l (k : Int) = some x := by rw [idxO_nat]; exact h
theorem lt_k {α : Type} {l : List α} {k : Nat} {x : α} (h : l[k]? = some x) : decide ((k : Int) < (l.length : Int)) = true := by
  have := (List.getElem?_eq_some_iff.1 h).1
  simp; omega
theorem lt_no {n : Nat} : decide ((n : Int) < (n : Int)) = false := by simp
theorem ens_k {k n : Nat} (h : k < n) (hn : n ≤ 4611686018427387904) {β : Type} (f : Unit → Option β) : (ensure (-9223372036854775808 ≤ (k : Int) + 1 ∧ (k : Int) + 1 ≤ 9223372036854775807)).bind f = f () := ensure_bind (by omega) f
theorem sameTexts_eq (a b : List Txt) (h : a.length ≤ 4611686018427387904) : l_ref4_SameTexts a b = some (decide (a = b)) := by
  unfold l_ref4_SameTexts
  rw [← all2_eq]
  refine same_of _ (fun k x y _ hx hy => ?_) ?_
  · have hk := (List.getElem?_eq_some_iff.1 hx).1
    simp only [l_ref4_SameTexts_b0, lt_k hx, cond_true, idx_k hx, idx_k hy, Option.bind_some, ens_k hk h]
    by_cases e : x = y <;> simp [e]
  · simp only [l_ref4_SameTexts_b0, lt_no, cond_false]
theorem equalTexts_eq (a b : List Txt) (h : a.length ≤ 4611686018427387904) : l_slices_Equal_string_string a b = some (decide (a = b)) := by
  unfold l_slices_Equal_string_string
  rw [← all2_eq]
  refine same_of _ (fun k x y _ hx hy => ?_) ?_
  · have hk := (List.getElem?_eq_some_iff.1 hx).1
    simp only [l_slices_Equal_string_string_b0, lt_k hx, cond_true, idx_k hx, idx_k hy, Option.bind_some, ens_k hk h]
    by_cases e : x = y <;> simp [e]
  · simp only [l_slices_Equal_string_string_b0, lt_no, cond_false]
def sameFund (x y : SFund) : Bool := decide (x.Account = y.Account) && (decide (x.Asset = y.Asset) && (x.Amount == y.Amount))
theorem sameFund_eq {x y : SFund} : sameFund x y = true ↔ x = y := by
  unfold sameFund
  cases x; cases y
  simp [SFund.mk.injEq]
theorem sameFunds_all {a b : List SFund} : all2 sameFund a b = true ↔ a = b := by
  induction a generalizing b with
  | nil => cases b <;> simp [all2]
  | cons x r ih => cases b with
    | nil => simp [all2]
    | cons y s => simp [all2, sameFund_eq, ih]
theorem equalFunds_eq (a b : List SFund) (h : a.length ≤ 4611686018427387904) : l_slices_Equal_api_Fund_api_Fund a b = some (all2 sameFund a b) := by
  unfold l_slices_Equal_api_Fund_api_Fund
  refine same_of _ (fun k x y _ hx hy => ?_) ?_
  · have hk := (List.getElem?_eq_some_iff.1 hx).1
    simp only [l_slices_Equal_api_Fund_api_Fund_b0, lt_k hx, cond_true, idx_k hx, idx_k hy, Option.bind_some, ens_k hk h]
    unfold sameFund
    by_cases e1 : x.Account = y.Account <;> by_cases e2 : x.Asset = y.Asset <;> cases e3 : (x.Amount == y.Amount) <;> simp [e1, e2, e3, bne]
  · simp only [l_slices_Equal_api_Fund_api_Fund_b0, lt_no, cond_false]
/-- Books without escrows: alike? -/
def sameB (a b : SBook) : Bool := (a.Number == b.Number) && (a.Time == b.Time) && decide (a.Accounts = b.Accounts) && all2 sameFund a.Funds b.Funds
theorem sameB_eq {a b : SBook} (ha : a.Escrows = []) (hb : b.Escrows = []) : sameB a b = true ↔ a = b := by
  unfold sameB
  cases a; cases b
  simp only at ha hb
  subst ha; subst hb
  simp [sameFunds_all, and_assoc]
theorem bankSame_eq (a b : SBook) (ha : a.Escrows = []) (hb : b.Escrows = []) (h1 : a.Accounts.length ≤ 4611686018427387904) (h2 : a.Funds.length ≤ 4611686018427387904) : l_bank_Same a b = some (sameB a b) := by
  unfold l_bank_Same
  rw [equalTexts_eq _ _ h1, equalFunds_eq _ _ h2, ha, hb]
  have he : l_slices_EqualFunc_api_Escrow_api_Escrow_api_Escrow_api_Escrow__bank_Same_1 [] [] = some true := by
    unfold l_slices_EqualFunc_api_Escrow_api_Escrow_api_Escrow_api_Escrow__bank_Same_1
    exact same_of (a := ([] : List SEscrow)) (b := []) (fun _ _ => true) (fun k x y _ hx _ => by simp at hx) (by simp [l_slices_EqualFunc_api_Escrow_api_Escrow_api_Escrow_api_Escrow__bank_Same_1_b0])
  rw [he]
  unfold sameB
  cases e1 : (a.Number == b.Number) <;> cases e2 : (a.Time == b.Time) <;> by_cases e3 : a.Accounts = b.Accounts <;> cases e4 : all2 sameFund a.Funds b.Funds <;> simp [e3, grd]
theorem refSame_eq (a b : SBook) (ha : a.Escrows = []) (hb : b.Escrows = []) (h1 : a.Accounts.length ≤ 4611686018427387904) (h2 : a.Funds.length ≤ 4611686018427387904) : l_ref9_Same a b = some (sameB a b) := by
  have hloop : cond ((a.Funds.length : Int) != (b.Funds.length : Int)) (some false) (Option.bind (loopF (τ := (Int ⊕ Bool)) (fun s : Int => l_ref9_Same_b0 a b s) 0) fun o => (match o with | .inl _ => some true | .inr r => some r)) = some (all2 sameFund a.Funds b.Funds) := by
    refine same_of _ (fun k x y _ hx hy => ?_) ?_
    · have hk := (List.getElem?_eq_some_iff.1 hx).1
      simp only [l_ref9_Same_b0, lt_k hx, cond_true, idx_k hx, idx_k hy, Option.bind_some, ens_k hk h2]
      unfold sameFund
      by_cases e1 : x.Account = y.Account <;> by_cases e2 : x.Asset = y.Asset <;> cases e3 : (x.Amount == y.Amount) <;> simp [e1, e2, e3, bne]
    · simp only [l_ref9_Same_b0, lt_no, cond_false]
  have hesc : loopF (τ := (Int ⊕ Bool)) (fun s : Int => l_ref9_Same_b1 a b s) 0 = some (.inl 0) := loopF_inr (by simp [l_ref9_Same_b1, ha])
  unfold l_ref9_Same
  rw [sameTexts_eq _ _ h1, hesc]
  unfold sameB
  have hgo : ∀ c : Bool, cond (c || (a.Funds.length : Int) != (b.Funds.length : Int)) (some false) (Option.bind (loopF (τ := (Int ⊕ Bool)) (fun s : Int => l_ref9_Same_b0 a b s) 0) fun o => (match o with | .inl _ => some true | .inr r => some r)) = some (!c && all2 sameFund a.Funds b.Funds) := by
    intro c; cases c
    · rw [Bool.false_or, hloop]; rfl
    · rfl
  cases e1 : (a.Number == b.Number) <;> cases e2 : (a.Time == b.Time) <;> by_cases e3 : a.Accounts = b.Accounts
  all_goals
    simp only [bne, e1, e2, e3, grd, Bool.not_true, Bool.not_false, Bool.or_false, Bool.or_true, Bool.true_or, Bool.false_or, Option.bind_some, decide_true, decide_false, cond_true, Bool.false_and, Bool.true_and, Bool.and_false, ha, hb, List.length_nil, beq_self_eq_true]
    try exact hgo false
end Go.Proofs.Ytnkkfmnpkgjabaa.X
