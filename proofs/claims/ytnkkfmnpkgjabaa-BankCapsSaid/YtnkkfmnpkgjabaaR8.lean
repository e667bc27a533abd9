/- Plain laws: as many as may be, and one more. -/
import Derived.Test.YtnkkfmnpkgjabaaR6
import Derived.Test.YtnkkfmnpkgjabaaF9
namespace Go.Proofs.Ytnkkfmnpkgjabaa.X
open Go.RowKit
set_option linter.unusedVariables false
set_option linter.unusedSimpArgs false
set_option maxRecDepth 10000

noncomputable def accT (k : Nat) : Txt := (l_law0_Account (k : Int)).getD ⟨#[]⟩
noncomputable def bkC (k : Nat) : SBook := ⟨0, 0, (List.range k).map accT, [], []⟩
theorem twelve {p : Nat → Prop} (h0 : p 0) (h1 : p 1) (h2 : p 2) (h3 : p 3) (h4 : p 4) (h5 : p 5) (h6 : p 6) (h7 : p 7) (h8 : p 8) (h9 : p 9) (h10 : p 10) (h11 : p 11) (k : Nat) (hk : k < 12) : p k := by
  match k, hk with
  | 0, _ => exact h0
  | 1, _ => exact h1
  | 2, _ => exact h2
  | 3, _ => exact h3
  | 4, _ => exact h4
  | 5, _ => exact h5
  | 6, _ => exact h6
  | 7, _ => exact h7
  | 8, _ => exact h8
  | 9, _ => exact h9
  | 10, _ => exact h10
  | 11, _ => exact h11
theorem acc_eq (k : Nat) (hk : k < 12) : l_law0_Account (k : Int) = some (accT k) :=
  twelve (p := fun k => l_law0_Account (k : Int) = some (accT k)) (by kernel_rfl) (by kernel_rfl) (by kernel_rfl) (by kernel_rfl) (by kernel_rfl) (by kernel_rfl) (by kernel_rfl) (by kernel_rfl) (by kernel_rfl) (by kernel_rfl) (by kernel_rfl) (by kernel_rfl) k hk
theorem open_step (k : Nat) (hk : k < 12) : openB (bkC k) (accT k) = (bkC (k + 1), 0) :=
  twelve (p := fun k => openB (bkC k) (accT k) = (bkC (k + 1), 0)) (by kernel_rfl) (by kernel_rfl) (by kernel_rfl) (by kernel_rfl) (by kernel_rfl) (by kernel_rfl) (by kernel_rfl) (by kernel_rfl) (by kernel_rfl) (by kernel_rfl) (by kernel_rfl) (by kernel_rfl) k hk
theorem inv_bk : ∀ k, k ≤ 12 → InvB (bkC k) k
  | 0, _ => InvB.new 0
  | k + 1, h => by
    have := (inv_bk k (by omega)).open_ (accT k)
    rw [open_step k (by omega)] at this
    exact this.mono (by omega)
theorem caps_loop0 : loopF (τ := ((Int × Int × SBook) ⊕ Bool)) (fun s : Int × Int × SBook => l_law9_BankCaps_b0 s.1 s.2.1 s.2.2) (0, 0, bkC 0) = some (.inl (0, 12, bkC 12)) := by
  refine loop_seq (body := fun s : Int × Int × SBook => l_law9_BankCaps_b0 s.1 s.2.1 s.2.2) (fun k => ((0 : Int), (k : Int), bkC k)) 12 (fun i hi => ?_) ?_
  · show l_law9_BankCaps_b0 0 (i : Int) (bkC i) = _
    unfold l_law9_BankCaps_b0
    rw [decide_eq_true (show (i : Int) < 12 by omega), cond_true, acc_eq i hi, Option.bind_some, bankOpen_eq (inv_bk i (by omega)), open_step i hi, Option.bind_some, ensure_bind (by omega)]
    simp
  · show l_law9_BankCaps_b0 0 ((12 : Nat) : Int) (bkC 12) = _
    unfold l_law9_BankCaps_b0
    rfl
noncomputable def astT (k : Nat) : Txt := (⟨#[97, 115, 115, 101, 116]⟩ : Txt) ++ (l_law0_Digits 64 (k : Int)).getD ⟨#[]⟩
noncomputable def bfC (k : Nat) : SBook := ⟨0, 0, (List.range 12).map accT, (List.range k).map fun i => ⟨accT 0, astT i, 1⟩, []⟩
theorem four {p : Nat → Prop} (h0 : p 0) (h1 : p 1) (h2 : p 2) (h3 : p 3) (k : Nat) (hk : k < 4) : p k := by
  match k, hk with
  | 0, _ => exact h0
  | 1, _ => exact h1
  | 2, _ => exact h2
  | 3, _ => exact h3
theorem dig_eq (k : Nat) (hk : k < 4) : ∃ d, l_law0_Digits 64 (k : Int) = some d ∧ d.size = 1 ∧ (⟨#[97, 115, 115, 101, 116]⟩ : Txt) ++ d = astT k :=
  four (p := fun k => ∃ d, l_law0_Digits 64 (k : Int) = some d ∧ d.size = 1 ∧ (⟨#[97, 115, 115, 101, 116]⟩ : Txt) ++ d = astT k) ⟨⟨#[48]⟩, by kernel_rfl, rfl, by kernel_rfl⟩ ⟨⟨#[49]⟩, by kernel_rfl, rfl, by kernel_rfl⟩ ⟨⟨#[50]⟩, by kernel_rfl, rfl, by kernel_rfl⟩ ⟨⟨#[51]⟩, by kernel_rfl, rfl, by kernel_rfl⟩ k hk
theorem give_step (k : Nat) (hk : k < 4) : giveB (bfC k) (accT 0) (astT k) 1 = (bfC (k + 1), 0) :=
  four (p := fun k => giveB (bfC k) (accT 0) (astT k) 1 = (bfC (k + 1), 0)) (by kernel_rfl) (by kernel_rfl) (by kernel_rfl) (by kernel_rfl) k hk
theorem inv_bf : ∀ k, k ≤ 4 → InvB (bfC k) (12 + k)
  | 0, _ => inv_bk 12 (Nat.le_refl _)
  | k + 1, h => by
    have := (inv_bf k (by omega)).give (accT 0) (astT k) 1
    rw [give_step k (by omega)] at this
    exact this.mono (by omega)
theorem caps_loop1 (x4 : Nat) (h : x4 ≤ 1) : loopF (τ := ((Int × Int × SBook) ⊕ Bool)) (fun s : Int × Int × SBook => l_law9_BankCaps_b1 (x4 : Int) (accT 0) s.1 s.2.1 s.2.2) (0, 0, bfC 0) = some (.inl (0, ((3 + x4 : Nat) : Int), bfC (3 + x4))) := by
  refine loop_seq (body := fun s : Int × Int × SBook => l_law9_BankCaps_b1 (x4 : Int) (accT 0) s.1 s.2.1 s.2.2) (fun k => ((0 : Int), (k : Int), bfC k)) (3 + x4) (fun i hi => ?_) ?_
  · show l_law9_BankCaps_b1 (x4 : Int) (accT 0) 0 (i : Int) (bfC i) = _
    obtain ⟨d, hd, hs, hc⟩ := dig_eq i (by omega)
    unfold l_law9_BankCaps_b1
    rw [ensure_bind (by omega), decide_eq_true (show (i : Int) < 3 + (x4 : Int) by omega), cond_true, hd, Option.bind_some, ensure_bind (by rw [hs]; decide), hc, bankGive_eq (inv_bf i (by omega)) (by omega), give_step i (by omega), Option.bind_some, ensure_bind (by omega)]
    simp
  · show l_law9_BankCaps_b1 (x4 : Int) (accT 0) 0 ((3 + x4 : Nat) : Int) (bfC (3 + x4)) = _
    unfold l_law9_BankCaps_b1
    rw [ensure_bind (by omega), decide_eq_false (show ¬ ((3 + x4 : Nat) : Int) < 3 + (x4 : Int) by omega), cond_false]
theorem caps_a (x4 : Nat) (h : x4 ≤ 1) : giveB (bfC (3 + x4)) (accT 0) (⟨#[110, 101, 119]⟩ : Txt) 1 = (if x4 = 0 then (setB (bfC 3) (accT 0, ⟨#[110, 101, 119]⟩) 1, 0) else (bfC 4, 7)) := by
  rcases (show x4 = 0 ∨ x4 = 1 by omega) with rfl | rfl
  · kernel_rfl
  · kernel_rfl
theorem caps_b (x4 : Nat) (h : x4 ≤ 1) : (giveB (bfC (3 + x4)) (accT 0) (⟨#[97, 115, 115, 101, 116, 48]⟩ : Txt) 1).2 = 0 := by
  rcases (show x4 = 0 ∨ x4 = 1 by omega) with rfl | rfl
  · kernel_rfl
  · kernel_rfl
noncomputable def bgC : SBook := setB (bkC 12) (accT 0, ⟨#[103, 111, 108, 100]⟩) 1125899906842623
theorem caps_c : giveB (bkC 12) (accT 0) (⟨#[103, 111, 108, 100]⟩ : Txt) 1125899906842623 = (bgC, 0) := by kernel_rfl
theorem caps_d (x4 : Nat) (h : x4 ≤ 1) : (giveB bgC (accT 1) (⟨#[103, 111, 108, 100]⟩ : Txt) (1 + (x4 : Int))).2 = (if x4 = 0 then 0 else 3) ∧ sumA (giveB bgC (accT 1) (⟨#[103, 111, 108, 100]⟩ : Txt) (1 + (x4 : Int))).1.Funds (⟨#[103, 111, 108, 100]⟩ : Txt) = 1125899906842624 - x4 := by
  match x4, h with
  | 0, _ => exact ⟨by kernel_rfl, by kernel_rfl⟩
  | 1, _ => exact ⟨by kernel_rfl, by kernel_rfl⟩
theorem caps_o1 : openB (bkC 12) (⟨#[111, 116, 104, 101, 114]⟩ : Txt) = (bkC 12, 7) := by kernel_rfl
theorem caps_o2 : openB (bkC 12) (⟨#[48, 49, 50, 51, 52, 53, 54, 55, 56, 57, 48, 49, 50, 51, 52, 53, 54]⟩ : Txt) = (bkC 12, 1) := by kernel_rfl
theorem bit {r : Int} (h : 0 ≤ r ∧ r < 2) : ∃ n : Nat, r = n ∧ n ≤ 1 := ⟨r.toNat, by omega, by omega⟩
theorem caps_eq (a0 a1 : Int) : l_law9_BankCaps a0 a1 = some true := by
  obtain ⟨r1, hr1, h1⟩ := place_eq a1 2 (by omega)
  obtain ⟨r0, hr0, h0⟩ := place_eq a0 2 (by omega)
  obtain ⟨x4, rfl, hx⟩ := bit h1
  unfold l_law9_BankCaps
  rw [show l_bank_New 0 = some (bkC 0) from rfl, Option.bind_some, hr1, Option.bind_some, caps_loop0, Option.bind_some]
  dsimp only
  have hi := inv_bk 12 (Nat.le_refl _)
  rw [bankOpen_eq hi, caps_o1, Option.bind_some, bankOpen_eq hi, caps_o2, Option.bind_some]
  rw [show (((bkC 12, (7 : Int)).2 != 7) || ((bkC 12, (1 : Int)).2 != 1)) = false from rfl, cond_false, show l_law0_Account 0 = some (accT 0) from acc_eq 0 (by omega), Option.bind_some, hr0, Option.bind_some]
  by_cases hz : r0 = 0
  · rw [show (r0 == 0) = true by simpa using hz, cond_true, show bkC 12 = bfC 0 from rfl, caps_loop1 x4 hx, Option.bind_some]
    dsimp only
    have hf := inv_bf (3 + x4) (by omega)
    rw [bankGive_eq hf (by omega), Option.bind_some, bankGive_eq hf (by omega), Option.bind_some, caps_b x4 hx, caps_a x4 hx, awake_eq]
    match x4, hx with
    | 0, _ => rfl
    | 1, _ => rfl
  · rw [show (r0 == 0) = false by simpa using hz, cond_false, bankGive_eq hi (by omega), caps_c, Option.bind_some, show l_law0_Account 1 = some (accT 1) from acc_eq 1 (by omega), Option.bind_some, ensure_bind (by omega)]
    have hg := hi.give (accT 0) (⟨#[103, 111, 108, 100]⟩ : Txt) 1125899906842623
    rw [caps_c] at hg
    have hh := hg.give (accT 1) (⟨#[103, 111, 108, 100]⟩ : Txt) (1 + (x4 : Int))
    obtain ⟨d1, d2⟩ := caps_d x4 hx
    dsimp only
    rw [bankGive_eq hg (by omega), Option.bind_some, bankTotal_eq _ _ hh.esc hh.smalls (by have := hh.funds; omega), d2, d1, awake_eq]
    match x4, hx with
    | 0, _ => rfl
    | 1, _ => rfl
end Go.Proofs.Ytnkkfmnpkgjabaa.X
