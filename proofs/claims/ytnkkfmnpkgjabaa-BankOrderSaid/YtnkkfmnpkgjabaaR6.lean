/- Plain laws: the example; any calls. -/
import Derived.Test.YtnkkfmnpkgjabaaR5
import Derived.Test.YtnkkfmnpkgjabaaF6
namespace Go.Proofs.Ytnkkfmnpkgjabaa.X
set_option linter.unusedVariables false
set_option linter.unusedSimpArgs false
set_option maxRecDepth 10000

def tA : Txt := ⟨#[97]⟩
def tGold : Txt := ⟨#[103, 111, 108, 100]⟩
theorem awake_eq : l_law9_awake = some true := by
  have h0 : InvB (SBook.mk 1 0 [] [] []) 0 := InvB.new 1
  have e0 : l_bank_New 1 = some (SBook.mk 1 0 [] [] []) := rfl
  have e1 : openB (SBook.mk 1 0 [] [] []) tA = (SBook.mk 1 0 [tA] [] [], 0) := rfl
  have h1 := h0.open_ tA
  rw [e1] at h1
  have e2 : giveB (SBook.mk 1 0 [tA] [] []) tA tGold 5 = (SBook.mk 1 0 [tA] [⟨tA, tGold, 5⟩] [], 0) := by
    have hm : memT [tA] tA = true := memT_iff.2 List.mem_cons_self
    have ha : asksB (SBook.mk 1 0 [tA] [] []) tA tGold 5 = 0 := by
      unfold asksB; rw [hm]; decide
    unfold giveB
    rw [ha, if_neg (by simp), if_neg (by simp [distT]), if_neg (by decide)]
    rfl
  have h2 := h1.give tA tGold 5
  rw [e2] at h2
  have hm : memT [tA] tA = true := memT_iff.2 List.mem_cons_self
  have hamt : amtF [⟨tA, tGold, 5⟩] (tA, tGold) = 5 := amtF_of_mem h2.sorted (f := ⟨tA, tGold, 5⟩) List.mem_cons_self
  have e3 : takeB (SBook.mk 1 0 [tA] [⟨tA, tGold, 5⟩] []) tA tGold 6 = (SBook.mk 1 0 [tA] [⟨tA, tGold, 5⟩] [], 6) := by
    have ha : asksB (SBook.mk 1 0 [tA] [⟨tA, tGold, 5⟩] []) tA tGold 6 = 0 := by
      unfold asksB; rw [hm]; decide
    unfold takeB
    rw [ha, if_neg (by simp), if_pos]
    show amtF [⟨tA, tGold, 5⟩] (tA, tGold) < 6
    rw [hamt]; decide
  have e4 : balB (SBook.mk 1 0 [tA] [⟨tA, tGold, 5⟩] []) tA tGold = (5, 0) := by
    have ha : asksB (SBook.mk 1 0 [tA] [⟨tA, tGold, 5⟩] []) tA tGold 1 = 0 := by
      unfold asksB; rw [hm]; decide
    unfold balB
    rw [ha, if_neg (by simp)]
    show (amtF [⟨tA, tGold, 5⟩] (tA, tGold), (0 : Int)) = _
    rw [hamt]
  have e5 : sumA [⟨tA, tGold, 5⟩] tGold = 5 := by rw [sumA_cons, if_pos rfl]; rfl
  unfold l_law9_awake
  show Option.bind _ _ = _
  rw [e0, Option.bind_some, show (⟨#[97]⟩ : Txt) = tA from rfl, show (⟨#[103, 111, 108, 100]⟩ : Txt) = tGold from rfl, bankOpen_eq h0, e1, Option.bind_some]
  dsimp only
  rw [bankGive_eq h1 (by omega), e2, Option.bind_some]
  dsimp only
  rw [bankTake_eq h2 (by omega), e3, Option.bind_some, bankBalance_eq h2 (by omega), e4, Option.bind_some, bankTotal_eq _ _ h2.esc h2.smalls (by simp)]
  show Option.bind (grd _ (some (sumA [⟨tA, tGold, 5⟩] tGold))) _ = _
  rw [e5]
  rfl
theorem txt_part (s : Txt) (i : Int) (n : Int) (h : 0 ≤ i ∧ i < n) (hn : (s.size : Int) = n) {β : Type} (f : Unit → Option β) : (ensure (0 ≤ i ∧ i ≤ (i + 1) ∧ (i + 1) ≤ (s.size : Int))).bind f = f () := ensure_bind (by omega) f
theorem place30 {k : Int} (h : 0 ≤ k ∧ k < 1073741824) (d : Int) (hd : 0 < d) : IntKind.wrap .i64 (k.tdiv d) = k / d ∧ 0 ≤ k / d ∧ k / d ≤ 1073741824 := by
  have h1 : k.tdiv d = k / d := Int.tdiv_eq_ediv_of_nonneg h.1
  have h2 : 0 ≤ k / d := Int.ediv_nonneg h.1 (by omega)
  have h3 : k / d ≤ k := Int.ediv_le_self d h.1
  rw [h1]
  exact ⟨wrap_i64 (by omega), h2, by omega⟩
theorem tmod_nn {a n : Int} (h : 0 ≤ a) (hn : 0 < n) : 0 ≤ a.tmod n ∧ a.tmod n < n := by
  rw [Int.tmod_eq_emod_of_nonneg h]
  exact ⟨Int.emod_nonneg a (by omega), Int.emod_lt_of_pos a hn⟩
theorem grd_ens {c : Bool} {p : Prop} [Decidable p] {β : Type} (h : p) (f : Unit → Option β) : (grd c (ensure p)).bind f = f () := by
  cases c
  · rfl
  · exact ensure_bind h f
theorem numbers_round (l : List Int) (k : Nat) (b : SBook) (h : InvB b (2 * k)) (hk : k < l.length) (hk2 : k < 100) : ∃ c, l_law9_BankNumbers_b0 l k b b = some (.inl (((k + 1 : Nat) : Int), c, c)) ∧ InvB c (2 * (k + 1)) := by
  have hx := List.getElem?_eq_getElem hk
  generalize l[k] = v at hx
  unfold l_law9_BankNumbers_b0
  rw [lt_k hx, decide_eq_true (show (k : Int) < 100 by omega), Bool.and_self, cond_true, idx_k hx, Option.bind_some]
  obtain ⟨r, hr, h0, h1⟩ := place_eq v 1073741824 (by omega)
  rw [hr, Option.bind_some]
  have p10 := place30 ⟨h0, h1⟩ 10 (by omega)
  have p160 := place30 ⟨h0, h1⟩ 160 (by omega)
  have p640 := place30 ⟨h0, h1⟩ 640 (by omega)
  have p3840 := place30 ⟨h0, h1⟩ 3840 (by omega)
  rw [p10.1, p160.1, p640.1, p3840.1]
  have t16 := tmod_nn p10.2.1 (n := 16) (by omega)
  have t4 := tmod_nn p160.2.1 (n := 4) (by omega)
  have t6 := tmod_nn p640.2.1 (n := 6) (by omega)
  generalize (r / 10).tmod 16 = a1 at t16
  generalize (r / 160).tmod 4 = a2 at t4
  generalize (r / 640).tmod 6 = a3 at t6
  generalize (r / 3840).tmod 50 = a4
  generalize r.tmod 10 = a5
  have s16 : ((⟨#[97, 98, 99, 100, 101, 102, 103, 104, 105, 106, 107, 108, 109, 110, 111, 112]⟩ : Txt).size : Int) = 16 := rfl
  have s4 : ((⟨#[97, 98, 99, 100]⟩ : Txt).size : Int) = 4 := rfl
  have s6 : ((⟨#[103, 115, 120, 121, 122, 119]⟩ : Txt).size : Int) = 6 := rfl
  rw [ensure_bind (by omega), ensure_bind (by omega), ensure_bind (by omega), ensure_bind (by omega), ensure_bind (by omega)]
  rw [ensure_bind (by omega), ensure_bind (by rw [s16]; omega)]
  rw [ensure_bind (by omega), ensure_bind (by omega), ensure_bind (by omega), ensure_bind (by omega)]
  rw [ensure_bind (by omega), ensure_bind (by rw [s4]; omega)]
  rw [ensure_bind (by omega), ensure_bind (by omega), ensure_bind (by omega), ensure_bind (by omega)]
  rw [ensure_bind (by omega), ensure_bind (by rw [s6]; omega)]
  rw [ensure_bind (by omega), ensure_bind (by omega), ensure_bind (by omega), ensure_bind (by omega), grd_ens (by omega)]
  have fin : ∀ o : Slaw09Op, ∃ c, ((l_law9_step b b o).bind fun x157 => cond (!x157.2.2) (some (.inr (.inr false) : (Int × SBook × SBook) ⊕ ((Int × SBook × SBook) ⊕ Bool))) ((ensure (-9223372036854775808 ≤ (k : Int) + 1 ∧ (k : Int) + 1 ≤ 9223372036854775807)).bind fun _ => some (.inl (((k : Int) + 1), x157.2.1, x157.1)))) = some (.inl (((k + 1 : Nat) : Int), c, c)) ∧ InvB c (2 * (k + 1)) := by
    intro o
    obtain ⟨c, hc, hi⟩ := step_eq h (by omega) o
    refine ⟨c, ?_, hi⟩
    rw [hc, Option.bind_some]
    dsimp only
    rw [Bool.not_true, cond_false, ensure_bind (by omega)]
    simp
  cases (decide (a1 > 3) && decide (a5 > 1))
  · exact fin _
  · exact fin _
theorem numbers_end (l : List Int) (k : Nat) (b : SBook) (hk : k = l.length ∨ k = 100) : l_law9_BankNumbers_b0 l k b b = some (.inr (.inl ((k : Int), b, b))) := by
  have : (decide ((k : Int) < (l.length : Int)) && decide ((k : Int) < 100)) = false := by
    rcases hk with h | h
    · subst h; simp
    · subst h; simp
  unfold l_law9_BankNumbers_b0
  rw [this, cond_false]
theorem numbers_loop (l : List Int) (d : Nat) : ∀ (k : Nat) (b : SBook), InvB b (2 * k) → k + d = min l.length 100 → ∃ c, loopF (τ := ((Int × SBook × SBook) ⊕ Bool)) (fun s : Int × SBook × SBook => l_law9_BankNumbers_b0 l s.1 s.2.1 s.2.2) ((k : Int), b, b) = some (.inl c) := by
  induction d with
  | zero =>
    intro k b h hk
    exact ⟨_, loopF_inr (by exact numbers_end l k b (by omega))⟩
  | succ d ih =>
    intro k b h hk
    obtain ⟨c, hc, hi⟩ := numbers_round l k b h (by omega) (by omega)
    obtain ⟨e, he⟩ := ih (k + 1) c hi (by omega)
    exact ⟨e, (loopF_inl (by exact hc)).trans he⟩
theorem numbers_eq (l : List Int) : l_law9_BankNumbers l = some true := by
  obtain ⟨⟨e1, e2, e3⟩, he⟩ := numbers_loop l _ 0 (SBook.mk 0 0 [] [] []) (InvB.new 0) (Nat.zero_add _)
  unfold l_law9_BankNumbers
  rw [show l_bank_New 0 = some (SBook.mk 0 0 [] [] []) from rfl, show l_ref9_New 0 = some (SBook.mk 0 0 [] [] []) from rfl, Option.bind_some, Option.bind_some]
  rw [show ((0 : Int), SBook.mk 0 0 [] [] [], SBook.mk 0 0 [] [] []) = (((0 : Nat) : Int), SBook.mk 0 0 [] [] [], SBook.mk 0 0 [] [] []) from rfl, he, Option.bind_some]
  show Option.bind _ _ = _
  rw [awake_eq, Option.bind_some]
end Go.Proofs.Ytnkkfmnpkgjabaa.X
