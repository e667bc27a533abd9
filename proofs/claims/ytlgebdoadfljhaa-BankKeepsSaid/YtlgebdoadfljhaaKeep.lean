/- BankKeeps: the plain law. -/
import Derived.Test.YtlgebdoadfljhaaAwake
namespace Go.Proofs.Ytlgebdoadfljhaa
open Go.RowKit
set_option linter.unusedVariables false
set_option linter.unusedSimpArgs false

abbrev abcd : ByteArray := ⟨#[97, 98, 99, 100]⟩
def ch (i : Nat) : ByteArray := abcd.extract i (i + 1)
def cs4 : List ByteArray := [ch 0, ch 1, ch 2, ch 3]
theorem memS_iff (ss : List ByteArray) (s : ByteArray) : memS ss s = true ↔ s ∈ ss := by
  unfold memS
  rw [List.any_eq_true]
  constructor
  · rintro ⟨x, hx, h⟩
    have : s = x := tl_inj (by simpa using h)
    exact this ▸ hx
  · exact fun h => ⟨s, h, by simp⟩
theorem ch_eq : ch 0 = ⟨#[97]⟩ ∧ ch 1 = ⟨#[98]⟩ ∧ ch 2 = ⟨#[99]⟩ ∧ ch 3 = ⟨#[100]⟩ := by decide
theorem ch_inj {i j : Nat} (hi : i < 4) (hj : j < 4) : ch i = ch j ↔ i = j := by
  have : ∀ i : Fin 4, ∀ j : Fin 4, ch i.1 = ch j.1 → i = j := by decide
  exact ⟨fun h => congrArg Fin.val (this ⟨i, hi⟩ ⟨j, hj⟩ h), fun h => h ▸ rfl⟩
theorem ch_size {i : Nat} (hi : i < 4) : (ch i).size = 1 := by
  have : ∀ i : Fin 4, (ch i.1).size = 1 := by decide
  exact this ⟨i, hi⟩
theorem ch_name {i : Nat} (hi : i < 4) : nameB (ch i) = true := by simp [nameB, ch_size hi]
theorem ch_mem {i : Nat} (hi : i < 4) : ch i ∈ cs4 := by
  obtain rfl | rfl | rfl | rfl : i = 0 ∨ i = 1 ∨ i = 2 ∨ i = 3 := by omega
  all_goals simp [cs4]
theorem take_mem {i j : Nat} (hi : i ≤ 4) (hj : j < 4) : ch j ∈ cs4.take i ↔ j < i := by
  have hlen : i ≤ cs4.length := hi
  have hg : ∀ q, q < 4 → cs4[q]? = some (ch q) := fun q hq => by
    obtain rfl | rfl | rfl | rfl : q = 0 ∨ q = 1 ∨ q = 2 ∨ q = 3 := by omega
    all_goals rfl
  rw [List.mem_iff_getElem?]
  constructor
  · rintro ⟨q, hq⟩
    by_cases hqi : q < i
    · rw [List.getElem?_take_of_lt hqi, hg q (by omega)] at hq
      injection hq with hq
      have := (ch_inj (by omega) hj).1 hq
      omega
    · rw [List.getElem?_eq_none (by rw [List.length_take]; omega)] at hq; cases hq
  · exact fun h => ⟨j, by rw [List.getElem?_take_of_lt h, hg j hj]⟩
theorem take_succ4 {i : Nat} (hi : i < 4) : cs4.take i ++ [ch i] = cs4.take (i + 1) := by
  obtain rfl | rfl | rfl | rfl : i = 0 ∨ i = 1 ∨ i = 2 ∨ i = 3 := by omega
  all_goals rfl
structure K1 (i : Nat) (b : Bank) : Prop where
  fit : Fit b
  accs : b.accs = cs4.take i
  len : b.funds.length ≤ i
  sum : sumA b.funds gold = 100 * i
  amt : ∀ j, j < 4 → amtF b.funds (ch j, gold) = if j < i then 100 else 0
theorem k1_new : K1 0 (newB 0) := ⟨fit_new 0, rfl, by simp [newB], by simp [newB, sumA], fun j hj => by simp [newB, amtF_nil]⟩
theorem k1_open {i : Nat} {b : Bank} (h : K1 i b) (hi : i < 4) : openB b (ch i) = ({ b with accs := cs4.take (i + 1) }, 0) := by
  have hnm : ¬ memS b.accs (ch i) = true := by rw [memS_iff, h.accs, take_mem (by omega) hi]; omega
  unfold openB
  rw [if_neg (by simp [ch_name hi]), if_neg hnm, if_neg (by rw [h.accs, List.length_take]; simp [cs4]; omega), h.accs, take_succ4 hi]
theorem k1_give {i : Nat} {b : Bank} (h : K1 i b) (hi : i < 4) : giveB { b with accs := cs4.take (i + 1) } (ch i) gold 100 = (setB { b with accs := cs4.take (i + 1) } (ch i, gold) 100, 0) := by
  have hal := astS_le b.funds
  have hl := h.len
  unfold giveB
  rw [if_pos (asks_ok (by decide) (by omega) ((memS_iff _ _).2 ((take_mem (by omega) hi).2 (by omega)))), if_neg (by simp only; omega), if_neg (by simp only [h.sum]; omega)]
  simp only
  rw [h.amt i hi, if_neg (by omega)]
  rfl
theorem k1_step {i : Nat} {b : Bank} (h : K1 i b) (hi : i < 4) : K1 (i + 1) (setB { b with accs := cs4.take (i + 1) } (ch i, gold) 100) where
  fit := fit_set (b := { b with accs := cs4.take (i + 1) }) ⟨h.fit.sorted, h.fit.smalls, h.fit.funds, by show (cs4.take (i + 1)).length ≤ 1000; rw [List.length_take]; omega⟩ (by have := h.len; show b.funds.length + 1 ≤ 1000; omega) _ (by omega)
  accs := rfl
  len := by have := setF_len b.funds (ch i, gold) 100; have := h.len; simp only [setB]; omega
  sum := by
    simp only [setB]
    rw [sumA_set h.fit.sorted, if_pos rfl, h.sum, h.amt i hi, if_neg (by omega)]; omega
  amt := fun j hj => by
    simp only [setB]
    rw [amtF_set h.fit.sorted]
    by_cases hji : j = i
    · subst hji; rw [if_pos rfl, if_pos (by omega)]
    · rw [if_neg (fun e => hji ((ch_inj hj hi).1 (congrArg Prod.fst e))), h.amt j hj]
      by_cases h2 : j < i
      · rw [if_pos h2, if_pos (by omega)]
      · rw [if_neg h2, if_neg (by omega)]
def am (b : Bank) (j : Nat) : Int := amtF b.funds (ch j, gold)
structure K2 (k : Nat) (b : Bank) : Prop where
  fit : Fit b
  accs : b.accs = cs4
  len : b.funds.length ≤ 4 + 2 * k
  sum : sumA b.funds gold = 400
  amt : am b 0 + am b 1 + am b 2 + am b 3 = 400
theorem k2_start {b : Bank} (h : K1 4 b) : K2 0 b := by
  refine ⟨h.fit, h.accs, by have := h.len; omega, by rw [h.sum]; rfl, ?_⟩
  simp only [am]
  rw [h.amt 0 (by omega), h.amt 1 (by omega), h.amt 2 (by omega), h.amt 3 (by omega)]; rfl
theorem am_set {b : Bank} (h : Fit b) {x j : Nat} (hx : x < 4) (hj : j < 4) (m : Int) : am (setB b (ch x, gold) m) j = if j = x then m else am b j := by
  simp only [am, setB]
  rw [amtF_set h.sorted]
  by_cases e : j = x
  · rw [if_pos e, if_pos (by rw [e])]
  · rw [if_neg e, if_neg (fun q => e ((ch_inj hj hx).1 (congrArg Prod.fst q)))]
theorem k2_bal {k : Nat} {b : Bank} (h : K2 k b) {x : Nat} (hx : x < 4) : balB b (ch x) gold = (am b x, 0) := by
  unfold balB
  rw [if_pos (asks_ok (by decide) (by omega) ((memS_iff _ _).2 (h.accs ▸ ch_mem hx)))]; rfl
theorem k2_poor {k : Nat} {b : Bank} (h : K2 k b) {x y : Nat} (hx : x < 4) {n : Int} (hn : 1 ≤ n ∧ n ≤ 60) (hlt : am b x < n) : moveB b (ch x) (ch y) gold n = (b, 6) := by
  have : takeB b (ch x) gold n = (b, 6) := by
    unfold takeB
    rw [if_pos (asks_ok (by decide) (by omega) ((memS_iff _ _).2 (h.accs ▸ ch_mem hx))), if_pos (show amtF b.funds (ch x, gold) < n from hlt)]
  unfold moveB
  rw [this, if_neg (by simp)]
def mv (b : Bank) (x y : Nat) (n : Int) : Bank := setB (setB b (ch x, gold) (am b x - n)) (ch y, gold) (am (setB b (ch x, gold) (am b x - n)) y + n)
theorem k2_move {k : Nat} {b : Bank} (h : K2 k b) {x y : Nat} (hx : x < 4) (hy : y < 4) {n : Int} (hn : 1 ≤ n ∧ n ≤ 60) (hlt : ¬ am b x < n) : moveB b (ch x) (ch y) gold n = (mv b x y n, 0) := by
  have : takeB b (ch x) gold n = (setB b (ch x, gold) (am b x - n), 0) := by
    unfold takeB
    rw [if_pos (asks_ok (by decide) (by omega) ((memS_iff _ _).2 (h.accs ▸ ch_mem hx))), if_neg (show ¬ amtF b.funds (ch x, gold) < n from hlt)]
    rfl
  unfold moveB
  rw [this, if_pos rfl, if_neg (by simp [(memS_iff _ _).2 (h.accs ▸ ch_mem hy)])]
  rfl
theorem am_small {b : Bank} (h : Fit b) (j : Nat) : 0 ≤ am b j ∧ am b j ≤ 1125899906842624 := amtF_small h.smalls _
theorem k2_step {k : Nat} {b : Bank} (h : K2 k b) (hk : k < 100) {x y : Nat} (hx : x < 4) (hy : y < 4) {n : Int} (hn : 1 ≤ n ∧ n ≤ 60) (hlt : ¬ am b x < n) : K2 (k + 1) (mv b x y n) := by
  have hl := h.len
  have s0 := am_small h.fit 0
  have s1 := am_small h.fit 1
  have s2 := am_small h.fit 2
  have s3 := am_small h.fit 3
  have sx := am_small h.fit x
  have ha := h.amt
  have l1 := setF_len b.funds (ch x, gold) (am b x - n)
  have f1 : Fit (setB b (ch x, gold) (am b x - n)) := fit_set h.fit (by omega) _ (by omega)
  have a1 : ∀ j, j < 4 → am (setB b (ch x, gold) (am b x - n)) j = if j = x then am b x - n else am b j := fun j hj => am_set h.fit hx hj _
  have sy := am_small f1 y
  have l2 := setF_len (setB b (ch x, gold) (am b x - n)).funds (ch y, gold) (am (setB b (ch x, gold) (am b x - n)) y + n)
  have hup : am (setB b (ch x, gold) (am b x - n)) y + n ≤ 1125899906842624 := by
    rw [a1 y hy]
    obtain rfl | rfl | rfl | rfl : x = 0 ∨ x = 1 ∨ x = 2 ∨ x = 3 := by omega
    all_goals obtain rfl | rfl | rfl | rfl : y = 0 ∨ y = 1 ∨ y = 2 ∨ y = 3 := by omega
    all_goals simp only [if_true, Nat.reduceEqDiff, if_false]; omega
  have a2 : ∀ j, j < 4 → am (mv b x y n) j = if j = y then am (setB b (ch x, gold) (am b x - n)) y + n else am (setB b (ch x, gold) (am b x - n)) j := fun j hj => am_set f1 hy hj _
  have l1' : (setB b (ch x, gold) (am b x - n)).funds.length ≤ b.funds.length + 1 := l1
  refine ⟨fit_set f1 (by omega) _ (by omega), h.accs, by show (mv b x y n).funds.length ≤ _; have : (mv b x y n).funds.length ≤ (setB b (ch x, gold) (am b x - n)).funds.length + 1 := l2; omega, ?_, ?_⟩
  · show sumA (setF (setF b.funds (ch x, gold) (am b x - n)) (ch y, gold) _) gold = 400
    rw [sumA_set (show Sorted (setF b.funds (ch x, gold) (am b x - n)) from f1.sorted), if_pos rfl, sumA_set h.fit.sorted, if_pos rfl, h.sum]
    have e1 : amtF b.funds (ch x, gold) = am b x := rfl
    have e2 : amtF (setF b.funds (ch x, gold) (am b x - n)) (ch y, gold) = am (setB b (ch x, gold) (am b x - n)) y := rfl
    rw [e1, e2]; omega
  · rw [a2 0 (by omega), a2 1 (by omega), a2 2 (by omega), a2 3 (by omega), a1 0 (by omega), a1 1 (by omega), a1 2 (by omega), a1 3 (by omega), a1 y hy]
    obtain rfl | rfl | rfl | rfl : x = 0 ∨ x = 1 ∨ x = 2 ∨ x = 3 := by omega
    all_goals obtain rfl | rfl | rfl | rfl : y = 0 ∨ y = 1 ∨ y = 2 ∨ y = 3 := by omega
    all_goals simp; omega
theorem k2_more {k : Nat} {b : Bank} (h : K2 k b) : K2 (k + 1) b := ⟨h.fit, h.accs, by have := h.len; omega, h.sum, h.amt⟩
end Go.Proofs.Ytlgebdoadfljhaa
