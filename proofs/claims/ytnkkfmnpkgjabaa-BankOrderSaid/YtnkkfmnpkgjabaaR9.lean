/- Plain laws: funds rise by account, then asset; what is all taken is gone. -/
import Derived.Test.YtnkkfmnpkgjabaaR6
import Derived.Test.YtnkkfmnpkgjabaaF8
namespace Go.Proofs.Ytnkkfmnpkgjabaa.X
open Go.RowKit
set_option linter.unusedVariables false
set_option linter.unusedSimpArgs false
set_option maxRecDepth 10000

abbrev ecadb : Txt := ⟨#[101, 99, 97, 100, 98]⟩
abbrev abcde : Txt := ⟨#[97, 98, 99, 100, 101]⟩
abbrev gsx : Txt := ⟨#[103, 115, 120]⟩
def ec (i : Nat) : Txt := ecadb.extract i (i + 1)
def wh (i : Nat) : Txt := abcde.extract i (i + 1)
def ax (i : Nat) : Txt := gsx.extract i (i + 1)
def es5 : List Txt := [ec 0, ec 1, ec 2, ec 3, ec 4]
theorem five {p : Nat → Prop} (h0 : p 0) (h1 : p 1) (h2 : p 2) (h3 : p 3) (h4 : p 4) (k : Nat) (hk : k < 5) : p k := by
  match k, hk with
  | 0, _ => exact h0
  | 1, _ => exact h1
  | 2, _ => exact h2
  | 3, _ => exact h3
  | 4, _ => exact h4
theorem three {p : Nat → Prop} (h0 : p 0) (h1 : p 1) (h2 : p 2) (k : Nat) (hk : k < 3) : p k := by
  match k, hk with
  | 0, _ => exact h0
  | 1, _ => exact h1
  | 2, _ => exact h2
theorem wh_mem {i : Nat} (hi : i < 5) : memT es5 (wh i) = true :=
  five (p := fun i => memT es5 (wh i) = true) (by kernel_rfl) (by kernel_rfl) (by kernel_rfl) (by kernel_rfl) (by kernel_rfl) i hi
theorem ax_name {i : Nat} (hi : i < 3) : nameB (ax i) = true :=
  three (p := fun i => nameB (ax i) = true) (by kernel_rfl) (by kernel_rfl) (by kernel_rfl) i hi
def obO (i : Nat) : SBook := ⟨2, 0, es5.take i, [], []⟩
theorem ob_open {i : Nat} (hi : i < 5) : openB (obO i) (ec i) = (obO (i + 1), 0) :=
  five (p := fun i => openB (obO i) (ec i) = (obO (i + 1), 0)) (by kernel_rfl) (by kernel_rfl) (by kernel_rfl) (by kernel_rfl) (by kernel_rfl) i hi
theorem inv_ob : ∀ k, k ≤ 5 → InvB (obO k) 0
  | 0, _ => InvB.new 2
  | k + 1, h => by
    have := (inv_ob k (by omega)).open_ (ec k)
    rw [ob_open (by omega)] at this
    exact this
theorem order_loop0 : loopF (τ := Int × SBook) (fun s : Int × SBook => l_law9_BankOrder_b0 s.1 s.2) (0, obO 0) = some (5, obO 5) := by
  refine loop_seq (body := fun s : Int × SBook => l_law9_BankOrder_b0 s.1 s.2) (fun k => ((k : Int), obO k)) 5 (fun i hi => ?_) ?_
  · show l_law9_BankOrder_b0 (i : Int) (obO i) = _
    unfold l_law9_BankOrder_b0
    rw [decide_eq_true (show (i : Int) < 5 by omega), cond_true, ensure_bind (by omega), ensure_bind (by rw [show ((⟨#[101, 99, 97, 100, 98]⟩ : Txt).size : Int) = 5 from rfl]; omega)]
    rw [show (⟨#[101, 99, 97, 100, 98]⟩ : Txt).extract (i : Int).toNat ((i : Int) + 1).toNat = ec i from rfl, bankOpen_eq (inv_ob i (by omega)), ob_open hi, Option.bind_some, ensure_bind (by omega)]
    simp
  · show l_law9_BankOrder_b0 ((5 : Nat) : Int) (obO 5) = _
    unfold l_law9_BankOrder_b0
    rfl
structure O2 (k : Nat) (b : SBook) : Prop where
  inv : InvB b k
  num : b.Number = 2
  accs : b.Accounts = es5
  pos : ∀ f ∈ b.Funds, 1 ≤ f.Amount
  asts : ∀ f ∈ b.Funds, f.Asset = ax 0 ∨ f.Asset = ax 1 ∨ f.Asset = ax 2
  sum : ∀ a, sumA b.Funds a ≤ 9 * k
theorem o2_start : O2 0 (obO 5) := ⟨inv_ob 5 (Nat.le_refl _), rfl, rfl, (fun f hf => nomatch hf), (fun f hf => nomatch hf), fun a => by show (0 : Int) ≤ _; omega⟩
theorem nodup_le3 {l : List Txt} (hn : l.Nodup) (x y z : Txt) (h : ∀ a ∈ l, a = x ∨ a = y ∨ a = z) : l.length ≤ 3 := by
  match l, hn, h with
  | [], _, _ => simp
  | [_], _, _ => simp
  | [_, _], _, _ => simp
  | [_, _, _], _, _ => simp
  | a :: b :: c :: d :: r, hn, h =>
    simp only [List.nodup_cons, List.mem_cons, not_or] at hn
    obtain ⟨⟨n1, n2, n3, _⟩, ⟨n4, n5, _⟩, ⟨n6, _⟩, _⟩ := hn
    have ha := h a (by simp)
    have hb := h b (by simp)
    have hc := h c (by simp)
    have hd := h d (by simp)
    exfalso
    rcases ha with ha | ha | ha <;> rcases hb with hb | hb | hb <;> rcases hc with hc | hc | hc <;> rcases hd with hd | hd | hd <;> subst_vars <;> simp_all
theorem o2_asts {k : Nat} {b : SBook} (h : O2 k b) : (distT b.Funds).length ≤ 3 :=
  nodup_le3 (distT_mem b.Funds ⟨#[]⟩).2 (ax 0) (ax 1) (ax 2) fun a ha => by
    obtain ⟨_, f, hf, rfl⟩ := (distT_mem b.Funds a).1.1 ha
    exact h.asts f hf
theorem as_cases {y : Nat} (hy : y < 3) : ax y = ax 0 ∨ ax y = ax 1 ∨ ax y = ax 2 := by
  obtain rfl | rfl | rfl : y = 0 ∨ y = 1 ∨ y = 2 := by omega
  all_goals simp
theorem ax_ne {y : Nat} (hy : y < 3) : ax y ≠ ⟨#[]⟩ := name_ne (ax_name hy)
theorem o2_asks {k : Nat} {b : SBook} (h : O2 k b) {x y : Nat} (hx : x < 5) (hy : y < 3) {n : Int} (hn : 1 ≤ n ∧ n ≤ 1125899906842624) : asksB b (wh x) (ax y) n = 0 := by
  unfold asksB
  rw [ax_name hy, decide_eq_false (show ¬ n < 1 by omega), decide_eq_false (show ¬ n > 1125899906842624 by omega), h.accs, wh_mem hx]
  rfl
def amo (b : SBook) (x y : Nat) : Int := amtF b.Funds (wh x, ax y)
theorem o2_bal {k : Nat} {b : SBook} (h : O2 k b) {x y : Nat} (hx : x < 5) (hy : y < 3) : balB b (wh x) (ax y) = (amo b x y, 0) := by
  unfold balB
  rw [o2_asks h hx hy (by omega), if_neg (by simp)]; rfl
theorem o2_amo {k : Nat} {b : SBook} (h : O2 k b) (x y : Nat) : 0 ≤ amo b x y ∧ amo b x y ≤ 9 * k := by
  have h1 := amtF_le h.inv.nonneg (wh x, ax y)
  have h2 := h.sum (ax y)
  exact ⟨h1.1, Int.le_trans h1.2 h2⟩
theorem o2_set {k : Nat} {b : SBook} (h : O2 k b) (hk : k < 60) {x y : Nat} (hx : x < 5) (hy : y < 3) {m : Int} (hm : 0 ≤ m) (hu : m ≤ amo b x y + 9) : O2 (k + 1) (setB b (wh x, ax y) m) := by
  have hs2 := h.sum (ax y)
  have ha : amo b x y = amtF b.Funds (wh x, ax y) := rfl
  refine ⟨h.inv.set (wh x) (ax y) m hm (by omega) (ax_ne hy), h.num, h.accs, fun f hf => ?_, fun f hf => ?_, fun a => ?_⟩
  · rcases setF_mem _ _ f hf with hf | ⟨rfl, hne⟩
    · exact h.pos f hf
    · show 1 ≤ m; omega
  · rcases setF_mem _ _ f hf with hf | ⟨rfl, hne⟩
    · exact h.asts f hf
    · exact as_cases hy
  · show sumA (setF b.Funds (wh x, ax y) m) a ≤ _
    rw [sumA_set h.inv.sorted]
    have := h.sum a
    split <;> omega
theorem o2_more {k : Nat} {b : SBook} (h : O2 k b) : O2 (k + 1) b :=
  ⟨h.inv.mono (Nat.le_succ k), h.num, h.accs, h.pos, h.asts, fun a => by have := h.sum a; omega⟩
theorem o2_give {k : Nat} {b : SBook} (h : O2 k b) (hk : k < 60) {x y : Nat} (hx : x < 5) (hy : y < 3) {n : Int} (hn : 1 ≤ n ∧ n ≤ 9) : giveB b (wh x) (ax y) n = (setB b (wh x, ax y) (amo b x y + n), 0) := by
  have h3 := o2_asts h
  have h4 := h.sum (ax y)
  unfold giveB
  rw [o2_asks h hx hy (by omega), if_neg (by simp), if_neg (by omega), if_neg (by omega)]
  rfl
theorem o2_gave {k : Nat} {b : SBook} (h : O2 k b) {x y : Nat} (m : Int) : amo (setB b (wh x, ax y) m) x y = m := by
  show amtF (setF b.Funds (wh x, ax y) _) (wh x, ax y) = m
  rw [amtF_set h.inv.sorted, if_pos rfl]
theorem o2_take {k : Nat} {b : SBook} (h : O2 k b) (hk : k < 60) {x y : Nat} (hx : x < 5) (hy : y < 3) : ∃ b2 f, takeB b (wh x) (ax y) (max (amo b x y) 1) = (b2, f) ∧ O2 (k + 1) b2 ∧ amo b2 x y = 0 := by
  have ha := o2_amo h x y
  have e : amo b x y = amtF b.Funds (wh x, ax y) := rfl
  unfold takeB
  rw [o2_asks h hx hy (by omega), if_neg (by simp)]
  by_cases h1 : 1 ≤ amo b x y
  · rw [if_neg (by omega)]
    refine ⟨_, _, rfl, o2_set h hk hx hy (by omega) (by omega), ?_⟩
    rw [o2_gave h]; omega
  · rw [if_pos (by omega)]
    exact ⟨_, _, rfl, o2_more h, by omega⟩
theorem o2_order {k : Nat} {b : SBook} (h : O2 k b) {j : Nat} {f g : SFund} (hf : b.Funds[j]? = some f) (hg : b.Funds[j + 1]? = some g) : f.Account.toList < g.Account.toList ∨ (f.Account = g.Account ∧ f.Asset.toList < g.Asset.toList) := by
  obtain ⟨h1, rfl⟩ := List.getElem?_eq_some_iff.1 hf
  obtain ⟨h2, rfl⟩ := List.getElem?_eq_some_iff.1 hg
  exact fcmp_neg.1 (List.pairwise_iff_getElem.1 h.inv.sorted j (j + 1) h1 h2 (by omega))
theorem grd_t {α : Type} [Inhabited α] (o : Option α) : grd true o = o := rfl
theorem grd_f {α : Type} [Inhabited α] (o : Option α) : grd false o = some default := rfl
theorem order_round {k : Nat} {b : SBook} (h : O2 k b) (hk : k ≤ 60) (j : Nat) (hj : j < b.Funds.length) : l_law9_BankOrder_b2 b (j : Int) = some (.inl (((j + 1 : Nat) : Int))) := by
  have hf := h.inv.funds
  have hx := List.getElem?_eq_getElem hj
  have hp := h.pos _ (List.getElem_mem hj)
  generalize b.Funds[j] = g at hx hp
  have hj1 : (some (.inl ((j : Int) + 1)) : Option (Int ⊕ (Int ⊕ Bool))) = some (.inl ((j + 1 : Nat) : Int)) := by simp
  unfold l_law9_BankOrder_b2
  rw [lt_k hx, cond_true, idx_k hx, Option.bind_some, decide_eq_false (show ¬ g.Amount < 1 by omega), Bool.not_false, Bool.true_and]
  rcases Nat.eq_zero_or_pos j with h0 | h0
  · rw [decide_eq_false (show ¬ (j : Int) > 0 by omega), grd_f, Option.bind_some, Bool.false_and, grd_f, Option.bind_some, Bool.false_and, grd_f, Option.bind_some, Bool.false_or, Bool.false_and, cond_false, ensure_bind (by omega)]
    exact hj1
  · obtain ⟨i, rfl⟩ : ∃ i, j = i + 1 := ⟨j - 1, by omega⟩
    have hi : i < b.Funds.length := by omega
    have hy := List.getElem?_eq_getElem hi
    generalize b.Funds[i] = f at hy
    have ho := o2_order h hy hx
    have hw : IntKind.wrap .i64 (((i + 1 : Nat) : Int) - 1) = (i : Int) := by rw [show ((i + 1 : Nat) : Int) - 1 = (i : Int) by omega]; exact wrap_i64 (by omega)
    rw [decide_eq_true (show ((i + 1 : Nat) : Int) > 0 by omega), hw, idx_k hy, grd_t, Option.bind_some]
    have fin : ∀ x : SFund, (decide (f.Account = g.Account) = true → x = f) → cond (true && ((!(Op.bytesLess f.Account.toList g.Account.toList || decide (f.Account = g.Account))) || (decide (f.Account = g.Account) && !(Op.bytesLess x.Asset.toList g.Asset.toList)))) (some (.inr (.inr false))) ((ensure (-9223372036854775808 ≤ ((i + 1 : Nat) : Int) + 1 ∧ ((i + 1 : Nat) : Int) + 1 ≤ 9223372036854775807)).bind fun _ => some (.inl (((i + 1 : Nat) : Int) + 1))) = (some (.inl ((i + 1 + 1 : Nat) : Int)) : Option (Int ⊕ (Int ⊕ Bool))) := by
      intro x hxf
      have e : (true && ((!(Op.bytesLess f.Account.toList g.Account.toList || decide (f.Account = g.Account))) || (decide (f.Account = g.Account) && !(Op.bytesLess x.Asset.toList g.Asset.toList)))) = false := by
        rcases ho with ho | ⟨ho, ho2⟩
        · have h1 := (less_iff _ _).2 ho
          have h2 : ¬ f.Account = g.Account := fun e => by rw [e] at ho; exact absurd ho (List.lt_irrefl _)
          rw [h1, decide_eq_false h2]; rfl
        · have h1 := (less_iff _ _).2 ho2
          rw [hxf (decide_eq_true ho), decide_eq_true ho, h1, Bool.or_true]; rfl
      rw [e, cond_false, ensure_bind (by omega)]
      exact hj1
    have h2 : (!(!(Op.bytesLess f.Account.toList g.Account.toList || decide (f.Account = g.Account)))) = true := by
      rcases ho with ho | ⟨ho, _⟩
      · rw [(less_iff _ _).2 ho]; rfl
      · rw [decide_eq_true ho, Bool.or_true]; rfl
    rw [h2, Bool.true_and, grd_t, Option.bind_some]
    cases hd : decide (f.Account = g.Account)
    · rw [Bool.true_and, grd_f, Option.bind_some, Bool.false_or]
      have := fin default (fun hh => by rw [hd] at hh; cases hh)
      rw [hd] at this
      exact this
    · rw [Bool.true_and, grd_t, Option.bind_some, Bool.false_or]
      have := fin f (fun _ => rfl)
      rw [hd] at this
      exact this
theorem order_loop2 {k : Nat} {b : SBook} (h : O2 k b) (hk : k ≤ 60) : loopF (τ := (Int ⊕ Bool)) (fun s : Int => l_law9_BankOrder_b2 b s) 0 = some (.inl (b.Funds.length : Int)) := by
  refine loop_seq (body := fun s : Int => l_law9_BankOrder_b2 b s) (fun k => (k : Int)) b.Funds.length (fun i hi => order_round h hk i hi) ?_
  show l_law9_BankOrder_b2 b (b.Funds.length : Int) = _
  unfold l_law9_BankOrder_b2
  rw [lt_no, cond_false]
theorem place20 {k : Int} (h : 0 ≤ k ∧ k < 1048576) (d : Int) (hd : 0 < d) : IntKind.wrap .i64 (k.tdiv d) = k / d ∧ 0 ≤ k / d ∧ k / d ≤ 1073741824 := place30 ⟨h.1, by omega⟩ d hd
theorem order_step (l : List Int) (k : Nat) (b : SBook) (h : O2 k b) (hk : k < l.length) (hk2 : k < 60) : ∃ c, l_law9_BankOrder_b1 l k b = some (.inl (((k + 1 : Nat) : Int), c)) ∧ O2 (k + 1) c := by
  have hx := List.getElem?_eq_getElem hk
  generalize l[k] = v at hx
  unfold l_law9_BankOrder_b1
  rw [lt_k hx, decide_eq_true (show (k : Int) < 60 by omega), Bool.and_self, cond_true, idx_k hx, Option.bind_some]
  obtain ⟨r, hr, h0, h1⟩ := place_eq v 1048576 (by omega)
  rw [hr, Option.bind_some]
  have p5 := place20 ⟨h0, h1⟩ 5 (by omega)
  have p15 := place20 ⟨h0, h1⟩ 15 (by omega)
  have p200 := place20 ⟨h0, h1⟩ 200 (by omega)
  rw [p5.1, p15.1, p200.1]
  have t5 := tmod_nn h0 (n := 5) (by omega)
  have t3 := tmod_nn p5.2.1 (n := 3) (by omega)
  have t9 := tmod_nn p15.2.1 (n := 9) (by omega)
  generalize r.tmod 5 = a1 at t5
  generalize (r / 5).tmod 3 = a2 at t3
  generalize (r / 15).tmod 9 = a3 at t9
  generalize (r / 200).tmod 3 = a4
  obtain ⟨x, rfl⟩ : ∃ x : Nat, a1 = x := ⟨a1.toNat, by omega⟩
  obtain ⟨y, rfl⟩ : ∃ y : Nat, a2 = y := ⟨a2.toNat, by omega⟩
  have hx5 : x < 5 := by omega
  have hy3 : y < 3 := by omega
  have s5 : ((⟨#[97, 98, 99, 100, 101]⟩ : Txt).size : Int) = 5 := rfl
  have s3 : ((⟨#[103, 115, 120]⟩ : Txt).size : Int) = 3 := rfl
  rw [ensure_bind (by omega), ensure_bind (by omega), ensure_bind (by omega), ensure_bind (by rw [s5]; omega)]
  rw [ensure_bind (by omega), ensure_bind (by omega), ensure_bind (by omega), ensure_bind (by omega), ensure_bind (by omega), ensure_bind (by rw [s3]; omega)]
  rw [ensure_bind (by omega), ensure_bind (by omega), ensure_bind (by omega)]
  rw [show (⟨#[97, 98, 99, 100, 101]⟩ : Txt).extract (x : Int).toNat ((x : Int) + 1).toNat = wh x from rfl, show (⟨#[103, 115, 120]⟩ : Txt).extract (y : Int).toNat ((y : Int) + 1).toNat = ax y from rfl]
  have hm : k ≤ 1000 := by omega
  rw [bankBalance_eq h.inv hm, o2_bal h hx5 hy3, Option.bind_some, ensure_bind (by omega), ensure_bind (by omega)]
  have ham := o2_amo h x y
  by_cases hz : a4 = 0
  · subst hz
    obtain ⟨c, f, hc, ho, ha⟩ := o2_take h hk2 hx5 hy3
    refine ⟨c, ?_, ho⟩
    rw [show ((0 : Int) == 0) = true from rfl, cond_true]
    dsimp only
    rw [bankTake_eq h.inv (by omega), hc, Option.bind_some, Option.bind_some]
    dsimp only
    rw [bankBalance_eq ho.inv (by omega), o2_bal ho hx5 hy3, Option.bind_some]
    dsimp only
    rw [ha]
    rw [show (((0 : Int) != amo b x y) && ((0 : Int) != 0) || (true && ((0 : Int) != 0))) = false by simp, cond_false, order_loop2 ho (by omega), Option.bind_some]
    dsimp only
    rw [ensure_bind (by omega)]
    simp
  · have hgv := o2_give h hk2 hx5 hy3 (n := 1 + a3) (by omega)
    have ho := o2_set h hk2 hx5 hy3 (m := amo b x y + (1 + a3)) (by omega) (by omega)
    refine ⟨_, ?_, ho⟩
    rw [show (a4 == 0) = false by simpa using hz, cond_false]
    dsimp only
    rw [bankGive_eq h.inv hm, hgv, Option.bind_some, ensure_bind (by omega), Option.bind_some]
    dsimp only
    rw [bankBalance_eq ho.inv (by omega), o2_bal ho hx5 hy3, Option.bind_some]
    dsimp only
    rw [o2_gave h]
    rw [show (((amo b x y + (1 + a3)) != (amo b x y + (1 + a3))) && (a4 != 0) || (false && ((amo b x y + (1 + a3)) != 0))) = false by simp, cond_false, order_loop2 ho (by omega), Option.bind_some]
    dsimp only
    rw [ensure_bind (by omega)]
    simp
theorem order_end (l : List Int) (k : Nat) (b : SBook) (hk : k = l.length ∨ k = 60) : l_law9_BankOrder_b1 l k b = some (.inr (.inl ((k : Int), b))) := by
  have : (decide ((k : Int) < (l.length : Int)) && decide ((k : Int) < 60)) = false := by
    rcases hk with h | h
    · subst h; simp
    · subst h; simp
  unfold l_law9_BankOrder_b1
  rw [this, cond_false]
theorem order_loop1 (l : List Int) (d : Nat) : ∀ (k : Nat) (b : SBook), O2 k b → k + d = min l.length 60 → ∃ j c m, loopF (τ := ((Int × SBook) ⊕ Bool)) (fun s : Int × SBook => l_law9_BankOrder_b1 l s.1 s.2) ((k : Int), b) = some (.inl (j, c)) ∧ O2 m c := by
  induction d with
  | zero =>
    intro k b h hk
    exact ⟨_, _, _, loopF_inr (by exact order_end l k b (by omega)), h⟩
  | succ d ih =>
    intro k b h hk
    obtain ⟨c, hc, hi⟩ := order_step l k b h (by omega) (by omega)
    obtain ⟨j, e, m, he, hm⟩ := ih (k + 1) c hi (by omega)
    exact ⟨j, e, m, (loopF_inl (by exact hc)).trans he, hm⟩
theorem order_eq (l : List Int) : l_law9_BankOrder l = some true := by
  obtain ⟨j, c, m, he, hm⟩ := order_loop1 l _ 0 (obO 5) o2_start (Nat.zero_add _)
  unfold l_law9_BankOrder
  rw [show l_bank_New 2 = some (obO 0) from rfl, Option.bind_some, order_loop0, Option.bind_some]
  dsimp only
  rw [show ((0 : Int), obO 5) = (((0 : Nat) : Int), obO 5) from rfl, he, Option.bind_some]
  dsimp only
  rw [hm.num, hm.accs, awake_eq]
  rfl
end Go.Proofs.Ytnkkfmnpkgjabaa.X
