/- Plain laws: texts in order; funds in order, one put in; what each account has; totals. -/
import Derived.Test.YtnkkfmnpkgjabaaLT
import Derived.Sort.Walk0
namespace Go.Proofs.Ytnkkfmnpkgjabaa.X
set_option linter.unusedVariables false
set_option linter.unusedSimpArgs false

theorem len_map_eq {α : Type} {f : α → List A} {n : Nat} (l : List α) (h : ∀ x, (f x).length = n) : ∀ r ∈ l.map f, r.length = n := by
  intro r hr; obtain ⟨x, _, rfl⟩ := List.mem_map.1 hr; exact h x
abbrev bkA (b : SBook) : A := .agg (rBook b)
/-- How cmp.Compare orders strings. -/
def cmpT (a b : ByteArray) : Int := if Op.bytesLess a.toList b.toList = true then -1 else if Op.bytesLess b.toList a.toList = true then 1 else 0

theorem less_iff (a b : ByteArray) : Op.bytesLess a.toList b.toList = true ↔ a.toList < b.toList := by
  rw [bytesLess_eq]; simp
theorem cmpT_neg {a b : ByteArray} : cmpT a b < 0 ↔ a.toList < b.toList := by
  unfold cmpT
  rw [← less_iff]
  by_cases h1 : Op.bytesLess a.toList b.toList = true
  · simp only [h1, if_true]; simp
  · rw [if_neg h1]; split <;> simp [h1]
theorem cmpT_zero {a b : ByteArray} : cmpT a b = 0 ↔ a.toList = b.toList := by
  unfold cmpT
  by_cases h1 : Op.bytesLess a.toList b.toList = true
  · rw [if_pos h1]; rw [less_iff] at h1
    constructor
    · intro h; cases h
    · intro e; rw [e] at h1; exact absurd h1 (List.lt_irrefl _)
  · rw [if_neg h1]; rw [less_iff] at h1
    by_cases h2 : Op.bytesLess b.toList a.toList = true
    · rw [if_pos h2]; rw [less_iff] at h2
      constructor
      · intro h; cases h
      · intro e; rw [e] at h2; exact absurd h2 (List.lt_irrefl _)
    · rw [if_neg h2]; rw [less_iff] at h2
      exact ⟨fun _ => List.le_antisymm (List.not_lt.1 h2) (List.not_lt.1 h1), fun _ => rfl⟩

def orI (x y : Int) : Int := if x = 0 then y else x
def fcmp (a b : ByteArray × ByteArray) : Int := orI (cmpT a.1 b.1) (cmpT a.2 b.2)

def SFund.key (f : SFund) : ByteArray × ByteArray := (f.Account, f.Asset)
/-- All before p are less than t, no other one is. -/
structure Parts (fs : List SFund) (t : ByteArray × ByteArray) (p : Nat) : Prop where
  le : p ≤ fs.length
  lt : ∀ i f, fs[i]? = some f → i < p → fcmp f.key t < 0
  ge : ∀ i f, fs[i]? = some f → p ≤ i → 0 ≤ fcmp f.key t
def foundAt (fs : List SFund) (t : ByteArray × ByteArray) (p : Nat) : Bool := match fs[p]? with | some f => fcmp f.key t == 0 | none => false

/-- The amount in place p, if it is the one that is sought. -/
def amtAt (fs : List SFund) (t : ByteArray × ByteArray) (p : Nat) : Int := match fs[p]? with | some f => if fcmp f.key t = 0 then f.Amount else 0 | none => 0
/-- A fund more, in place i. -/
def insF (fs : List SFund) (i : Nat) (f : SFund) : List SFund := fs.take i ++ f :: fs.drop i
theorem insF_len (fs : List SFund) (i : Nat) (f : SFund) (hi : i ≤ fs.length) : (insF fs i f).length = fs.length + 1 := by
  unfold insF; simp; omega
theorem insF_get (fs : List SFund) (i : Nat) (f : SFund) (hi : i ≤ fs.length) (q : Nat) : (insF fs i f)[q]? = if q < i then fs[q]? else if q = i then some f else fs[q - 1]? := by
  unfold insF
  rw [List.getElem?_append, List.length_take, Nat.min_eq_left hi]
  by_cases h : q < i
  · rw [if_pos h, if_pos h, List.getElem?_take_of_lt h]
  · rw [if_neg h, if_neg h]
    by_cases h2 : q = i
    · rw [if_pos h2, h2, Nat.sub_self]; rfl
    · rw [if_neg h2, show q - i = (q - 1 - i) + 1 by omega, List.getElem?_cons_succ, List.getElem?_drop, show i + (q - 1 - i) = q - 1 by omega]
def putF (fs : List SFund) (t : ByteArray × ByteArray) (p : Nat) (n : Int) : List SFund :=
  if foundAt fs t p = true then (if n = 0 then fs.eraseIdx p else fs.set p ⟨t.1, t.2, n⟩) else if n = 0 then fs else insF fs p ⟨t.1, t.2, n⟩
def sumA (fs : List SFund) (ast : ByteArray) : Int := (fs.map fun f => if f.Asset = ast then f.Amount else 0).sum
def Smalls (fs : List SFund) : Prop := ∀ f ∈ fs, 0 ≤ f.Amount ∧ f.Amount ≤ 1125899906842624
theorem sumA_step (fs : List SFund) (ast : ByteArray) (i : Nat) (f : SFund) (h : fs[i]? = some f) : sumA (fs.take (i + 1)) ast = sumA (fs.take i) ast + if f.Asset = ast then f.Amount else 0 := by
  unfold sumA
  rw [List.take_add_one, h]
  simp
theorem sumA_le (fs : List SFund) (ast : ByteArray) (h : Smalls fs) : 0 ≤ sumA fs ast ∧ sumA fs ast ≤ fs.length * 1125899906842624 := by
  induction fs with
  | nil => simp [sumA]
  | cons f r ih =>
    have hf := h f (by simp)
    have := ih (fun g hg => h g (by simp [hg]))
    simp only [sumA, List.map_cons, List.sum_cons, List.length_cons] at this ⊢
    split <;> omega
theorem sumA_bound (fs : List SFund) (ast : ByteArray) (i : Nat) (h : Smalls fs) (hn : fs.length ≤ 1000) : 0 ≤ sumA (fs.take i) ast ∧ sumA (fs.take i) ast ≤ 1125899906842624000 := by
  have := sumA_le (fs.take i) ast (fun f hf => h f (List.mem_of_mem_take hf))
  have hl : (fs.take i).length ≤ 1000 := by rw [List.length_take]; omega
  omega
abbrev Key := ByteArray × ByteArray
theorem tl_inj {a b : ByteArray} (h : a.toList = b.toList) : a = b := toList_inj h
theorem cmpT_range (a b : ByteArray) : cmpT a b = -1 ∨ cmpT a b = 0 ∨ cmpT a b = 1 := by
  unfold cmpT; split
  · exact .inl rfl
  · split
    · exact .inr (.inr rfl)
    · exact .inr (.inl rfl)
theorem cmpT_pos {a b : ByteArray} : 0 < cmpT a b ↔ b.toList < a.toList := by
  unfold cmpT
  by_cases h1 : Op.bytesLess a.toList b.toList = true
  · rw [if_pos h1]
    rw [less_iff] at h1
    constructor
    · intro h; omega
    · intro h; exact absurd (List.lt_trans h1 h) (List.lt_irrefl _)
  · rw [if_neg h1]
    by_cases h2 : Op.bytesLess b.toList a.toList = true
    · rw [if_pos h2]; rw [less_iff] at h2; simp [h2]
    · rw [if_neg h2]; rw [less_iff] at h2; simp [h2]
theorem fcmp_neg {a b : Key} : fcmp a b < 0 ↔ a.1.toList < b.1.toList ∨ (a.1 = b.1 ∧ a.2.toList < b.2.toList) := by
  unfold fcmp orI
  by_cases h : cmpT a.1 b.1 = 0
  · rw [if_pos h, cmpT_neg]
    have h' := tl_inj (cmpT_zero.1 h)
    rw [h']
    constructor
    · exact fun x => .inr ⟨rfl, x⟩
    · rintro (x | ⟨_, x⟩)
      · exact absurd x (List.lt_irrefl _)
      · exact x
  · rw [if_neg h, cmpT_neg]
    constructor
    · exact .inl
    · rintro (x | ⟨x, _⟩)
      · exact x
      · exact absurd (cmpT_zero.2 (by rw [x])) h
theorem fcmp_zero {a b : Key} : fcmp a b = 0 ↔ a = b := by
  unfold fcmp orI
  constructor
  · intro h
    by_cases h1 : cmpT a.1 b.1 = 0
    · rw [if_pos h1] at h
      exact Prod.ext (tl_inj (cmpT_zero.1 h1)) (tl_inj (cmpT_zero.1 h))
    · rw [if_neg h1] at h; exact absurd h h1
  · rintro rfl
    rw [if_pos (cmpT_zero.2 rfl), cmpT_zero.2 rfl]
theorem fcmp_pos {a b : Key} : 0 < fcmp a b ↔ fcmp b a < 0 := by
  rw [fcmp_neg]
  unfold fcmp orI
  by_cases h : cmpT a.1 b.1 = 0
  · rw [if_pos h, cmpT_pos]
    have h' := tl_inj (cmpT_zero.1 h)
    rw [h']
    constructor
    · exact fun x => .inr ⟨rfl, x⟩
    · rintro (x | ⟨_, x⟩)
      · exact absurd x (List.lt_irrefl _)
      · exact x
  · rw [if_neg h, cmpT_pos]
    constructor
    · exact .inl
    · rintro (x | ⟨x, _⟩)
      · exact x
      · exact absurd (cmpT_zero.2 (by rw [x])) h
theorem fcmp_trans {a b c : Key} (h1 : fcmp a b < 0) (h2 : fcmp b c < 0) : fcmp a c < 0 := by
  rw [fcmp_neg] at *
  rcases h1 with h1 | ⟨h1, h1'⟩
  · rcases h2 with h2 | ⟨h2, h2'⟩
    · exact .inl (List.lt_trans h1 h2)
    · exact .inl (h2 ▸ h1)
  · rcases h2 with h2 | ⟨h2, h2'⟩
    · exact .inl (h1 ▸ h2)
    · exact .inr ⟨h1.trans h2, List.lt_trans h1' h2'⟩
def Sorted (fs : List SFund) : Prop := fs.Pairwise fun a b => fcmp a.key b.key < 0
def posF (fs : List SFund) (t : Key) : Nat := fs.findIdx fun f => decide (0 ≤ fcmp f.key t)
theorem posF_parts {fs : List SFund} (h : Sorted fs) (t : Key) : Parts fs t (posF fs t) where
  le := List.findIdx_le_length
  lt := fun i f hi hp => by
    obtain ⟨hl, rfl⟩ := List.getElem?_eq_some_iff.1 hi
    have := List.not_of_lt_findIdx hp
    simpa using this
  ge := fun i f hi hp => by
    obtain ⟨hl, rfl⟩ := List.getElem?_eq_some_iff.1 hi
    have hpl : posF fs t < fs.length := by omega
    have h0 : 0 ≤ fcmp (fs[posF fs t]).key t := by
      have := @List.findIdx_getElem _ (fun f : SFund => decide (0 ≤ fcmp f.key t)) fs hpl
      exact of_decide_eq_true this
    rcases Nat.lt_or_ge (posF fs t) i with hlt | hge
    · have h1 := List.pairwise_iff_getElem.1 h (posF fs t) i hpl hl hlt
      have h2 : fcmp fs[i].key t < 0 → fcmp (fs[posF fs t]).key t < 0 := fun x => fcmp_trans h1 x
      omega
    · have : i = posF fs t := by omega
      subst this; exact h0
/-- What an account has. -/
def amtF (fs : List SFund) (t : Key) : Int := amtAt fs t (posF fs t)
def setF (fs : List SFund) (t : Key) (n : Int) : List SFund := putF fs t (posF fs t) n
/-! Funds as what each account has: a list whose head is cut off. -/
theorem amtF_nil (t : Key) : amtF [] t = 0 := rfl
theorem posF_cons (f : SFund) (r : List SFund) (t : Key) : posF (f :: r) t = if 0 ≤ fcmp f.key t then 0 else posF r t + 1 := by
  unfold posF; rw [List.findIdx_cons]
  by_cases h : 0 ≤ fcmp f.key t <;> simp [h]
theorem amtF_cons (f : SFund) (r : List SFund) (t : Key) : amtF (f :: r) t = if fcmp f.key t = 0 then f.Amount else if 0 < fcmp f.key t then 0 else amtF r t := by
  unfold amtF
  rw [posF_cons]
  by_cases h : 0 ≤ fcmp f.key t
  · rw [if_pos h]
    by_cases h0 : fcmp f.key t = 0
    · rw [if_pos h0]; simp [amtAt, h0]
    · rw [if_neg h0, if_pos (by omega)]; simp [amtAt, h0]
  · rw [if_neg h, if_neg (by omega), if_neg (by omega)]
    simp [amtAt]
theorem setF_nil (t : Key) (n : Int) : setF [] t n = if n = 0 then [] else [⟨t.1, t.2, n⟩] := by
  unfold setF putF posF foundAt; simp [insF]
theorem setF_cons (f : SFund) (r : List SFund) (t : Key) (n : Int) : setF (f :: r) t n = if fcmp f.key t = 0 then (if n = 0 then r else ⟨t.1, t.2, n⟩ :: r) else if 0 < fcmp f.key t then (if n = 0 then f :: r else ⟨t.1, t.2, n⟩ :: f :: r) else f :: setF r t n := by
  unfold setF
  rw [posF_cons]
  by_cases h : 0 ≤ fcmp f.key t
  · rw [if_pos h]
    by_cases h0 : fcmp f.key t = 0
    · rw [if_pos h0]; simp [putF, foundAt, h0]
    · rw [if_neg h0, if_pos (by omega)]; simp [putF, foundAt, h0, insF]
  · rw [if_neg h, if_neg (by omega), if_neg (by omega)]
    simp only [putF, foundAt, List.getElem?_cons_succ, List.eraseIdx_cons_succ, List.set_cons_succ, insF, List.take_succ_cons, List.drop_succ_cons, List.cons_append]
    split <;> split <;> rfl
/-- All keys are behind a key. -/
def Behind (t : Key) (fs : List SFund) : Prop := ∀ f ∈ fs, fcmp t f.key < 0
theorem sorted_cons {f : SFund} {r : List SFund} : Sorted (f :: r) ↔ Behind f.key r ∧ Sorted r := by unfold Sorted Behind; rw [List.pairwise_cons]
theorem setF_sorted {fs : List SFund} (h : Sorted fs) (t : Key) (n : Int) : Sorted (setF fs t n) ∧ ∀ k, Behind k fs → fcmp k t < 0 → Behind k (setF fs t n) := by
  induction fs with
  | nil =>
    rw [setF_nil]
    refine ⟨by split <;> simp [Sorted], fun k _ hk f hf => ?_⟩
    split at hf
    · cases hf
    · rw [List.mem_singleton] at hf; subst hf; exact hk
  | cons f r ih =>
    rw [sorted_cons] at h
    obtain ⟨hb, hs⟩ := h
    obtain ⟨ih1, ih2⟩ := ih hs
    rw [setF_cons]
    by_cases h0 : fcmp f.key t = 0
    · have he : f.key = t := fcmp_zero.1 h0
      rw [if_pos h0]
      by_cases hn : n = 0
      · rw [if_pos hn]; exact ⟨hs, fun k hk _ g hg => hk g (by simp [hg])⟩
      · rw [if_neg hn]
        refine ⟨sorted_cons.2 ⟨?_, hs⟩, fun k hk hkt g hg => ?_⟩
        · show Behind t r
          rw [← he]; exact hb
        · rcases List.mem_cons.1 hg with rfl | hg
          · exact hkt
          · exact hk g (by simp [hg])
    · rw [if_neg h0]
      by_cases h1 : 0 < fcmp f.key t
      · rw [if_pos h1]
        have h1' := fcmp_pos.1 h1
        by_cases hn : n = 0
        · rw [if_pos hn]; exact ⟨sorted_cons.2 ⟨hb, hs⟩, fun k hk _ => hk⟩
        · rw [if_neg hn]
          refine ⟨sorted_cons.2 ⟨fun g hg => ?_, sorted_cons.2 ⟨hb, hs⟩⟩, fun k hk hkt g hg => ?_⟩
          · rcases List.mem_cons.1 hg with rfl | hg
            · exact h1'
            · exact fcmp_trans h1' (hb g hg)
          · rcases List.mem_cons.1 hg with rfl | hg
            · exact hkt
            · exact hk g hg
      · rw [if_neg h1]
        refine ⟨sorted_cons.2 ⟨ih2 _ hb (by omega), ih1⟩, fun k hk hkt g hg => ?_⟩
        rcases List.mem_cons.1 hg with rfl | hg
        · exact hk g (by simp)
        · exact ih2 k (fun g hg => hk g (by simp [hg])) hkt g hg
theorem amtF_behind {fs : List SFund} {t : Key} (h : Behind t fs) : amtF fs t = 0 := by
  cases fs with
  | nil => rfl
  | cons f r =>
    have := fcmp_pos.2 (h f (by simp))
    rw [amtF_cons, if_neg (by omega), if_pos this]
theorem key_mk (t : Key) (n : Int) : SFund.key ⟨t.1, t.2, n⟩ = t := rfl
theorem amtF_set {fs : List SFund} (h : Sorted fs) (t : Key) (n : Int) (u : Key) : amtF (setF fs t n) u = if u = t then n else amtF fs u := by
  induction fs with
  | nil =>
    rw [setF_nil]
    by_cases hn : n = 0
    · subst hn; simp [amtF_nil]
    · rw [if_neg hn, amtF_cons, amtF_nil, key_mk]
      by_cases hu : u = t
      · subst hu; rw [if_pos (fcmp_zero.2 rfl), if_pos rfl]
      · rw [if_neg (fun e => hu (fcmp_zero.1 e).symm), if_neg hu]; simp
  | cons f r ih =>
    rw [sorted_cons] at h
    obtain ⟨hb, hs⟩ := h
    rw [setF_cons, amtF_cons]
    by_cases h0 : fcmp f.key t = 0
    · have he : f.key = t := fcmp_zero.1 h0
      rw [if_pos h0]
      by_cases hn : n = 0
      · rw [if_pos hn]
        by_cases hu : u = t
        · subst hu; rw [if_pos rfl, hn]; exact amtF_behind (he ▸ hb)
        · rw [if_neg hu, if_neg (fun e => hu ((fcmp_zero.1 e).symm.trans he))]
          by_cases h1 : 0 < fcmp f.key u
          · rw [if_pos h1]
            exact amtF_behind fun g hg => fcmp_trans (fcmp_pos.1 h1) (hb g hg)
          · rw [if_neg h1]
      · rw [if_neg hn, amtF_cons, key_mk]
        by_cases hu : u = t
        · subst hu; rw [if_pos (fcmp_zero.2 rfl), if_pos rfl]
        · have hne : ¬ fcmp f.key u = 0 := fun e => hu ((fcmp_zero.1 e).symm.trans he)
          rw [if_neg hu, ← he, if_neg hne, if_neg hne]
    · rw [if_neg h0]
      have hft : ¬ f.key = t := fun e => h0 (fcmp_zero.2 e)
      by_cases h1 : 0 < fcmp f.key t
      · rw [if_pos h1]
        by_cases hn : n = 0
        · rw [if_pos hn]
          by_cases hu : u = t
          · subst hu; rw [amtF_cons, if_neg h0, if_pos h1, if_pos rfl, hn]
          · rw [if_neg hu, amtF_cons]
        · rw [if_neg hn, amtF_cons, amtF_cons]
          by_cases hu : u = t
          · subst hu; rw [if_pos (show fcmp (SFund.key ⟨u.1, u.2, n⟩) u = 0 from fcmp_zero.2 rfl), if_pos rfl]
          · rw [if_neg (show ¬ fcmp (SFund.key ⟨t.1, t.2, n⟩) u = 0 from fun e => hu (fcmp_zero.1 e).symm), if_neg hu]
            by_cases h2 : 0 < fcmp (SFund.key ⟨t.1, t.2, n⟩) u
            · rw [if_pos h2]
              have h3 : fcmp u f.key < 0 := fcmp_trans (fcmp_pos.1 h2) (fcmp_pos.1 h1)
              have h4 := fcmp_pos.2 h3
              rw [if_neg (by omega), if_pos h4]
            · rw [if_neg h2]
      · rw [if_neg h1, amtF_cons]
        by_cases hu : u = t
        · subst hu; rw [if_neg h0, if_neg h1, ih hs, if_pos rfl, if_pos rfl]
        · rw [ih hs, if_neg hu, if_neg hu]
theorem sumA_cons (f : SFund) (r : List SFund) (a : ByteArray) : sumA (f :: r) a = (if f.Asset = a then f.Amount else 0) + sumA r a := rfl
theorem sumA_set {fs : List SFund} (h : Sorted fs) (t : Key) (n : Int) (a : ByteArray) : sumA (setF fs t n) a = sumA fs a + if t.2 = a then n - amtF fs t else 0 := by
  induction fs with
  | nil =>
    rw [setF_nil, amtF_nil]
    by_cases hn : n = 0
    · subst hn; simp [sumA]
    · rw [if_neg hn]; simp [sumA]
  | cons f r ih =>
    rw [sorted_cons] at h
    obtain ⟨hb, hs⟩ := h
    rw [setF_cons, amtF_cons]
    by_cases h0 : fcmp f.key t = 0
    · have he : f.key = t := fcmp_zero.1 h0
      have he2 : f.Asset = t.2 := congrArg Prod.snd he
      rw [if_pos h0, if_pos h0, sumA_cons, he2]
      by_cases hn : n = 0
      · rw [if_pos hn]; split <;> omega
      · rw [if_neg hn, sumA_cons]; simp only; split <;> omega
    · rw [if_neg h0, if_neg h0]
      by_cases h1 : 0 < fcmp f.key t
      · rw [if_pos h1, if_pos h1]
        by_cases hn : n = 0
        · rw [if_pos hn]; subst hn; split <;> omega
        · rw [if_neg hn, sumA_cons]; simp only; split <;> omega
      · rw [if_neg h1, if_neg h1, sumA_cons, ih hs, sumA_cons]; omega
theorem setF_mem {fs : List SFund} (t : Key) (n : Int) : ∀ f ∈ setF fs t n, f ∈ fs ∨ (f = ⟨t.1, t.2, n⟩ ∧ n ≠ 0) := by
  induction fs with
  | nil =>
    rw [setF_nil]; intro f hf
    split at hf
    · cases hf
    · rw [List.mem_singleton] at hf; exact .inr ⟨hf, by assumption⟩
  | cons g r ih =>
    intro f hf
    rw [setF_cons] at hf
    split at hf
    · split at hf
      · exact .inl (by simp [hf])
      · rcases List.mem_cons.1 hf with rfl | hf
        · exact .inr ⟨rfl, by assumption⟩
        · exact .inl (by simp [hf])
    · split at hf
      · split at hf
        · exact .inl hf
        · rcases List.mem_cons.1 hf with rfl | hf
          · exact .inr ⟨rfl, by assumption⟩
          · exact .inl hf
      · rcases List.mem_cons.1 hf with rfl | hf
        · exact .inl (by simp)
        · exact (ih f hf).imp (by simp +contextual) id
theorem setF_len (fs : List SFund) (t : Key) (n : Int) : (setF fs t n).length ≤ fs.length + 1 := by
  induction fs with
  | nil => rw [setF_nil]; split <;> simp
  | cons g r ih =>
    rw [setF_cons]
    split
    · split <;> simp <;> omega
    · split
      · split <;> simp
      · simp; omega
end Go.Proofs.Ytnkkfmnpkgjabaa.X
