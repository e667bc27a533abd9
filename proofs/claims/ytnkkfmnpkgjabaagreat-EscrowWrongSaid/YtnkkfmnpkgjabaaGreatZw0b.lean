/- The runner: what its values say of the machine's: places of blocks; what a step does. -/
import Derived.Test.YtnkkfmnpkgjabaaGreatZw0a
import Derived.Lib.ConvBytes
import Derived.Laws.BytesString
namespace Go.Proofs.YtnkkfmnpkgjabaaGreat.Y
open Go.RowKit
set_option linter.unusedVariables false
set_option linter.unusedSimpArgs false
/-- Where a block lies: it is not there (yet); it is given up; in block g, of c cells. -/
inductive Pl where
  | no
  | dead
  | at (g c : Nat)
abbrev Rho := Nat → Pl
def nilV : NK → Value
  | .ptr => .pointer none
  | .slice => .slice none 0 0
  | .func => .nilFunc
  | .map => .map none
  | .iface => .nilIface
/-- What a value says of a machine's value; of a list of such. ξ: the arguments that are not looked at yet. -/
def TvP (ρ : Rho) (ξ : Nat → Int) : V → (Value → Prop) × (List Value → Prop)
  | .nl => (fun _ => False, fun us => us = [])
  | .cs a r => (fun _ => False, fun us => ∃ u q, us = u :: q ∧ (TvP ρ ξ a).1 u ∧ (TvP ρ ξ r).2 q)
  | .undef => (fun _ => True, fun _ => False)
  | .int k n => (fun u => u = .int k n, fun _ => False)
  | .bool b => (fun u => u = .bool b, fun _ => False)
  | .str l n => (fun u => u = .string (bs l n), fun _ => False)
  | .nil k => (fun u => u = nilV k, fun _ => False)
  | .ptr id off => (fun u => match ρ id with | .no => False | .dead => ∃ g, u = .pointer (some ⟨g, off, none⟩) | .at g _ => u = .pointer (some ⟨g, off, none⟩), fun _ => False)
  | .sl id o w len full whole => (fun u => match ρ id with
      | .no => False
      | .dead => ∃ g q cap, u = .slice (some ⟨g, q, none⟩) len cap ∧ (0 < len → q = o) ∧ len ≤ cap ∧ cap ≤ maxLen ∧ (full = true → cap = len)
      | .at g c => ∃ q cap, u = .slice (some ⟨g, q, none⟩) len cap ∧ (0 < len → q = o) ∧ len ≤ cap ∧ cap ≤ maxLen ∧ (full = true → cap = len) ∧ q + cap * w ≤ c ∧ (whole = true → q = 0 ∧ cap * w = c), fun _ => False)
  | .fn f a c => (fun u => ∃ us1 us2 : List Value, u = .func (.func f) us1.toArray us2.toArray ∧ (TvP ρ ξ a).2 us1 ∧ (TvP ρ ξ c).2 us2, fun _ => False)
  | .ifc t v => (fun u => ∃ x, u = .iface t x ∧ (TvP ρ ξ v).1 x, fun _ => False)
  | .mp id => (fun u => match ρ id with | .no => False | .dead => ∃ g, u = .map (some g) | .at g _ => u = .map (some g), fun _ => False)
  | .agg l => (fun u => ∃ us : List Value, u = .agg us.toArray ∧ (TvP ρ ξ l).2 us ∧ ∀ c ∈ us, c.oneCell' = true, fun _ => False)
  | .tup l => (fun u => ∃ us : List Value, u = .tuple us.toArray ∧ (TvP ρ ξ l).2 us, fun _ => False)
  | .arg i => (fun u => u = .int .i64 (ξ i), fun _ => False)
def Tv (ρ : Rho) (ξ : Nat → Int) (v : V) (u : Value) : Prop := (TvP ρ ξ v).1 u
def TvL (ρ : Rho) (ξ : Nat → Int) (l : V) (us : List Value) : Prop := (TvP ρ ξ l).2 us
section
variable {ρ ρ' : Rho} {ξ : Nat → Int}
@[simp] theorem Tv_undef {u : Value} : Tv ρ ξ .undef u := trivial
theorem Tv_int {k : IntKind} {n : Int} {u : Value} : Tv ρ ξ (.int k n) u ↔ u = .int k n := Iff.rfl
theorem Tv_bool {b : Bool} {u : Value} : Tv ρ ξ (.bool b) u ↔ u = .bool b := Iff.rfl
theorem Tv_str {l n : Nat} {u : Value} : Tv ρ ξ (.str l n) u ↔ u = .string (bs l n) := Iff.rfl
theorem Tv_nil {k : NK} {u : Value} : Tv ρ ξ (.nil k) u ↔ u = nilV k := Iff.rfl
theorem Tv_agg {l : V} {u : Value} : Tv ρ ξ (.agg l) u ↔ ∃ us : List Value, u = .agg us.toArray ∧ TvL ρ ξ l us ∧ ∀ c ∈ us, c.oneCell' = true := Iff.rfl
theorem Tv_tup {l : V} {u : Value} : Tv ρ ξ (.tup l) u ↔ ∃ us : List Value, u = .tuple us.toArray ∧ TvL ρ ξ l us := Iff.rfl
/-- A pointer, wherever its block may be. -/
theorem Tv_ptr {id off : Nat} {u : Value} (h : Tv ρ ξ (.ptr id off) u) : ∃ g, u = .pointer (some ⟨g, off, none⟩) ∧ (∀ off', Tv ρ ξ (.ptr id off') (.pointer (some ⟨g, off', none⟩))) ∧ ∀ q c, ρ id = .at q c → q = g := by
  have h : (TvP ρ ξ (.ptr id off)).1 u := h
  simp only [TvP] at h
  cases hq : ρ id with
  | no => rw [hq] at h; exact h.elim
  | dead =>
    rw [hq] at h
    obtain ⟨g, h⟩ := h
    refine ⟨g, h, fun off' => ?_, fun q c e => by cases e⟩
    show (TvP ρ ξ (.ptr id off')).1 _
    simp only [TvP]; rw [hq]; exact ⟨g, rfl⟩
  | «at» g c =>
    rw [hq] at h
    refine ⟨g, h, fun off' => ?_, fun q d e => by injection e with e _; exact e.symm⟩
    show (TvP ρ ξ (.ptr id off')).1 _
    simp only [TvP]; rw [hq]
/-- A slice, wherever its block may be. -/
theorem Tv_sl {id o w len : Nat} {full whole : Bool} {u : Value} (h : Tv ρ ξ (.sl id o w len full whole) u) : ∃ g q cap, u = .slice (some ⟨g, q, none⟩) len cap ∧ (0 < len → q = o) ∧ len ≤ cap ∧ cap ≤ maxLen ∧ (full = true → cap = len) ∧
    (∀ o' len' full' whole' q' cap', (0 < len' → q' = o') → len' ≤ cap' → cap' ≤ maxLen → (full' = true → cap' = len') → q' + cap' * w ≤ q + cap * w → (whole' = true → whole = true ∧ q' = q ∧ cap' = cap) → Tv ρ ξ (.sl id o' w len' full' whole') (.slice (some ⟨g, q', none⟩) len' cap')) ∧
    (∀ off', Tv ρ ξ (.ptr id off') (.pointer (some ⟨g, off', none⟩))) ∧ ∀ p c, ρ id = .at p c → p = g ∧ q + cap * w ≤ c ∧ (whole = true → q = 0 ∧ cap * w = c) := by
  have h : (TvP ρ ξ (.sl id o w len full whole)).1 u := h
  simp only [TvP] at h
  cases hq : ρ id with
  | no => rw [hq] at h; exact h.elim
  | dead =>
    rw [hq] at h
    obtain ⟨g, q, cap, h1, h2, h3, h4, h5⟩ := h
    refine ⟨g, q, cap, h1, h2, h3, h4, h5, fun o' len' full' whole' q' cap' k1 k2 k3 k4 k5 k6 => ?_, fun off' => ?_, fun p c e => by cases e⟩
    · show (TvP ρ ξ (.sl id o' w len' full' whole')).1 _
      simp only [TvP]; rw [hq]; exact ⟨g, q', cap', rfl, k1, k2, k3, k4⟩
    · show (TvP ρ ξ (.ptr id off')).1 _
      simp only [TvP]; rw [hq]; exact ⟨g, rfl⟩
  | «at» g c =>
    rw [hq] at h
    obtain ⟨q, cap, h1, h2, h3, h4, h5, h6, h7⟩ := h
    refine ⟨g, q, cap, h1, h2, h3, h4, h5, fun o' len' full' whole' q' cap' k1 k2 k3 k4 k5 k6 => ?_, fun off' => ?_, fun p d e => ?_⟩
    · show (TvP ρ ξ (.sl id o' w len' full' whole')).1 _
      simp only [TvP]; rw [hq]
      refine ⟨q', cap', rfl, k1, k2, k3, k4, by omega, fun e => ?_⟩
      obtain ⟨a1, a2, a3⟩ := k6 e
      obtain ⟨b1, b2⟩ := h7 a1
      subst a2; subst a3; exact ⟨b1, b2⟩
    · show (TvP ρ ξ (.ptr id off')).1 _
      simp only [TvP]; rw [hq]
    · injection e with e1 e2
      subst e1; subst e2
      exact ⟨rfl, h6, h7⟩
theorem TvL_nl {us : List Value} : TvL ρ ξ .nl us ↔ us = [] := Iff.rfl
theorem TvL_cs {a r : V} {us : List Value} : TvL ρ ξ (.cs a r) us ↔ ∃ u q, us = u :: q ∧ Tv ρ ξ a u ∧ TvL ρ ξ r q := Iff.rfl
theorem TvL_len : ∀ {l : V} {us : List Value}, TvL ρ ξ l us → us.length = (toL l).length
  | .nl, us, h => by rw [TvL_nl.1 h]; rfl
  | .cs a r, us, h => by
    obtain ⟨u, q, rfl, _, h2⟩ := TvL_cs.1 h
    simp [toL, TvL_len h2]
theorem TvL_get : ∀ {l : V} {us : List Value} {i : Nat} {v : V}, TvL ρ ξ l us → (toL l)[i]? = some v → ∃ u, us[i]? = some u ∧ Tv ρ ξ v u
  | .cs a r, us, 0, v, h, hv => by
    obtain ⟨u, q, rfl, h1, _⟩ := TvL_cs.1 h
    simp [toL] at hv; subst hv
    exact ⟨u, rfl, h1⟩
  | .cs a r, us, i + 1, v, h, hv => by
    obtain ⟨u, q, rfl, _, h2⟩ := TvL_cs.1 h
    obtain ⟨x, h3, h4⟩ := TvL_get (i := i) h2 (by simpa [toL] using hv)
    exact ⟨x, by simpa using h3, h4⟩
theorem TvL_cat : ∀ {l m : V} {us ws : List Value}, TvL ρ ξ l us → TvL ρ ξ m ws → TvL ρ ξ (catS l m) (us ++ ws)
  | .nl, m, us, ws, h, k => by rw [TvL_nl.1 h]; exact k
  | .cs a r, m, us, ws, h, k => by
    obtain ⟨u, q, rfl, h1, h2⟩ := TvL_cs.1 h
    exact TvL_cs.2 ⟨u, q ++ ws, rfl, h1, TvL_cat h2 k⟩
theorem TvL_set : ∀ {l : V} {us : List Value} {n : Nat} {x : V} {u : Value}, TvL ρ ξ l us → Tv ρ ξ x u → TvL ρ ξ (setS l n x) (us.set n u)
  | .nl, us, n, x, u, h, k => by rw [TvL_nl.1 h]; cases n <;> exact TvL_nl.2 rfl
  | .cs a r, us, 0, x, u, h, k => by
    obtain ⟨w, q, rfl, h1, h2⟩ := TvL_cs.1 h
    exact TvL_cs.2 ⟨u, q, rfl, k, h2⟩
  | .cs a r, us, n + 1, x, u, h, k => by
    obtain ⟨w, q, rfl, h1, h2⟩ := TvL_cs.1 h
    exact TvL_cs.2 ⟨w, q.set n u, rfl, h1, TvL_set h2 k⟩
theorem TvL_drop : ∀ {n : Nat} {l : V} {us : List Value}, TvL ρ ξ l us → TvL ρ ξ (dropS n l) (us.drop n)
  | 0, l, us, h => h
  | n + 1, .nl, us, h => by rw [TvL_nl.1 h]; exact TvL_nl.2 (by simp)
  | n + 1, .cs a r, us, h => by
    obtain ⟨u, q, rfl, h1, h2⟩ := TvL_cs.1 h
    exact TvL_drop (n := n) h2
theorem TvL_take : ∀ {n : Nat} {l : V} {us : List Value}, TvL ρ ξ l us → TvL ρ ξ (takeS n l) (us.take n)
  | 0, l, us, h => TvL_nl.2 (by simp)
  | n + 1, .nl, us, h => by rw [TvL_nl.1 h]; exact TvL_nl.2 (by simp)
  | n + 1, .cs a r, us, h => by
    obtain ⟨u, q, rfl, h1, h2⟩ := TvL_cs.1 h
    exact TvL_cs.2 ⟨u, q.take n, rfl, h1, TvL_take (n := n) h2⟩
theorem TvL_spl0 : ∀ {vs l : V} {us ws : List Value}, TvL ρ ξ l us → TvL ρ ξ vs ws → ws.length ≤ us.length → TvL ρ ξ (spl0S vs l) (ws ++ us.drop ws.length)
  | .nl, l, us, ws, h, k, _ => by rw [TvL_nl.1 k]; cases l <;> exact h
  | .cs x xs, .nl, us, ws, h, k, hl => by
    obtain ⟨u, q, rfl, _, _⟩ := TvL_cs.1 k
    rw [TvL_nl.1 h] at hl; simp at hl
  | .cs x xs, .cs a r, us, ws, h, k, hl => by
    obtain ⟨u, q, rfl, h1, h2⟩ := TvL_cs.1 h
    obtain ⟨w, p, rfl, k1, k2⟩ := TvL_cs.1 k
    exact TvL_cs.2 ⟨w, p ++ q.drop p.length, rfl, k1, TvL_spl0 h2 k2 (by simpa using hl)⟩
theorem TvL_spl : ∀ {n : Nat} {vs l : V} {us ws : List Value}, TvL ρ ξ l us → TvL ρ ξ vs ws → n + ws.length ≤ us.length → TvL ρ ξ (splS l n vs) (us.take n ++ ws ++ us.drop (n + ws.length))
  | 0, vs, l, us, ws, h, k, hl => by
    have := TvL_spl0 h k (by omega)
    simp only [List.take_zero, List.nil_append, Nat.zero_add]
    cases l <;> exact this
  | n + 1, vs, .nl, us, ws, h, k, hl => by rw [TvL_nl.1 h] at hl; simp at hl
  | n + 1, vs, .cs a r, us, ws, h, k, hl => by
    obtain ⟨u, q, rfl, h1, h2⟩ := TvL_cs.1 h
    have := TvL_spl (n := n) h2 k (by simp at hl; omega)
    refine TvL_cs.2 ⟨u, q.take n ++ ws ++ q.drop (n + ws.length), ?_, h1, this⟩
    rw [show n + 1 + ws.length = (n + ws.length) + 1 by omega]; rfl
/-- Blocks come, and are given up. -/
def RLe (ρ ρ' : Rho) : Prop := ∀ id, ρ id = .no ∨ ρ' id = ρ id ∨ (ρ' id = .dead)
theorem RLe.refl (ρ : Rho) : RLe ρ ρ := fun _ => .inr (.inl rfl)
theorem RLe.trans {ρ'' : Rho} (h : RLe ρ ρ') (k : RLe ρ' ρ'') : RLe ρ ρ'' := fun id => by
  rcases h id with h1 | h1 | h1
  · exact .inl h1
  · rcases k id with k1 | k1 | k1
    · exact .inl (h1.symm.trans k1)
    · exact .inr (.inl (k1.trans h1))
    · exact .inr (.inr k1)
  · rcases k id with k1 | k1 | k1
    · rw [h1] at k1; cases k1
    · exact .inr (.inr (k1.trans h1))
    · exact .inr (.inr k1)
theorem TvP_mono (hr : RLe ρ ρ') : ∀ (v : V), (∀ u, (TvP ρ ξ v).1 u → (TvP ρ' ξ v).1 u) ∧ ∀ us, (TvP ρ ξ v).2 us → (TvP ρ' ξ v).2 us
  | .nl => ⟨fun _ h => h, fun _ h => h⟩
  | .cs a r => ⟨fun _ h => h, fun us ⟨u, q, e, h1, h2⟩ => ⟨u, q, e, (TvP_mono hr a).1 u h1, (TvP_mono hr r).2 q h2⟩⟩
  | .undef => ⟨fun _ h => h, fun _ h => h⟩
  | .int _ _ => ⟨fun _ h => h, fun _ h => h⟩
  | .bool _ => ⟨fun _ h => h, fun _ h => h⟩
  | .str _ _ => ⟨fun _ h => h, fun _ h => h⟩
  | .nil _ => ⟨fun _ h => h, fun _ h => h⟩
  | .arg _ => ⟨fun _ h => h, fun _ h => h⟩
  | .ptr id off => ⟨fun u h => by
      simp only [TvP] at h ⊢
      rcases hr id with e | e | e
      · rw [e] at h; exact h.elim
      · rw [e]; exact h
      · rw [e]
        cases hq : ρ id with
        | no => rw [hq] at h; exact h.elim
        | dead => rw [hq] at h; exact h
        | «at» g c => rw [hq] at h; exact ⟨g, h⟩, fun _ h => h⟩
  | .mp id => ⟨fun u h => by
      simp only [TvP] at h ⊢
      rcases hr id with e | e | e
      · rw [e] at h; exact h.elim
      · rw [e]; exact h
      · rw [e]
        cases hq : ρ id with
        | no => rw [hq] at h; exact h.elim
        | dead => rw [hq] at h; exact h
        | «at» g c => rw [hq] at h; exact ⟨g, h⟩, fun _ h => h⟩
  | .sl id o w len full whole => ⟨fun u h => by
      simp only [TvP] at h ⊢
      rcases hr id with e | e | e
      · rw [e] at h; exact h.elim
      · rw [e]; exact h
      · rw [e]
        cases hq : ρ id with
        | no => rw [hq] at h; exact h.elim
        | dead => rw [hq] at h; exact h
        | «at» g c => rw [hq] at h; obtain ⟨q, cap, h1, h2, h3, h4, h5, _⟩ := h; exact ⟨g, q, cap, h1, h2, h3, h4, h5⟩, fun _ h => h⟩
  | .fn f a c => ⟨fun u ⟨us1, us2, e, h1, h2⟩ => ⟨us1, us2, e, (TvP_mono hr a).2 _ h1, (TvP_mono hr c).2 _ h2⟩, fun _ h => h⟩
  | .ifc t v => ⟨fun u ⟨x, e, h⟩ => ⟨x, e, (TvP_mono hr v).1 _ h⟩, fun _ h => h⟩
  | .agg l => ⟨fun u ⟨us, e, h, h1⟩ => ⟨us, e, (TvP_mono hr l).2 _ h, h1⟩, fun _ h => h⟩
  | .tup l => ⟨fun u ⟨us, e, h⟩ => ⟨us, e, (TvP_mono hr l).2 _ h⟩, fun _ h => h⟩
theorem Tv_mono (hr : RLe ρ ρ') {v : V} {u : Value} (h : Tv ρ ξ v u) : Tv ρ' ξ v u := (TvP_mono hr v).1 u h
theorem TvL_mono (hr : RLe ρ ρ') {v : V} {u : List Value} (h : TvL ρ ξ v u) : TvL ρ' ξ v u := (TvP_mono hr v).2 u h
end
/-! ### blocks -/
/-- The cells of an array. -/
def Cs (ρ : Rho) (ξ : Nat → Int) (c : Nat) (arr : Array Value) (l : V) : Prop := arr.size = c ∧ ∃ us rest, arr.toList = us ++ rest ∧ TvL ρ ξ l us ∧ (∀ u ∈ us, u.oneCell' = true)
/-- What a block says of memory: a variable; rows of elements of a type; what is read only. -/
def BlkR (ρ : Rho) (ξ : Nat → Int) (w : World) (g c : Nat) : V → Prop
  | .fn t l _ => ∃ arr, w.heap[g]? = some (.cells arr t (0, 0)) ∧ Cs ρ ξ c arr l ∧ c = (toL l).length
  | .ifc e l => ∃ arr, w.heap[g]? = some (.cells arr e (0, 0)) ∧ Cs ρ ξ c arr l
  | .tup l => ∃ arr t fz, w.heap[g]? = some (.cells arr t fz) ∧ Cs ρ ξ c arr l
  | .cs l r => ∃ es clock, w.heap[g]? = some (.map es clock) ∧ TvL ρ ξ l (es.toList.map (·.key)) ∧ TvL ρ ξ r (es.toList.map (·.val))
  | _ => False
theorem Cs.mono {ρ ρ' : Rho} {ξ : Nat → Int} {c : Nat} {arr : Array Value} {l : V} (h : Cs ρ ξ c arr l) (hr : RLe ρ ρ') : Cs ρ' ξ c arr l := by
  obtain ⟨h1, us, rest, h2, h3, h4⟩ := h
  exact ⟨h1, us, rest, h2, TvL_mono hr h3, h4⟩
structure Ok (ρ : Rho) (ξ : Nat → Int) (H : Nat → V) (w : World) : Prop where
  inj : ∀ i j g c d, ρ i = .at g c → ρ j = .at g d → i = j
  lt : ∀ i g c, ρ i = .at g c → g < w.heap.size
  unb : ∀ i, H i = .undef → ρ i = .no
  small : ∀ i, ρ i ≠ .no → i < 32768
  dead : ∀ i, ρ i = .dead → H i = .nl
  blk : ∀ i g c, ρ i = .at g c → BlkR ρ ξ w g c (H i)
/-- What has become of a world. -/
structure Ev (ρ : Rho) (w : World) (H : Nat → V) (ρ' : Rho) (w' : World) : Prop where
  keep : ∀ i, H i ≠ .undef → ρ' i = ρ i ∨ (ρ' i = .dead ∧ ∃ g c, ρ i = .at g c)
  new : ∀ i g c, ρ' i = .at g c → (∃ j d, ρ j = .at g d) ∨ w.heap.size ≤ g
  frame : ∀ g, g < w.heap.size → (∀ i c, ρ i ≠ .at g c) → w'.heap[g]? = w.heap[g]?
  os : w'.os = w.os
  tape : w'.tape = w.tape
  output : w'.output = w.output
  size : w.heap.size ≤ w'.heap.size
theorem Ev.refl (ρ : Rho) (w : World) (H : Nat → V) : Ev ρ w H ρ w := ⟨fun _ _ => .inl rfl, fun i g c h => .inl ⟨i, c, h⟩, fun _ _ _ => rfl, rfl, rfl, rfl, Nat.le_refl _⟩
theorem Ev.trans {ρ ρ' ρ'' : Rho} {w w' w'' : World} {H H' : Nat → V} (h : Ev ρ w H ρ' w') (hH : ∀ i, H i ≠ .undef → H' i ≠ .undef) (k : Ev ρ' w' H' ρ'' w'') : Ev ρ w H ρ'' w'' where
  keep i hi := by
    rcases k.keep i (hH i hi) with e | ⟨e, g, c, e2⟩
    · rcases h.keep i hi with e3 | e3
      · exact .inl (e.trans e3)
      · exact .inr ⟨e.trans e3.1, e3.2⟩
    · rcases h.keep i hi with e3 | e3
      · exact .inr ⟨e, g, c, e3.symm.trans e2⟩
      · rw [e3.1] at e2; cases e2
  new i g c hi := by
    rcases k.new i g c hi with ⟨j, d, e⟩ | e
    · exact h.new j g d e
    · exact .inr (Nat.le_trans h.size e)
  frame g hg hn := by
    rw [k.frame g (Nat.lt_of_lt_of_le hg h.size) fun i c e => ?_, h.frame g hg hn]
    rcases h.new i g c e with ⟨j, d, e2⟩ | e2
    · exact hn j d e2
    · omega
  os := k.os.trans h.os
  tape := k.tape.trans h.tape
  output := k.output.trans h.output
  size := Nat.le_trans h.size k.size
theorem Ev.le {ρ ρ' : Rho} {ξ : Nat → Int} {w w' : World} {H : Nat → V} (h : Ev ρ w H ρ' w') (k : Ok ρ ξ H w) : RLe ρ ρ' := fun i => by
  cases hr : ρ i with
  | no => exact .inl rfl
  | dead =>
    rcases h.keep i (by rw [k.dead i hr]; intro e; cases e) with e | e
    · exact .inr (.inl (e.trans hr))
    · exact .inr (.inr e.1)
  | «at» g c =>
    have : H i ≠ .undef := fun e => by rw [k.unb i e] at hr; cases hr
    rcases h.keep i this with e | e
    · exact .inr (.inl (e.trans hr))
    · exact .inr (.inr e.1)
/-- Blocks stay, whatever else has turned. -/
theorem BlkR.stay {ρ ρ' : Rho} {ξ : Nat → Int} {w w' : World} {g c : Nat} {v : V} (h : BlkR ρ ξ w g c v) (hr : RLe ρ ρ') (hg : w'.heap[g]? = w.heap[g]?) : BlkR ρ' ξ w' g c v := by
  cases v with
  | fn t l q => obtain ⟨arr, h1, h2, h3⟩ := h; exact ⟨arr, hg.trans h1, h2.mono hr, h3⟩
  | ifc e l => obtain ⟨arr, h1, h2⟩ := h; exact ⟨arr, hg.trans h1, h2.mono hr⟩
  | tup l => obtain ⟨arr, t, fz, h1, h2⟩ := h; exact ⟨arr, t, fz, hg.trans h1, h2.mono hr⟩
  | cs l r => obtain ⟨es, clock, h1, h2, h3⟩ := h; exact ⟨es, clock, hg.trans h1, TvL_mono hr h2, TvL_mono hr h3⟩
  | _ => exact h.elim
/-- One operation: whatever else there is, it leads so far. -/
def OpWp (P : Program) (o : Oper) (a : Act) (w : World) (R : Value → World → Prop) : Prop := ∀ K Q, (∀ u w', R u w' → K (a.put o.dst u) w') → o.wp P a w K Q
theorem OpWp.of_run {P : Program} {o : Oper} {a : Act} {w w' : World} {u : Value} {R : Value → World → Prop} (h : (execOp a.eval o).run P w = .ok (.value u) w') (hr : R u w') : OpWp P o a w R := fun K Q hk => by
  show o.upon P a K Q ((execOp a.eval o).run P w)
  rw [h]; exact hk _ _ hr
theorem OpWp.of_skip {P : Program} {o : Oper} {a : Act} {w w' : World} {R : Value → World → Prop} (h : (execOp a.eval o).run P w = .ok .skip w') (hr : R undef w') : OpWp P o a w R := fun K Q hk => by
  show o.upon P a K Q ((execOp a.eval o).run P w)
  rw [h]; exact hk _ _ hr
theorem OpWp.mono {P : Program} {o : Oper} {a : Act} {w : World} {R R' : Value → World → Prop} (h : OpWp P o a w R) (k : ∀ u w', R u w' → R' u w') : OpWp P o a w R' := fun K Q hk => h K Q fun u w' hr => hk u w' (k u w' hr)
/-- What an operand is, by the slots' values. -/
def cV1 : Value → V
  | .int k n => .int k n
  | .bool b => .bool b
  | .string s => .str s.size (nb s.data.toList)
  | .pointer none => .nil .ptr
  | .slice none 0 0 => .nil .slice
  | .nilFunc => .nil .func
  | .map none => .nil .map
  | .nilIface => .nil .iface
  | _ => .undef
def cV : Value → V
  | .int k n => .int k n
  | .bool b => .bool b
  | .string s => .str s.size (nb s.data.toList)
  | .pointer none => .nil .ptr
  | .slice none 0 0 => .nil .slice
  | .nilFunc => .nil .func
  | .map none => .nil .map
  | .nilIface => .nil .iface
  | .agg cs => if cs.toList.all (fun u => u.oneCell') then .agg (ofL (cs.toList.map cV1)) else .undef
  | _ => .undef
theorem cV1_ok (ρ : Rho) (ξ : Nat → Int) (u : Value) : Tv ρ ξ (cV1 u) u := by
  unfold cV1
  split
  case h_3 s => show Value.string s = .string (bs s.size (nb s.data.toList)); rw [bs_nb]
  all_goals first | rfl | trivial
theorem cVl_ok (ρ : Rho) (ξ : Nat → Int) : ∀ (us : List Value), TvL ρ ξ (ofL (us.map cV1)) us
  | [] => rfl
  | u :: r => ⟨u, r, rfl, cV1_ok ρ ξ u, cVl_ok ρ ξ r⟩
theorem cV_ok (ρ : Rho) (ξ : Nat → Int) (u : Value) : Tv ρ ξ (cV u) u := by
  unfold cV
  split
  case h_3 s => show Value.string s = .string (bs s.size (nb s.data.toList)); rw [bs_nb]
  case h_9 cs =>
    split
    · rename_i h
      exact ⟨cs.toList, by simp, cVl_ok ρ ξ cs.toList, fun c hc => List.all_eq_true.1 h c hc⟩
    · trivial
  all_goals first | rfl | trivial
def opS (E : Nat → V) : Operand → V
  | .tmp i => E i
  | .const v => cV v
  | .func f => .fn f .nl .nl
  | .global _ => .undef
theorem opS_ok {ρ : Rho} {ξ : Nat → Int} {E : Nat → V} {a : Act} {x : Operand} (h : ∀ i, x = .tmp i → Tv ρ ξ (E i) (a.tmps.getD i undef)) : Tv ρ ξ (opS E x) (a.eval x) := by
  cases x with
  | tmp i => exact h i rfl
  | const v => exact cV_ok ρ ξ v
  | func f => exact ⟨[], [], rfl, rfl, rfl⟩
  | global g => trivial
/-- The slots that an operation reads. -/
def Reads (ρ : Rho) (ξ : Nat → Int) (E : Nat → V) (a : Act) (o : Oper) : Prop := ∀ i, Operand.tmp i ∈ o.op.operands → Tv ρ ξ (E i) (a.tmps.getD i undef)
theorem Reads.op {ρ : Rho} {ξ : Nat → Int} {E : Nat → V} {a : Act} {o : Oper} (h : Reads ρ ξ E a o) {x : Operand} (hx : x ∈ o.op.operands) : Tv ρ ξ (opS E x) (a.eval x) := opS_ok fun i e => h i (e ▸ hx)
/-- One operation, by what blocks there are ahead and behind. -/
structure Step (P : Program) (ξ : Nat → Int) (o : Oper) (E : Nat → V) (H H' : Nat → V) (v : V) : Prop where
  born : ∀ i, H i ≠ .undef → H' i ≠ .undef
  stay : ∀ ρ a w, Ok ρ ξ H w → Reads ρ ξ E a o → ∀ i, H i ≠ .undef → ρ i = .no → H' i = H i
  run : ∀ ρ a w, Ok ρ ξ H w → Reads ρ ξ E a o → OpWp P o a w fun u w' => ∃ ρ', Ev ρ w H ρ' w' ∧ Ok ρ' ξ H' w' ∧ Tv ρ' ξ v u
/-- What kind of step it was: quiet (it reads no block, or that one); a new block; any. -/
inductive Cls where
  | pure
  | read (i : Nat)
  | new (i : Nat) (c : V)
  | any
def upd (H : Nat → V) (i : Nat) (c : V) : Nat → V := fun j => if j = i then c else H j
def CStep (P : Program) (ξ : Nat → Int) (o : Oper) (E : Nat → V) (H H' : Nat → V) (v : V) : Cls → Prop
  | .pure => H' = H ∧ ∀ G, Step P ξ o E G G v
  | .read i => H' = H ∧ H i ≠ .undef ∧ ∀ G, G i = H i → Step P ξ o E G G v
  | .new i c => H' = upd H i c ∧ H i = .undef ∧ c ≠ .undef ∧ ∀ G, G i = .undef → Step P ξ o E G (upd G i c) v
  | .any => Step P ξ o E H H' v
theorem CStep.step {P : Program} {ξ : Nat → Int} {o : Oper} {E H H' : Nat → V} {v : V} {c : Cls} (h : CStep P ξ o E H H' v c) : Step P ξ o E H H' v := by
  cases c with
  | pure => obtain ⟨rfl, h⟩ := h; exact h _
  | read i => obtain ⟨rfl, _, h⟩ := h; exact h _ rfl
  | new i c => obtain ⟨rfl, h1, _, h⟩ := h; exact h _ h1
  | any => exact h
/-- It runs, the world stays. -/
theorem Step.quiet {P : Program} {ξ : Nat → Int} {o : Oper} {E H : Nat → V} {v : V} (h : ∀ ρ a w, Ok ρ ξ H w → Reads ρ ξ E a o → ∃ u, (execOp a.eval o).run P w = .ok (.value u) w ∧ Tv ρ ξ v u) : Step P ξ o E H H v where
  born _ h := h
  stay _ _ _ _ _ _ _ _ := rfl
  run ρ a w hok hr := by
    obtain ⟨u, h1, h2⟩ := h ρ a w hok hr
    exact .of_run h1 ⟨ρ, .refl _ _ _, hok, h2⟩
/-- A new block. -/
theorem Ok.alloc {ρ : Rho} {ξ : Nat → Int} {H : Nat → V} {w : World} (h : Ok ρ ξ H w) {i : Nat} (hi : H i = .undef) (hs : i < 32768) {c : Nat} {pv : V} (hpv : pv ≠ .undef)
    {w' : World} (hos : w'.os = w.os) (htape : w'.tape = w.tape) (hout : w'.output = w.output) (hsz : w.heap.size ≤ w'.heap.size) (hk : ∀ k, k < w.heap.size → w'.heap[k]? = w.heap[k]?) {g : Nat} (hg : w.heap.size ≤ g) (hgl : g < w'.heap.size) (hb : ∀ ρ', RLe ρ ρ' → BlkR ρ' ξ w' g c pv) :
    Ok (fun j => if j = i then .at g c else ρ j) ξ (upd H i pv) w' ∧ Ev ρ w H (fun j => if j = i then .at g c else ρ j) w' := by
  have hno := h.unb i hi
  have hle : RLe ρ (fun j => if j = i then .at g c else ρ j) := fun j => by
    by_cases e : j = i
    · subst e; exact .inl hno
    · exact .inr (.inl (if_neg e))
  refine ⟨⟨?_, ?_, ?_, ?_, ?_, ?_⟩, ⟨?_, ?_, ?_, hos, htape, hout, hsz⟩⟩
  · intro j k q c d h2 h3
    by_cases e1 : j = i <;> by_cases e2 : k = i
    · rw [e1, e2]
    · rw [if_pos e1] at h2; rw [if_neg e2] at h3; injection h2 with h2; subst h2; have := h.lt k _ _ h3; omega
    · rw [if_neg e1] at h2; rw [if_pos e2] at h3; injection h3 with h3; subst h3; have := h.lt j _ _ h2; omega
    · rw [if_neg e1] at h2; rw [if_neg e2] at h3; exact h.inj j k q c d h2 h3
  · intro j q c h2
    by_cases e : j = i
    · rw [if_pos e] at h2; injection h2 with h2; omega
    · rw [if_neg e] at h2; have := h.lt j q c h2; omega
  · intro j h2
    unfold upd at h2
    by_cases e : j = i
    · rw [if_pos e] at h2; exact absurd h2 hpv
    · rw [if_neg e] at h2; simp only [if_neg e]; exact h.unb j h2
  · intro j h2
    by_cases e : j = i
    · omega
    · simp only [if_neg e] at h2; exact h.small j h2
  · intro j h2
    by_cases e : j = i
    · rw [if_pos e] at h2; cases h2
    · rw [if_neg e] at h2; unfold upd; rw [if_neg e]; exact h.dead j h2
  · intro j q c h2
    unfold upd
    by_cases e : j = i
    · rw [if_pos e] at h2 ⊢; injection h2 with h2 h3; subst h2; subst h3
      exact hb _ hle
    · rw [if_neg e] at h2 ⊢
      exact (h.blk j q c h2).stay hle (hk q (h.lt j q c h2))
  · intro j h2
    by_cases e : j = i
    · subst e; exact absurd hi h2
    · exact .inl (if_neg e)
  · intro j q c h2
    by_cases e : j = i
    · rw [if_pos e] at h2; injection h2 with h2; exact .inr (by omega)
    · rw [if_neg e] at h2; exact .inl ⟨j, c, h2⟩
  · intro q hq _; exact hk q hq
/-- A block turned. -/
theorem Ok.turn {ρ : Rho} {ξ : Nat → Int} {H : Nat → V} {w : World} (h : Ok ρ ξ H w) {i g c : Nat} (hi : ρ i = .at g c) {pv : V} (hpv : pv ≠ .undef)
    {w' : World} (hos : w'.os = w.os) (htape : w'.tape = w.tape) (hout : w'.output = w.output) (hsz : w.heap.size ≤ w'.heap.size) (hk : ∀ k, k < w.heap.size → k ≠ g → w'.heap[k]? = w.heap[k]?) (hb : BlkR ρ ξ w' g c pv) :
    Ok ρ ξ (upd H i pv) w' ∧ Ev ρ w H ρ w' := by
  refine ⟨⟨h.inj, fun j q d h2 => Nat.lt_of_lt_of_le (h.lt j q d h2) hsz, ?_, h.small, ?_, ?_⟩, ⟨fun _ _ => .inl rfl, fun j q d h2 => .inl ⟨j, d, h2⟩, ?_, hos, htape, hout, hsz⟩⟩
  · intro j h2
    unfold upd at h2
    by_cases e : j = i
    · rw [if_pos e] at h2; exact absurd h2 hpv
    · rw [if_neg e] at h2; exact h.unb j h2
  · intro j h2
    unfold upd
    by_cases e : j = i
    · subst e; rw [hi] at h2; cases h2
    · rw [if_neg e]; exact h.dead j h2
  · intro j q d h2
    unfold upd
    by_cases e : j = i
    · subst e
      rw [hi] at h2; injection h2 with h2 h3; subst h2; subst h3
      rw [if_pos rfl]
      exact hb
    · rw [if_neg e]
      refine (h.blk j q d h2).stay (.refl _) (hk q (h.lt j q d h2) fun e2 => ?_)
      subst e2
      exact e (h.inj j i q d c h2 hi)
  · intro q hq hn
    exact hk q hq fun e => hn i c (e ▸ hi)
end Go.Proofs.YtnkkfmnpkgjabaaGreat.Y

/- The runner: its state; operands; operations on numbers, texts, truth values. -/
namespace Go.Proofs.YtnkkfmnpkgjabaaGreat.Y
open Go.RowKit
set_option linter.unusedVariables false
set_option linter.unusedSimpArgs false
/-! ### what a value is -/
noncomputable def vInt (v : V) (k : IntKind → Int → Bool) : Bool := V.casesOn v false (fun _ _ => false) false k (fun _ => false) (fun _ _ => false) (fun _ => false) (fun _ _ => false) (fun _ _ _ _ _ _ => false) (fun _ _ _ => false) (fun _ _ => false) (fun _ => false) (fun _ => false) (fun _ => false) (fun _ => false)
noncomputable def vBool (v : V) (k : Bool → Bool) : Bool := V.casesOn v false (fun _ _ => false) false (fun _ _ => false) k (fun _ _ => false) (fun _ => false) (fun _ _ => false) (fun _ _ _ _ _ _ => false) (fun _ _ _ => false) (fun _ _ => false) (fun _ => false) (fun _ => false) (fun _ => false) (fun _ => false)
noncomputable def vStr (v : V) (k : Nat → Nat → Bool) : Bool := V.casesOn v false (fun _ _ => false) false (fun _ _ => false) (fun _ => false) k (fun _ => false) (fun _ _ => false) (fun _ _ _ _ _ _ => false) (fun _ _ _ => false) (fun _ _ => false) (fun _ => false) (fun _ => false) (fun _ => false) (fun _ => false)
noncomputable def vPtr (v : V) (k : Nat → Nat → Bool) : Bool := V.casesOn v false (fun _ _ => false) false (fun _ _ => false) (fun _ => false) (fun _ _ => false) (fun _ => false) k (fun _ _ _ _ _ _ => false) (fun _ _ _ => false) (fun _ _ => false) (fun _ => false) (fun _ => false) (fun _ => false) (fun _ => false)
noncomputable def vSl (v : V) (k0 : NK → Bool) (k : Nat → Nat → Nat → Nat → Bool → Bool → Bool) : Bool := V.casesOn v false (fun _ _ => false) false (fun _ _ => false) (fun _ => false) (fun _ _ => false) k0 (fun _ _ => false) k (fun _ _ _ => false) (fun _ _ => false) (fun _ => false) (fun _ => false) (fun _ => false) (fun _ => false)
noncomputable def vFn (v : V) (k : FuncId → V → V → Bool) : Bool := V.casesOn v false (fun _ _ => false) false (fun _ _ => false) (fun _ => false) (fun _ _ => false) (fun _ => false) (fun _ _ => false) (fun _ _ _ _ _ _ => false) k (fun _ _ => false) (fun _ => false) (fun _ => false) (fun _ => false) (fun _ => false)
noncomputable def vAgg (v : V) (k : V → Bool) : Bool := V.casesOn v false (fun _ _ => false) false (fun _ _ => false) (fun _ => false) (fun _ _ => false) (fun _ => false) (fun _ _ => false) (fun _ _ _ _ _ _ => false) (fun _ _ _ => false) (fun _ _ => false) (fun _ => false) k (fun _ => false) (fun _ => false)
noncomputable def vTup (v : V) (k : V → Bool) : Bool := V.casesOn v false (fun _ _ => false) false (fun _ _ => false) (fun _ => false) (fun _ _ => false) (fun _ => false) (fun _ _ => false) (fun _ _ _ _ _ _ => false) (fun _ _ _ => false) (fun _ _ => false) (fun _ => false) (fun _ => false) k (fun _ => false)
/-- A block's cells, with what it may be then: it is written; or not. -/
noncomputable def vWr (v : V) (k : (V → V) → V → Bool) : Bool := V.casesOn v false (fun _ _ => false) false (fun _ _ => false) (fun _ => false) (fun _ _ => false) (fun _ => false) (fun _ _ => false) (fun _ _ _ _ _ _ => false) (fun t l q => k (fun l => .fn t l q) l) (fun e l => k (.ifc e) l) (fun _ => false) (fun _ => false) (fun _ => false) (fun _ => false)
noncomputable def vRow (v : V) (k : TypeId → V → Bool) : Bool := V.casesOn v false (fun _ _ => false) false (fun _ _ => false) (fun _ => false) (fun _ _ => false) (fun _ => false) (fun _ _ => false) (fun _ _ _ _ _ _ => false) (fun _ _ _ => false) k (fun _ => false) (fun _ => false) (fun _ => false) (fun _ => false)
noncomputable def vBlk (v : V) (k : V → Bool) : Bool := V.casesOn v false (fun _ _ => false) false (fun _ _ => false) (fun _ => false) (fun _ _ => false) (fun _ => false) (fun _ _ => false) (fun _ _ _ _ _ _ => false) (fun _ l _ => k l) (fun _ l => k l) (fun _ => false) (fun _ => false) k (fun _ => false)
/-- The cells that a value is. -/
noncomputable def vCells (v : V) (k : V → Bool) : Bool := V.casesOn v false (fun _ _ => false) false (fun _ _ => k (.cs v .nl)) (fun _ => k (.cs v .nl)) (fun _ _ => k (.cs v .nl)) (fun _ => k (.cs v .nl)) (fun _ _ => k (.cs v .nl)) (fun _ _ _ _ _ _ => k (.cs v .nl)) (fun _ _ _ => k (.cs v .nl)) (fun _ _ => k (.cs v .nl)) (fun _ => k (.cs v .nl)) (fun l => k l) (fun _ => false) (fun _ => k (.cs v .nl))
section
variable {v : V}
theorem vCells_ok {k} (h : vCells v k = true) : ∃ l, k l = true ∧ ∀ ρ ξ u, Tv ρ ξ v u → TvL ρ ξ l u.cells.toList ∧ ∀ c ∈ u.cells.toList, c.oneCell' = true := by
  have one : ∀ ρ ξ u, Tv ρ ξ v u → u.oneCell' = true → TvL ρ ξ (.cs v .nl) u.cells.toList ∧ ∀ c ∈ u.cells.toList, c.oneCell' = true := fun ρ ξ u hu h1 => by
    have : u.cells.toList = [u] := by rw [X.cells_one h1]
    rw [this]
    exact ⟨⟨u, [], rfl, hu, rfl⟩, fun c hc => by rw [List.mem_singleton.1 hc]; exact h1⟩
  cases v with
  | nl => cases h
  | cs a r => cases h
  | undef => cases h
  | tup l => cases h
  | agg l =>
    refine ⟨l, h, fun ρ ξ u hu => ?_⟩
    obtain ⟨us, rfl, h1, h2⟩ := hu
    exact ⟨h1, h2⟩
  | int a b => exact ⟨_, h, fun ρ ξ u hu => one ρ ξ u hu (by rw [show u = _ from hu]; rfl)⟩
  | bool a => exact ⟨_, h, fun ρ ξ u hu => one ρ ξ u hu (by rw [show u = _ from hu]; rfl)⟩
  | str a b => exact ⟨_, h, fun ρ ξ u hu => one ρ ξ u hu (by rw [show u = _ from hu]; rfl)⟩
  | nil a => exact ⟨_, h, fun ρ ξ u hu => one ρ ξ u hu (by rw [show u = nilV a from hu]; cases a <;> rfl)⟩
  | arg a => exact ⟨_, h, fun ρ ξ u hu => one ρ ξ u hu (by rw [show u = _ from hu]; rfl)⟩
  | ptr a b => exact ⟨_, h, fun ρ ξ u hu => one ρ ξ u hu (by obtain ⟨g, e, _⟩ := Tv_ptr hu; rw [e]; rfl)⟩
  | sl a b c d e f => exact ⟨_, h, fun ρ ξ u hu => one ρ ξ u hu (by obtain ⟨g, q, cap, e, _⟩ := Tv_sl hu; rw [e]; rfl)⟩
  | fn a b c => exact ⟨_, h, fun ρ ξ u hu => one ρ ξ u hu (by obtain ⟨_, _, e, _⟩ := hu; rw [e]; rfl)⟩
  | ifc a b => exact ⟨_, h, fun ρ ξ u hu => one ρ ξ u hu (by obtain ⟨_, e, _⟩ := hu; rw [e]; rfl)⟩
  | mp a =>
    refine ⟨_, h, fun ρ ξ u hu => one ρ ξ u hu ?_⟩
    have hu : (TvP ρ ξ (.mp a)).1 u := hu
    simp only [TvP] at hu
    cases hq : ρ a with
    | no => rw [hq] at hu; exact hu.elim
    | dead => rw [hq] at hu; obtain ⟨g, rfl⟩ := hu; rfl
    | «at» g c => rw [hq] at hu; rw [hu]; rfl
theorem vInt_ok {k} (h : vInt v k = true) : ∃ a b, v = .int a b ∧ k a b = true := by cases v <;> first | exact ⟨_, _, rfl, h⟩ | cases h
theorem vBool_ok {k} (h : vBool v k = true) : ∃ a, v = .bool a ∧ k a = true := by cases v <;> first | exact ⟨_, rfl, h⟩ | cases h
theorem vStr_ok {k} (h : vStr v k = true) : ∃ a b, v = .str a b ∧ k a b = true := by cases v <;> first | exact ⟨_, _, rfl, h⟩ | cases h
theorem vPtr_ok {k} (h : vPtr v k = true) : ∃ a b, v = .ptr a b ∧ k a b = true := by cases v <;> first | exact ⟨_, _, rfl, h⟩ | cases h
theorem vSl_ok {k0 k} (h : vSl v k0 k = true) : (∃ a, v = .nil a ∧ k0 a = true) ∨ ∃ a b c d e f, v = .sl a b c d e f ∧ k a b c d e f = true := by cases v <;> first | exact .inl ⟨_, rfl, h⟩ | exact .inr ⟨_, _, _, _, _, _, rfl, h⟩ | cases h
theorem vFn_ok {k} (h : vFn v k = true) : ∃ a b c, v = .fn a b c ∧ k a b c = true := by cases v <;> first | exact ⟨_, _, _, rfl, h⟩ | cases h
theorem vAgg_ok {k} (h : vAgg v k = true) : ∃ a, v = .agg a ∧ k a = true := by cases v <;> first | exact ⟨_, rfl, h⟩ | cases h
theorem vTup_ok {k} (h : vTup v k = true) : ∃ a, v = .tup a ∧ k a = true := by cases v <;> first | exact ⟨_, rfl, h⟩ | cases h
theorem vBlk_ok {k} (h : vBlk v k = true) : ∃ a, ((∃ t q, v = .fn t a q) ∨ (∃ e, v = .ifc e a) ∨ v = .tup a) ∧ k a = true := by cases v <;> first | exact ⟨_, .inl ⟨_, _, rfl⟩, h⟩ | exact ⟨_, .inr (.inl ⟨_, rfl⟩), h⟩ | exact ⟨_, .inr (.inr rfl), h⟩ | cases h
theorem vWr_ok {k} (h : vWr v k = true) : ∃ f a, v = f a ∧ ((∃ t q, f = fun l => .fn t l q) ∨ ∃ e, f = .ifc e) ∧ k f a = true := by cases v <;> first | exact ⟨fun l => .fn _ l _, _, rfl, .inl ⟨_, _, rfl⟩, h⟩ | exact ⟨.ifc _, _, rfl, .inr ⟨_, rfl⟩, h⟩ | cases h
theorem vRow_ok {k} (h : vRow v k = true) : ∃ e a, v = .ifc e a ∧ k e a = true := by cases v <;> first | exact ⟨_, _, rfl, h⟩ | cases h
end
/-! ### the state -/
structure St where
  e : Tr
  h : Tr
  nx : Nat
  tk : V
noncomputable def slots (S : St) (i : Nat) : V := if i < 512 then Tr.look (pT i) S.e else .undef
noncomputable def hp (S : St) (i : Nat) : V := if i < 32768 then Tr.look (pB i) S.h else .undef
abbrev Kt := Cls → V → St → Bool
abbrev C1 := F (St → Kt → Bool)
abbrev O1 := F (St → K1 → Bool)
/-- Numbers that are not used yet have no block. -/
def Inv (S : St) : Prop := ∀ i, S.nx ≤ i → hp S i = .undef
noncomputable def opT (p : F (Tr → K1 → Bool)) : O1 := F.casesOn p fun f => .mk fun st k => St.casesOn st fun e _ _ _ => f e k
noncomputable def opd (o : Operand) : O1 := match o with
  | .tmp i => Bool.casesOn (Nat.ble (Nat.succ i) 512) (.mk fun _ _ => false) (opT (Tr.cget (pT i)))
  | .const v => .mk fun _ k => k (cV v)
  | .func f => .mk fun _ k => k (.fn f .nl .nl)
  | .global _ => .mk fun _ _ => false
theorem opd_ok {o : Operand} {S : St} {k : K1} (h : (opd o).get S k = true) : k (opS (slots S) o) = true := by
  cases o with
  | tmp i =>
    have := Tr.cget_eq (pT i) S.e k
    have h : (Bool.casesOn (Nat.ble (Nat.succ i) 512) (.mk fun _ _ => false) (opT (Tr.cget (pT i))) : O1).get S k = true := h
    cases hi : Nat.ble (Nat.succ i) 512 with
    | false => rw [hi] at h; cases h
    | true =>
      rw [hi] at h
      have hlt : i < 512 := Nat.le_of_ble_eq_true hi
      show k (if i < 512 then Tr.look (pT i) S.e else .undef) = true
      rw [if_pos hlt]
      have h : (opT (Tr.cget (pT i))).get S k = true := h
      revert this h
      generalize Tr.cget (pT i) = p
      intro h1 h2
      cases p with
      | mk f => exact h1.symm.trans h2
  | const v => exact h
  | func f => exact h
  | global g => cases h
noncomputable def f1 (f : (St → K1 → Bool) → St → Kt → Bool) (a : O1) : C1 := F.casesOn a fun a => .mk (f a)
noncomputable def f2 (f : (St → K1 → Bool) → (St → K1 → Bool) → St → Kt → Bool) (a b : O1) : C1 := F.casesOn a fun a => F.casesOn b fun b => .mk (f a b)
noncomputable def f3 (f : (St → K1 → Bool) → (St → K1 → Bool) → (St → K1 → Bool) → St → Kt → Bool) (a b c : O1) : C1 := F.casesOn a fun a => F.casesOn b fun b => F.casesOn c fun c => .mk (f a b c)
theorem f1_get {f} {a : O1} : (f1 f a).get = f a.get := by cases a; rfl
theorem f2_get {f} {a b : O1} : (f2 f a b).get = f a.get b.get := by cases a; cases b; rfl
theorem f3_get {f} {a b c : O1} : (f3 f a b c).get = f a.get b.get c.get := by cases a; cases b; cases c; rfl
section
variable {P : Program} {ξ : Nat → Int} {o : Oper} {S : St} {k : Kt} {ty ty2 : TypeId} {x z y : Operand}
/-- It tells v, whatever memory there is. -/
def Pu (P : Program) (ξ : Nat → Int) (o : Oper) (E : Nat → V) (v : V) : Prop := ∀ ρ a w, Reads ρ ξ E a o → ∃ u, (execOp a.eval o).run P w = .ok (.value u) w ∧ Tv ρ ξ v u
theorem Pu.c {E H : Nat → V} {v : V} (h : Pu P ξ o E v) : CStep P ξ o E H H v .pure := ⟨rfl, fun G => .quiet fun ρ a w _ hr => h ρ a w hr⟩
/-- What each operation's run is held to. -/
def Sound1 (P : Program) (ξ : Nat → Int) (o : Oper) (f : St → Kt → Bool) : Prop := ∀ S k, Inv S → f S k = true → ∃ cl v S', k cl v S' = true ∧ S'.e = S.e ∧ S'.tk = S.tk ∧ Inv S' ∧ CStep P ξ o (slots S) (hp S) (hp S') v cl
theorem Sound1.pu {f : St → Kt → Bool} (h : ∀ S k, f S k = true → ∃ v, k .pure v S = true ∧ Pu P ξ o (slots S) v) : Sound1 P ξ o f := fun S k hi hf => by
  obtain ⟨v, h1, h2⟩ := h S k hf
  exact ⟨.pure, v, S, h1, rfl, rfl, hi, h2.c⟩
theorem Sound1.false : Sound1 P ξ o fun _ _ => false := fun _ _ _ h => by cases h
/-! ### moves -/
noncomputable def oMove (x : St → K1 → Bool) (S : St) (k : Kt) : Bool := x S fun v => k .pure v S
theorem oMove_ok (ho : o.op = .move x ∨ o.op = .assign x) : Sound1 P ξ o (oMove (opd x).get) := .pu fun S k h => by
  refine ⟨_, opd_ok h, fun ρ a w hr => ⟨a.eval x, ?_, hr.op (by rcases ho with ho | ho <;> simp [ho, Op.operands])⟩⟩
  rcases ho with ho | ho <;> simp [execOp, ho]
noncomputable def oPick (c x z : St → K1 → Bool) (S : St) (k : Kt) : Bool := c S fun v => vBool v fun b => Bool.casesOn b (z S fun v => k .pure v S) (x S fun v => k .pure v S)
theorem oPick_ok (ho : o.op = .pick x y z) : Sound1 P ξ o (oPick (opd x).get (opd y).get (opd z).get) := .pu fun S k h => by
  obtain ⟨b, h1, h2⟩ := vBool_ok (opd_ok h)
  cases b with
  | true =>
    refine ⟨_, opd_ok h2, fun ρ a w hr => ⟨a.eval y, ?_, hr.op (by simp [ho, Op.operands])⟩⟩
    have e := hr.op (x := x) (by simp [ho, Op.operands])
    rw [h1, Tv_bool] at e
    simp [execOp, ho, e, asBool]
  | false =>
    refine ⟨_, opd_ok h2, fun ρ a w hr => ⟨a.eval z, ?_, hr.op (by simp [ho, Op.operands])⟩⟩
    have e := hr.op (x := x) (by simp [ho, Op.operands])
    rw [h1, Tv_bool] at e
    simp [execOp, ho, e, asBool]
/-! ### two numbers -/
noncomputable def b2I (f : IntKind → Int → Int → K1 → Bool) (x z : St → K1 → Bool) (S : St) (k : Kt) : Bool := x S fun a => vInt a fun kk m => z S fun b => vInt b fun _ n => f kk m n fun v => k .pure v S
/-- The same kind, as the types have it. -/
def sameK : IntKind → IntKind → Bool
  | .i8, .i8 | .i16, .i16 | .i32, .i32 | .i64, .i64 | .u8, .u8 | .u16, .u16 | .u32, .u32 | .u64, .u64 => true
  | _, _ => false
theorem sameK_eq {a b : IntKind} (h : sameK a b = true) : a = b := by cases a <;> cases b <;> first | rfl | cases h
noncomputable def b2K (f : IntKind → Int → Int → K1 → Bool) (x z : St → K1 → Bool) (S : St) (k : Kt) : Bool := x S fun a => vInt a fun kk m => z S fun b => vInt b fun jj n => Bool.casesOn (sameK kk jj) false (f kk m n fun v => k .pure v S)
theorem b2K_ok {op : BinOp} {f : IntKind → Int → Int → K1 → Bool} (ho : o.op = .binOp op ty x z ty2)
    (hf : ∀ kk m n (q : K1), f kk m n q = true → ∃ v u, q v = true ∧ (∀ ρ, Tv ρ ξ v u) ∧ ∀ w, (binOp op ty (.int kk m) (.int kk n)).run P w = .ok u w) : Sound1 P ξ o (b2K f (opd x).get (opd z).get) := .pu fun S k h => by
  obtain ⟨kk, m, h1, h2⟩ := vInt_ok (opd_ok h)
  obtain ⟨jj, n, h3, h4⟩ := vInt_ok (opd_ok h2)
  cases hs : sameK kk jj with
  | false => rw [hs] at h4; cases h4
  | true =>
    rw [hs] at h4
    have := sameK_eq hs
    subst this
    obtain ⟨v, u, h5, h6, h7⟩ := hf kk m n _ h4
    refine ⟨v, h5, fun ρ a w hr => ⟨u, ?_, h6 ρ⟩⟩
    have e1 := hr.op (x := x) (by simp [ho, Op.operands])
    have e2 := hr.op (x := z) (by simp [ho, Op.operands])
    rw [h1, Tv_int] at e1
    rw [h3, Tv_int] at e2
    simp only [execOp, ho, e1, e2, Sem.run_bind, X.run_guard_int, Result.andThen_ok, h7, Sem.run_pure]
theorem b2I_ok {op : BinOp} {f : IntKind → Int → Int → K1 → Bool} (ho : o.op = .binOp op ty x z ty2)
    (hf : ∀ kk jj m n (q : K1), f kk m n q = true → ∃ v u, q v = true ∧ (∀ ρ, Tv ρ ξ v u) ∧ ∀ w, (binOp op ty (.int kk m) (.int jj n)).run P w = .ok u w) : Sound1 P ξ o (b2I f (opd x).get (opd z).get) := .pu fun S k h => by
  obtain ⟨kk, m, h1, h2⟩ := vInt_ok (opd_ok h)
  obtain ⟨jj, n, h3, h4⟩ := vInt_ok (opd_ok h2)
  obtain ⟨v, u, h5, h6, h7⟩ := hf kk jj m n _ h4
  refine ⟨v, h5, fun ρ a w hr => ⟨u, ?_, h6 ρ⟩⟩
  have e1 := hr.op (x := x) (by simp [ho, Op.operands])
  have e2 := hr.op (x := z) (by simp [ho, Op.operands])
  rw [h1, Tv_int] at e1
  rw [h3, Tv_int] at e2
  simp only [execOp, ho, e1, e2, Sem.run_bind, X.run_guard_int, Result.andThen_ok, h7, Sem.run_pure]
theorem leB (a b : Int) : decide (a ≤ b) = !decide (b < a) := by rw [Bool.eq_iff_iff]; simp
noncomputable def fB (b : Bool) (k : K1) : Bool := Bool.casesOn b (k (.bool false)) (k (.bool true))
theorem fB_eq (b : Bool) (k : K1) : fB b k = k (.bool b) := by cases b <;> rfl
noncomputable def iAdd (kk : IntKind) (m n : Int) (k : K1) : Bool := kInt kk (addI m n) fun r => k (.int kk r)
noncomputable def iSub (kk : IntKind) (m n : Int) (k : K1) : Bool := kInt kk (addI m (negI n)) fun r => k (.int kk r)
noncomputable def iMul (kk : IntKind) (m n : Int) (k : K1) : Bool := kInt kk (mulI m n) fun r => k (.int kk r)
noncomputable def iQuo (kk : IntKind) (m n : Int) (k : K1) : Bool := Bool.casesOn (eqI n 0) (kInt kk (quoI m n) fun r => k (.int kk r)) false
noncomputable def iRem (kk : IntKind) (m n : Int) (k : K1) : Bool := Bool.casesOn (eqI n 0) (fInt (remI m n) fun r => k (.int kk r)) false
noncomputable def iEq (kk : IntKind) (m n : Int) (k : K1) : Bool := fB (eqI m n) k
noncomputable def iNe (kk : IntKind) (m n : Int) (k : K1) : Bool := fB (!(eqI m n)) k
noncomputable def iLt (kk : IntKind) (m n : Int) (k : K1) : Bool := fB (ltI m n) k
noncomputable def iLe (kk : IntKind) (m n : Int) (k : K1) : Bool := fB (!(ltI n m)) k
noncomputable def iGt (kk : IntKind) (m n : Int) (k : K1) : Bool := fB (ltI n m) k
noncomputable def iGe (kk : IntKind) (m n : Int) (k : K1) : Bool := fB (!(ltI m n)) k
noncomputable def iBit (g : Nat → Nat → Nat → Nat) (kk : IntKind) (m n : Int) (k : K1) : Bool := kInt kk (.ofNat (g kk.bits (modB kk.bits m) (modB kk.bits n))) fun r => k (.int kk r)
noncomputable def minN (a b : Nat) : Nat := Bool.casesOn (Nat.ble a b) b a
theorem minN_eq (a b : Nat) : minN a b = min a b := by
  unfold minN
  cases h : Nat.ble a b with
  | true => have := Nat.le_of_ble_eq_true h; exact (Nat.min_eq_left this).symm
  | false =>
    have : ¬ a ≤ b := fun e => absurd ((Nat.ble_eq_true_of_le e).symm.trans h) (by simp)
    exact (Nat.min_eq_right (Nat.le_of_lt (Nat.lt_of_not_le this))).symm
noncomputable def iShl (kk : IntKind) (m n : Int) (k : K1) : Bool := Int.casesOn n (fun y => kInt kk (mulI m (.ofNat (Nat.pow 2 (minN y kk.bits)))) fun r => k (.int kk r)) (fun _ => false)
noncomputable def shrI (m : Int) (n : Nat) : Int := Int.casesOn m (fun x => .ofNat (Nat.div x (Nat.pow 2 n))) (fun x => .negSucc (Nat.div x (Nat.pow 2 n)))
theorem shrI_eq (m : Int) (n : Nat) : shrI m n = m.fdiv (2 ^ n) := by
  have hp : (2 ^ n : Int) = ((2 ^ n : Nat) : Int) := by simp
  have hpos : 0 < 2 ^ n := Nat.two_pow_pos n
  rw [hp, Int.fdiv_eq_ediv_of_nonneg m (b := ((2 ^ n : Nat) : Int)) (Int.natCast_nonneg _)]
  cases m with
  | ofNat x => rfl
  | negSucc x => exact (Int.negSucc_ediv x (b := ((2 ^ n : Nat) : Int)) (by omega)).symm
noncomputable def iShr (kk : IntKind) (m n : Int) (k : K1) : Bool := Int.casesOn n (fun y => fInt (shrI m (minN y kk.bits)) fun r => k (.int kk r)) (fun _ => false)
noncomputable def gNot (b x y : Nat) : Nat := Nat.land x (Nat.sub (Nat.sub (Nat.pow 2 b) 1) y)
theorem modB_toNat (b : Nat) (n : Int) : (BitVec.ofInt b n).toNat = modB b n := by
  have := modB_eq b n
  rw [BitVec.toNat_ofInt]
  have hp : (2 ^ b : Int) = ((2 ^ b : Nat) : Int) := by simp
  rw [hp] at this
  omega
/-- Operations on two numbers. -/
noncomputable def oBinI (op : BinOp) : (St → K1 → Bool) → (St → K1 → Bool) → St → Kt → Bool := match op with
  | .add => b2K iAdd | .sub => b2K iSub | .mul => b2K iMul | .quo => b2K iQuo | .rem => b2K iRem
  | .eql => b2K iEq | .neq => b2K iNe | .lss => b2K iLt | .leq => b2K iLe | .gtr => b2K iGt | .geq => b2K iGe
  | .and => b2K (iBit fun _ x y => Nat.land x y) | .or => b2K (iBit fun _ x y => Nat.lor x y) | .xor => b2K (iBit fun _ x y => Nat.xor x y) | .andNot => b2K (iBit gNot)
  | .shl => b2I iShl | .shr => b2I iShr
theorem oBinI_ok {op : BinOp} (ho : o.op = .binOp op ty x z ty2) : Sound1 P ξ o (oBinI op (opd x).get (opd z).get) := by
  cases op with
  | add => exact b2K_ok ho fun kk m n q h => by rw [iAdd, kInt_eq, addI_eq] at h; exact ⟨_, _, h, fun _ => rfl, fun w => by simp [binOp, Op.intArith]⟩
  | sub => exact b2K_ok ho fun kk m n q h => by rw [iSub, kInt_eq, addI_eq, negI_eq] at h; exact ⟨_, _, h, fun _ => rfl, fun w => by simp [binOp, Op.intArith, Int.sub_eq_add_neg]⟩
  | mul => exact b2K_ok ho fun kk m n q h => by rw [iMul, kInt_eq, mulI_eq] at h; exact ⟨_, _, h, fun _ => rfl, fun w => by simp [binOp, Op.intArith]⟩
  | quo =>
    exact b2K_ok ho fun kk m n q h => by
      unfold iQuo at h
      rw [eqI_eq] at h
      by_cases hn : n = 0
      · subst hn; simp at h
      · rw [show (n == 0) = false by simpa using hn] at h
        have h : kInt kk (quoI m n) (fun r => q (.int kk r)) = true := h
        rw [kInt_eq, quoI_eq] at h
        exact ⟨_, _, h, fun _ => rfl, fun w => by simp [binOp, Op.intDiv, hn]⟩
  | rem =>
    exact b2K_ok ho fun kk m n q h => by
      unfold iRem at h
      rw [eqI_eq] at h
      by_cases hn : n = 0
      · subst hn; simp at h
      · rw [show (n == 0) = false by simpa using hn] at h
        have h : fInt (remI m n) (fun r => q (.int kk r)) = true := h
        rw [fInt_eq, remI_eq] at h
        exact ⟨_, _, h, fun _ => rfl, fun w => by simp [binOp, Op.intDiv, hn]⟩
  | eql => exact b2K_ok ho fun kk m n q h => by rw [iEq, fB_eq, eqI_eq] at h; exact ⟨_, _, h, fun _ => rfl, fun w => by simp [binOp, Op.intCmp]⟩
  | neq => exact b2K_ok ho fun kk m n q h => by rw [iNe, fB_eq, eqI_eq] at h; exact ⟨_, _, h, fun _ => rfl, fun w => by simp [binOp, Op.intCmp, bne]⟩
  | lss => exact b2K_ok ho fun kk m n q h => by rw [iLt, fB_eq, ltI_eq] at h; exact ⟨_, _, h, fun _ => rfl, fun w => by simp [binOp, Op.intCmp]⟩
  | leq => exact b2K_ok ho fun kk m n q h => by rw [iLe, fB_eq, ltI_eq] at h; exact ⟨_, .bool (decide (m ≤ n)), h, fun _ => by simp [Tv_bool, leB], fun w => by simp [binOp, Op.intCmp]⟩
  | gtr => exact b2K_ok ho fun kk m n q h => by rw [iGt, fB_eq, ltI_eq] at h; exact ⟨_, .bool (decide (m > n)), h, fun _ => rfl, fun w => by simp [binOp, Op.intCmp]⟩
  | geq => exact b2K_ok ho fun kk m n q h => by rw [iGe, fB_eq, ltI_eq] at h; exact ⟨_, .bool (decide (m ≥ n)), h, fun _ => by simp [Tv_bool, leB], fun w => by simp [binOp, Op.intCmp]⟩
  | and => exact b2K_ok ho fun kk m n q h => by rw [iBit, kInt_eq] at h; exact ⟨_, _, h, fun _ => rfl, fun w => by simp only [binOp, Op.intBits, BitVec.toNat_and, modB_toNat]; simp⟩
  | or => exact b2K_ok ho fun kk m n q h => by rw [iBit, kInt_eq] at h; exact ⟨_, _, h, fun _ => rfl, fun w => by simp only [binOp, Op.intBits, BitVec.toNat_or, modB_toNat]; simp⟩
  | xor => exact b2K_ok ho fun kk m n q h => by rw [iBit, kInt_eq] at h; exact ⟨_, _, h, fun _ => rfl, fun w => by simp only [binOp, Op.intBits, BitVec.toNat_xor, modB_toNat]; simp⟩
  | andNot => exact b2K_ok ho fun kk m n q h => by rw [iBit, kInt_eq] at h; exact ⟨_, _, h, fun _ => rfl, fun w => by simp only [binOp, Op.intBits, BitVec.toNat_and, BitVec.toNat_not, modB_toNat]; simp; rfl⟩
  | shl =>
    exact b2I_ok ho fun kk jj m n q h => by
      cases n with
      | negSucc n => cases h
      | ofNat n =>
        have h : kInt kk (mulI m (.ofNat (2 ^ (minN n kk.bits)))) (fun r => q (.int kk r)) = true := h
        rw [kInt_eq, mulI_eq, minN_eq] at h
        refine ⟨_, _, h, fun _ => rfl, fun w => ?_⟩
        have h0 : ¬ (Int.ofNat n < 0) := by simp only [Int.ofNat_eq_natCast]; omega
        simp only [binOp, Op.shift, h0, if_false, Sem.run_pure]
        simp
  | shr =>
    exact b2I_ok ho fun kk jj m n q h => by
      cases n with
      | negSucc n => cases h
      | ofNat n =>
        have h : fInt (shrI m (minN n kk.bits)) (fun r => q (.int kk r)) = true := h
        rw [fInt_eq, shrI_eq, minN_eq] at h
        refine ⟨_, _, h, fun _ => rfl, fun w => ?_⟩
        have h0 : ¬ (Int.ofNat n < 0) := by simp only [Int.ofNat_eq_natCast]; omega
        simp only [binOp, Op.shift, h0, if_false, Sem.run_pure]
        simp
end
end Go.Proofs.YtnkkfmnpkgjabaaGreat.Y

/- The runner: operations on texts and truth values; what is nil; conversions; functions; places. -/
namespace Go.Proofs.YtnkkfmnpkgjabaaGreat.Y
open Go.RowKit
set_option linter.unusedVariables false
set_option linter.unusedSimpArgs false
section
variable {P : Program} {ξ : Nat → Int} {o : Oper} {S : St} {k : Kt} {ty ty2 : TypeId} {x z y : Operand}
theorem run_und {t : TypeId} {d : TypeDesc} (h : P.underlying t = some d) (w : World) : (underlying t).run P w = .ok d w := by simp [run_underlying h]
/-! ### texts -/
noncomputable def b2S (f : Nat → Nat → Nat → Nat → K1 → Bool) (x z : St → K1 → Bool) (S : St) (k : Kt) : Bool := x S fun a => vStr a fun l n => z S fun b => vStr b fun m p => f l n m p fun v => k .pure v S
theorem b2S_ok {op : BinOp} {f : Nat → Nat → Nat → Nat → K1 → Bool} (ho : o.op = .binOp op ty x z ty2)
    (hf : ∀ l n m p (q : K1), f l n m p q = true → ∃ v u, q v = true ∧ (∀ ρ, Tv ρ ξ v u) ∧ ∀ w, (binOp op ty (.string (bs l n)) (.string (bs m p))).run P w = .ok u w) : Sound1 P ξ o (b2S f (opd x).get (opd z).get) := .pu fun S k h => by
  obtain ⟨l, n, h1, h2⟩ := vStr_ok (opd_ok h)
  obtain ⟨m, p, h3, h4⟩ := vStr_ok (opd_ok h2)
  obtain ⟨v, u, h5, h6, h7⟩ := hf l n m p _ h4
  refine ⟨v, h5, fun ρ a w hr => ⟨u, ?_, h6 ρ⟩⟩
  have e1 := hr.op (x := x) (by simp [ho, Op.operands])
  have e2 := hr.op (x := z) (by simp [ho, Op.operands])
  rw [h1, Tv_str] at e1
  rw [h3, Tv_str] at e2
  simp only [execOp, ho, e1, e2, Sem.run_bind, X.run_guard_str, Result.andThen_ok, h7, Sem.run_pure]
theorem bs_app (l n m p : Nat) : bs l n ++ bs m p = bs (l + m) (n * 256 ^ m + p % 256 ^ m) := by
  apply ByteArray.ext
  show (bs l n ++ bs m p).data = (bl (l + m) _).toArray
  rw [ByteArray.data_append, bl_app]
  simp [bs]
noncomputable def sAdd (l n m p : Nat) (k : K1) : Bool := Bool.casesOn (Nat.ble (Nat.add l m) 9223372036854775807) false (sCat l n m p k)
noncomputable def sLe (l n m p : Nat) : Bool := Bool.casesOn (sLt l n m p) (sEq l n m p) true
noncomputable def oBinS (op : BinOp) : (St → K1 → Bool) → (St → K1 → Bool) → St → Kt → Bool := match op with
  | .add => b2S sAdd
  | .eql => b2S fun l n m p k => fB (sEq l n m p) k
  | .neq => b2S fun l n m p k => fB (!(sEq l n m p)) k
  | .lss => b2S fun l n m p k => fB (sLt l n m p) k
  | .leq => b2S fun l n m p k => fB (sLe l n m p) k
  | .gtr => b2S fun l n m p k => fB (!(sLe l n m p)) k
  | .geq => b2S fun l n m p k => fB (!(sLt l n m p)) k
  | _ => fun _ _ _ _ => false
theorem sLe_eq (l n m p : Nat) : sLe l n m p = (Op.bytesLess (bl l n) (bl m p) || decide (bs l n = bs m p)) := by
  unfold sLe; rw [sLt_eq, sEq_eq]; cases Op.bytesLess (bl l n) (bl m p) <;> rfl
theorem bs_toList (l n : Nat) : (bs l n).toList = bl l n := by rw [ByteArray.toList_eq, bs_list]
theorem bl_beq (l n m p : Nat) : (bl l n == bl m p) = decide (bs l n = bs m p) := by rw [← bs_toList, ← bs_toList, X.toList_eq]
theorem oBinS_ok {op : BinOp} (ho : o.op = .binOp op ty x z ty2) : Sound1 P ξ o (oBinS op (opd x).get (opd z).get) := by
  cases op with
  | add =>
    refine b2S_ok ho fun l n m p q h => ?_
    unfold sAdd at h
    cases hb : Nat.ble (Nat.add l m) 9223372036854775807 with
    | false => rw [hb] at h; cases h
    | true =>
      rw [hb] at h
      have h : sCat l n m p q = true := h
      rw [sCat_eq] at h
      have hl : l + m ≤ 9223372036854775807 := Nat.le_of_ble_eq_true hb
      refine ⟨_, _, h, fun _ => rfl, fun w => ?_⟩
      have : ¬ ((((bs l n).size + (bs m p).size : Nat) : Int) > IntKind.i64.max) := by simp only [bs_size, show IntKind.i64.max = 9223372036854775807 from rfl]; omega
      rw [← bs_app]
      simp only [binOp, Op.stringOp, this, if_false, Sem.run_pure]
  | eql => exact b2S_ok ho fun l n m p q h => by rw [fB_eq, sEq_eq] at h; exact ⟨_, _, h, fun _ => rfl, fun w => by simp [binOp, Op.stringOp, X.toList_eq]⟩
  | neq => exact b2S_ok ho fun l n m p q h => by rw [fB_eq, sEq_eq] at h; exact ⟨_, _, h, fun _ => rfl, fun w => by simp [binOp, Op.stringOp, X.toList_eq]⟩
  | lss => exact b2S_ok ho fun l n m p q h => by rw [fB_eq, sLt_eq] at h; exact ⟨_, _, h, fun _ => rfl, fun w => by simp [binOp, Op.stringOp, bl_beq, bs_toList]⟩
  | leq => exact b2S_ok ho fun l n m p q h => by rw [fB_eq, sLe_eq] at h; exact ⟨_, _, h, fun _ => rfl, fun w => by simp [binOp, Op.stringOp, bl_beq, bs_toList]⟩
  | gtr => exact b2S_ok ho fun l n m p q h => by rw [fB_eq, sLe_eq] at h; exact ⟨_, _, h, fun _ => rfl, fun w => by simp [binOp, Op.stringOp, bl_beq, bs_toList]⟩
  | geq => exact b2S_ok ho fun l n m p q h => by rw [fB_eq, sLt_eq] at h; exact ⟨_, _, h, fun _ => rfl, fun w => by simp [binOp, Op.stringOp, bl_beq, bs_toList]⟩
  | _ => exact .false
/-! ### truth values -/
noncomputable def eqB (a b : Bool) : Bool := Bool.casesOn a (Bool.casesOn b true false) b
theorem eqB_eq (a b : Bool) : eqB a b = (a == b) := by cases a <;> cases b <;> rfl
noncomputable def b2B (f : Bool → Bool → Bool) (x z : St → K1 → Bool) (S : St) (k : Kt) : Bool := x S fun a => vBool a fun m => z S fun b => vBool b fun n => fB (f m n) fun v => k .pure v S
noncomputable def oBinB (op : BinOp) : (St → K1 → Bool) → (St → K1 → Bool) → St → Kt → Bool := match op with
  | .eql => b2B eqB
  | .neq => b2B fun a b => !(eqB a b)
  | _ => fun _ _ _ _ => false
theorem run_eqB (hu : P.underlying ty = some .bool) (a b : Bool) (w : World) : (binOp .eql ty (.bool a) (.bool b)).run P w = .ok (.bool (a == b)) w := by
  show (do pure (.bool (← Op.equalIn (9999 + 1) ty (.bool a) (.bool b))) : Sem Value).run P w = _
  rw [Op.equalIn]
  simp only [Sem.run_bind, run_und hu, Result.andThen_ok, Sem.run_pure]
theorem run_neB (hu : P.underlying ty = some .bool) (a b : Bool) (w : World) : (binOp .neq ty (.bool a) (.bool b)).run P w = .ok (.bool (!(a == b))) w := by
  show (do pure (.bool (!(← Op.equalIn (9999 + 1) ty (.bool a) (.bool b)))) : Sem Value).run P w = _
  rw [Op.equalIn]
  simp only [Sem.run_bind, run_und hu, Result.andThen_ok, Sem.run_pure]
theorem oBinB_ok {op : BinOp} (hu : P.underlying ty = some .bool) (ho : o.op = .binOp op ty x z ty2) : Sound1 P ξ o (oBinB op (opd x).get (opd z).get) := by
  have key : ∀ f : Bool → Bool → Bool, (∀ a b w, (binOp op ty (.bool a) (.bool b)).run P w = .ok (.bool (f a b)) w) → Sound1 P ξ o (b2B f (opd x).get (opd z).get) := fun f hf => .pu fun S k h => by
    obtain ⟨a, h1, h2⟩ := vBool_ok (opd_ok h)
    obtain ⟨b, h3, h4⟩ := vBool_ok (opd_ok h2)
    rw [fB_eq] at h4
    refine ⟨_, h4, fun ρ ac w hr => ⟨_, ?_, rfl⟩⟩
    have e1 := hr.op (x := x) (by simp [ho, Op.operands])
    have e2 := hr.op (x := z) (by simp [ho, Op.operands])
    rw [h1, Tv_bool] at e1
    rw [h3, Tv_bool] at e2
    simp only [execOp, ho, e1, e2, Sem.run_bind, X.run_guard_bool, Result.andThen_ok, hf, Sem.run_pure]
  cases op with
  | eql => exact key _ fun a b w => by rw [run_eqB hu, eqB_eq]
  | neq => exact key _ fun a b w => by rw [run_neB hu, eqB_eq]
  | _ => exact .false
/-! ### nil -/
def NK.eqb : NK → NK → Bool
  | .ptr, .ptr | .slice, .slice | .func, .func | .map, .map | .iface, .iface => true
  | _, _ => false
theorem NK.eqb_eq {a b : NK} (h : NK.eqb a b = true) : a = b := by cases a <;> cases b <;> first | rfl | cases h
noncomputable def isNil (q : NK) (v : V) (k : Bool → Bool) : Bool := V.casesOn v false (fun _ _ => false) false (fun _ _ => false) (fun _ => false) (fun _ _ => false) (fun j => Bool.casesOn (NK.eqb j q) false (k true)) (fun _ _ => Bool.casesOn (NK.eqb .ptr q) false (k false)) (fun _ _ _ _ _ _ => Bool.casesOn (NK.eqb .slice q) false (k false)) (fun _ _ _ => Bool.casesOn (NK.eqb .func q) false (k false)) (fun _ _ => Bool.casesOn (NK.eqb .iface q) false (k false)) (fun _ => Bool.casesOn (NK.eqb .map q) false (k false)) (fun _ => false) (fun _ => false) (fun _ => false)
/-- Nil of its kind, or not. -/
def NilIs : NK → Bool → Value → Prop
  | q, true, u => u = nilV q
  | .ptr, false, u => ∃ a, u = .pointer (some a)
  | .slice, false, u => ∃ a n c, u = .slice (some a) n c
  | .func, false, u => ∃ f a c, u = .func f a c
  | .map, false, u => ∃ g, u = .map (some g)
  | .iface, false, u => ∃ t v, u = .iface t v
theorem isNil_ok {q : NK} {v : V} {k : Bool → Bool} (h : isNil q v k = true) : ∃ b, k b = true ∧ ∀ ρ u, Tv ρ ξ v u → NilIs q b u := by
  cases v with
  | nil j =>
    have h2 : Bool.casesOn (NK.eqb j q) false (k true) = true := h
    cases he : NK.eqb j q with
    | false => rw [he] at h2; cases h2
    | true => rw [he] at h2; have := NK.eqb_eq he; subst this; exact ⟨true, h2, fun ρ u hu => hu⟩
  | ptr id off =>
    have h2 : Bool.casesOn (NK.eqb .ptr q) false (k false) = true := h
    cases q with
    | ptr => exact ⟨false, h2, fun ρ u hu => by obtain ⟨g, e, _⟩ := Tv_ptr hu; exact ⟨_, e⟩⟩
    | _ => cases h2
  | sl id o w len full whole =>
    have h2 : Bool.casesOn (NK.eqb .slice q) false (k false) = true := h
    cases q with
    | slice => exact ⟨false, h2, fun ρ u hu => by obtain ⟨g, q, cap, e, _⟩ := Tv_sl hu; exact ⟨_, _, _, e⟩⟩
    | _ => cases h2
  | fn f a c =>
    have h2 : Bool.casesOn (NK.eqb .func q) false (k false) = true := h
    cases q with
    | func => exact ⟨false, h2, fun ρ u ⟨us1, us2, e, _⟩ => ⟨_, _, _, e⟩⟩
    | _ => cases h2
  | ifc t v =>
    have h2 : Bool.casesOn (NK.eqb .iface q) false (k false) = true := h
    cases q with
    | iface => exact ⟨false, h2, fun ρ u ⟨x, e, _⟩ => ⟨_, _, e⟩⟩
    | _ => cases h2
  | mp id =>
    have h2 : Bool.casesOn (NK.eqb .map q) false (k false) = true := h
    cases q with
    | map =>
      refine ⟨false, h2, fun ρ u hu => ?_⟩
      have hu : (TvP ρ ξ (.mp id)).1 u := hu
      simp only [TvP] at hu
      cases hq : ρ id with
      | no => rw [hq] at hu; exact hu.elim
      | dead => rw [hq] at hu; exact hu
      | «at» g c => rw [hq] at hu; exact ⟨g, hu⟩
    | _ => cases h2
  | _ => cases h
/-- What kind of nil a type has. -/
def nilK (P : Program) (ty : TypeId) : Option NK := match P.underlying ty with
  | some (.pointer _) => some .ptr
  | some (.slice _) => some .slice
  | some (.func ..) => some .func
  | some (.map ..) => some .map
  | some (.interface ..) => some .iface
  | _ => none
theorem run_nil {q : NK} (hq : nilK P ty = some q) {b c : Bool} {u1 u2 : Value} (h1 : NilIs q b u1) (h2 : NilIs q c u2) (hbc : b = true ∨ c = true) (w : World) : (Op.equalIn (9999 + 1) ty u1 u2).run P w = .ok (b && c) w := by
  rw [Op.equalIn]
  unfold nilK at hq
  split at hq <;> first | (cases hq; done) | skip
  all_goals
    rename_i hu
    injection hq with hq
    subst hq
    cases b <;> cases c <;> simp only [NilIs, nilV] at h1 h2
  all_goals first | (rcases hbc with h | h <;> cases h; done) | skip
  all_goals first
    | (subst h1; subst h2; simp [Sem.run_bind, run_und hu]; done)
    | (obtain ⟨_, _, _, rfl⟩ := h1; subst h2; simp [Sem.run_bind, run_und hu]; done)
    | (obtain ⟨_, _, _, rfl⟩ := h2; subst h1; simp [Sem.run_bind, run_und hu]; done)
    | (obtain ⟨_, _, rfl⟩ := h1; subst h2; simp [Sem.run_bind, run_und hu]; done)
    | (obtain ⟨_, _, rfl⟩ := h2; subst h1; simp [Sem.run_bind, run_und hu]; done)
    | (obtain ⟨_, rfl⟩ := h1; subst h2; simp [Sem.run_bind, run_und hu]; done)
    | (obtain ⟨_, rfl⟩ := h2; subst h1; simp [Sem.run_bind, run_und hu]; done)
def isConst : Operand → Bool
  | .const _ => true
  | _ => false
theorem run_guardN {op : BinOp} {q : NK} {b c : Bool} {u1 u2 : Value} (hz : isConst z = true) (h1 : NilIs q b u1) (h2 : NilIs q c u2) (w : World) : (eqGuard op ty x z u1 u2).run P w = .ok () w := by
  cases z with
  | const v =>
    unfold eqGuard
    cases q <;> cases b <;> cases c <;> simp only [NilIs, nilV] at h1 h2
    all_goals
      first
      | (subst h1; subst h2)
      | (obtain ⟨_, _, _, rfl⟩ := h1; subst h2)
      | (obtain ⟨_, _, _, rfl⟩ := h2; subst h1)
      | (obtain ⟨_, _, _, rfl⟩ := h1; obtain ⟨_, _, _, rfl⟩ := h2)
      | (obtain ⟨_, _, rfl⟩ := h1; subst h2)
      | (obtain ⟨_, _, rfl⟩ := h2; subst h1)
      | (obtain ⟨_, _, rfl⟩ := h1; obtain ⟨_, _, rfl⟩ := h2)
      | (obtain ⟨_, rfl⟩ := h1; subst h2)
      | (obtain ⟨_, rfl⟩ := h2; subst h1)
      | (obtain ⟨_, rfl⟩ := h1; obtain ⟨_, rfl⟩ := h2)
      split <;> simp [Sem.run]
  | _ => cases hz
noncomputable def oNil (q : NK) (neg : Bool) (x z : St → K1 → Bool) (S : St) (k : Kt) : Bool := x S fun a => isNil q a fun i => z S fun b => isNil q b fun j => Bool.casesOn (i || j) false (fB (xor neg (i && j)) fun v => k .pure v S)
theorem oNil_ok {op : BinOp} {q : NK} {neg : Bool} (hq : nilK P ty = some q) (hz : isConst z = true) (hop : op = (if neg then .neq else .eql)) (ho : o.op = .binOp op ty x z ty2) : Sound1 P ξ o (oNil q neg (opd x).get (opd z).get) := .pu fun S k h => by
  unfold oNil at h
  have g1 := opd_ok h
  obtain ⟨i, h1, h2⟩ := isNil_ok (ξ := ξ) g1
  have g2 := opd_ok h1
  obtain ⟨j, h3, h4⟩ := isNil_ok (ξ := ξ) g2
  cases hij : (i || j) with
  | false => rw [hij] at h3; cases h3
  | true =>
    rw [hij] at h3
    have h3 : fB (xor neg (i && j)) (fun v => k .pure v S) = true := h3
    rw [fB_eq] at h3
    refine ⟨_, h3, fun ρ a w hr => ⟨_, ?_, rfl⟩⟩
    have e1 := h2 ρ _ (hr.op (x := x) (by simp [ho, Op.operands]))
    have e2 := h4 ρ _ (hr.op (x := z) (by simp [ho, Op.operands]))
    have hij' : i = true ∨ j = true := by cases i <;> cases j <;> simp_all
    have hr1 := run_nil hq e1 e2 hij' w
    have hsem : (binOp op ty (a.eval x) (a.eval z)).run P w = .ok (.bool (xor neg (i && j))) w := by
      subst hop
      have hn : (∀ k n, a.eval x ≠ .int k n) ∧ (∀ k n, a.eval x ≠ .float k n) ∧ (∀ k n m, a.eval x ≠ .complex k n m) ∧ (∀ s, a.eval x ≠ .string s) := by
        revert e1
        generalize a.eval x = u
        intro e1
        cases q <;> cases i <;> simp only [NilIs, nilV] at e1
        all_goals
          first
          | subst e1
          | (obtain ⟨_, _, _, rfl⟩ := e1)
          | (obtain ⟨_, _, rfl⟩ := e1)
          | (obtain ⟨_, rfl⟩ := e1)
          refine ⟨?_, ?_, ?_, ?_⟩ <;> intros <;> simp
      obtain ⟨n1, n2, n3, n4⟩ := hn
      revert hr1 n1 n2 n3 n4
      generalize a.eval x = u1
      generalize a.eval z = u2
      intro hr1 n1 n2 n3 n4
      cases neg with
      | false =>
        rw [if_neg (by simp)]
        have : binOp .eql ty u1 u2 = (do pure (.bool (← Op.equal ty u1 u2))) := by
          cases u1 <;> first | rfl | exact absurd rfl (n1 _ _) | exact absurd rfl (n2 _ _) | exact absurd rfl (n3 _ _ _) | exact absurd rfl (n4 _)
        rw [this]
        show (do pure (.bool (← Op.equalIn (9999 + 1) ty u1 u2)) : Sem Value).run P w = _
        simp only [Sem.run_bind, hr1, Result.andThen_ok, Sem.run_pure, Bool.false_xor]
      | true =>
        rw [if_pos rfl]
        have : binOp .neq ty u1 u2 = (do pure (.bool (!(← Op.equal ty u1 u2)))) := by
          cases u1 <;> first | rfl | exact absurd rfl (n1 _ _) | exact absurd rfl (n2 _ _) | exact absurd rfl (n3 _ _ _) | exact absurd rfl (n4 _)
        rw [this]
        show (do pure (.bool (!(← Op.equalIn (9999 + 1) ty u1 u2))) : Sem Value).run P w = _
        simp only [Sem.run_bind, hr1, Result.andThen_ok, Sem.run_pure, Bool.true_xor]
    simp only [execOp, ho, Sem.run_bind, run_guardN hz e1 e2, Result.andThen_ok, hsem, Sem.run_pure]
end
end Go.Proofs.YtnkkfmnpkgjabaaGreat.Y

/- The runner: conversions, lengths, parts, functions, places. -/
namespace Go.Proofs.YtnkkfmnpkgjabaaGreat.Y
open Go.RowKit
set_option linter.unusedVariables false
set_option linter.unusedSimpArgs false
section
variable {P : Program} {ξ : Nat → Int} {o : Oper} {S : St} {k : Kt} {ty ty2 : TypeId} {x z y : Operand}
/-! ### one number -/
noncomputable def oUn (op : UnOp) (x : St → K1 → Bool) (S : St) (k : Kt) : Bool := match op with
  | .not => x S fun v => vBool v fun b => fB (!b) fun v => k .pure v S
  | .neg => x S fun v => vInt v fun kk n => kInt kk (negI n) fun r => k .pure (.int kk r) S
  | .xor => x S fun v => vInt v fun kk n => Bool.casesOn kk.signed (kInt kk (.ofNat (Nat.sub (Nat.sub (Nat.pow 2 kk.bits) 1) (modB kk.bits n))) fun r => k .pure (.int kk r) S) false
  | _ => false
theorem oUn_ok {op : UnOp} (ho : o.op = .unOp op ty x) : Sound1 P ξ o (oUn op (opd x).get) := .pu fun S k h => by
  cases op with
  | not =>
    obtain ⟨b, h1, h2⟩ := vBool_ok (opd_ok h)
    rw [fB_eq] at h2
    refine ⟨_, h2, fun ρ a w hr => ⟨_, ?_, rfl⟩⟩
    have e := hr.op (x := x) (by simp [ho, Op.operands])
    rw [h1, Tv_bool] at e
    simp [execOp, ho, e, Op.unary]
  | neg =>
    obtain ⟨kk, n, h1, h2⟩ := vInt_ok (opd_ok h)
    rw [kInt_eq, negI_eq] at h2
    refine ⟨_, h2, fun ρ a w hr => ⟨_, ?_, rfl⟩⟩
    have e := hr.op (x := x) (by simp [ho, Op.operands])
    rw [h1, Tv_int] at e
    simp [execOp, ho, e, Op.unary, Op.intArith]
  | xor =>
    obtain ⟨kk, n, h1, h2⟩ := vInt_ok (opd_ok h)
    cases hs : kk.signed with
    | true => rw [hs] at h2; cases h2
    | false =>
      rw [hs] at h2
      have h2 : kInt kk (.ofNat (2 ^ kk.bits - 1 - modB kk.bits n)) (fun r => k .pure (.int kk r) S) = true := h2
      rw [kInt_eq] at h2
      refine ⟨_, h2, fun ρ a w hr => ⟨_, ?_, rfl⟩⟩
      have e := hr.op (x := x) (by simp [ho, Op.operands])
      rw [h1, Tv_int] at e
      have hm : modB kk.bits kk.max = 2 ^ kk.bits - 1 := by cases kk <;> first | (cases hs; done) | rfl
      have hx : (2 ^ kk.bits - 1) ^^^ modB kk.bits n = 2 ^ kk.bits - 1 - modB kk.bits n := by
        have hlt : modB kk.bits n < 2 ^ kk.bits := by rw [← modB_toNat]; exact (BitVec.ofInt kk.bits n).isLt
        have h1 : (BitVec.allOnes kk.bits ^^^ BitVec.ofInt kk.bits n) = ~~~ (BitVec.ofInt kk.bits n) := BitVec.allOnes_xor ..
        have h2 := congrArg BitVec.toNat h1
        rw [BitVec.toNat_xor, BitVec.toNat_not, BitVec.toNat_allOnes, modB_toNat] at h2
        exact h2
      simp only [execOp, ho, e, Op.unary, hs, Op.intBits, BitVec.toNat_xor, modB_toNat, hm, hx, Sem.run_bind, Sem.run_pure, Result.andThen_ok, Bool.false_eq_true, if_false]
      rfl
  | _ => cases h
/-! ### conversions -/
noncomputable def oConvI (j : IntKind) (x : St → K1 → Bool) (S : St) (k : Kt) : Bool := x S fun v => vInt v fun kk n => kInt j n fun r => k .pure (.int j r) S
theorem oConvI_ok {j : IntKind} {d : TypeDesc} (h1 : P.underlying ty = some d) (h2 : P.underlying ty2 = some (.int j)) (ho : o.op = .convert ty ty2 x) : Sound1 P ξ o (oConvI j (opd x).get) := .pu fun S k h => by
  obtain ⟨kk, n, h3, h4⟩ := vInt_ok (opd_ok h)
  rw [kInt_eq] at h4
  refine ⟨_, h4, fun ρ a w hr => ⟨_, ?_, rfl⟩⟩
  have e := hr.op (x := x) (by simp [ho, Op.operands])
  rw [h3, Tv_int] at e
  simp only [execOp, ho, e, convert, Sem.run_bind, run_und h1, run_und h2, Result.andThen_ok, Conv.intToInt, Sem.run_pure]
noncomputable def oConvS (x : St → K1 → Bool) (S : St) (k : Kt) : Bool := x S fun v => vStr v fun l n => k .pure (.str l n) S
theorem oConvS_ok (h1 : P.underlying ty = some .string) (h2 : P.underlying ty2 = some .string) (ho : o.op = .convert ty ty2 x) : Sound1 P ξ o (oConvS (opd x).get) := .pu fun S k h => by
  obtain ⟨l, n, h3, h4⟩ := vStr_ok (opd_ok h)
  refine ⟨_, h4, fun ρ a w hr => ⟨_, ?_, rfl⟩⟩
  have e := hr.op (x := x) (by simp [ho, Op.operands])
  rw [h3, Tv_str] at e
  simp only [execOp, ho, e, convert, Sem.run_bind, run_und h1, run_und h2, Result.andThen_ok, Sem.run_pure]
/-! ### lengths; the greater, the smaller -/
noncomputable def oLenS (x : St → K1 → Bool) (S : St) (k : Kt) : Bool := x S fun v => vStr v fun l n => k .pure (.int .i64 (.ofNat l)) S
noncomputable def oLen (x : St → K1 → Bool) (S : St) (k : Kt) : Bool := x S fun v => vSl v (fun q => Bool.casesOn (NK.eqb q .slice) false (k .pure (.int .i64 (.ofNat 0)) S)) fun _ _ _ len _ _ => k .pure (.int .i64 (.ofNat len)) S
theorem oLenS_ok (h1 : P.underlying ty = some .string) (ho : o.op = .call { callee := .builtin .len, args := #[x], argTypes := #[ty] }) : Sound1 P ξ o (oLenS (opd x).get) := .pu fun S k h => by
  obtain ⟨l, n, h3, h4⟩ := vStr_ok (opd_ok h)
  refine ⟨_, h4, fun ρ a w hr => ⟨_, ?_, rfl⟩⟩
  have e := hr.op (x := x) (by simp [ho, Op.operands, Call.operands])
  rw [h3, Tv_str] at e
  simp [execOp, ho, e, resolve, invoke, builtin, Builtin.len_, Sem.run_bind, run_und h1, goInt, bs_size]
theorem oLen_ok {d : TypeId} (h1 : P.underlying ty = some (.slice d)) (ho : o.op = .call { callee := .builtin .len, args := #[x], argTypes := #[ty] }) : Sound1 P ξ o (oLen (opd x).get) := .pu fun S k h => by
  rcases vSl_ok (opd_ok h) with ⟨q, h3, h4⟩ | ⟨id, p, w, len, full, whole, h3, h4⟩
  · cases hq : NK.eqb q .slice with
    | false => rw [hq] at h4; cases h4
    | true =>
      rw [hq] at h4
      have := NK.eqb_eq hq
      subst this
      refine ⟨_, h4, fun ρ a w hr => ⟨_, ?_, rfl⟩⟩
      have e := hr.op (x := x) (by simp [ho, Op.operands, Call.operands])
      rw [h3, Tv_nil] at e
      simp [execOp, ho, e, nilV, resolve, invoke, builtin, Builtin.len_, Sem.run_bind, run_und h1, goInt]
  · refine ⟨_, h4, fun ρ a w hr => ⟨_, ?_, rfl⟩⟩
    have e := hr.op (x := x) (by simp [ho, Op.operands, Call.operands])
    rw [h3] at e
    obtain ⟨g, q, cap, e, _⟩ := Tv_sl e
    simp [execOp, ho, e, resolve, invoke, builtin, Builtin.len_, Sem.run_bind, run_und h1, goInt]
noncomputable def mmI (mx : Bool) (m n : Int) : Int := Bool.casesOn mx (Bool.casesOn (ltI n m) m n) (Bool.casesOn (ltI m n) m n)
theorem mmI_eq (mx : Bool) (m n : Int) : mmI mx m n = if mx then (if n > m then n else m) else (if n < m then n else m) := by
  unfold mmI
  rw [ltI_eq, ltI_eq]
  cases mx with
  | true => by_cases h : m < n <;> simp [h]
  | false => by_cases h : n < m <;> simp [h]
noncomputable def oMM2 (mx : Bool) (x z : St → K1 → Bool) (S : St) (k : Kt) : Bool := x S fun a => vInt a fun kk m => z S fun b => vInt b fun _ n => fInt (mmI mx m n) fun r => k .pure (.int kk r) S
noncomputable def oMM3 (mx : Bool) (x z y : St → K1 → Bool) (S : St) (k : Kt) : Bool := x S fun a => vInt a fun kk m => z S fun b => vInt b fun _ n => y S fun c => vInt c fun _ p => fInt (mmI mx (mmI mx m n) p) fun r => k .pure (.int kk r) S
def mmB : Bool → Builtin
  | true => .max
  | false => .min
theorem oMM2_ok {mx : Bool} {tys : Array TypeId} (ho : o.op = .call { callee := .builtin (mmB mx), args := #[x, z], argTypes := tys }) : Sound1 P ξ o (oMM2 mx (opd x).get (opd z).get) := .pu fun S k h => by
  obtain ⟨kk, m, h1, h2⟩ := vInt_ok (opd_ok h)
  obtain ⟨jj, n, h3, h4⟩ := vInt_ok (opd_ok h2)
  rw [fInt_eq, mmI_eq] at h4
  refine ⟨_, h4, fun ρ a w hr => ⟨_, ?_, rfl⟩⟩
  have e1 := hr.op (x := x) (by simp [ho, Op.operands, Call.operands])
  have e2 := hr.op (x := z) (by simp [ho, Op.operands, Call.operands])
  rw [h1, Tv_int] at e1
  rw [h3, Tv_int] at e2
  cases mx
  · simp [execOp, ho, e1, e2, mmB, resolve, invoke, builtin, Builtin.min_, Builtin.min2, Sem.run_bind]
  · simp [execOp, ho, e1, e2, mmB, resolve, invoke, builtin, Builtin.max_, Builtin.max2, Sem.run_bind]
theorem oMM3_ok {mx : Bool} {tys : Array TypeId} (ho : o.op = .call { callee := .builtin (mmB mx), args := #[x, z, y], argTypes := tys }) : Sound1 P ξ o (oMM3 mx (opd x).get (opd z).get (opd y).get) := .pu fun S k h => by
  obtain ⟨kk, m, h1, h2⟩ := vInt_ok (opd_ok h)
  obtain ⟨jj, n, h3, h4⟩ := vInt_ok (opd_ok h2)
  obtain ⟨ll, p, h5, h6⟩ := vInt_ok (opd_ok h4)
  rw [fInt_eq, mmI_eq, mmI_eq] at h6
  refine ⟨_, h6, fun ρ a w hr => ⟨_, ?_, rfl⟩⟩
  have e1 := hr.op (x := x) (by simp [ho, Op.operands, Call.operands])
  have e2 := hr.op (x := z) (by simp [ho, Op.operands, Call.operands])
  have e3 := hr.op (x := y) (by simp [ho, Op.operands, Call.operands])
  rw [h1, Tv_int] at e1
  rw [h3, Tv_int] at e2
  rw [h5, Tv_int] at e3
  cases mx
  · simp [execOp, ho, e1, e2, e3, mmB, resolve, invoke, builtin, Builtin.min_, Builtin.min2, Sem.run_bind]
  · simp [execOp, ho, e1, e2, e3, mmB, resolve, invoke, builtin, Builtin.max_, Builtin.max2, Sem.run_bind]
/-! ### parts of what is told; functions -/
noncomputable def oExt (i : Nat) (x : St → K1 → Bool) (S : St) (k : Kt) : Bool := x S fun v => vTup v fun l => vnth l i fun v => k .pure v S
theorem oExt_ok {i : Nat} (ho : o.op = .extract x i) : Sound1 P ξ o (oExt i (opd x).get) := .pu fun S k h => by
  obtain ⟨l, h1, h2⟩ := vTup_ok (opd_ok h)
  obtain ⟨v, h3, h4⟩ := vnth_ok h2
  refine ⟨v, h4, fun ρ a w hr => ?_⟩
  have e := hr.op (x := x) (by simp [ho, Op.operands])
  rw [h1, Tv_tup] at e
  obtain ⟨us, e, hl⟩ := e
  obtain ⟨u, h5, h6⟩ := TvL_get hl h3
  refine ⟨u, ?_, h6⟩
  simp [execOp, ho, e, Instr.extract, h5]
noncomputable def oNilChk (x : St → K1 → Bool) (S : St) (k : Kt) : Bool := x S fun v => V.casesOn v false (fun _ _ => false) false (fun _ _ => false) (fun _ => false) (fun _ _ => false) (fun _ => false) (fun id off => k .pure (.ptr id off) S) (fun _ _ _ _ _ _ => false) (fun f a c => k .pure (.fn f a c) S) (fun _ _ => false) (fun _ => false) (fun _ => false) (fun _ => false) (fun _ => false)
theorem oNilChk_ok (ho : o.op = .nilCheck x) : Sound1 P ξ o (oNilChk (opd x).get) := .pu fun S k h => by
  have h := opd_ok h
  revert h
  generalize hv : opS (slots S) x = v
  intro h
  cases v with
  | ptr id off =>
    refine ⟨_, h, fun ρ a w hr => ?_⟩
    have e := hr.op (x := x) (by simp [ho, Op.operands])
    rw [hv] at e
    refine ⟨a.eval x, ?_, e⟩
    obtain ⟨g, e, _⟩ := Tv_ptr e
    simp [execOp, ho, e]
  | fn f b c =>
    refine ⟨_, h, fun ρ a w hr => ?_⟩
    have e := hr.op (x := x) (by simp [ho, Op.operands])
    rw [hv] at e
    refine ⟨a.eval x, ?_, e⟩
    obtain ⟨us1, us2, e, _⟩ := e
    simp [execOp, ho, e]
  | _ => cases h
/-- Some operands as a list. -/
noncomputable def opL (l : List Operand) : O1 := List.rec (motive := fun _ => O1) (.mk fun _ k => k .nl) (fun x _ ih => F.casesOn (opd x) fun f => F.casesOn ih fun g => .mk fun S k => f S fun v => g S fun r => k (.cs v r)) l
theorem opL_cons (x : Operand) (r : List Operand) (S : St) (k : K1) : (opL (x :: r)).get S k = (opd x).get S fun v => (opL r).get S fun q => k (.cs v q) := by
  show (F.casesOn (opd x) fun f => F.casesOn (opL r) fun g => F.mk fun S k => f S fun v => g S fun r => k (.cs v r) : O1).get S k = _
  cases opd x; cases opL r; rfl
theorem opL_ok : ∀ {l : List Operand} {S : St} {k : K1}, (opL l).get S k = true → k (ofL (l.map (opS (slots S)))) = true
  | [], S, k, h => h
  | x :: r, S, k, h => by
    rw [opL_cons] at h
    exact opL_ok (l := r) (opd_ok h)
theorem opL_tv {ρ : Rho} {E : Nat → V} {a : Act} (hr : Reads ρ ξ E a o) : ∀ {l : List Operand}, (∀ x ∈ l, x ∈ o.op.operands) → TvL ρ ξ (ofL (l.map (opS E))) (l.map a.eval)
  | [], _ => rfl
  | x :: r, h => ⟨_, _, rfl, hr.op (h x (by simp)), opL_tv hr fun y hy => h y (by simp [hy])⟩
noncomputable def oFn (f : FuncId) (p q : St → K1 → Bool) (S : St) (k : Kt) : Bool := p S fun a => q S fun c => k .pure (.fn f a c) S
theorem oFn_ok {f : FuncId} {first caps : Array Operand} (ho : o.op = .makeFunc (.func f) first caps) : Sound1 P ξ o (oFn f (opL first.toList).get (opL caps.toList).get) := .pu fun S k h => by
  have h1 := opL_ok (opL_ok h)
  refine ⟨_, h1, fun ρ a w hr => ⟨.func (.func f) (first.map a.eval) (caps.map a.eval), by simp [execOp, ho, Instr.makeFunc], (first.toList.map a.eval), (caps.toList.map a.eval), by simp only [← Array.toList_map, Array.toArray_toList], opL_tv hr fun x hx => ?_, opL_tv hr fun x hx => ?_⟩⟩
  · simp only [ho, Op.operands]; simp at hx ⊢; exact .inl hx
  · simp only [ho, Op.operands]; simp at hx ⊢; exact .inr hx
/-! ### one of a row -/
noncomputable def vIx (v : V) (k : Nat → Bool) : Bool := vInt v fun _ n => Int.casesOn n k fun _ => false
theorem vIx_ok {v : V} {k : Nat → Bool} (h : vIx v k = true) : ∃ kk m, v = .int kk (.ofNat m) ∧ k m = true := by
  obtain ⟨kk, n, h1, h2⟩ := vInt_ok h
  cases n with
  | ofNat m => exact ⟨kk, m, h1, h2⟩
  | negSucc m => cases h2
noncomputable def oIdxS (x z : St → K1 → Bool) (S : St) (k : Kt) : Bool := x S fun v => vStr v fun l n => z S fun j => vIx j fun i => Bool.casesOn (Nat.ble (Nat.succ i) l) false (sAt l n i fun b => k .pure (.int .u8 (.ofNat b)) S)
theorem oIdxS_ok (h1 : P.underlying ty = some .string) (ho : o.op = .index ty x z) : Sound1 P ξ o (oIdxS (opd x).get (opd z).get) := .pu fun S k h => by
  obtain ⟨l, n, h2, h3⟩ := vStr_ok (opd_ok h)
  obtain ⟨kk, i, h4, h5⟩ := vIx_ok (opd_ok h3)
  cases hb : Nat.ble (Nat.succ i) l with
  | false => rw [hb] at h5; cases h5
  | true =>
    rw [hb] at h5
    have hi : i < l := Nat.le_of_ble_eq_true hb
    have h5 : sAt l n i (fun b => k .pure (.int .u8 (.ofNat b)) S) = true := h5
    rw [sAt_eq hi] at h5
    refine ⟨_, h5, fun ρ a w hr => ⟨_, ?_, rfl⟩⟩
    have e1 := hr.op (x := x) (by simp [ho, Op.operands])
    have e2 := hr.op (x := z) (by simp [ho, Op.operands])
    rw [h2, Tv_str] at e1
    rw [h4, Tv_int] at e2
    have hc : (bs l n)[i]? = some ((bs l n).data.toList.getD i 0) := by
      have hlt : i < (bs l n).size := by rw [bs_size]; exact hi
      rw [getElem?_pos (bs l n) i hlt]
      have hlt2 : i < (bs l n).data.size := hlt
      rw [List.getD_eq_getElem?_getD, Array.getElem?_toList, Array.getElem?_eq_getElem hlt2]
      rfl
    simp [execOp, ho, e1, e2, Instr.index, Sem.run_bind, run_und h1, asIntOf, hc]
end
end Go.Proofs.YtnkkfmnpkgjabaaGreat.Y

/- The runner: fields, elements, parts of rows; what is put together. -/
namespace Go.Proofs.YtnkkfmnpkgjabaaGreat.Y
open Go.RowKit
set_option linter.unusedVariables false
set_option linter.unusedSimpArgs false
section
variable {P : Program} {ξ : Nat → Int} {o : Oper} {S : St} {k : Kt} {ty ty2 : TypeId} {x z y : Operand}
theorem sizeN_ok {t : TypeId} (h : (X.sizeN P t == 0) = false) (w : World) : (sizeOf t).run P w = .ok (X.sizeN P t) w := (X.sizeN_run h).2 w
/-! ### a part of a value: one cell, or some -/
noncomputable def getP (row : Bool) (sz : Nat) (l : V) (off : Nat) (k : V → Bool) : Bool := Bool.casesOn row (vnth l off k) (vdrop off l fun r => vtake sz r fun q => k (.agg q))
theorem getP_ok {row : Bool} {t : TypeId} {l : V} {off : Nat} {k : V → Bool} (hrow : X.rowN P t = row) (hu : (P.underlying t).isSome = true) (hs : (X.sizeN P t == 0) = false) (h : getP row (X.sizeN P t) l off k = true) :
    ∃ v, k v = true ∧ ∀ ρ (us : List Value) w, TvL ρ ξ l us → (∀ c ∈ us, c.oneCell' = true) → ∃ u, (part t us.toArray off).run P w = .ok u w ∧ Tv ρ ξ v u := by
  cases row with
  | false =>
    obtain ⟨v, h1, h2⟩ := vnth_ok h
    refine ⟨v, h2, fun ρ us w hl _ => ?_⟩
    obtain ⟨u, h3, h4⟩ := TvL_get hl h1
    exact ⟨u, X.part_oneN hrow us.toArray off u (by simpa using h3) w, h4⟩
  | true =>
    obtain ⟨h1, h2⟩ := vdrop_ok h
    obtain ⟨h3, h4⟩ := vtake_ok h2
    refine ⟨_, h4, fun ρ us w hl h1c => ⟨_, X.part_rowN (by rw [hrow, hu]; rfl) hs us.toArray off w, ?_⟩⟩
    have hext : (us.toArray.extract off (off + X.sizeN P t)) = ((us.drop off).take (X.sizeN P t)).toArray := by
      apply Array.ext'
      simp [List.extract_eq_take_drop, Nat.add_sub_cancel_left]
    rw [hext]
    exact ⟨_, rfl, TvL_take (TvL_drop hl), fun c hc => h1c c (List.mem_of_mem_drop (List.mem_of_mem_take hc))⟩
noncomputable def oField (row : Bool) (sz off : Nat) (x : St → K1 → Bool) (S : St) (k : Kt) : Bool := x S fun v => vAgg v fun l => getP row sz l off fun v => k .pure v S
theorem oField_ok {fs : Array Field} {f : Nat} {fld : Field} {row : Bool} (h1 : P.underlying ty = some (.struct fs)) (hf : fs[f]? = some fld) (hrow : X.rowN P fld.type = row) (hu : (P.underlying fld.type).isSome = true) (hs : (X.sizeN P fld.type == 0) = false) (ho : o.op = .field ty x f) :
    Sound1 P ξ o (oField row (X.sizeN P fld.type) fld.offset (opd x).get) := .pu fun S k h => by
  obtain ⟨l, h2, h3⟩ := vAgg_ok (opd_ok h)
  obtain ⟨v, h4, h5⟩ := getP_ok (ξ := ξ) hrow hu hs h3
  refine ⟨v, h4, fun ρ a w hr => ?_⟩
  have e := hr.op (x := x) (by simp [ho, Op.operands])
  rw [h2, Tv_agg] at e
  obtain ⟨us, e, hl, hc⟩ := e
  obtain ⟨u, h6, h7⟩ := h5 ρ us w hl hc
  refine ⟨u, ?_, h7⟩
  simp only [execOp, ho, e, Instr.field, Sem.run_bind, run_und h1, Result.andThen_ok, hf, asAgg, Sem.run_pure, h6]
noncomputable def oIdxA (row : Bool) (n sz : Nat) (x z : St → K1 → Bool) (S : St) (k : Kt) : Bool := x S fun v => vAgg v fun l => z S fun j => vIx j fun i => Bool.casesOn (Nat.ble (Nat.succ i) n) false (getP row sz l (Nat.mul i sz) fun v => k .pure v S)
theorem oIdxA_ok {n : Nat} {e : TypeId} {row : Bool} (h1 : P.underlying ty = some (.array n e)) (hrow : X.rowN P e = row) (hu : (P.underlying e).isSome = true) (hs : (X.sizeN P e == 0) = false) (ho : o.op = .index ty x z) :
    Sound1 P ξ o (oIdxA row n (X.sizeN P e) (opd x).get (opd z).get) := .pu fun S k h => by
  obtain ⟨l, h2, h3⟩ := vAgg_ok (opd_ok h)
  obtain ⟨kk, i, h4, h5⟩ := vIx_ok (opd_ok h3)
  cases hb : Nat.ble (Nat.succ i) n with
  | false => rw [hb] at h5; cases h5
  | true =>
    rw [hb] at h5
    have hi : i < n := Nat.le_of_ble_eq_true hb
    obtain ⟨v, h6, h7⟩ := getP_ok (ξ := ξ) hrow hu hs h5
    refine ⟨v, h6, fun ρ a w hr => ?_⟩
    have e1 := hr.op (x := x) (by simp [ho, Op.operands])
    have e2 := hr.op (x := z) (by simp [ho, Op.operands])
    rw [h2, Tv_agg] at e1
    rw [h4, Tv_int] at e2
    obtain ⟨us, e1, hl, hc⟩ := e1
    obtain ⟨u, h8, h9⟩ := h7 ρ us w hl hc
    refine ⟨u, ?_, h9⟩
    have hin : (0 : Int) ≤ Int.ofNat i ∧ Int.ofNat i < n := by simp only [Int.ofNat_eq_natCast]; omega
    have h8' : (part e us.toArray ((Int.ofNat i).toNat * X.sizeN P e)).run P w = .ok u w := h8
    simp only [execOp, ho, e1, e2, Instr.index, Sem.run_bind, run_und h1, asIntOf, Result.andThen_ok, Sem.run_pure, hin, and_self, if_true, sizeN_ok hs, h8']
/-! ### places -/
noncomputable def oFA (off : Nat) (x : St → K1 → Bool) (S : St) (k : Kt) : Bool := x S fun v => vPtr v fun id p => fNat (Nat.add p off) fun q => k .pure (.ptr id q) S
theorem oFA_ok {fs : Array Field} {f : Nat} {fld : Field} (h1 : P.underlying ty = some (.struct fs)) (hf : fs[f]? = some fld) (hs : (X.sizeN P fld.type == 0) = false) (ho : o.op = .fieldAddr ty x f) : Sound1 P ξ o (oFA fld.offset (opd x).get) := .pu fun S k h => by
  obtain ⟨id, p, h2, h3⟩ := vPtr_ok (opd_ok h)
  rw [fNat_eq] at h3
  refine ⟨_, h3, fun ρ a w hr => ?_⟩
  have e := hr.op (x := x) (by simp [ho, Op.operands])
  rw [h2] at e
  obtain ⟨g, e, e2, _⟩ := Tv_ptr e
  refine ⟨_, ?_, e2 (p + fld.offset)⟩
  obtain ⟨h0, hz⟩ := X.sizeN_run hs
  simp only [execOp, ho, e, Instr.fieldAt, Sem.run_bind, run_und h1, Result.andThen_ok, hf, Instr.sureAddr, Sem.run_pure, fieldPlace, hz, h0, if_false, Addr.add_mid]
noncomputable def oIAs (sz : Nat) (x z : St → K1 → Bool) (S : St) (k : Kt) : Bool := x S fun v => vSl v (fun _ => false) fun id p _ len _ _ => z S fun j => vIx j fun i => Bool.casesOn (Nat.ble (Nat.succ i) len) false (fNat (Nat.add p (Nat.mul i sz)) fun q => k .pure (.ptr id q) S)
theorem oIAs_ok {e : TypeId} (h1 : P.underlying ty = some (.slice e)) (hs : (X.sizeN P e == 0) = false) (ho : o.op = .indexAddr ty x z) : Sound1 P ξ o (oIAs (X.sizeN P e) (opd x).get (opd z).get) := .pu fun S k h => by
  rcases vSl_ok (opd_ok h) with ⟨_, _, h2⟩ | ⟨id, p, w0, len, full, whole, h2, h3⟩
  · cases h2
  · obtain ⟨kk, i, h4, h5⟩ := vIx_ok (opd_ok h3)
    cases hb : Nat.ble (Nat.succ i) len with
    | false => rw [hb] at h5; cases h5
    | true =>
      rw [hb] at h5
      have hi : i < len := Nat.le_of_ble_eq_true hb
      have h5 : fNat (p + i * X.sizeN P e) (fun q => k .pure (.ptr id q) S) = true := h5
      rw [fNat_eq] at h5
      refine ⟨_, h5, fun ρ a w hr => ?_⟩
      have e1 := hr.op (x := x) (by simp [ho, Op.operands])
      have e2 := hr.op (x := z) (by simp [ho, Op.operands])
      rw [h2] at e1
      rw [h4, Tv_int] at e2
      obtain ⟨g, q, cap, ex, hq, _, _, _, _, hp, _⟩ := Tv_sl e1
      have hqp := hq (by omega)
      rw [hqp] at ex
      refine ⟨_, ?_, hp (p + i * X.sizeN P e)⟩
      have hin : (0 : Int) ≤ Int.ofNat i ∧ Int.ofNat i < len := by simp only [Int.ofNat_eq_natCast]; omega
      have ht : (Int.ofNat i).toNat = i := rfl
      simp only [execOp, ho, ex, e2, Instr.indexAt, asIntOf, Sem.run_bind, Sem.run_pure, Result.andThen_ok, run_und h1, hin, and_self, if_true, sizeN_ok hs, Addr.add_mid, ht]
noncomputable def oIAp (n sz : Nat) (x z : St → K1 → Bool) (S : St) (k : Kt) : Bool := x S fun v => vPtr v fun id p => z S fun j => vIx j fun i => Bool.casesOn (Nat.ble (Nat.succ i) n) false (fNat (Nat.add p (Nat.mul i sz)) fun q => k .pure (.ptr id q) S)
theorem oIAp_ok {n : Nat} {e : TypeId} (h1 : P.underlying ty = some (.array n e)) (hs : (X.sizeN P e == 0) = false) (ho : o.op = .indexAddr ty x z) : Sound1 P ξ o (oIAp n (X.sizeN P e) (opd x).get (opd z).get) := .pu fun S k h => by
  obtain ⟨id, p, h2, h3⟩ := vPtr_ok (opd_ok h)
  obtain ⟨kk, i, h4, h5⟩ := vIx_ok (opd_ok h3)
  cases hb : Nat.ble (Nat.succ i) n with
  | false => rw [hb] at h5; cases h5
  | true =>
    rw [hb] at h5
    have hi : i < n := Nat.le_of_ble_eq_true hb
    have h5 : fNat (p + i * X.sizeN P e) (fun q => k .pure (.ptr id q) S) = true := h5
    rw [fNat_eq] at h5
    refine ⟨_, h5, fun ρ a w hr => ?_⟩
    have e1 := hr.op (x := x) (by simp [ho, Op.operands])
    have e2 := hr.op (x := z) (by simp [ho, Op.operands])
    rw [h2] at e1
    rw [h4, Tv_int] at e2
    obtain ⟨g, e1, hp, _⟩ := Tv_ptr e1
    refine ⟨_, ?_, hp (p + i * X.sizeN P e)⟩
    have hin : (0 : Int) ≤ Int.ofNat i ∧ Int.ofNat i < n := by simp only [Int.ofNat_eq_natCast]; omega
    have ht : (Int.ofNat i).toNat = i := rfl
    simp only [execOp, ho, e1, e2, Instr.indexAt, Instr.sureAddr, asIntOf, Sem.run_bind, Sem.run_pure, Result.andThen_ok, run_und h1, hin, and_self, if_true, sizeN_ok hs, Addr.add_mid, ht]
/-! ### parts -/
noncomputable def bnd (o : Option Operand) : F (St → Nat → (Nat → Bool) → Bool) := match o with
  | none => .mk fun _ d k => k d
  | some x => F.casesOn (opd x) fun f => .mk fun S _ k => f S fun v => vIx v k
def BV (o : Option Value) (d n : Nat) : Prop := (o = none ∧ n = d) ∨ ∃ kk, o = some (.int kk (.ofNat n))
theorem bnd_ok {q : Option Operand} {S : St} {d : Nat} {k : Nat → Bool} (h : (bnd q).get S d k = true) : ∃ n, k n = true ∧ ∀ ρ a, Reads ρ ξ (slots S) a o → (∀ x, q = some x → x ∈ o.op.operands) → ∀ d', (q = none → d' = d) → BV (q.map a.eval) d' n := by
  cases q with
  | none => exact ⟨d, h, fun ρ a _ _ d' hd => .inl ⟨rfl, (hd rfl).symm⟩⟩
  | some x =>
    have hu : (bnd (some x)).get S d k = (opd x).get S fun v => vIx v k := by
      show (F.casesOn (opd x) fun f => F.mk fun S (_ : Nat) k => f S fun v => vIx v k : F (St → Nat → (Nat → Bool) → Bool)).get S d k = _
      cases opd x; rfl
    rw [hu] at h
    obtain ⟨kk, n, h1, h2⟩ := vIx_ok (opd_ok h)
    refine ⟨n, h2, fun ρ a hr hm d' _ => .inr ⟨kk, ?_⟩⟩
    have e := hr.op (hm x rfl)
    rw [h1, Tv_int] at e
    rw [Option.map_some, e]
theorem run_bnds {isS : Bool} {len cap l h m : Nat} {lo hi mx : Option Value} (hlo : BV lo 0 l) (hhi : BV hi len h) (hmx : BV mx cap m) (hm : mx = none ∨ hi ≠ none) (h1 : l ≤ h) (h2 : h ≤ m) (h3 : m ≤ cap) (w : World) : (Instr.sliceBounds isS len cap lo hi mx).run P w = .ok (l, h, m) w := by
  have rb : ∀ (kk : IntKind) (n m : Nat) (code : BoundsCode), n ≤ m → (Instr.sliceBound (.int kk (.ofNat n)) m code).run P w = .ok n w := fun kk n m code hn => X.run_bound (Int.natCast_nonneg n) rfl hn w
  unfold Instr.sliceBounds
  rcases hmx with ⟨rfl, rfl⟩ | ⟨k3, rfl⟩
  · rcases hhi with ⟨rfl, rfl⟩ | ⟨k2, rfl⟩
    · rcases hlo with ⟨rfl, rfl⟩ | ⟨k1, rfl⟩
      · simp [Sem.run_bind]
      · simp only [Sem.run_bind, Sem.run_pure, Result.andThen_ok, rb _ _ _ _ h1]
    · rcases hlo with ⟨rfl, rfl⟩ | ⟨k1, rfl⟩
      · simp only [Sem.run_bind, Sem.run_pure, Result.andThen_ok, rb _ _ _ _ h2]
      · simp only [Sem.run_bind, Sem.run_pure, Result.andThen_ok, rb _ _ _ _ h2, rb _ _ _ _ h1]
  · rcases hhi with ⟨rfl, rfl⟩ | ⟨k2, rfl⟩
    · rcases hm with hm | hm <;> simp at hm
    · rcases hlo with ⟨rfl, rfl⟩ | ⟨k1, rfl⟩
      · simp only [Sem.run_bind, Sem.run_pure, Result.andThen_ok, rb _ _ _ _ h3, rb _ _ _ _ h2]
      · simp only [Sem.run_bind, Sem.run_pure, Result.andThen_ok, rb _ _ _ _ h3, rb _ _ _ _ h2, rb _ _ _ _ h1]
abbrev BF := St → Nat → (Nat → Bool) → Bool
noncomputable def leN (a b : Nat) (k : Bool) : Bool := Bool.casesOn (Nat.ble a b) false k
theorem leN_ok {a b : Nat} {k : Bool} (h : leN a b k = true) : a ≤ b ∧ k = true := by
  unfold leN at h
  cases hb : Nat.ble a b with
  | false => rw [hb] at h; cases h
  | true => rw [hb] at h; exact ⟨Nat.le_of_ble_eq_true hb, h⟩
noncomputable def oSlS (x : St → K1 → Bool) (lo hi : BF) (S : St) (k : Kt) : Bool := x S fun v => vStr v fun l n => lo S 0 fun i => hi S l fun j => leN i j (leN j l (sPart l n i j fun v => k .pure v S))
theorem oSlS_ok {lo hi : Option Operand} (h1 : P.underlying ty = some .string) (ho : o.op = .slice ty x lo hi none) : Sound1 P ξ o (oSlS (opd x).get (bnd lo).get (bnd hi).get) := .pu fun S k h => by
  obtain ⟨l, n, h2, h3⟩ := vStr_ok (opd_ok h)
  obtain ⟨i, h4, b1⟩ := bnd_ok (o := o) (ξ := ξ) h3
  obtain ⟨j, h5, b2⟩ := bnd_ok (o := o) (ξ := ξ) h4
  obtain ⟨l1, h6⟩ := leN_ok h5
  obtain ⟨l2, h7⟩ := leN_ok h6
  obtain ⟨r, e3, e4⟩ := sPart_eq (n := n) (k := fun v => k .pure v S) l1 l2
  rw [e3] at h7
  refine ⟨_, h7, fun ρ a w hr => ⟨_, ?_, rfl⟩⟩
  have e := hr.op (x := x) (by simp [ho, Op.operands])
  rw [h2, Tv_str] at e
  have c1 := b1 ρ a hr (fun y hy => by simp [ho, Op.operands, hy]) 0 fun _ => rfl
  have c2 := b2 ρ a hr (fun y hy => by simp [ho, Op.operands, hy]) l fun _ => rfl
  have hB := run_bnds (P := P) (isS := false) (cap := l) (mx := none) c1 c2 (.inl ⟨rfl, rfl⟩) (.inl rfl) l1 l2 (Nat.le_refl _) w
  have hx : (bs l n).extract i j = bs (j - i) r := by
    apply ByteArray.ext
    rw [ByteArray.data_extract]
    show (bl l n).toArray.extract i j = (bl (j - i) r).toArray
    rw [e4]
    apply Array.ext'
    simp [List.extract_eq_take_drop, List.drop_take]
  simp only [execOp, ho, e, Instr.sliceAt, Sem.run_bind, run_und h1, Result.andThen_ok, Instr.slice, Option.map_none, Option.isSome_none, Bool.false_eq_true, if_false, Sem.run_pure, bs_size, hB, hx]
/-- A part of a slice: [i:j], or [i:j:m]. -/
noncomputable def oSl2 (w : Nat) (x : St → K1 → Bool) (lo hi : BF) (S : St) (k : Kt) : Bool := x S fun v => vSl v
  (fun q => Bool.casesOn (NK.eqb q .slice) false (lo S 0 fun i => hi S 0 fun j => leN i j (leN j 0 (k .pure (.nil .slice) S))))
  fun id p w' len full whole => Bool.casesOn (Nat.beq w w') false (lo S 0 fun i => hi S len fun j => leN i j (leN j len (fNat (Nat.add p (Nat.mul i w)) fun q => fNat (Nat.sub j i) fun n => k .pure (.sl id q w n (full && Nat.beq j len) (whole && Nat.beq i 0)) S)))
theorem run_sliceV {e : TypeId} (h1 : P.underlying ty = some (.slice e)) (hs : (X.sizeN P e == 0) = false) {Ad : Option Addr} {n c l h m : Nat} {lo hi mx : Option Value} {w : World} (hB : (Instr.sliceBounds true n c lo hi mx).run P w = .ok (l, h, m) w) :
    (Instr.sliceAt ty (.slice Ad n c) lo hi mx).run P w = .ok (.slice (if m = l then Ad else Ad.map (·.add (l * X.sizeN P e))) (h - l) (m - l)) w := by
  simp only [Instr.sliceAt, Instr.slice, Sem.run_bind, run_und h1, Result.andThen_ok, hB, sizeN_ok hs, Sem.run_pure]
theorem oSl2_ok {e : TypeId} {lo hi : Option Operand} (h1 : P.underlying ty = some (.slice e)) (hs : (X.sizeN P e == 0) = false) (ho : o.op = .slice ty x lo hi none) : Sound1 P ξ o (oSl2 (X.sizeN P e) (opd x).get (bnd lo).get (bnd hi).get) := .pu fun S k h => by
  have hlom : ∀ y, lo = some y → y ∈ o.op.operands := fun y hy => by simp [ho, Op.operands, hy]
  have him : ∀ y, hi = some y → y ∈ o.op.operands := fun y hy => by simp [ho, Op.operands, hy]
  rcases vSl_ok (opd_ok h) with ⟨q, h3, h4⟩ | ⟨id, p, w', len, full, whole, h3, h4⟩
  · cases hq : NK.eqb q .slice with
    | false => rw [hq] at h4; cases h4
    | true =>
      rw [hq] at h4
      have := NK.eqb_eq hq
      subst this
      obtain ⟨i, h5, b1⟩ := bnd_ok (o := o) (ξ := ξ) h4
      obtain ⟨j, h6, b2⟩ := bnd_ok (o := o) (ξ := ξ) h5
      obtain ⟨l1, h7⟩ := leN_ok h6
      obtain ⟨l2, h8⟩ := leN_ok h7
      refine ⟨_, h8, fun ρ a w hr => ⟨_, ?_, rfl⟩⟩
      have e1 := hr.op (x := x) (by simp [ho, Op.operands])
      rw [h3, Tv_nil] at e1
      have j0 : j = 0 := by omega
      have i0 : i = 0 := by omega
      subst j0; subst i0
      have hB := run_bnds (P := P) (isS := true) (cap := 0) (mx := none) (b1 ρ a hr hlom 0 fun _ => rfl) (b2 ρ a hr him 0 fun _ => rfl) (.inl ⟨rfl, rfl⟩) (.inl rfl) (Nat.le_refl _) (Nat.le_refl _) (Nat.le_refl _) w
      have hV := run_sliceV h1 hs (Ad := none) hB
      simp only [execOp, ho, e1, nilV, Sem.run_bind, Option.map_none, hV, Result.andThen_ok, Sem.run_pure]
      rfl
  · cases hw : Nat.beq (X.sizeN P e) w' with
    | false => rw [hw] at h4; cases h4
    | true =>
      rw [hw] at h4
      have := Nat.eq_of_beq_eq_true hw
      subst this
      obtain ⟨i, h5, b1⟩ := bnd_ok (o := o) (ξ := ξ) h4
      obtain ⟨j, h6, b2⟩ := bnd_ok (o := o) (ξ := ξ) h5
      obtain ⟨l1, h7⟩ := leN_ok h6
      obtain ⟨l2, h8⟩ := leN_ok h7
      rw [fNat_eq, fNat_eq] at h8
      have h8 : k .pure (.sl id (p + i * X.sizeN P e) (X.sizeN P e) (j - i) (full && Nat.beq j len) (whole && Nat.beq i 0)) S = true := h8
      refine ⟨_, h8, fun ρ a w hr => ?_⟩
      have e1 := hr.op (x := x) (by simp [ho, Op.operands])
      rw [h3] at e1
      obtain ⟨g, q, cap, e1, hq, hl, hc, hf, hT, _, _⟩ := Tv_sl e1
      have hB := run_bnds (P := P) (isS := true) (cap := cap) (mx := none) (b1 ρ a hr hlom 0 fun _ => rfl) (b2 ρ a hr him len fun _ => rfl) (.inl ⟨rfl, rfl⟩) (.inl rfl) l1 (Nat.le_trans l2 hl) (Nat.le_refl _) w
      have hV := run_sliceV h1 hs (Ad := some ⟨g, q, none⟩) hB
      refine ⟨_, by simp only [execOp, ho, e1, Sem.run_bind, Option.map_none, hV, Result.andThen_ok, Sem.run_pure]; rfl, ?_⟩
      have hfull : ∀ b, (full && Nat.beq j len) = b → b = true → cap - i = j - i := fun b hb ht => by
        subst hb
        rw [Bool.and_eq_true] at ht
        have := hf ht.1
        have := Nat.eq_of_beq_eq_true ht.2
        omega
      by_cases hci : cap = i
      · rw [if_pos hci]
        refine hT _ _ _ _ q (cap - i) (fun h0 => by omega) (by omega) (by omega) (fun ht => hfull _ rfl ht) (by rw [hci, Nat.sub_self]; omega) (fun ht => ?_)
        rw [Bool.and_eq_true] at ht
        have := Nat.eq_of_beq_eq_true ht.2
        exact ⟨ht.1, rfl, by omega⟩
      · rw [if_neg hci]
        show Tv ρ ξ _ (.slice (some ((⟨g, q, none⟩ : Addr).add (i * X.sizeN P e))) (j - i) (cap - i))
        rw [Addr.add_mid]
        refine hT _ _ _ _ (q + i * X.sizeN P e) (cap - i) (fun h0 => ?_) (by omega) (by omega) (fun ht => hfull _ rfl ht) ?_ (fun ht => ?_)
        · rw [hq (by omega)]
        · have : i * X.sizeN P e + (cap - i) * X.sizeN P e = cap * X.sizeN P e := by rw [← Nat.add_mul]; congr 1; omega
          omega
        · rw [Bool.and_eq_true] at ht
          have := Nat.eq_of_beq_eq_true ht.2
          subst this
          exact ⟨ht.1, by omega, by omega⟩
noncomputable def oSl3 (w : Nat) (x : St → K1 → Bool) (lo hi mx : BF) (S : St) (k : Kt) : Bool := x S fun v => vSl v
  (fun q => Bool.casesOn (NK.eqb q .slice) false (lo S 0 fun i => hi S 0 fun j => mx S 0 fun m => leN i j (leN j m (leN m 0 (k .pure (.nil .slice) S)))))
  fun id p w' len full whole => Bool.casesOn (Nat.beq w w') false (lo S 0 fun i => hi S len fun j => mx S 0 fun m => leN i j (leN j m (leN m len (fNat (Nat.add p (Nat.mul i w)) fun q => fNat (Nat.sub j i) fun n => k .pure (.sl id q w n (Nat.beq j m) false) S))))
theorem oSl3_ok {e : TypeId} {lo : Option Operand} {z y : Operand} (h1 : P.underlying ty = some (.slice e)) (hs : (X.sizeN P e == 0) = false) (ho : o.op = .slice ty x lo (some z) (some y)) : Sound1 P ξ o (oSl3 (X.sizeN P e) (opd x).get (bnd lo).get (bnd (some z)).get (bnd (some y)).get) := .pu fun S k h => by
  have hlom : ∀ q, lo = some q → q ∈ o.op.operands := fun q hy => by simp [ho, Op.operands, hy]
  have him : ∀ q, some z = some q → q ∈ o.op.operands := fun q hy => by simp [ho, Op.operands]; simp at hy; simp [hy]
  have hmm : ∀ q, some y = some q → q ∈ o.op.operands := fun q hy => by simp [ho, Op.operands]; simp at hy; simp [hy]
  rcases vSl_ok (opd_ok h) with ⟨q, h3, h4⟩ | ⟨id, p, w', len, full, whole, h3, h4⟩
  · cases hq : NK.eqb q .slice with
    | false => rw [hq] at h4; cases h4
    | true =>
      rw [hq] at h4
      have := NK.eqb_eq hq
      subst this
      obtain ⟨i, h5, b1⟩ := bnd_ok (o := o) (ξ := ξ) h4
      obtain ⟨j, h6, b2⟩ := bnd_ok (o := o) (ξ := ξ) h5
      obtain ⟨m, h6, b3⟩ := bnd_ok (o := o) (ξ := ξ) h6
      obtain ⟨l1, h7⟩ := leN_ok h6
      obtain ⟨l2, h8⟩ := leN_ok h7
      obtain ⟨l3, h8⟩ := leN_ok h8
      refine ⟨_, h8, fun ρ a w hr => ⟨_, ?_, rfl⟩⟩
      have e1 := hr.op (x := x) (by simp [ho, Op.operands])
      rw [h3, Tv_nil] at e1
      have m0 : m = 0 := by omega
      have j0 : j = 0 := by omega
      have i0 : i = 0 := by omega
      subst m0; subst j0; subst i0
      have hB := run_bnds (P := P) (isS := true) (cap := 0) (b1 ρ a hr hlom 0 fun _ => rfl) (b2 ρ a hr him 0 fun _ => rfl) (b3 ρ a hr hmm 0 fun _ => rfl) (.inr (by simp)) (Nat.le_refl _) (Nat.le_refl _) (Nat.le_refl _) w
      have hV := run_sliceV h1 hs (Ad := none) hB
      simp only [Option.map_some] at hV
      simp only [execOp, ho, e1, nilV, Sem.run_bind, Option.map_some, hV, Result.andThen_ok, Sem.run_pure]
      rfl
  · cases hw : Nat.beq (X.sizeN P e) w' with
    | false => rw [hw] at h4; cases h4
    | true =>
      rw [hw] at h4
      have := Nat.eq_of_beq_eq_true hw
      subst this
      obtain ⟨i, h5, b1⟩ := bnd_ok (o := o) (ξ := ξ) h4
      obtain ⟨j, h6, b2⟩ := bnd_ok (o := o) (ξ := ξ) h5
      obtain ⟨m, h6, b3⟩ := bnd_ok (o := o) (ξ := ξ) h6
      obtain ⟨l1, h7⟩ := leN_ok h6
      obtain ⟨l2, h8⟩ := leN_ok h7
      obtain ⟨l3, h8⟩ := leN_ok h8
      rw [fNat_eq, fNat_eq] at h8
      have h8 : k .pure (.sl id (p + i * X.sizeN P e) (X.sizeN P e) (j - i) (Nat.beq j m) false) S = true := h8
      refine ⟨_, h8, fun ρ a w hr => ?_⟩
      have e1 := hr.op (x := x) (by simp [ho, Op.operands])
      rw [h3] at e1
      obtain ⟨g, q, cap, e1, hq, hl, hc, hf, hT, _, _⟩ := Tv_sl e1
      have hB := run_bnds (P := P) (isS := true) (cap := cap) (b1 ρ a hr hlom 0 fun _ => rfl) (b2 ρ a hr him len fun e => by cases e) (b3 ρ a hr hmm cap fun e => by cases e) (.inr (by simp)) l1 l2 (Nat.le_trans l3 hl) w
      have hV := run_sliceV h1 hs (Ad := some ⟨g, q, none⟩) hB
      simp only [Option.map_some] at hV
      refine ⟨_, by simp only [execOp, ho, e1, Sem.run_bind, Option.map_some, hV, Result.andThen_ok, Sem.run_pure]; rfl, ?_⟩
      have hfull : Nat.beq j m = true → m - i = j - i := fun ht => by have := Nat.eq_of_beq_eq_true ht; omega
      by_cases hci : m = i
      · rw [if_pos hci]
        exact hT _ _ _ _ q (m - i) (fun h0 => by omega) (by omega) (by omega) hfull (by rw [hci, Nat.sub_self]; omega) (fun ht => by cases ht)
      · rw [if_neg hci]
        show Tv ρ ξ _ (.slice (some ((⟨g, q, none⟩ : Addr).add (i * X.sizeN P e))) (j - i) (m - i))
        rw [Addr.add_mid]
        refine hT _ _ _ _ (q + i * X.sizeN P e) (m - i) (fun h0 => ?_) (by omega) (by omega) hfull ?_ (fun ht => by cases ht)
        · rw [hq (by omega)]
        · have h9 : i * X.sizeN P e + (m - i) * X.sizeN P e = m * X.sizeN P e := by rw [← Nat.add_mul]; congr 1; omega
          have h10 : m * X.sizeN P e ≤ cap * X.sizeN P e := Nat.mul_le_mul_right _ (by omega)
          omega
end
end Go.Proofs.YtnkkfmnpkgjabaaGreat.Y

/- The runner: memory: places are read, written; new blocks. -/
namespace Go.Proofs.YtnkkfmnpkgjabaaGreat.Y
open Go.RowKit
set_option linter.unusedVariables false
set_option linter.unusedSimpArgs false
/-! ### blocks by their numbers -/
noncomputable def pick8 (i : Nat) (a b c d e f g h : Tr) : Tr := Nat.casesOn i a fun i => Nat.casesOn i b fun i => Nat.casesOn i c fun i => Nat.casesOn i d fun i => Nat.casesOn i e fun i => Nat.casesOn i f fun i => Nat.casesOn i g fun _ => h
theorem pick8_eq (i : Nat) (a b c d e f g h : Tr) : pick8 i a b c d e f g h = Tr.sub (.N a b c d e f g h) (dig i) := by
  match i with
  | 0 | 1 | 2 | 3 | 4 | 5 | 6 => rfl
  | i + 7 => rfl
noncomputable def rget (d : Nat) : Nat → Tr → K1 → Bool := Nat.rec (motive := fun _ => Nat → Tr → K1 → Bool)
  (fun _ t k => Tr.casesOn t (k .undef) (fun v => k v) (fun _ _ _ _ _ _ _ _ => k .undef))
  (fun _ ih n t k => Tr.casesOn t (k .undef) (fun _ => k .undef) (fun a b c d e f g h => ih (Nat.div n 8) (pick8 (Nat.mod n 8) a b c d e f g h) k)) d
theorem rget_eq : ∀ (d n : Nat) (t : Tr) (k : K1), rget d n t k = k (Tr.look (pathN d n) t)
  | 0, n, t, k => by cases t <;> rfl
  | d + 1, n, t, k => by
    have ih := rget_eq d (n / 8)
    rw [pathN_succ]
    cases t with
    | E => exact (congrArg k (Tr.look_E (pathN d (n / 8)))).symm
    | L v => exact (congrArg k (Tr.look_E (pathN d (n / 8)))).symm
    | N a b c e f g h i =>
      show rget d (n / 8) (pick8 (n % 8) a b c e f g h i) k = _
      rw [ih, pick8_eq]; rfl
noncomputable def with8 (i : Nat) (x a b c d e f g h : Tr) (k : Tr → Bool) : Bool := Nat.casesOn i (k (.N x b c d e f g h)) fun i => Nat.casesOn i (k (.N a x c d e f g h)) fun i => Nat.casesOn i (k (.N a b x d e f g h)) fun i => Nat.casesOn i (k (.N a b c x e f g h)) fun i => Nat.casesOn i (k (.N a b c d x f g h)) fun i => Nat.casesOn i (k (.N a b c d e x g h)) fun i => Nat.casesOn i (k (.N a b c d e f x h)) fun _ => k (.N a b c d e f g x)
theorem with8_eq (i : Nat) (x a b c d e f g h : Tr) (k : Tr → Bool) : with8 i x a b c d e f g h k = k (Tr.with (.N a b c d e f g h) (dig i) x) := by
  match i with
  | 0 | 1 | 2 | 3 | 4 | 5 | 6 => rfl
  | i + 7 => rfl
theorem with8_eqE (i : Nat) (x : Tr) (k : Tr → Bool) : with8 i x .E .E .E .E .E .E .E .E k = k (Tr.with .E (dig i) x) := by
  match i with
  | 0 | 1 | 2 | 3 | 4 | 5 | 6 => rfl
  | i + 7 => rfl
theorem with8_eqL (i : Nat) (x : Tr) (v : V) (k : Tr → Bool) : with8 i x .E .E .E .E .E .E .E .E k = k (Tr.with (.L v) (dig i) x) := by
  match i with
  | 0 | 1 | 2 | 3 | 4 | 5 | 6 => rfl
  | i + 7 => rfl
noncomputable def rput (d : Nat) : Nat → V → Tr → (Tr → Bool) → Bool := Nat.rec (motive := fun _ => Nat → V → Tr → (Tr → Bool) → Bool)
  (fun _ v _ k => k (.L v))
  (fun _ ih n v t k => Tr.casesOn t (ih (Nat.div n 8) v .E fun x => with8 (Nat.mod n 8) x .E .E .E .E .E .E .E .E k) (fun _ => ih (Nat.div n 8) v .E fun x => with8 (Nat.mod n 8) x .E .E .E .E .E .E .E .E k)
    (fun a b c d e f g h => ih (Nat.div n 8) v (pick8 (Nat.mod n 8) a b c d e f g h) fun x => with8 (Nat.mod n 8) x a b c d e f g h k)) d
theorem rput_eq : ∀ (d n : Nat) (v : V) (t : Tr) (k : Tr → Bool), rput d n v t k = k (Tr.set (pathN d n) v t)
  | 0, n, v, t, k => rfl
  | d + 1, n, v, t, k => by
    have ih := rput_eq d (n / 8)
    rw [pathN_succ]
    cases t with
    | E =>
      show rput d (n / 8) v .E (fun x => with8 (n % 8) x .E .E .E .E .E .E .E .E k) = _
      rw [ih, with8_eqE]; rfl
    | L q =>
      show rput d (n / 8) v .E (fun x => with8 (n % 8) x .E .E .E .E .E .E .E .E k) = _
      rw [ih, with8_eqL _ _ q]; rfl
    | N a b c e f g h i =>
      show rput d (n / 8) v (pick8 (n % 8) a b c e f g h i) (fun x => with8 (n % 8) x a b c e f g h i k) = _
      rw [ih, with8_eq, pick8_eq]; rfl
noncomputable def hget (id : Nat) (S : St) (k : K1) : Bool := St.casesOn S fun _ h _ _ => rget 5 id h k
theorem hget_eq (id : Nat) (S : St) (k : K1) : hget id S k = k (Tr.look (pB id) S.h) := by cases S; exact rget_eq 5 id _ k
theorem hp_of {S : St} {id : Nat} (h : id < 32768) : hp S id = Tr.look (pB id) S.h := if_pos h
noncomputable def hput (id : Nat) (v : V) (S : St) (k : St → Bool) : Bool := St.casesOn S fun e h nx tk => rput 5 id v h fun h' => k ⟨e, h', nx, tk⟩
noncomputable def St.put (S : St) (id : Nat) (v : V) : St := ⟨S.e, Tr.set (pathN 5 id) v S.h, S.nx, S.tk⟩
theorem hput_eq (id : Nat) (v : V) (S : St) (k : St → Bool) : hput id v S k = k (S.put id v) := by cases S; exact rput_eq 5 id v _ _
theorem hp_put {S : St} {id : Nat} {v : V} (h : id < 32768) : hp (S.put id v) = upd (hp S) id v := by
  funext i
  unfold upd hp
  by_cases hi : i < 32768
  · rw [if_pos hi]
    show Tr.look (pB i) (Tr.set (pathN 5 id) v S.h) = _
    rw [Tr.look_set _ _ _ _ (by rw [pathN_len]; exact (pathN_len 5 i).symm)]
    show (if pathN 5 i = pathN 5 id then v else Tr.look (pB i) S.h) = _
    by_cases e : i = id
    · subst e; rw [if_pos rfl, if_pos rfl]
    · rw [if_neg e, if_neg (fun h2 => e (pathN_inj 5 hi h h2)), if_pos hi]
  · rw [if_neg hi, if_neg (by omega), if_neg hi]
/-- The next number is taken. -/
noncomputable def hnew (v : V) (S : St) (k : Nat → St → Bool) : Bool := St.casesOn S fun e h nx tk => Bool.casesOn (Nat.ble (Nat.succ nx) 32768) false (rput 5 nx v h fun h' => fNat (Nat.succ nx) fun n1 => k nx ⟨e, h', n1, tk⟩)
theorem hnew_ok {v : V} {S : St} {k : Nat → St → Bool} (hI : Inv S) (h : hnew v S k = true) : S.nx < 32768 ∧ ∃ S' : St, k S.nx S' = true ∧ S'.e = S.e ∧ S'.tk = S.tk ∧ Inv S' ∧ hp S' = upd (hp S) S.nx v ∧ hp S S.nx = .undef := by
  cases S with
  | mk e hh nx tk =>
    have h : (Bool.casesOn (Nat.ble (Nat.succ nx) 32768) false (rput 5 nx v hh fun h' => fNat (Nat.succ nx) fun n1 => k nx ⟨e, h', n1, tk⟩) : Bool) = true := h
    cases hb : Nat.ble (Nat.succ nx) 32768 with
    | false => rw [hb] at h; cases h
    | true =>
      rw [hb] at h
      have hlt : nx < 32768 := Nat.le_of_ble_eq_true hb
      have h : rput 5 nx v hh (fun h' => fNat (Nat.succ nx) fun n1 => k nx ⟨e, h', n1, tk⟩) = true := h
      rw [rput_eq, fNat_eq] at h
      have hE : hp ⟨e, Tr.set (pathN 5 nx) v hh, nx + 1, tk⟩ = upd (hp ⟨e, hh, nx, tk⟩) nx v := hp_put (S := ⟨e, hh, nx, tk⟩) hlt
      refine ⟨hlt, _, h, rfl, rfl, fun i hi => ?_, hE, hI nx (Nat.le_refl _)⟩
      have hi : nx + 1 ≤ i := hi
      have : hp ⟨e, Tr.set (pathN 5 nx) v hh, nx + 1, tk⟩ i = .undef := by
        rw [hE]; unfold upd; rw [if_neg (by omega)]; exact hI i (by show nx ≤ i; omega)
      exact this
section
variable {P : Program} {ξ : Nat → Int} {o : Oper} {S : St} {k : Kt} {ty ty2 : TypeId} {x z y : Operand}
/-- So much is known of a type. -/
structure TyK (P : Program) (t : TypeId) (d : TypeDesc) (i : TypeInfo) : Prop where
  u : P.underlying t = some d
  i : P.info? t = some i
theorem TyK.ti {t : TypeId} {d : TypeDesc} {i : TypeInfo} (h : TyK P t d i) : X.TI P t d i.size i.bytes := ⟨h.u, by rw [h.i]; rfl⟩
theorem TyK.size {t : TypeId} {d : TypeDesc} {i : TypeInfo} (h : TyK P t d i) : X.sizeN P t = i.size := by unfold X.sizeN; rw [h.i]; rfl
/-- What a live block holds in memory. -/
theorem Ok.cells {ρ : Rho} {H : Nat → V} {w : World} (h : Ok ρ ξ H w) {id off : Nat} {u : Value} (hu : Tv ρ ξ (.ptr id off) u) {l : V} (hl : (∃ t q, H id = .fn t l q) ∨ (∃ e, H id = .ifc e l) ∨ H id = .tup l) :
    ∃ g c arr t fz us rest, ρ id = .at g c ∧ u = .pointer (some ⟨g, off, none⟩) ∧ w.heap[g]? = some (.cells arr t fz) ∧ arr.size = c ∧ arr.toList = us ++ rest ∧ TvL ρ ξ l us ∧ (∀ c ∈ us, c.oneCell' = true) ∧ (∀ t' q, H id = .fn t' l q → fz = (0, 0) ∧ t = t' ∧ c = (toL l).length) ∧ (∀ e, H id = .ifc e l → fz = (0, 0) ∧ t = e) := by
  obtain ⟨g, e, _, hg⟩ := Tv_ptr hu
  cases hr : ρ id with
  | no =>
    have hu : (TvP ρ ξ (.ptr id off)).1 u := hu
    simp only [TvP] at hu
    rw [hr] at hu; exact hu.elim
  | dead => have := h.dead id hr; rcases hl with ⟨t, q, hl⟩ | ⟨e, hl⟩ | hl <;> rw [hl] at this <;> cases this
  | «at» q c =>
    have := hg q c hr
    subst this
    have hb := h.blk id q c hr
    rcases hl with ⟨t', q', hl⟩ | ⟨e', hl⟩ | hl
    · rw [hl] at hb
      obtain ⟨arr, h1, ⟨h2, us, rest, h3, h4, h5⟩, h0⟩ := hb
      exact ⟨q, c, arr, t', (0, 0), us, rest, rfl, e, h1, h2, h3, h4, h5, fun t2 q2 h6 => by rw [hl] at h6; injection h6 with h6; exact ⟨rfl, h6, h0⟩, fun e2 h6 => by rw [hl] at h6; cases h6⟩
    · rw [hl] at hb
      obtain ⟨arr, h1, h2, us, rest, h3, h4, h5⟩ := hb
      exact ⟨q, c, arr, e', (0, 0), us, rest, rfl, e, h1, h2, h3, h4, h5, fun t2 q2 h6 => (by rw [hl] at h6; cases h6), fun e2 h6 => by rw [hl] at h6; injection h6 with h6; exact ⟨rfl, h6⟩⟩
    · rw [hl] at hb
      obtain ⟨arr, t, fz, h1, h2, us, rest, h3, h4, h5⟩ := hb
      exact ⟨q, c, arr, t, fz, us, rest, rfl, e, h1, h2, h3, h4, h5, fun t2 q2 h6 => (by rw [hl] at h6; cases h6), fun e2 h6 => (by rw [hl] at h6; cases h6)⟩
theorem cell_us {w : World} {g : Nat} {arr : Array Value} {t : TypeId} {fz : Nat × Nat} {us rest : List Value} (h : w.heap[g]? = some (.cells arr t fz)) (ha : arr.toList = us ++ rest) {j : Nat} {v : Value} (hj : us[j]? = some v) : w.cell? ⟨g, j, none⟩ = some v := by
  rw [cell_of_row w g _ arr t fz h, ← Array.getElem?_toList, ha, List.getElem?_append_left (List.getElem?_eq_some_iff.1 hj).1]; exact hj
/-! ### load -/
noncomputable def oLoad (row : Bool) (sz : Nat) (x : St → K1 → Bool) (S : St) (k : Kt) : Bool := x S fun v => vPtr v fun id off => leN (Nat.succ id) 32768 (hget id S fun b => vBlk b fun l => getP row sz l off fun v => k (.read id) v S)
theorem oLoad_ok {d : TypeDesc} {i : TypeInfo} (ht : TyK P ty d i) (ho : o.op = .load ty x) : Sound1 P ξ o (oLoad d.isRow i.size (opd x).get) := fun S k hI h => by
  obtain ⟨id, off, h1, h2⟩ := vPtr_ok (opd_ok h)
  obtain ⟨hid0, h2⟩ := leN_ok h2
  have hid0 : id < 32768 := hid0
  rw [hget_eq] at h2
  obtain ⟨l, h3, h4⟩ := vBlk_ok h2
  have hud : hp S id ≠ .undef := by rw [hp_of hid0]; rcases h3 with ⟨t, q, h3⟩ | ⟨e, h3⟩ | h3 <;> rw [h3] <;> intro e <;> cases e
  have hread : ∀ v, (∀ (us : List Value) ρ, TvL ρ ξ l us → (∀ c ∈ us, c.oneCell' = true) → ∃ u, Tv ρ ξ v u ∧ ∀ (w : World) g, (∀ j q, us[j]? = some q → w.cell? ⟨g, j, none⟩ = some q) → (Instr.loadAt ty (.pointer (some ⟨g, off, none⟩))).run P w = .ok u w) →
      k (.read id) v S = true → ∃ cl v S', k cl v S' = true ∧ S'.e = S.e ∧ S'.tk = S.tk ∧ Inv S' ∧ CStep P ξ o (slots S) (hp S) (hp S') v cl := fun v hv hk => by
    refine ⟨_, v, S, hk, rfl, rfl, hI, rfl, hud, fun G hG => .quiet fun ρ a w hok hr => ?_⟩
    have e := hr.op (x := x) (by simp [ho, Op.operands])
    rw [h1] at e
    have hid : id < 32768 := by
      refine hok.small id fun hn => ?_
      have e' : (TvP ρ ξ (.ptr id off)).1 (a.eval x) := e
      simp only [TvP] at e'
      rw [hn] at e'; exact e'
    have hG2 : (∃ t q, G id = .fn t l q) ∨ (∃ e, G id = .ifc e l) ∨ G id = .tup l := by rw [hG, hp_of hid]; exact h3
    obtain ⟨g, c, arr, t, fz, us, rest, _, e2, hw, _, ha, hl, hc, _, _⟩ := hok.cells e hG2
    obtain ⟨u, hu, hrun⟩ := hv us ρ hl hc
    refine ⟨u, ?_, hu⟩
    have := hrun w g fun j q hj => cell_us hw ha hj
    simp only [execOp, ho, e2, Sem.run_bind, this, Result.andThen_ok, Sem.run_pure]
  cases hrow : d.isRow with
  | false =>
    rw [hrow] at h4
    obtain ⟨v, h5, h6⟩ := vnth_ok h4
    refine hread v (fun us ρ hl hc => ?_) h6
    obtain ⟨u, h7, h8⟩ := TvL_get hl h5
    exact ⟨u, h8, fun w g hg => X.run_loadAt_one ht.ti hrow (hg off u h7)⟩
  | true =>
    rw [hrow] at h4
    obtain ⟨h5, h6⟩ := vdrop_ok h4
    obtain ⟨h7, h8⟩ := vtake_ok h6
    refine hread _ (fun us ρ hl hc => ?_) h8
    refine ⟨.agg ((us.drop off).take i.size).toArray, ⟨_, rfl, TvL_take (TvL_drop hl), fun c h => hc c (List.mem_of_mem_drop (List.mem_of_mem_take h))⟩, fun w g hg => ?_⟩
    refine X.run_loadAt_row ht.ti hrow ?_ fun j q hj => ?_
    · rw [toL_drop, List.length_drop] at h7
      have := TvL_len hl
      simp only [List.length_take, List.length_drop]
      omega
    · have hlt : j < i.size := by have := (List.getElem?_eq_some_iff.1 hj).1; simp at this; omega
      rw [List.getElem?_take_of_lt hlt, List.getElem?_drop] at hj
      exact hg (off + j) q hj
/-! ### store -/
noncomputable def lenIs (l : V) : Nat → Bool := vrec (fun n => Nat.beq n 0) (fun _ _ ih n => Nat.casesOn n false fun n => ih n) l
theorem lenIs_ok : ∀ {l : V} {n : Nat}, lenIs l n = true → (toL l).length = n := by
  intro l; induction l with
  | cs a r _ ih =>
    intro n h
    cases n with
    | zero => cases h
    | succ n => simp only [toL, List.length_cons]; rw [ih (n := n) h]
  | _ => intro n h; have := Nat.eq_of_beq_eq_true h; simp [toL, this]
noncomputable def oStore (sz : Nat) (x z : St → K1 → Bool) (S : St) (k : Kt) : Bool := z S fun v => vCells v fun cl => Bool.casesOn (lenIs cl sz) false (x S fun p => vPtr p fun id off => leN (Nat.succ id) 32768 (hget id S fun b => vWr b fun f l => vspl l cl off fun l' => hput id (f l') S fun S' => k .any .undef S'))
theorem spl_eq {α : Type} (cs : List α) : ∀ (vs : List α) (o : Nat), o + vs.length ≤ cs.length → X.spl cs o vs = cs.take o ++ vs ++ cs.drop (o + vs.length) := fun vs o h => by
  apply List.ext_getElem?
  intro j
  rw [X.spl_get vs cs o j h]
  have hl : (cs.take o).length = o := by simp; omega
  by_cases h1 : j < o
  · rw [if_neg (by omega), List.append_assoc, List.getElem?_append_left (by omega), List.getElem?_take_of_lt h1]
  · by_cases h2 : j < o + vs.length
    · rw [if_pos ⟨by omega, h2⟩, List.append_assoc, List.getElem?_append_right (by omega), hl, List.getElem?_append_left (by omega)]
    · rw [if_neg (by omega), List.getElem?_append_right (by simp; omega), List.getElem?_drop]
      congr 1; simp; omega
theorem inv_put {S : St} {id : Nat} {v : V} (hI : Inv S) (h : id < 32768) (hn : hp S id ≠ .undef) : Inv (S.put id v) := fun j hj => by
  rw [hp_put h]; unfold upd
  by_cases e : j = id
  · subst e; exact absurd (hI j hj) hn
  · rw [if_neg e]; exact hI j hj
theorem oStore_ok {d : TypeDesc} {i : TypeInfo} (ht : TyK P ty d i) (ho : o.op = .store ty x z) : Sound1 P ξ o (oStore i.size (opd x).get (opd z).get) := fun S k hI h => by
  have h0 := opd_ok h
  obtain ⟨cl, h1, hcl⟩ := vCells_ok h0
  cases hlen : lenIs cl i.size with
  | false => rw [hlen] at h1; cases h1
  | true =>
    rw [hlen] at h1
    have hlen := lenIs_ok hlen
    obtain ⟨id, off, h2, h3⟩ := vPtr_ok (opd_ok h1)
    obtain ⟨hid, h3⟩ := leN_ok h3
    have hid : id < 32768 := hid
    rw [hget_eq] at h3
    obtain ⟨f, l, h4, hf, h5⟩ := vWr_ok h3
    obtain ⟨h6, h7⟩ := vspl_ok h5
    rw [hput_eq] at h7
    have hH : hp S id = f l := by rw [hp_of hid]; exact h4
    have hfu : ∀ l, f l ≠ .undef := fun l => by rcases hf with ⟨t, q, rfl⟩ | ⟨e, rfl⟩ <;> intro e <;> cases e
    refine ⟨_, _, _, h7, rfl, rfl, inv_put hI hid (by rw [hH]; exact hfu l), ?_⟩
    rw [hp_put hid]
    refine ⟨fun j hj => ?_, fun ρ a w hok hr j hj hn => ?_, fun ρ a w hok hr => ?_⟩
    · unfold upd; split
      · exact hfu _
      · exact hj
    · unfold upd
      by_cases e : j = id
      · subst e
        have e := hr.op (x := x) (by simp [ho, Op.operands])
        rw [h2] at e
        have e' : (TvP ρ ξ (.ptr j off)).1 (a.eval x) := e
        simp only [TvP] at e'
        rw [hn] at e'; exact e'.elim
      · rw [if_neg e]
    · have e1 := hr.op (x := x) (by simp [ho, Op.operands])
      have e2 := hr.op (x := z) (by simp [ho, Op.operands])
      rw [h2] at e1
      obtain ⟨g, c, arr, t, fz, us, rest, hr1, e3, hw, hsz, ha, hl, hc, hfz, hfe⟩ := hok.cells (l := l) e1 (by rcases hf with ⟨t, q, rfl⟩ | ⟨e, rfl⟩; exact .inl ⟨t, q, hH⟩; exact .inr (.inl ⟨e, hH⟩))
      have : fz = (0, 0) := by
        rcases hf with ⟨t, q, rfl⟩ | ⟨e, rfl⟩
        · exact (hfz t q hH).1
        · exact (hfe e hH).1
      subst this
      obtain ⟨k1, k2⟩ := hcl ρ ξ _ e2
      have hul : us.length = (toL l).length := TvL_len hl
      have hvl : (a.eval z).cells.toList.length = i.size := by rw [TvL_len k1, hlen]
      have hin : off + (a.eval z).cells.toList.length ≤ us.length := by rw [hvl, hul]; omega
      have hasz : us.length ≤ arr.size := by rw [← Array.length_toList, ha]; simp
      have hst := X.run_storeAt (P := P) ht.ti (w := w) (g := g) (p := off) (u := a.eval z) (by simpa using hvl) (fun j hj => by
          rw [cell_of_row w g _ arr t (0, 0) hw]
          have : off + j < arr.size := by simp at hin; omega
          simp [this]) (fun j hj => by simp [World.frozen?, hw]) k2
      obtain ⟨s1, s2, s3, s4, s5⟩ := X.setCells_same g (a.eval z).cells.toList off w
      have hheap := X.setCells_heap g t (a.eval z).cells.toList off w arr hw
      have hspl : X.spl arr.toList off (a.eval z).cells.toList = (us.take off ++ (a.eval z).cells.toList ++ us.drop (off + (a.eval z).cells.toList.length)) ++ rest := by
        rw [ha, spl_eq _ _ _ (by simp; simp at hin; omega), List.take_append_of_le_length (by omega), List.drop_append_of_le_length (by omega)]
        simp
      have hCs : Cs ρ ξ c (X.spl arr.toList off (a.eval z).cells.toList).toArray (splS l off cl) := by
        refine ⟨by simp [X.spl_len, hsz], us.take off ++ (a.eval z).cells.toList ++ us.drop (off + (a.eval z).cells.toList.length), rest, by simpa using hspl, TvL_spl hl k1 hin, fun v hv => ?_⟩
        rw [List.mem_append, List.mem_append] at hv
        rcases hv with (hv | hv) | hv
        · exact hc v (List.mem_of_mem_take hv)
        · exact k2 v hv
        · exact hc v (List.mem_of_mem_drop hv)
      obtain ⟨q1, q2⟩ := hok.turn hr1 (pv := f (splS l off cl)) (hfu _) (w' := w.setCells g off (a.eval z).cells.toList) s1 s2 s3 (Nat.le_of_eq s4.symm) (fun q _ hq => s5 q hq) (by
        rcases hf with ⟨t', q, rfl⟩ | ⟨e, rfl⟩
        · obtain ⟨_, rfl, h0⟩ := hfz t' q hH
          refine ⟨_, hheap, hCs, ?_⟩
          have h9 := TvL_len (TvL_spl (n := off) hl k1 hin)
          rw [← h9, h0, ← hul]
          simp; simp at hin; omega
        · obtain ⟨_, rfl⟩ := hfe e hH
          exact ⟨_, hheap, hCs⟩)
      refine OpWp.of_skip (w' := w.setCells g off (a.eval z).cells.toList) ?_ ⟨ρ, q2, q1, trivial⟩
      simp only [execOp, ho, e3, Sem.run_bind, hst, Result.andThen_ok, Sem.run_pure]
/-! ### new blocks -/
/-- What is new and nothing else turns. -/
theorem new_ok {S S' : St} {i : Nat} {pv v : V} {k : Kt} (hpv : pv ≠ .undef) (hk : k (.new i pv) v S' = true) (he : S'.e = S.e) (ht : S'.tk = S.tk) (hI : Inv S') (hH : hp S' = upd (hp S) i pv) (hu : hp S i = .undef) (hs : i < 32768)
    (h : ∀ ρ a w, Reads ρ ξ (slots S) a o → ∃ u w' g c, (execOp a.eval o).run P w = .ok (.value u) w' ∧ w'.os = w.os ∧ w'.tape = w.tape ∧ w'.output = w.output ∧ w.heap.size ≤ w'.heap.size ∧
      (∀ k, k < w.heap.size → w'.heap[k]? = w.heap[k]?) ∧ w.heap.size ≤ g ∧ g < w'.heap.size ∧ (∀ ρ', RLe ρ ρ' → BlkR ρ' ξ w' g c pv) ∧ ∀ ρ', ρ' i = .at g c → Tv ρ' ξ v u) :
    ∃ cl v S', k cl v S' = true ∧ S'.e = S.e ∧ S'.tk = S.tk ∧ Inv S' ∧ CStep P ξ o (slots S) (hp S) (hp S') v cl := by
  refine ⟨_, v, S', hk, he, ht, hI, hH, hu, hpv, fun G hG => ⟨fun j hj => ?_, fun ρ a w hok hr j hj hn => ?_, fun ρ a w hok hr => ?_⟩⟩
  · unfold upd; split
    · exact hpv
    · exact hj
  · unfold upd
    by_cases e : j = i
    · subst e; exact absurd hG hj
    · rw [if_neg e]
  · obtain ⟨u, w', g, c, h1, h5, h6, h7, h8, h9, h10, h11, h12, h13⟩ := h ρ a w hr
    obtain ⟨q1, q2⟩ := hok.alloc hG hs hpv h5 h6 h7 h8 h9 h10 h11 h12
    exact OpWp.of_run h1 ⟨_, q2, q1, h13 _ (if_pos rfl)⟩
theorem Tv_at {ρ : Rho} {i g c off : Nat} (h : ρ i = .at g c) : Tv ρ ξ (.ptr i off) (.pointer (some ⟨g, off, none⟩)) := by
  show (TvP ρ ξ (.ptr i off)).1 _
  simp only [TvP]; rw [h]
theorem Tv_slAt {ρ : Rho} {i g c o w len q cap : Nat} {full whole : Bool} (h : ρ i = .at g c) (h1 : 0 < len → q = o) (h2 : len ≤ cap) (h3 : cap ≤ maxLen) (h4 : full = true → cap = len) (h5 : q + cap * w ≤ c) (h6 : whole = true → q = 0 ∧ cap * w = c) : Tv ρ ξ (.sl i o w len full whole) (.slice (some ⟨g, q, none⟩) len cap) := by
  show (TvP ρ ξ (.sl i o w len full whole)).1 _
  simp only [TvP]; rw [h]; exact ⟨q, cap, rfl, h1, h2, h3, h4, h5, h6⟩
/-- The cells of a type's zero. -/
noncomputable def zeroV (z : Value) : V := ofL (z.cells.toList.map cV1)
def zeroOk (z : Value) : Bool := z.cells.toList.all fun u => u.oneCell'
noncomputable def oAlloc (t : TypeId) (l : V) (S : St) (k : Kt) : Bool := hnew (.fn t l .nl) S fun i S' => k (.new i (.fn t l .nl)) (.ptr i 0) S'
theorem run_zero {i : TypeInfo} {zv : Value} (hi : P.info? ty = some i) (hz : i.zero = some zv) (w : World) : ∃ z, (zeroValue ty).run P w = .ok z w ∧ z.cells = zv.cells := by
  obtain ⟨z, h1, h2⟩ := X.TZ.run (P := P) (ty := ty) (zs := zv.cells.toList) ⟨⟨zv, by rw [hi]; exact congrArg some hz, by simp⟩⟩
  exact ⟨z, h1 w, by simpa using h2⟩
theorem oAlloc_ok {d : TypeDesc} {i : TypeInfo} {zv : Value} (ht : TyK P ty d i) (hz : i.zero = some zv) (h1 : zeroOk zv = true) (ho : o.op = .alloc ty) : Sound1 P ξ o (oAlloc ty (zeroV zv)) := fun S k hI h => by
  obtain ⟨hs, S', hk, he, htk, hI', hH, hu⟩ := hnew_ok hI h
  refine new_ok (by intro e; cases e) hk he htk hI' hH hu hs fun ρ a w hr => ?_
  obtain ⟨z, hz1, hz2⟩ := run_zero ht.i hz w
  refine ⟨.pointer (some ⟨w.heap.size, 0, none⟩), w.alloc (.cells zv.cells ty), w.heap.size, zv.cells.size, ?_, rfl, rfl, rfl, by simp, fun k hk => Below.heap_alloc w _ k hk, Nat.le_refl _, by simp, fun ρ' _ => ⟨_, heap_alloc_new w _, ⟨rfl, zv.cells.toList, [], by simp, cVl_ok ρ' ξ _, fun u hu => List.all_eq_true.1 h1 u hu⟩, by rw [← TvL_len (show TvL ρ' ξ (zeroV zv) zv.cells.toList from cVl_ok ρ' ξ _), Array.length_toList]⟩, fun ρ' h => Tv_at h⟩
  simp only [execOp, ho, Instr.alloc, Sem.run_bind, hz1, Result.andThen_ok, newVar, hz2, X.run_newRow, Sem.run_pure]
noncomputable def oBox (t : TypeId) (x : St → K1 → Bool) (S : St) (k : Kt) : Bool := x S fun v => vCells v fun l => hnew (.fn t l .nl) S fun i S' => k (.new i (.fn t l .nl)) (.ptr i 0) S'
theorem oBox_ok (ho : o.op = .box ty x) : Sound1 P ξ o (oBox ty (opd x).get) := fun S k hI h => by
  have h0 := opd_ok h
  obtain ⟨l, h1, hcl⟩ := vCells_ok h0
  obtain ⟨hs, S', hk, he, htk, hI', hH, hu⟩ := hnew_ok hI h1
  refine new_ok (by intro e; cases e) hk he htk hI' hH hu hs fun ρ a w hr => ?_
  obtain ⟨k1, k2⟩ := hcl ρ ξ _ (hr.op (x := x) (by simp [ho, Op.operands]))
  refine ⟨.pointer (some ⟨w.heap.size, 0, none⟩), w.alloc (.cells (a.eval x).cells ty), w.heap.size, (a.eval x).cells.size, ?_, rfl, rfl, rfl, by simp, fun k hk => Below.heap_alloc w _ k hk, Nat.le_refl _, by simp, fun ρ' hle => ⟨_, heap_alloc_new w _, ⟨rfl, (a.eval x).cells.toList, [], by simp, TvL_mono hle k1, k2⟩, by rw [← TvL_len k1, Array.length_toList]⟩, fun ρ' h => Tv_at h⟩
  simp only [execOp, ho, Instr.box, newVar, Sem.run_bind, X.run_newRow, Result.andThen_ok, Sem.run_pure]
end
end Go.Proofs.YtnkkfmnpkgjabaaGreat.Y

/- The same logic: a region that draws its order: what is quiet is claimed ahead, what is not comes in its own order. -/
namespace Go.Proofs.YtnkkfmnpkgjabaaGreat.X
open Go.RowKit
set_option linter.unusedVariables false
set_option linter.unusedSimpArgs false

/-- The operations that must stand ahead of one. -/
def edgesOf (ops : Array Oper) (i : Nat) : List Nat :=
  match ops[i]? with
  | some o => (o.after.toList.filter fun e => Region.binds .any e).map (·.on)
  | none => []
def depB (ops : Array Oper) : Nat → Nat → Nat → Bool
  | 0, _, _ => false
  | f + 1, i, j => (edgesOf ops i).any fun e => e == j || depB ops f e j
/-- The temporaries that one reads: its operands', its guard's. -/
def readsOf (ops : Array Oper) (o : Oper) : List Tmp := o.looksAt ops
def dstOf (ops : Array Oper) (i : Nat) : Option Tmp := (ops[i]?).bind (·.dst)
/-- Each edge goes back; no temporary is written twice. -/
def okAny (ops : Array Oper) : Bool :=
  (List.range ops.size).all fun i =>
    (edgesOf ops i).all (fun e => Nat.blt e i) &&
    (List.range ops.size).all fun j => (i == j) ||
      match dstOf ops i with
      | none => true
      | some d => dstOf ops j != some d
/-- Who reads what it writes stands behind it. -/
def strictI (ops : Array Oper) (i : Nat) : Bool :=
  (List.range ops.size).all fun j => (i == j) ||
    match dstOf ops i with
    | none => true
    | some d => match ops[j]? with | some oj => !(readsOf ops oj).contains d || (edgesOf ops j).contains i | none => true
def okSelf (ops : Array Oper) : Bool :=
  (List.range ops.size).all fun i => match ops[i]? with
    | some o => okOps o && (match o.dst with | some d => !(readsOf ops o).contains d | none => true)
    | none => true

section
variable {P : Program} {N : Nat} {ops : Array Oper} {Q : Exit → T → BS → Prop} {o : Oper} {t : T} {bs : BS} {y : A}
/-- An operation with its guard, quiet. -/
def OpS (P : Program) (N : Nat) (ops : Array Oper) (o : Oper) (t : T) (bs : BS) (y : A) : Prop :=
  ∀ (a : Act) (w : World), a.tmps.size = N → (∀ u ∈ readsOf ops o, Rep w (zones bs) (a.tmps.getD u undef) (look t u)) → BsOk w bs →
    ∀ (K : Act → World → Prop) (Q : Exit → Act → World → Prop), (∀ u w', Rep w' (zones bs) u y → BsOk w' bs → Ext w (zones bs) w' (zones bs) → K (a.put o.dst u) w') →
      if Region.wanted o (yielded ops a.tmps) then o.wp P a w K Q else K (a.put o.dst undef) w
theorem reads_op {o : Oper} {u : Tmp} (h : Operand.tmp u ∈ o.op.operands) : u ∈ readsOf ops o := by
  unfold readsOf Oper.looksAt
  refine List.mem_append_left _ (List.mem_filterMap.2 ⟨.tmp u, by simpa using h, rfl⟩)
theorem reads_rep {a : Act} {w : World} (hk : okOps o = true) (h : ∀ u ∈ readsOf ops o, Rep w (zones bs) (a.tmps.getD u undef) (look t u)) : ∀ x ∈ o.op.operands, Rep w (zones bs) (a.eval x) (evA t x) := fun x hx => by
  have hkx : okC x = true := List.all_eq_true.1 hk x (by simpa using hx)
  cases x with
  | tmp u => exact h u (reads_op hx)
  | const v => exact rep_ev (N := 0) (t := []) (a := { tmps := #[], defers := [] }) (fun i => .junk) (.const v) hkx
  | global g => exact .junk
  | func f => exact .fn rfl rfl (by simp) (by simp)
theorem OpQ.s (h : OpQ P o t bs y) (hg : o.guard = none) (hk : okOps o = true) : OpS P N ops o t bs y := fun a w hN hr hb K Q hK => by
  rw [if_pos (by simp [Region.wanted, hg])]
  exact h a w (reads_rep hk hr) hb K Q hK
theorem reads_guard {o : Oper} {j dj : Nat} {oj : Oper} {c : Bool} (hg : o.guard = some (j, c)) (hj : ops[j]? = some oj) (hd : oj.dst = some dj) : dj ∈ readsOf ops o := by
  unfold readsOf Oper.looksAt
  refine List.mem_append_right _ ?_
  simp [hg, hj, hd]
theorem OpS.guard {j dj : Nat} {oj : Oper} {want bc : Bool} (hg : o.guard = some (j, want)) (hj : ops[j]? = some oj) (hd : oj.dst = some dj) (hl : GB t dj want bc) (hlt : dj < N) (hq : bc = true → OpQ P o t bs y) (hk : okOps o = true) : OpS P N ops o t bs (.opt bc y) := fun a w hN hr hb K Q hK => by
  have hy := hl.yields hN (hr dj (reads_guard hg hj hd)) hj hd hlt
  have hw : Region.wanted o (yielded ops a.tmps) = bc := by simp only [Region.wanted, hg]; exact hy
  rw [hw]
  cases bc with
  | true =>
    rw [if_pos rfl]
    exact hq rfl a w (reads_rep hk hr) hb K Q fun u w' hu => hK u w' (.opt (fun _ => hu) (fun h => by cases h))
  | false =>
    rw [if_neg (by simp)]
    exact hK undef w (.opt (fun h => by cases h) fun _ => rfl) hb (Ext.refl _ _)
theorem OpS.opened {j dj : Nat} {oj : Oper} {want e : Bool} (hg : o.guard = some (j, want)) (hj : ops[j]? = some oj) (hd : oj.dst = some dj) (hl : Wk (look t dj) (.v (.bool e))) (he : e = want) (hlt : dj < N) (hq : OpQ P o t bs y) (hk : okOps o = true) : OpS P N ops o t bs y := fun a w hN hr hb K Q hK => by
  subst he
  have hy := (GB.v (want := e) (bc := true) hl (by simp)).yields hN (hr dj (reads_guard hg hj hd)) hj hd hlt
  have hw : Region.wanted o (yielded ops a.tmps) = true := by simp only [Region.wanted, hg]; exact hy
  rw [hw, if_pos rfl]
  exact hq a w (reads_rep hk hr) hb K Q hK
/-- What an operation tells that does not run. -/
abbrev offA : A := .opt false (.v (.bool false))
theorem OpS.shut {j dj : Nat} {oj : Oper} {want : Bool} (hg : o.guard = some (j, want)) (hj : ops[j]? = some oj) (hd : oj.dst = some dj) (hl : GB t dj want false) (hlt : dj < N) : OpS P N ops o t bs offA := fun a w hN hr hb K Q hK => by
  have hy := hl.yields hN (hr dj (reads_guard hg hj hd)) hj hd hlt
  have hw : Region.wanted o (yielded ops a.tmps) = false := by simp only [Region.wanted, hg]; exact hy
  rw [hw, if_neg (by simp)]
  exact hK undef w (.opt (fun h => by cases h) fun _ => rfl) hb (Ext.refl _ _)
/-- It runs. -/
def Opn (N : Nat) (ops : Array Oper) (o : Oper) (t : T) : Prop := ∀ (a : Act) (w : World) (Z : Zones), a.tmps.size = N → (∀ u ∈ readsOf ops o, Rep w Z (a.tmps.getD u undef) (look t u)) → Region.wanted o (yielded ops a.tmps) = true
theorem Opn.none (h : o.guard = none) : Opn N ops o t := fun _ _ _ _ _ => by simp [Region.wanted, h]
theorem Opn.known {j dj : Nat} {oj : Oper} {want e : Bool} (hg : o.guard = some (j, want)) (hj : ops[j]? = some oj) (hd : oj.dst = some dj) (hl : Wk (look t dj) (.v (.bool e))) (he : e = want) (hlt : dj < N) : Opn N ops o t := fun a w Z hN hr => by
  subst he
  have hy := (GB.v (want := e) (bc := true) hl (by simp)).yields hN (hr dj (reads_guard hg hj hd)) hj hd hlt
  simp only [Region.wanted, hg]; exact hy
/-- What was claimed: which operation, what it tells, on which blocks that hangs (none: on all that there are). -/
structure Clm where
  i : Nat
  y : A
  need : Option (List (Nat × List A))
def needs (L : List (Nat × List A)) (bs : BS) : Prop := ∀ x ∈ L, (x.1, Blk.cells x.2) ∈ bs
def claimed (cl : List Clm) (i : Nat) : Bool := cl.any fun c => Nat.beq c.i i
inductive AD (P : Program) (N : Nat) (ops : Array Oper) (Q : Exit → T → BS → Prop) : List Clm → T → BS → Prop where
  | done {cl t bs} (h : (List.range ops.size).all (claimed cl) = true) (hq : Q .normal t bs) : AD P N ops Q cl t bs
  | free {cl t bs} (i : Nat) {o y} (hi : ops[i]? = some o) (hn : claimed cl i = false) (hx : strictI ops i = true) (hd : (edgesOf ops i).all (claimed cl) = true) (hdn : okD N o.dst = true) (L : List (Nat × List A)) (hL : needs L bs) (hq : ∀ bs, needs L bs → OpS P N ops o t bs y) (h : AD P N ops Q (⟨i, y, some L⟩ :: cl) (putA t o.dst y) bs) : AD P N ops Q cl t bs
  | q {cl t bs} (i : Nat) {o y} (hi : ops[i]? = some o) (hn : claimed cl i = false) (hx : strictI ops i = true) (hd : (edgesOf ops i).all (claimed cl) = true) (hdn : okD N o.dst = true) (hq : OpS P N ops o t bs y) (h : AD P N ops Q (⟨i, y, none⟩ :: cl) (putA t o.dst y) bs) : AD P N ops Q cl t bs
  | w {cl t bs} (i : Nat) {o R} (hi : ops[i]? = some o) (hn : claimed cl i = false) (hx : strictI ops i = true) (hd : (edgesOf ops i).all (claimed cl) = true) (hdn : okD N o.dst = true) (hg : Opn N ops o t) (hk : okOps o = true) (hq : OpW P o t bs R)
      (ha : (List.range ops.size).all (fun j => claimed cl j || j == i || depB ops ops.size j i) = true)
      (hv : ∀ y bs', R y bs' → ∀ c ∈ cl, c.need = none → depB ops ops.size i c.i = false → ∀ oc, ops[c.i]? = some oc → OpS P N ops oc (putA t o.dst y) bs' c.y)
      (hm : ∀ y bs', R y bs' → ∀ c ∈ cl, ∀ L, c.need = some L → depB ops ops.size i c.i = false → needs L bs')
      (h : ∀ y bs', R y bs' → AD P N ops Q (⟨i, y, some []⟩ :: cl) (putA t o.dst y) bs') : AD P N ops Q cl t bs
  | last {cl t bs} (i : Nat) {o R} (hi : ops[i]? = some o) (hn : claimed cl i = false) (hall : (List.range ops.size).all (fun j => claimed cl j || j == i) = true) (hdep : (List.range ops.size).all (fun j => j == i || depB ops ops.size i j) = true) (hdn : okD N o.dst = true) (hg : Opn N ops o t) (hk : okOps o = true) (hq : OpW P o t bs R)
      (h : ∀ y bs', R y bs' → Q .normal (putA t o.dst y) bs') : AD P N ops Q cl t bs
  | alt {cl t bs} (i0 : Nat) {o0} (hi0 : ops[i0]? = some o0) (hn0 : claimed cl i0 = false) (R : Nat → A → BS → Prop)
      (hr : ∀ i o, ops[i]? = some o → claimed cl i = false → (edgesOf ops i).all (claimed cl) = true → strictI ops i = true ∧ okD N o.dst = true ∧ o.guard = none ∧ okOps o = true ∧ OpW P o t bs (R i) ∧
        (∀ y bs', R i y bs' → ∀ c ∈ cl, c.need = none → depB ops ops.size i c.i = false → ∀ oc, ops[c.i]? = some oc → OpS P N ops oc (putA t o.dst y) bs' c.y) ∧
        (∀ y bs', R i y bs' → ∀ c ∈ cl, ∀ L, c.need = some L → depB ops ops.size i c.i = false → needs L bs'))
      (h : ∀ i o y bs', ops[i]? = some o → claimed cl i = false → (edgesOf ops i).all (claimed cl) = true → R i y bs' → AD P N ops Q (⟨i, y, some []⟩ :: cl) (putA t o.dst y) bs') : AD P N ops Q cl t bs
theorem edge_lt (h : okAny ops = true) {i e : Nat} (hi : i < ops.size) (he : e ∈ edgesOf ops i) : e < i := by
  have := List.all_eq_true.1 h i (by simpa using hi)
  simp only [Bool.and_eq_true] at this
  have := List.all_eq_true.1 this.1 e he
  simpa [Nat.blt_eq] using this
theorem ok_dst (h : okAny ops = true) {i j d : Nat} (hi : i < ops.size) (hj : j < ops.size) (hij : i ≠ j) (hd : dstOf ops i = some d) : dstOf ops j ≠ some d := by
  have := List.all_eq_true.1 h i (by simpa using hi)
  simp only [Bool.and_eq_true] at this
  have := List.all_eq_true.1 this.2 j (by simpa using hj)
  simpa only [Bool.or_eq_true, beq_iff_eq, hij, false_or, hd, bne_iff_ne] using this
theorem ok_rd {i j d : Nat} (h : strictI ops i = true) (hj : j < ops.size) (hij : i ≠ j) (hd : dstOf ops i = some d) : ∀ oj, ops[j]? = some oj → d ∈ readsOf ops oj → i ∈ edgesOf ops j := by
  have h2 := List.all_eq_true.1 h j (by simpa using hj)
  simp only [Bool.or_eq_true, beq_iff_eq, hij, false_or, hd] at h2
  intro oj hoj hr
  rw [hoj] at h2
  simp only [Bool.or_eq_true, Bool.not_eq_true', List.contains_iff_mem] at h2
  rcases h2 with h2 | h2
  · have hc : (readsOf ops oj).contains d = true := List.contains_iff_mem.2 hr
    rw [hc] at h2; cases h2
  · exact h2
/-- A set of operations that holds all that must stand ahead. -/
def Closed (ops : Array Oper) (S : Nat → Prop) : Prop := ∀ i, S i → ∀ e ∈ edgesOf ops i, S e
theorem depB_in {S : Nat → Prop} (hS : Closed ops S) : ∀ (f i j : Nat), (∀ e ∈ edgesOf ops i, S e) → depB ops f i j = true → S j
  | 0, _, _, _, h => by cases h
  | f + 1, i, j, hi, h => by
    simp only [depB, List.any_eq_true, Bool.or_eq_true, beq_iff_eq] at h
    obtain ⟨e, he, h | h⟩ := h
    · subst h; exact hi e he
    · exact depB_in hS f e j (fun q hq => hS e (hi e he) q hq) h
/-- How far the run has come, seen from what is claimed. -/
structure Lag (N : Nat) (P : Program) (ops : Array Oper) (t0 : T) (cl : List Clm) (t : T) (bs : BS) (listed : Array Bool) (a : Act) (w : World) : Prop where
  size : listed.size = ops.size
  defers : a.defers = []
  tsize : a.tmps.size = N
  bsok : BsOk w bs
  sub : ∀ i, listed.getD i false = true → claimed cl i = true
  closed : Closed ops fun i => listed.getD i false = true
  clm : ∀ c ∈ cl, c.i < ops.size ∧ (∀ d, dstOf ops c.i = some d → look t d = c.y)
  uniq : ∀ c ∈ cl, ∀ c' ∈ cl, c.i = c'.i → c = c'
  cldown : ∀ c ∈ cl, ∀ e ∈ edgesOf ops c.i, claimed cl e = true
  done : ∀ c ∈ cl, listed.getD c.i false = true → ∀ d, dstOf ops c.i = some d → Rep w (zones bs) (a.tmps.getD d undef) c.y
  other : ∀ u, (∀ c ∈ cl, dstOf ops c.i ≠ some u) → Rep w (zones bs) (a.tmps.getD u undef) (look t u)
  str : ∀ c ∈ cl, strictI ops c.i = true
  pend : ∀ c ∈ cl, listed.getD c.i false = false → ∀ oc, ops[c.i]? = some oc → (∀ L, c.need = some L → ∀ bs, needs L bs → OpS P N ops oc t bs c.y) ∧ OpS P N ops oc t bs c.y
  dsts : ∀ i, i < ops.size → ∀ d, dstOf ops i = some d → d < N ∨ claimed cl i = false
theorem claimed_iff {cl : List Clm} {i : Nat} : claimed cl i = true ↔ ∃ c ∈ cl, c.i = i := by
  unfold claimed
  rw [List.any_eq_true]
  exact ⟨fun ⟨c, h1, h2⟩ => ⟨c, h1, Nat.eq_of_beq_eq_true h2⟩, fun ⟨c, h1, h2⟩ => ⟨c, h1, by subst h2; exact Nat.beq_refl _⟩⟩
/-- What one reads is there, once all that must stand ahead is listed. -/
theorem Lag.reads {t0 : T} {cl : List Clm} {listed : Array Bool} {a : Act} {w : World} (h : Lag N P ops t0 cl t bs listed a w) (hA : okAny ops = true) (hS : okSelf ops = true) {i : Nat} (hi : ops[i]? = some o) (he : ∀ e ∈ edgesOf ops i, listed.getD e false = true) :
    ∀ u ∈ readsOf ops o, Rep w (zones bs) (a.tmps.getD u undef) (look t u) := fun u hu => by
  have hlt : i < ops.size := (Array.getElem?_eq_some_iff.1 hi).1
  by_cases hex : ∃ c ∈ cl, dstOf ops c.i = some u
  · obtain ⟨c, hc, hd⟩ := hex
    have hne : c.i ≠ i := fun e => by
      have := List.all_eq_true.1 hS i (by simpa using hlt)
      rw [hi] at this
      have hd' : o.dst = some u := by rw [e] at hd; simpa [dstOf, hi] using hd
      simp only [hd', Bool.and_eq_true, Bool.not_eq_true'] at this
      have hc : (readsOf ops o).contains u = true := List.contains_iff_mem.2 hu
      rw [hc] at this; cases this.2
    have hedge := ok_rd (h.str c hc) hlt hne hd o hi hu
    have hl := he c.i hedge
    have := h.done c hc hl u hd
    rw [(h.clm c hc).2 u hd]; exact this
  · exact h.other u fun c hc hd => hex ⟨c, hc, hd⟩
theorem getD_set {listed : Array Bool} {i j : Nat} (hi : i < listed.size) : (listed.setIfInBounds i true).getD j false = if j = i then true else listed.getD j false := by
  simp only [Array.getD_eq_getD_getElem?, Array.getElem?_setIfInBounds]
  by_cases h : i = j
  · subst h; simp [hi]
  · rw [if_neg h, if_neg (Ne.symm h)]
/-- What stays told when a temporary is written that it does not read. -/
theorem OpS.frame {d : Option Tmp} {v : A} (h : OpS P N ops o t bs y) (hd : ∀ u, d = some u → u ∉ readsOf ops o) : OpS P N ops o (putA t d v) bs y := fun a w hN hr hb K Q hK => by
  refine h a w hN (fun u hu => ?_) hb K Q hK
  have := hr u hu
  cases d with
  | none => exact this
  | some d =>
    have hne : u ≠ d := fun e => hd d rfl (e ▸ hu)
    show Rep w (zones bs) _ (look t u)
    rw [show look (putA t (some d) v) u = look t u by show look ((d, v) :: t) u = _; rw [look_cons, if_neg hne]] at this
    exact this
theorem mem_ready_iff {listed : Array Bool} {j : Nat} (hs : listed.size = ops.size) : j ∈ Region.ready .any ops listed ↔ j < ops.size ∧ listed.getD j false = false ∧ ∀ e ∈ edgesOf ops j, listed.getD e false = true := by
  unfold Region.ready
  rw [List.mem_filter, List.mem_range]
  constructor
  · rintro ⟨h1, h2⟩
    have hj : ops[j]? = some ops[j] := Array.getElem?_eq_getElem h1
    simp only [Bool.and_eq_true, Bool.not_eq_true', hj, Option.map_some, Option.getD_some, Array.all_eq_true_iff_forall_mem] at h2
    refine ⟨h1, ?_, fun e he => ?_⟩
    · have h3 : j < listed.size := by omega
      have := h2.1
      simp only [Array.getD_eq_getD_getElem?, Array.getElem?_eq_getElem h3, Option.getD_some] at this ⊢
      exact this
    · simp only [edgesOf, hj, List.mem_map, List.mem_filter] at he
      obtain ⟨q, ⟨hq, hb⟩, rfl⟩ := he
      have := h2.2 q (by simpa using hq)
      simpa [hb] using this
  · rintro ⟨h1, h2, h3⟩
    have hj : ops[j]? = some ops[j] := Array.getElem?_eq_getElem h1
    refine ⟨h1, ?_⟩
    simp only [Bool.and_eq_true, Bool.not_eq_true', hj, Option.map_some, Option.getD_some, Array.all_eq_true_iff_forall_mem]
    refine ⟨?_, fun q hq => ?_⟩
    · have h4 : j < listed.size := by omega
      simp only [Array.getD_eq_getD_getElem?, Array.getElem?_eq_getElem h4, Option.getD_some] at h2 ⊢
      exact h2
    · by_cases hb : Region.binds .any q = true
      · have := h3 q.on (by simp only [edgesOf, hj, List.mem_map, List.mem_filter]; exact ⟨q, ⟨by simpa using hq, hb⟩, rfl⟩)
        simp [this]
      · simp [hb]
/-- Nothing is ready: all is listed. -/
theorem all_listed (hA : okAny ops = true) {listed : Array Bool} (hs : listed.size = ops.size) (hr : Region.ready .any ops listed = []) : ∀ i, i < ops.size → listed.getD i false = true := by
  intro i
  induction i using Nat.strongRecOn with
  | _ i ih =>
    intro hi
    cases hl : listed.getD i false with
    | true => rfl
    | false =>
      have : i ∈ Region.ready .any ops listed := (mem_ready_iff hs).2 ⟨hi, hl, fun e he => ih e (edge_lt hA hi he) (Nat.lt_trans (edge_lt hA hi he) hi)⟩
      rw [hr] at this; cases this
def unl (listed : Array Bool) : Nat := listed.toList.countP (· == false)
theorem unl_set {listed : Array Bool} {i : Nat} (hi : i < listed.size) (h : listed.getD i false = false) : unl (listed.setIfInBounds i true) + 1 = unl listed := by
  unfold unl
  have hg : listed.toList[i]? = some false := by
    simp only [Array.getElem?_toList]
    simp only [Array.getD_eq_getD_getElem?, Array.getElem?_eq_getElem hi, Option.getD_some] at h
    rw [Array.getElem?_eq_getElem hi, h]
  rw [Array.toList_setIfInBounds]
  generalize listed.toList = l at hg
  clear h hi listed
  induction l generalizing i with
  | nil => simp at hg
  | cons b r ih =>
    cases i with
    | zero => simp at hg; subst hg; simp
    | succ i =>
      rw [List.set_cons_succ, List.countP_cons, List.countP_cons]
      have := ih (i := i) (by simpa using hg)
      omega
theorem AD.sound (hA : okAny ops = true) (hS : okSelf ops = true) (w0 : World) (Z0 : Zones) (t0 : T) : ∀ (fuel : Nat) (cl : List Clm) (t : T) (bs : BS) (listed : Array Bool) (a : Act) (w : World),
    AD P N ops Q cl t bs → unl listed ≤ fuel → Lag N P ops t0 cl t bs listed a w → Ext w0 Z0 w (zones bs) → wpAny P .any ops (QQ N w0 Z0 Q) fuel listed a w := by
  have hend : ∀ (cl : List Clm) (t : T) (bs : BS) (listed : Array Bool) (a : Act) (w : World), AD P N ops Q cl t bs → Lag N P ops t0 cl t bs listed a w → Ext w0 Z0 w (zones bs) → Region.ready .any ops listed = [] → QQ N w0 Z0 Q .normal a w := by
    intro cl t bs listed a w hD hL hE hr
    have hall := all_listed hA hL.size hr
    cases hD with
    | done h hq =>
      refine ⟨t, bs, hq, ⟨hL.defers, hL.tsize, fun u => ?_, hL.bsok⟩, hE⟩
      by_cases hex : ∃ c ∈ cl, dstOf ops c.i = some u
      · obtain ⟨c, hc, hd⟩ := hex
        rw [(hL.clm c hc).2 u hd]
        exact hL.done c hc (hall _ (hL.clm c hc).1) u hd
      · exact hL.other u fun c hc hd => hex ⟨c, hc, hd⟩
    | free i hi hn => rw [hL.sub i (hall i (Array.getElem?_eq_some_iff.1 hi).1)] at hn; cases hn
    | q i hi hn => rw [hL.sub i (hall i (Array.getElem?_eq_some_iff.1 hi).1)] at hn; cases hn
    | w i hi hn => rw [hL.sub i (hall i (Array.getElem?_eq_some_iff.1 hi).1)] at hn; cases hn
    | last i hi hn => rw [hL.sub i (hall i (Array.getElem?_eq_some_iff.1 hi).1)] at hn; cases hn
    | alt i hi hn => rw [hL.sub i (hall i (Array.getElem?_eq_some_iff.1 hi).1)] at hn; cases hn
  intro fuel
  induction fuel with
  | zero =>
    intro cl t bs listed a w hD hu hL hE
    have hr : Region.ready .any ops listed = [] := by
      apply List.eq_nil_iff_forall_not_mem.2
      intro i hi
      obtain ⟨h1, h2, _⟩ := (mem_ready_iff hL.size).1 hi
      have := unl_set (i := i) (by rw [hL.size]; exact h1) h2
      omega
    exact ⟨hr, hend cl t bs listed a w hD hL hE hr⟩
  | succ fuel ih =>
    intro cl t bs listed a w hD hu hL hE
    refine ⟨hend cl t bs listed a w hD hL hE, fun i hi => ?_⟩
    obtain ⟨h1, h2, h3⟩ := (mem_ready_iff hL.size).1 hi
    have hu' : unl (listed.setIfInBounds i true) ≤ fuel := by
      have := unl_set (i := i) (by rw [hL.size]; exact h1) h2
      omega
    obtain ⟨oi, hoi⟩ : ∃ oi, ops[i]? = some oi := ⟨_, Array.getElem?_eq_getElem h1⟩
    have hli : i < listed.size := by rw [hL.size]; exact h1
    unfold wpOp
    rw [hoi]
    simp only
    -- one that is claimed
    have pending : ∀ (cl : List Clm) (t : T), AD P N ops Q cl t bs → Lag N P ops t0 cl t bs listed a w → claimed cl i = true → (if Region.wanted oi (yielded ops a.tmps) = true then oi.wp P a w (wpAny P .any ops (QQ N w0 Z0 Q) fuel (listed.setIfInBounds i true)) (QQ N w0 Z0 Q) ∨ oi.asks P a w ∧ LetsOut (QQ N w0 Z0 Q) else wpAny P .any ops (QQ N w0 Z0 Q) fuel (listed.setIfInBounds i true) (a.put oi.dst undef) w) := by
      intro cl t hD hL hcl
      obtain ⟨c, hc, e⟩ := claimed_iff.1 hcl
      clear hcl
      subst e
      have hp := (hL.pend c hc h2 oi hoi).2
      have hstep := hp a w hL.tsize (hL.reads hA hS hoi h3) hL.bsok (wpAny P .any ops (QQ N w0 Z0 Q) fuel (listed.setIfInBounds c.i true)) (QQ N w0 Z0 Q) fun u w' hu2 hb' he' => by
        refine ih cl t bs _ _ _ hD hu' ?_ (hE.trans he')
        have hdi : dstOf ops c.i = oi.dst := by simp [dstOf, hoi]
        have hget : ∀ q, (∀ d, oi.dst = some d → q ≠ d) → (a.put oi.dst u).tmps.getD q undef = a.tmps.getD q undef := fun q hq => by
          cases hdd : oi.dst with
          | none => rfl
          | some d =>
            simp only [Act.put, Array.getD_eq_getD_getElem?, Array.getElem?_setIfInBounds]
            rw [if_neg (fun e => hq d hdd e.symm)]
        refine ⟨by simp [hL.size], by cases hdd : oi.dst <;> exact hL.defers, by cases hdd : oi.dst <;> simp [Act.put, hL.tsize], hb', fun j hj => ?_, fun j hj e he => ?_, hL.clm, hL.uniq, hL.cldown, fun c2 hc2 hl2 d hd => ?_, fun q hq => ?_, hL.str, fun c2 hc2 hl2 => ?_, hL.dsts⟩
        · rw [getD_set hli] at hj
          split at hj
          · rename_i e; subst e; exact claimed_iff.2 ⟨c, hc, rfl⟩
          · exact hL.sub j hj
        · dsimp only at hj ⊢
          rw [getD_set hli] at hj ⊢
          by_cases e1 : e = c.i
          · rw [if_pos e1]
          · rw [if_neg e1]
            by_cases e2 : j = c.i
            · subst e2; exact h3 e he
            · rw [if_neg e2] at hj; exact hL.closed j hj e he
        · by_cases e : c2.i = c.i
          · have := hL.uniq c2 hc2 c hc e
            subst this
            have hdo : oi.dst = some d := by rw [← hdi]; exact hd
            have hdN : d < N := by
              rcases hL.dsts c2.i h1 d hd with h | h
              · exact h
              · rw [claimed_iff.2 ⟨c2, hc2, rfl⟩] at h; cases h
            rw [hdo, getD_put d (by rw [hL.tsize]; exact hdN), if_pos rfl]
            exact hu2
          · rw [getD_set hli, if_neg e] at hl2
            have hne : ∀ d', oi.dst = some d' → d ≠ d' := fun d' hd' ee => by
              subst ee
              exact ok_dst hA (hL.clm c2 hc2).1 h1 e hd (hdi.trans hd')
            rw [hget d hne]
            exact (hL.done c2 hc2 hl2 d hd).ext he'
        · rw [hget q fun d hd e => hq c hc (by rw [hdi, hd, e])]
          exact (hL.other q hq).ext he'
        · rw [getD_set hli] at hl2
          split at hl2
          · cases hl2
          · exact hL.pend c2 hc2 hl2
      split
      · rename_i hw; rw [if_pos hw] at hstep; exact .inl hstep
      · rename_i hw; rw [if_neg hw] at hstep; exact hstep
    have loud : ∀ (cl : List Clm) (t : T) (R : A → BS → Prop), Lag N P ops t0 cl t bs listed a w → claimed cl i = false → strictI ops i = true → (edgesOf ops i).all (claimed cl) = true → okD N oi.dst = true → Opn N ops oi t → okOps oi = true → OpW P oi t bs R →
        (∀ y bs', R y bs' → ∀ c ∈ cl, c.need = none → depB ops ops.size i c.i = false → ∀ oc, ops[c.i]? = some oc → OpS P N ops oc (putA t oi.dst y) bs' c.y) → (∀ y bs', R y bs' → ∀ c ∈ cl, ∀ L, c.need = some L → depB ops ops.size i c.i = false → needs L bs') →
        (∀ y bs', R y bs' → AD P N ops Q (⟨i, y, some []⟩ :: cl) (putA t oi.dst y) bs') → (if Region.wanted oi (yielded ops a.tmps) = true then oi.wp P a w (wpAny P .any ops (QQ N w0 Z0 Q) fuel (listed.setIfInBounds i true)) (QQ N w0 Z0 Q) ∨ oi.asks P a w ∧ LetsOut (QQ N w0 Z0 Q) else wpAny P .any ops (QQ N w0 Z0 Q) fuel (listed.setIfInBounds i true) (a.put oi.dst undef) w) := by
      intro cl t R hL hn hx hdep hdn hg hk hq hv hm h
      rw [if_pos (hg a w _ hL.tsize (hL.reads hA hS hoi h3))]
      refine .inl (hq a w (reads_rep hk (hL.reads hA hS hoi h3)) hL.bsok _ _ fun u w' y bs' hR hu2 hb' he' => ?_)
      refine ih (⟨i, y, some []⟩ :: cl) (putA t oi.dst y) bs' _ _ _ (h y bs' hR) hu' ?_ (hE.trans he')
      have hdi : dstOf ops i = oi.dst := by simp [dstOf, hoi]
      have hcn : ∀ c ∈ cl, c.i ≠ i := fun c hc e => by rw [claimed_iff.2 ⟨c, hc, e⟩] at hn; cases hn
      have hget : ∀ q, (∀ d, oi.dst = some d → q ≠ d) → (a.put oi.dst u).tmps.getD q undef = a.tmps.getD q undef := fun q hq => by
        cases hdd : oi.dst with
        | none => rfl
        | some d =>
          simp only [Act.put, Array.getD_eq_getD_getElem?, Array.getElem?_setIfInBounds]
          rw [if_neg (fun e => hq d hdd e.symm)]
      have hlk : ∀ q, (∀ d, oi.dst = some d → q ≠ d) → look (putA t oi.dst y) q = look t q := fun q hq => by
        cases hdd : oi.dst with
        | none => rfl
        | some d => show look ((d, y) :: t) q = _; rw [look_cons, if_neg (hq d hdd)]
      have hdN : ∀ d, oi.dst = some d → d < N := fun d hd => by rw [hd] at hdn; simpa [okD, Nat.blt_eq] using hdn
      have hne : ∀ c ∈ cl, ∀ d, dstOf ops c.i = some d → ∀ d', oi.dst = some d' → d ≠ d' := fun c hc d hd d' hd' ee => by
        subst ee
        exact ok_dst hA (hL.clm c hc).1 h1 (hcn c hc) hd (hdi.trans hd')
      refine ⟨by simp [hL.size], by cases hdd : oi.dst <;> exact hL.defers, by cases hdd : oi.dst <;> simp [Act.put, hL.tsize], hb', fun q hq => ?_, fun q hq e he => ?_, fun c hc => ?_, fun c hc c' hc' e => ?_, fun c hc e he => ?_, fun c hc hl d hd => ?_, fun q hq => ?_, fun c hc => ?_, fun c hc hl oc hoc => ?_, fun q hq d hd => ?_⟩
      · rw [getD_set hli] at hq
        split at hq
        · rename_i e; subst e; exact claimed_iff.2 ⟨⟨_, y, some []⟩, List.mem_cons_self, rfl⟩
        · obtain ⟨c, hc, e⟩ := claimed_iff.1 (hL.sub q hq)
          exact claimed_iff.2 ⟨c, by simp [hc], e⟩
      · dsimp only at hq ⊢
        rw [getD_set hli] at hq ⊢
        by_cases e1 : e = i
        · rw [if_pos e1]
        · rw [if_neg e1]
          by_cases e2 : q = i
          · subst e2; exact h3 e he
          · rw [if_neg e2] at hq; exact hL.closed q hq e he
      · rcases List.mem_cons.1 hc with rfl | hc
        · refine ⟨h1, fun d hd => ?_⟩
          have hdo : oi.dst = some d := by rw [← hdi]; exact hd
          rw [hdo]; show look ((d, y) :: t) d = y; rw [look_cons, if_pos rfl]
        · exact ⟨(hL.clm c hc).1, fun d hd => by rw [hlk d (hne c hc d hd)]; exact (hL.clm c hc).2 d hd⟩
      · rcases List.mem_cons.1 hc with rfl | hc
        · rcases List.mem_cons.1 hc' with rfl | hc'
          · rfl
          · exact absurd e.symm (hcn c' hc')
        · rcases List.mem_cons.1 hc' with rfl | hc'
          · exact absurd e (hcn c hc)
          · exact hL.uniq c hc c' hc' e
      · have key : claimed cl e = true := by
          rcases List.mem_cons.1 hc with rfl | hc
          · exact List.all_eq_true.1 hdep e he
          · exact hL.cldown c hc e he
        obtain ⟨c2, hc2, e2⟩ := claimed_iff.1 key
        exact claimed_iff.2 ⟨c2, by simp [hc2], e2⟩
      · rcases List.mem_cons.1 hc with rfl | hc
        · have hdo : oi.dst = some d := by rw [← hdi]; exact hd
          rw [hdo, getD_put d (by rw [hL.tsize]; exact hdN d hdo), if_pos rfl]
          exact hu2
        · rw [getD_set hli, if_neg (hcn c hc)] at hl
          rw [hget d (hne c hc d hd)]
          exact (hL.done c hc hl d hd).ext he'
      · have hqi : ∀ d, oi.dst = some d → q ≠ d := fun d hd e => hq ⟨i, y, some []⟩ List.mem_cons_self (by show dstOf ops i = _; rw [hdi, hd, e])
        rw [hget q hqi, hlk q hqi]
        exact (hL.other q fun c hc => hq c (by simp [hc])).ext he'
      · rcases List.mem_cons.1 hc with rfl | hc
        · exact hx
        · exact hL.str c hc
      · rcases List.mem_cons.1 hc with rfl | hc
        · rw [getD_set hli, if_pos rfl] at hl; cases hl
        · rw [getD_set hli, if_neg (hcn c hc)] at hl
          have hp := hL.pend c hc hl oc hoc
          have hnr : ∀ d, oi.dst = some d → d ∉ readsOf ops oc := fun d hd hr => by
            have hedge := ok_rd hx (hL.clm c hc).1 (Ne.symm (hcn c hc)) (hdi.trans hd) oc hoc hr
            rw [hL.cldown c hc i hedge] at hn; cases hn
          have hfree : ∀ L, c.need = some L → ∀ bs, needs L bs → OpS P N ops oc (putA t oi.dst y) bs c.y := fun L hf bs hnb => (hp.1 L hf bs hnb).frame hnr
          refine ⟨hfree, ?_⟩
          have hdf : depB ops ops.size i c.i = false := by
            cases hb : depB ops ops.size i c.i with
            | false => rfl
            | true =>
              have := depB_in (S := fun i => listed.getD i false = true) hL.closed _ i c.i h3 hb
              rw [hl] at this; cases this
          cases hcn2 : c.need with
          | some L => exact hfree L hcn2 bs' (hm y bs' hR c hc L hcn2 hdf)
          | none => exact hv y bs' hR c hc hcn2 hdf oc hoc
      · by_cases e : q = i
        · subst e
          exact .inl (hdN d (by rw [← hdi]; exact hd))
        · rcases hL.dsts q hq d hd with h | h
          · exact .inl h
          · refine .inr ?_
            cases hcl : claimed (⟨i, y, some []⟩ :: cl) q with
            | false => rfl
            | true =>
              obtain ⟨c, hc, e'⟩ := claimed_iff.1 hcl
              rcases List.mem_cons.1 hc with rfl | hc
              · exact absurd e'.symm e
              · rw [claimed_iff.2 ⟨c, hc, e'⟩] at h; cases h
    -- the claims go on until this one is among them, or its turn has come
    clear hu hend
    induction hD with
    | @done cl t bs h hq => exact pending cl t (.done h hq) hL (List.all_eq_true.1 h i (by simpa using h1))
    | @free cl t bs j oj y hj hn hx hd hdn L hN hq h ihD =>
      by_cases hc : claimed cl i = true
      · exact pending cl t (.free j hj hn hx hd hdn L hN hq h) hL hc
      · exact ihD (advance hA hS hL hj hn hx hd hdn (fun L' e => by cases e; exact hq) (hq bs hN)) hE pending loud
    | @q cl t bs j oj y hj hn hx hd hdn hq h ihD =>
      by_cases hc : claimed cl i = true
      · exact pending cl t (.q j hj hn hx hd hdn hq h) hL hc
      · exact ihD (advance hA hS hL hj hn hx hd hdn (fun _ h => by cases h) hq) hE pending loud
    | @w cl t bs j oj R hj hn hx hdep hdn hg hk hq ha hv hm h ihD =>
      by_cases hc : claimed cl i = true
      · exact pending cl t (.w j hj hn hx hdep hdn hg hk hq ha hv hm h) hL hc
      · have hji : i = j := by
          have := List.all_eq_true.1 ha i (by simpa using h1)
          simp only [Bool.or_eq_true, hc, beq_iff_eq, false_or, Bool.false_eq_true] at this
          rcases this with h4 | h4
          · exact h4
          · have := depB_in (S := fun i => listed.getD i false = true) hL.closed _ i j h3 h4
            rw [hL.sub j this] at hn; cases hn
        subst hji
        rw [hoi] at hj
        injection hj with hj
        subst hj
        exact loud cl t R hL hn hx hdep hdn hg hk hq hv hm h
    | @alt cl t bs j oj hj hn R hr h ihD =>
      by_cases hc : claimed cl i = true
      · exact pending cl t (.alt j hj hn R hr h) hL hc
      · have hc' : claimed cl i = false := by simpa using hc
        have hed : (edgesOf ops i).all (claimed cl) = true := List.all_eq_true.2 fun e he => hL.sub e (h3 e he)
        obtain ⟨k1, k2, k3, k4, k5, k6, k7⟩ := hr i oi hoi hc' hed
        exact loud cl t (R i) hL hc' k1 hed k2 (.none k3) k4 k5 k6 k7 fun y bs' hR => h i oi y bs' hoi hc' hed hR
    | @last cl t bs j oj R hj hn hall hdep hdn hg hk hq h =>
      by_cases hc : claimed cl i = true
      · exact pending cl t (.last j hj hn hall hdep hdn hg hk hq h) hL hc
      · have hji : i = j := by
          have := List.all_eq_true.1 hall i (by simpa using h1)
          simpa only [Bool.or_eq_true, hc, beq_iff_eq, false_or, Bool.false_eq_true] using this
        subst hji
        rw [hoi] at hj
        injection hj with hj
        subst hj
        rw [if_pos (hg a w _ hL.tsize (hL.reads hA hS hoi h3))]
        refine .inl (hq a w (reads_rep hk (hL.reads hA hS hoi h3)) hL.bsok _ _ fun u w' y bs' hR hu2 hb' he' => ?_)
        have hl2 : ∀ q, q < ops.size → (listed.setIfInBounds i true).getD q false = true := fun q hq2 => by
          rw [getD_set hli]
          by_cases e : q = i
          · rw [if_pos e]
          · rw [if_neg e]
            have := List.all_eq_true.1 hdep q (by simpa using hq2)
            simp only [Bool.or_eq_true, beq_iff_eq, e, false_or] at this
            exact depB_in (S := fun i => listed.getD i false = true) hL.closed _ i q h3 this
        have hrd : Region.ready .any ops (listed.setIfInBounds i true) = [] := by
          apply List.eq_nil_iff_forall_not_mem.2
          intro q hq2
          obtain ⟨k1, k2, _⟩ := (mem_ready_iff (by simp [hL.size])).1 hq2
          rw [hl2 q k1] at k2; cases k2
        have hdi : dstOf ops i = oi.dst := by simp [dstOf, hoi]
        have hdN : ∀ d, oi.dst = some d → d < N := fun d hd => by rw [hd] at hdn; simpa [okD, Nat.blt_eq] using hdn
        have hfin : QQ N w0 Z0 Q .normal (a.put oi.dst u) w' := by
          refine ⟨putA t oi.dst y, bs', h y bs' hR, ⟨by cases hdd : oi.dst <;> exact hL.defers, by cases hdd : oi.dst <;> simp [Act.put, hL.tsize], fun q => ?_, hb'⟩, hE.trans he'⟩
          by_cases hqd : oi.dst = some q
          · rw [hqd, getD_put q (by rw [hL.tsize]; exact hdN q hqd), if_pos rfl]
            show Rep w' (zones bs') u (look ((q, y) :: t) q)
            rw [look_cons, if_pos rfl]; exact hu2
          · have hget : (a.put oi.dst u).tmps.getD q undef = a.tmps.getD q undef := by
              cases hdd : oi.dst with
              | none => rfl
              | some d =>
                simp only [Act.put, Array.getD_eq_getD_getElem?, Array.getElem?_setIfInBounds]
                rw [if_neg (fun e => hqd (by rw [hdd, e]))]
            have hlk : look (putA t oi.dst y) q = look t q := by
              cases hdd : oi.dst with
              | none => rfl
              | some d => show look ((d, y) :: t) q = _; rw [look_cons, if_neg (fun e => hqd (by rw [hdd, e]))]
            rw [hget, hlk]
            by_cases hex : ∃ c ∈ cl, dstOf ops c.i = some q
            · obtain ⟨c, hc2, hd⟩ := hex
              rw [(hL.clm c hc2).2 q hd]
              have hci : c.i ≠ i := fun e => hc (claimed_iff.2 ⟨c, hc2, e⟩)
              have := hl2 c.i (hL.clm c hc2).1
              rw [getD_set hli, if_neg hci] at this
              exact (hL.done c hc2 this q hd).ext he'
            · exact (hL.other q fun c hc2 hd => hex ⟨c, hc2, hd⟩).ext he'
        cases fuel with
        | zero => exact ⟨hrd, hfin⟩
        | succ fuel => exact ⟨fun _ => hfin, fun q hq2 => by rw [hrd] at hq2; cases hq2⟩
where
  advance {t0 : T} {cl : List Clm} {listed : Array Bool} {a : Act} {w : World} {bs : BS} {t : T} {j : Nat} {oj : Oper} {y : A} {f : Option (List (Nat × List A))} (hA : okAny ops = true) (hS : okSelf ops = true) (hL : Lag N P ops t0 cl t bs listed a w) (hj : ops[j]? = some oj) (hn : claimed cl j = false) (hx : strictI ops j = true) (hdep : (edgesOf ops j).all (claimed cl) = true) (hdn : okD N oj.dst = true)
      (hfq : ∀ L, f = some L → ∀ bs, needs L bs → OpS P N ops oj t bs y) (hq : OpS P N ops oj t bs y) : Lag N P ops t0 (⟨j, y, f⟩ :: cl) (putA t oj.dst y) bs listed a w := by
    have h1 : j < ops.size := (Array.getElem?_eq_some_iff.1 hj).1
    have hdi : dstOf ops j = oj.dst := by simp [dstOf, hj]
    have hcn : ∀ c ∈ cl, c.i ≠ j := fun c hc e => by rw [claimed_iff.2 ⟨c, hc, e⟩] at hn; cases hn
    have hlj : listed.getD j false = false := by
      cases hb : listed.getD j false with
      | false => rfl
      | true => rw [hL.sub j hb] at hn; cases hn
    have hlk : ∀ q, (∀ d, oj.dst = some d → q ≠ d) → look (putA t oj.dst y) q = look t q := fun q hq => by
      cases hdd : oj.dst with
      | none => rfl
      | some d => show look ((d, y) :: t) q = _; rw [look_cons, if_neg (hq d hdd)]
    have hne : ∀ c ∈ cl, ∀ d, dstOf ops c.i = some d → ∀ d', oj.dst = some d' → d ≠ d' := fun c hc d hd d' hd' ee => by
      subst ee
      exact ok_dst hA (hL.clm c hc).1 h1 (hcn c hc) hd (hdi.trans hd')
    have hself : ∀ d, oj.dst = some d → d ∉ readsOf ops oj := fun d hd hr => by
      have := List.all_eq_true.1 hS j (by simpa using h1)
      rw [hj] at this
      simp only [hd, Bool.and_eq_true, Bool.not_eq_true'] at this
      have hc : (readsOf ops oj).contains d = true := List.contains_iff_mem.2 hr
      rw [hc] at this; cases this.2
    refine ⟨hL.size, hL.defers, hL.tsize, hL.bsok, fun q hq => ?_, hL.closed, fun c hc => ?_, fun c hc c' hc' e => ?_, fun c hc e he => ?_, fun c hc hl d hd => ?_, fun q hq => ?_, fun c hc => ?_, fun c hc hl oc hoc => ?_, fun q hq d hd => ?_⟩
    · obtain ⟨c, hc, e⟩ := claimed_iff.1 (hL.sub q hq)
      exact claimed_iff.2 ⟨c, by simp [hc], e⟩
    · rcases List.mem_cons.1 hc with rfl | hc
      · refine ⟨h1, fun d hd => ?_⟩
        have hdo : oj.dst = some d := by rw [← hdi]; exact hd
        rw [hdo]; show look ((d, y) :: t) d = y; rw [look_cons, if_pos rfl]
      · exact ⟨(hL.clm c hc).1, fun d hd => by rw [hlk d (hne c hc d hd)]; exact (hL.clm c hc).2 d hd⟩
    · rcases List.mem_cons.1 hc with rfl | hc
      · rcases List.mem_cons.1 hc' with rfl | hc'
        · rfl
        · exact absurd e.symm (hcn c' hc')
      · rcases List.mem_cons.1 hc' with rfl | hc'
        · exact absurd e (hcn c hc)
        · exact hL.uniq c hc c' hc' e
    · have key : claimed cl e = true := by
        rcases List.mem_cons.1 hc with rfl | hc
        · exact List.all_eq_true.1 hdep e he
        · exact hL.cldown c hc e he
      obtain ⟨c2, hc2, e2⟩ := claimed_iff.1 key
      exact claimed_iff.2 ⟨c2, by simp [hc2], e2⟩
    · rcases List.mem_cons.1 hc with rfl | hc
      · rw [hlj] at hl; cases hl
      · exact hL.done c hc hl d hd
    · rw [hlk q fun d hd e => hq ⟨j, y, f⟩ List.mem_cons_self (by show dstOf ops j = _; rw [hdi, hd, e])]
      exact hL.other q fun c hc => hq c (by simp [hc])
    · rcases List.mem_cons.1 hc with rfl | hc
      · exact hx
      · exact hL.str c hc
    · rcases List.mem_cons.1 hc with rfl | hc
      · rw [hj] at hoc
        injection hoc with hoc
        subst hoc
        exact ⟨fun L hf bs hnb => (hfq L hf bs hnb).frame hself, hq.frame hself⟩
      · have hp := hL.pend c hc hl oc hoc
        have hnr : ∀ d, oj.dst = some d → d ∉ readsOf ops oc := fun d hd hr => by
          have hedge := ok_rd hx (hL.clm c hc).1 (Ne.symm (hcn c hc)) (hdi.trans hd) oc hoc hr
          rw [hL.cldown c hc j hedge] at hn; cases hn
        exact ⟨fun L hf bs hnb => (hp.1 L hf bs hnb).frame hnr, hp.2.frame hnr⟩
    · by_cases e : q = j
      · subst e
        refine .inl ?_
        have hdo : oj.dst = some d := by rw [← hdi]; exact hd
        rw [hdo] at hdn; simpa [okD, Nat.blt_eq] using hdn
      · rcases hL.dsts q hq d hd with h | h
        · exact .inl h
        · refine .inr ?_
          cases hcl : claimed (⟨j, y, f⟩ :: cl) q with
          | false => rfl
          | true =>
            obtain ⟨c, hc, e'⟩ := claimed_iff.1 hcl
            rcases List.mem_cons.1 hc with rfl | hc
            · exact absurd e'.symm e
            · rw [claimed_iff.2 ⟨c, hc, e'⟩] at h; cases h
end
/-- A region that draws its order. -/
theorem AW.draw {P : Program} {N id : Nat} {l : List Oper} {Q : Exit → T → BS → Prop} {t : T} {bs : BS} (hm : P.follows .mixedOrders = true) (hA : okAny l.toArray = true) (hS : okSelf l.toArray = true) (h : AD P N l.toArray Q [] t bs) : AW P N (.region id l.toArray true) Q t bs := fun w0 Z0 a w hg he => by
  refine wp_region_any hm ?_
  have hd : BsOk { w with drawn := w.drawn + 1 } bs ∧ Ext w (zones bs) { w with drawn := w.drawn + 1 } (zones bs) := hg.bs.keep rfl rfl rfl (Nat.le_refl _) fun _ _ => rfl
  refine AD.sound hA hS w0 Z0 t _ [] t bs _ a _ h ?_ ?_ (he.trans hd.2)
  · unfold unl; exact Nat.le_trans List.countP_le_length (by simp)
  · refine ⟨by simp, hg.defers, hg.size, hd.1, fun i hi => ?_, fun i hi => ?_, by simp, by simp, by simp, by simp, fun u _ => (hg.tmps u).ext hd.2, by simp, by simp, fun i _ d _ => .inr rfl⟩
    all_goals
      exfalso
      simp only [Array.getD_eq_getD_getElem?, Array.getElem?_replicate] at hi
      split at hi <;> simp at hi
end Go.Proofs.YtnkkfmnpkgjabaaGreat.X

/- The same logic: texts and bytes, structs that are built; what one's own becomes once it is read only. -/
namespace Go.Proofs.YtnkkfmnpkgjabaaGreat.X
open Go.RowKit
set_option linter.unusedVariables false
set_option linter.unusedSimpArgs false

section
variable {P : Program} {o : Oper} {t : T} {bs : BS} {y : A} {x z : Operand} {ty ty2 : TypeId} {d : TypeDesc} {sz by_ : Nat}
theorem OpQ.idx_map {α : Type} {e : TypeId} {k : IntKind} {i : Int} {xs : List α} {enc : α → List A} {q : α} {s1 b1 : Nat} {d2 : TypeDesc} {s2 b2 : Nat} [h1 : TI P ty (.slice e) s1 b1] [h2 : TI P e d2 s2 b2] (ho : o.op = .indexAddr ty x z) (hx : Wk (evA t x) (.sl (xs.map enc))) (hz : Wk (evA t z) (.v (.int k i))) (h0 : 0 ≤ i) (hr : xs[i.toNat]? = some q) (hl : (enc q).length = s2) : OpQ P o t bs (.ep (enc q)) :=
  .idx_sl ho hx hz h0 (by rw [List.getElem?_map, hr]; rfl) hl
/-! ### texts and bytes -/
theorem flat_bytes (l : List UInt8) : (l.map byteRow).flatten = l.map fun b => A.v (.int .u8 b.toNat) := by
  induction l with
  | nil => rfl
  | cons b r ih => rw [List.map_cons, List.flatten_cons, ih]; rfl
theorem OpQ.to_bytes {e : TypeId} {s : ByteArray} {s1 b1 s2 b2 s3 b3 : Nat} [h1 : TI P ty .string s1 b1] [h2 : TI P ty2 (.slice e) s2 b2] [h3 : TI P e (.int .u8) s3 b3] (ho : o.op = .convert ty ty2 x) (hx : Wk (evA t x) (.v (.string s))) (hs : s.size ≤ 140737488355328) : OpQ P o t bs (.sl (s.data.toList.map byteRow)) := by
  intro a w h hb K Q hK
  have e1 := (op_rep h (x := x) (by simp [ho, Op.operands]) hx).val
  have hrun := Lib.run_convert_string_bytes (P := P) w ty ty2 e s h1.und h2.und h3.und
  obtain ⟨b1', e1'⟩ := hb.keep (w' := Lib.bytesWorld w e s) (by unfold Lib.bytesWorld World.freeze; rw [if_neg (by decide)]; rfl) (by unfold Lib.bytesWorld World.freeze; rw [if_neg (by decide)]; rfl) (by unfold Lib.bytesWorld World.freeze; rw [if_neg (by decide)]; rfl) (by rw [Lib.bytesWorld_size]; omega) (Lib.bytesWorld_at_old w e s)
  unfold Oper.wp
  rw [show (execOp a.eval o).run P w = .ok (.value (.slice (some ⟨w.heap.size, 0, none⟩) s.size (grownCap w s.size 0 e))) (Lib.bytesWorld w e s) by simp only [execOp, ho, e1, Sem.run_bind, hrun, Result.andThen_ok, Sem.run_pure]]
  refine hK _ _ (Rep.new_row (Lib.bytesWorld_at_new w e s) (by simp) (grownCap_ge _ _ _ _) (grownCap_le_maxLen _ _ _ _ (by unfold maxLen; omega)) (sz := 1) (fun r hr => by obtain ⟨b, _, rfl⟩ := List.mem_map.1 hr; rfl) (fun k q hk => ?_) (fun k _ => stable_new hb (Nat.le_refl _))) b1' e1'
  rw [flat_bytes, List.getElem?_map, Option.map_eq_some_iff] at hk
  obtain ⟨b, hb2, rfl⟩ := hk
  have hlt : k < s.data.size := by simpa using (List.getElem?_eq_some_iff.1 hb2).1
  have hg : (Lib.bytesCells w e s)[k]? = some (.int .u8 b.toNat) := by
    unfold Lib.bytesCells
    rw [Array.getElem?_append_left (by simpa using hlt)]
    simp only [Array.getElem?_toList] at hb2
    simp [hb2]
  have hk2 : k < (Lib.bytesCells w e s).size := (Array.getElem?_eq_some_iff.1 hg).1
  rw [show (Lib.bytesCells w e s).getD k undef = .int .u8 b.toNat by simp [hg]]
  exact ⟨.v rfl, rfl, hk2⟩
theorem fold_bytes : ∀ (l : List UInt8) (s : ByteArray), (l.map fun b => ((b.toNat : Nat) : Int)).foldl (fun r n => r.push (UInt8.ofNat n.toNat)) s = ⟨s.data ++ l.toArray⟩
  | [], s => by simp
  | b :: l, s => by
    rw [List.map_cons, List.foldl_cons, fold_bytes l]
    show (⟨s.data.push (UInt8.ofNat ((b.toNat : Int)).toNat) ++ l.toArray⟩ : ByteArray) = _
    rw [Int.toNat_natCast, UInt8.ofNat_toNat]
    congr 1
    simp
theorem OpQ.of_bytes {e : TypeId} {l : List UInt8} {s1 b1 s2 b2 s3 b3 : Nat} [h1 : TI P ty (.slice e) s1 b1] [h2 : TI P ty2 .string s2 b2] [h3 : TI P e (.int .u8) s3 b3] (ho : o.op = .convert ty ty2 x) (hx : Wk (evA t x) (.sl (l.map byteRow))) : OpQ P o t bs (.v (.string ⟨l.toArray⟩)) :=
  .of_run fun a w h hb => by
    obtain ⟨Ad, c, us, e1, hl, _, ha, hr⟩ := (op_rep h (x := x) (by simp [ho, Op.operands]) hx).sl_list (sz := 1) (fun r hr => by obtain ⟨b, _, rfl⟩ := List.mem_map.1 hr; rfl)
    rw [List.length_map] at e1 hl
    have hus : us = l.map fun b => Value.int .u8 b.toNat := by
      apply List.ext_getElem?
      intro k
      by_cases hk : k < l.length
      · have hx2 : ((l.map byteRow).flatten)[k]? = some (.v (.int .u8 l[k].toNat)) := by rw [flat_bytes]; simp [hk]
        have := (hr k _ hx2).val
        have hk2 : k < us.length := by omega
        rw [List.getElem?_eq_getElem hk2, List.getElem?_map, List.getElem?_eq_getElem hk]
        rw [List.getD_eq_getElem?_getD, List.getElem?_eq_getElem hk2] at this
        simpa using this
      · rw [List.getElem?_eq_none (by omega), List.getElem?_eq_none (by simp; omega)]
    refine ⟨_, ?_, .v rfl⟩
    rcases Nat.eq_zero_or_pos l.length with h0 | hp
    · have : l = [] := List.eq_nil_of_length_eq_zero h0
      subst this
      simp only [execOp, ho, e1, Sem.run_bind, run_convert_bytes_string w ty ty2 e Ad _ c h1.und h3.und h2.und]
      cases Ad with
      | none => simp [Conv.bytesToString]; rfl
      | some ad => rw [List.length_nil, run_bytesToString w ad 0 c [] (by simp [loadCells, loadCellsFrom])]; rfl
    · obtain ⟨g, p, rfl, hc⟩ := ha (by simpa using hp)
      have hld := run_loadCells_list (P := P) w ⟨g, p, none⟩ us (fun j v hj => by rw [Addr.add_mid]; exact hc j v hj)
      rw [hus] at hld
      simp only [List.length_map] at hld
      have := run_bytesToString (P := P) w ⟨g, p, none⟩ l.length c (l.map fun b => ((b.toNat : Nat) : Int)) (by rw [hld]; simp [Function.comp_def])
      rw [fold_bytes] at this
      simp only [execOp, ho, e1, Sem.run_bind, run_convert_bytes_string w ty ty2 e _ _ c h1.und h3.und h2.und, this, Result.andThen_ok, Sem.run_pure]
      simp [ByteArray.empty, ByteArray.emptyWithCapacity]
      rfl
/-! ### 'build' -/
/-- Parts of a struct's value are laid over its zero. -/
inductive Bld (P : Program) (t : T) (pl : Nat → Option (Nat × Nat)) : List (Nat × Operand) → List A → List A → Prop where
  | nil (cs : List A) : Bld P t pl [] cs cs
  | cons {i off s : Nat} {x : Operand} {y : A} {r : List (Nat × Operand)} {cs cs1 cs' : List A} (hp : pl i = some (off, s)) (h : Wk (evA t x) y) (hc : y.isCell = true ∨ ∃ xs, y = .agg xs) (hl : (cellsOf y).length = s) (hb : off + s ≤ cs.length) (hcs : spl cs off (cellsOf y) = cs1) (k : Bld P t pl r cs1 cs') : Bld P t pl ((i, x) :: r) cs cs'
theorem Bld.run {pl : Nat → Option (Nat × Nat)} {r : List (Nat × Operand)} {cs cs' : List A} (h : Bld P t pl r cs cs') {a : Act} {w : World} {arr : Array Value} (hx : ∀ q ∈ r, Rep w (zones bs) (a.eval q.2) (evA t q.2)) (hr : CellsRep w (zones bs) arr cs) :
    ∃ arr', Instr.fill pl arr (r.map fun q => (q.1, a.eval q.2)) = some arr' ∧ CellsRep w (zones bs) arr' cs' := by
  induction h generalizing arr with
  | nil => exact ⟨arr, rfl, hr⟩
  | @cons i off s x y r cs cs1 cs' hp h hc hl hb hcs k ih =>
    subst hcs
    obtain ⟨l, hcell⟩ := ((hx (i, x) (by simp)).wk h).cells hc
    simp only at l hcell
    have hf : (a.eval x).cells.zipIdx.foldl (fun cs (q : Value × Nat) => match q with | (c, j) => cs.setIfInBounds (off + j) c) arr = (spl arr.toList off (a.eval x).cells.toList).toArray := by
      have : (a.eval x).cells.zipIdx.foldl (fun cs q => cs.setIfInBounds (off + q.2) q.1) arr = (spl arr.toList off (a.eval x).cells.toList).toArray := by
        rw [← Array.foldl_toList, Array.toList_zipIdx, fill_listA _ off 0 arr, Nat.add_zero]
      exact this
    rw [List.map_cons, Instr.fill]
    simp only [hp]
    rw [if_neg (by simp [l, hl]; have := hr.1; omega), hf]
    refine ih (fun q hq => hx q (by simp [hq])) ⟨by simp [spl_len, hr.1], fun k q hk => ?_⟩
    rw [spl_get _ cs off k (by omega)] at hk
    have hget : (spl arr.toList off (a.eval x).cells.toList).toArray.getD k undef = if off ≤ k ∧ k < off + (cellsOf y).length then (a.eval x).cells.getD (k - off) undef else arr.getD k undef := by
      simp only [Array.getD_eq_getD_getElem?, List.getElem?_toArray]
      rw [spl_get _ arr.toList off k (by simp [l]; have := hr.1; omega)]
      simp only [Array.length_toList, l]
      split <;> simp
    rw [hget]
    split at hk
    · rename_i hin; rw [if_pos hin]; exact hcell _ q hk
    · rename_i hout; rw [if_neg hout]; exact hr.2 k q hk
theorem CellsRep.agg {w : World} {Z : Zones} {arr : Array Value} {cs : List A} (h : CellsRep w Z arr cs) : Rep w Z (.agg arr) (.agg cs) := .agg h.1 (fun k x hk => (h.2 k x hk).1) fun k x hk => (h.2 k x hk).2
def plS (P : Program) (fs : Array Field) (i : Nat) : Option (Nat × Nat) := (fs[i]?).map fun f => (f.offset, sizeN P f.type)
theorem run_places (fs : Array Field) (h : fs.all (fun f => (P.info? f.type).isSome) = true) (w : World) : (fs.mapM fun f => (do pure (f.offset, ← sizeOf f.type) : Sem (Nat × Nat))).run P w = .ok (fs.map fun f => (f.offset, sizeN P f.type)) w := by
  have key : ∀ l : List Field, (∀ f ∈ l, (P.info? f.type).isSome = true) → (l.mapM fun f => (do pure (f.offset, ← sizeOf f.type) : Sem (Nat × Nat))).run P w = .ok (l.map fun f => (f.offset, sizeN P f.type)) w := fun l => by
    induction l with
    | nil => intro _; simp
    | cons f r ih =>
      intro h
      obtain ⟨i, hi⟩ := Option.isSome_iff_exists.1 (h f (by simp))
      have h1 : (sizeOf f.type).run P w = .ok i.size w := by simp [sizeOf, typeInfo, hi]
      have h2 : sizeN P f.type = i.size := by simp [sizeN, hi]
      simp only [List.mapM_cons, Sem.run_bind, h1, Result.andThen_ok, Sem.run_pure, ih (fun q hq => h q (by simp [hq])), List.map_cons, h2]
  have hl : ∀ f ∈ fs.toList, (P.info? f.type).isSome = true := fun f hf => by
    have := Array.all_eq_true_iff_forall_mem.1 h f (by simpa using hf)
    exact this
  have := key fs.toList hl
  rw [Array.mapM_eq_mapM_toList]
  simp only [Sem.run_map, this, Result.andThen_ok]
  congr 1
  exact Array.toList_inj.1 (by simp)
/-- Where a struct's fields lie, and how long they are. -/
class TS (P : Program) (t : TypeId) (l : outParam (List (Nat × Nat))) : Prop where
  h : (P.underlying t).map (fun d => match d with | .struct fs => (fs.toList.map (fun f => (f.offset, sizeN P f.type)), fs.all (fun f => (P.info? f.type).isSome)) | _ => ([], false)) = some (l, true)
theorem TS.pl {l : List (Nat × Nat)} {fs : Array Field} (h : TS P ty l) (h1 : TI P ty (.struct fs) sz by_) : (∀ i, plS P fs i = l[i]?) ∧ fs.all (fun f => (P.info? f.type).isSome) = true := by
  have := h.h
  rw [h1.und] at this
  simp only [Option.map_some, Option.some.injEq, Prod.mk.injEq] at this
  refine ⟨fun i => ?_, this.2⟩
  rw [← this.1]; simp [plS]
theorem OpQ.build_struct {fs : Array Field} {parts : Array (Nat × Operand)} {l : List (Nat × Nat)} {zs : List Value} {cs cs' : List A} [h1 : TI P ty (.struct fs) sz by_] [hs : TS P ty l] [hz : TC P ty zs cs] (ho : o.op = .build ty parts) (hb : Bld P t (fun i => l[i]?) parts.toList cs cs') : OpQ P o t bs (.agg cs') := by
  have hall := (hs.pl h1).2
  have hb : Bld P t (plS P fs) parts.toList cs cs' := by rw [show plS P fs = fun i => l[i]? from funext (hs.pl h1).1]; exact hb
  refine .of_run fun a w h hbs => ?_
  obtain ⟨zv, hz1, hz2⟩ := hz.z.run
  obtain ⟨arr', hf, hr⟩ := hb.run (bs := bs) (a := a) (w := w) (fun q hq => h q.2 (by simp only [ho, Op.operands]; simp; exact ⟨q.1, by simpa using hq⟩)) (zero_rep hz w _)
  refine ⟨.agg arr', ?_, hr.agg⟩
  have hpl : (fun i => (fs.map fun f => (f.offset, sizeN P f.type))[i]?) = plS P fs := by funext i; simp [plS]
  simp only [execOp, ho, Instr.build, Sem.run_bind, hz1, Result.andThen_ok, h1.run_und, run_places fs hall, hz2]
  rw [hpl, show (parts.map fun (q : Nat × Operand) => (q.1, a.eval q.2)).toList = parts.toList.map fun q => (q.1, a.eval q.2) by simp]
  rw [hf]
  simp
theorem OpQ.build_arr {n : Nat} {e : TypeId} {d2 : TypeDesc} {s2 b2 : Nat} {parts : Array (Nat × Operand)} {zs : List Value} {cs cs' : List A} [h1 : TI P ty (.array n e) sz by_] [h2 : TI P e d2 s2 b2] [hz : TC P ty zs cs] (ho : o.op = .build ty parts) (hb : Bld P t (fun i => some (i * s2, s2)) parts.toList cs cs') : OpQ P o t bs (.agg cs') := by
  refine .of_run fun a w h hbs => ?_
  obtain ⟨zv, hz1, hz2⟩ := hz.z.run
  obtain ⟨arr', hf, hr⟩ := hb.run (bs := bs) (a := a) (w := w) (fun q hq => h q.2 (by simp only [ho, Op.operands]; simp; exact ⟨q.1, by simpa using hq⟩)) (zero_rep hz w _)
  refine ⟨.agg arr', ?_, hr.agg⟩
  simp only [execOp, ho, Instr.build, Sem.run_bind, hz1, Result.andThen_ok, h1.run_und, h2.sizeOf_, hz2]
  rw [show (parts.map fun (q : Nat × Operand) => (q.1, a.eval q.2)).toList = parts.toList.map fun q => (q.1, a.eval q.2) by simp]
  rw [hf]
  simp
end
/-! ### one's own becomes read only -/
/-- Block g is written no more: a slice of its cells is read from now on. -/
inductive Frz (g : Nat) (cs : List A) : A → A → Prop where
  | refl (a : A) : Frz g cs a a
  | ms {len cap : Nat} {rows : List (List A)} (sz : Nat) (hs : ∀ r ∈ rows, r.length = sz) (hl : rows.length = len) (hc : len ≤ cap) (hm : cap ≤ maxLen) (hr : cs.take (len * sz) = rows.flatten) : Frz g cs (.ms g 0 len cap) (.sl rows)
theorem Frz.rep {w : World} {bs bs' : BS} {g : Nat} {cs : List A} {b : Blk} {u : Value} {x y : A} (hb : BsOk w bs) (hm : (g, .cells cs) ∈ bs) (hsub : List.Sublist bs' bs) (hg : ∀ q ∈ bs', q.1 ≠ g) (h : Rep w (zones bs) u x) (k : Frz g cs x y) : Rep w (zones bs') u y := by
  obtain ⟨_, hz⟩ := hb.less hsub
  cases k with
  | refl => exact h.less hz
  | @ms len cap rows sz hs hl hc hm2 hr =>
    have e := h.ms_inv
    subst e
    obtain ⟨arr, t, h1, h2, h3⟩ := hb.get hm
    refine Rep.new_row h1 hl hc hm2 hs (fun k q hk => ?_) (fun k _ z hzz he => ?_)
    · have hlt : k < len * sz := by have := (List.getElem?_eq_some_iff.1 hk).1; rwa [flat_lenA hs, hl] at this
      rw [← hr, List.getElem?_take_of_lt hlt] at hk
      obtain ⟨q1, q2⟩ := h3 k q hk
      exact ⟨q1.less hz, q2, by rw [h2]; exact (List.getElem?_eq_some_iff.1 hk).1⟩
    · obtain ⟨xb, hxb, rfl⟩ := mem_zones.1 hzz
      exact absurd he (hg xb hxb)
end Go.Proofs.YtnkkfmnpkgjabaaGreat.X

/- The runner: structs, arrays, rows are put together; appends. -/
namespace Go.Proofs.YtnkkfmnpkgjabaaGreat.Y
open Go.RowKit
set_option linter.unusedVariables false
set_option linter.unusedSimpArgs false
section
variable {P : Program} {ξ : Nat → Int} {o : Oper} {S : St} {k : Kt} {ty ty2 : TypeId} {x z y : Operand}
abbrev LF := St → V → K1 → Bool
noncomputable def fill1 (off sz : Nat) (f : St → K1 → Bool) (g : LF) (S : St) (l : V) (k : K1) : Bool := f S fun v => vCells v fun cl => Bool.casesOn (lenIs cl sz) false (vspl l cl off fun l' => g S l' k)
/-- Parts are laid over cells. -/
noncomputable def fillL (pl : Nat → Option (Nat × Nat)) (parts : List (Nat × Operand)) : F LF := List.rec (motive := fun _ => F LF) (.mk fun _ l k => k l)
  (fun q _ ih => match pl q.1 with
    | some (off, sz) => F.casesOn (opd q.2) fun f => F.casesOn ih fun g => .mk (fill1 off sz f g)
    | none => .mk fun _ _ _ => false) parts
theorem fillL_ok {pl : Nat → Option (Nat × Nat)} : ∀ {parts : List (Nat × Operand)} {S : St} {l : V} {k : K1}, (fillL pl parts).get S l k = true → ∃ l', k l' = true ∧ ∀ ρ a (arr : Array Value), (∀ q ∈ parts, Tv ρ ξ (opS (slots S) q.2) (a.eval q.2)) → TvL ρ ξ l arr.toList → (∀ c ∈ arr.toList, c.oneCell' = true) →
    ∃ arr', Instr.fill pl arr (parts.map fun q => (q.1, Act.eval a q.2)) = some arr' ∧ TvL ρ ξ l' arr'.toList ∧ ∀ c ∈ arr'.toList, c.oneCell' = true
  | [], S, l, k, h => ⟨l, h, fun ρ a arr _ h1 h2 => ⟨arr, rfl, h1, h2⟩⟩
  | (i, x) :: r, S, l, k, h => by
    have hu : (fillL pl ((i, x) :: r)).get = (match pl i with
      | some (off, sz) => F.casesOn (opd x) fun f => F.casesOn (fillL pl r) fun g => F.mk (fill1 off sz f g)
      | none => .mk fun _ _ _ => false : F LF).get := rfl
    rw [hu] at h
    cases hp : pl i with
    | none => rw [hp] at h; cases h
    | some q =>
      obtain ⟨off, sz⟩ := q
      rw [hp] at h
      have h : fill1 off sz (opd x).get (fillL pl r).get S l k = true := by
        revert h
        show (F.casesOn (opd x) fun f => F.casesOn (fillL pl r) fun g => F.mk (fill1 off sz f g) : F LF).get S l k = true → _
        cases opd x; cases fillL pl r; exact id
      have h0 := opd_ok h
      obtain ⟨cl, h1, hcl⟩ := vCells_ok h0
      cases hlen : lenIs cl sz with
      | false => rw [hlen] at h1; cases h1
      | true =>
        rw [hlen] at h1
        have hlen := lenIs_ok hlen
        obtain ⟨h2, h3⟩ := vspl_ok h1
        obtain ⟨l', h4, h5⟩ := fillL_ok (parts := r) h3
        refine ⟨l', h4, fun ρ a arr hr hl hc => ?_⟩
        obtain ⟨k1, k2⟩ := hcl ρ ξ _ (hr (i, x) (by simp))
        have hvl : (a.eval x).cells.toList.length = sz := by rw [TvL_len k1, hlen]
        have hal : arr.toList.length = (toL l).length := TvL_len hl
        have hin : off + (a.eval x).cells.toList.length ≤ arr.toList.length := by rw [hvl, hal]; omega
        have hspl := spl_eq arr.toList (a.eval x).cells.toList off hin
        obtain ⟨arr', h6, h7, h8⟩ := h5 ρ a (X.spl arr.toList off (a.eval x).cells.toList).toArray (fun q hq => hr q (by simp [hq])) (by simp only [hspl]; exact TvL_spl hl k1 hin) (fun c hcm => by
          simp only [hspl] at hcm
          rw [List.mem_append, List.mem_append] at hcm
          rcases hcm with (hv | hv) | hv
          · exact hc c (List.mem_of_mem_take hv)
          · exact k2 c hv
          · exact hc c (List.mem_of_mem_drop hv))
        refine ⟨arr', ?_, h7, h8⟩
        have hf : (a.eval x).cells.zipIdx.foldl (fun cs (q : Value × Nat) => match q with | (c, j) => cs.setIfInBounds (off + j) c) arr = (X.spl arr.toList off (a.eval x).cells.toList).toArray := by
          have : (a.eval x).cells.zipIdx.foldl (fun cs q => cs.setIfInBounds (off + q.2) q.1) arr = (X.spl arr.toList off (a.eval x).cells.toList).toArray := by
            rw [← Array.foldl_toList, Array.toList_zipIdx, X.fill_listA _ off 0 arr, Nat.add_zero]
          exact this
        rw [List.map_cons, Instr.fill]
        simp only [hp]
        rw [if_neg (by simp at hvl hin ⊢; omega), hf]
        exact h6
noncomputable def oBuild (l0 : V) (f : LF) (S : St) (k : Kt) : Bool := f S l0 fun l => k .pure (.agg l) S
def plF (P : Program) (fs : Array Field) (i : Nat) : Option (Nat × Nat) := (fs[i]?).map fun f => (f.offset, X.sizeN P f.type)
theorem oBuildS_ok {fs : Array Field} {i : TypeInfo} {zv : Value} {parts : Array (Nat × Operand)} (ht : TyK P ty (.struct fs) i) (hz : i.zero = some zv) (h1 : zeroOk zv = true) (hall : fs.all (fun f => (P.info? f.type).isSome) = true) (ho : o.op = .build ty parts) :
    Sound1 P ξ o (oBuild (zeroV zv) (fillL (plF P fs) parts.toList).get) := .pu fun S k h => by
  obtain ⟨l', h2, h3⟩ := fillL_ok (ξ := ξ) h
  refine ⟨_, h2, fun ρ a w hr => ?_⟩
  obtain ⟨z, hz1, hz2⟩ := run_zero ht.i hz w
  obtain ⟨arr', h4, h5, h6⟩ := h3 ρ a zv.cells (fun q hq => hr.op (by simp only [ho, Op.operands]; simp; exact ⟨q.1, by simpa using hq⟩)) (cVl_ok ρ ξ _) (fun c hc => List.all_eq_true.1 h1 c hc)
  refine ⟨.agg arr', ?_, arr'.toList, by simp, h5, h6⟩
  have hpl : (fun i => (fs.map fun f => (f.offset, X.sizeN P f.type))[i]?) = plF P fs := by funext i; simp [plF]
  simp only [execOp, ho, Instr.build, Sem.run_bind, hz1, Result.andThen_ok, run_und ht.u, X.run_places fs hall, hz2]
  rw [hpl, show (parts.map fun (q : Nat × Operand) => (q.1, a.eval q.2)).toList = parts.toList.map fun q => (q.1, a.eval q.2) by simp]
  rw [h4]
  simp
theorem oBuildA_ok {n : Nat} {e : TypeId} {i : TypeInfo} {zv : Value} {parts : Array (Nat × Operand)} (ht : TyK P ty (.array n e) i) (hz : i.zero = some zv) (h1 : zeroOk zv = true) (hs : (X.sizeN P e == 0) = false) (ho : o.op = .build ty parts) :
    Sound1 P ξ o (oBuild (zeroV zv) (fillL (fun i => some (i * X.sizeN P e, X.sizeN P e)) parts.toList).get) := .pu fun S k h => by
  obtain ⟨l', h2, h3⟩ := fillL_ok (ξ := ξ) h
  refine ⟨_, h2, fun ρ a w hr => ?_⟩
  obtain ⟨z, hz1, hz2⟩ := run_zero ht.i hz w
  obtain ⟨arr', h4, h5, h6⟩ := h3 ρ a zv.cells (fun q hq => hr.op (by simp only [ho, Op.operands]; simp; exact ⟨q.1, by simpa using hq⟩)) (cVl_ok ρ ξ _) (fun c hc => List.all_eq_true.1 h1 c hc)
  refine ⟨.agg arr', ?_, arr'.toList, by simp, h5, h6⟩
  simp only [execOp, ho, Instr.build, Sem.run_bind, hz1, Result.andThen_ok, run_und ht.u, sizeN_ok hs, hz2]
  rw [show (parts.map fun (q : Nat × Operand) => (q.1, a.eval q.2)).toList = parts.toList.map fun q => (q.1, a.eval q.2) by simp]
  rw [h4]
  simp
/-! ### []T{..} -/
noncomputable def cat1 (sz : Nat) (f g : St → K1 → Bool) (S : St) (k : K1) : Bool := f S fun v => vCells v fun cl => Bool.casesOn (lenIs cl sz) false (g S fun r => vcat cl r k)
noncomputable def catL (sz : Nat) (l : List Operand) : O1 := List.rec (motive := fun _ => O1) (.mk fun _ k => k .nl) (fun x _ ih => F.casesOn (opd x) fun f => F.casesOn ih fun g => .mk (cat1 sz f g)) l
theorem catL_ok {sz : Nat} : ∀ {l : List Operand} {S : St} {k : K1}, (catL sz l).get S k = true → ∃ c, k c = true ∧ ∀ ρ (a : Act), (∀ x ∈ l, Tv ρ ξ (opS (slots S) x) (a.eval x)) → TvL ρ ξ c ((l.map a.eval).flatMap fun u => u.cells.toList) ∧ (∀ u ∈ l.map a.eval, u.cells.size = sz) ∧ ∀ c ∈ (l.map a.eval).flatMap (fun u => u.cells.toList), c.oneCell' = true
  | [], S, k, h => ⟨.nl, h, fun ρ a _ => ⟨rfl, by simp, by simp⟩⟩
  | x :: r, S, k, h => by
    have h : cat1 sz (opd x).get (catL sz r).get S k = true := by
      revert h
      show (F.casesOn (opd x) fun f => F.casesOn (catL sz r) fun g => F.mk (cat1 sz f g) : O1).get S k = true → _
      cases opd x; cases catL sz r; exact id
    have h0 := opd_ok h
    obtain ⟨cl, h1, hcl⟩ := vCells_ok h0
    cases hlen : lenIs cl sz with
    | false => rw [hlen] at h1; cases h1
    | true =>
      rw [hlen] at h1
      have hlen := lenIs_ok hlen
      obtain ⟨c, h2, h3⟩ := catL_ok (l := r) h1
      rw [vcat_eq] at h2
      refine ⟨_, h2, fun ρ a hr => ?_⟩
      obtain ⟨k1, k2⟩ := hcl ρ ξ _ (hr x (by simp))
      obtain ⟨h4, h5, h6⟩ := h3 ρ a fun y hy => hr y (by simp [hy])
      refine ⟨?_, fun u hu => ?_, fun c hc => ?_⟩
      · rw [List.map_cons, List.flatMap_cons]; exact TvL_cat k1 h4
      · rcases List.mem_cons.1 hu with rfl | hu
        · have := TvL_len k1; rw [hlen] at this; simpa using this
        · exact h5 u hu
      · rw [List.map_cons, List.flatMap_cons, List.mem_append] at hc
        rcases hc with hc | hc
        · exact k2 c hc
        · exact h6 c hc
noncomputable def oLits (e : TypeId) (n w : Nat) (f : St → K1 → Bool) (S : St) (k : Kt) : Bool := f S fun l => hnew (.ifc e l) S fun i S' => k (.new i (.ifc e l)) (.sl i 0 w n true true) S'
theorem oLits_ok {e : TypeId} {n : Nat} {d d2 : TypeDesc} {i1 i2 : TypeInfo} {zv : Value} {parts : Array (Nat × Operand)} (h1 : TyK P ty (.slice e) i1) (h2 : TyK P e d2 i2) (hz : i2.zero = some zv) (hpos : Nat.ble 1 i2.size = true) (hlim : Nat.ble (n * i2.size) 16777216 = true)
    (hp : parts.toList.map (·.1) = List.range n) (ho : o.op = .buildSlice ty n parts) :
    Sound1 P ξ o (oLits e n i2.size (catL i2.size (parts.toList.map (·.2))).get) := fun S k hI h => by
  have hpos := Nat.le_of_ble_eq_true hpos
  have hlim := Nat.le_of_ble_eq_true hlim
  obtain ⟨l, h3, h4⟩ := catL_ok (ξ := ξ) h
  obtain ⟨hs, S', hk, he, htk, hI', hH, hu⟩ := hnew_ok hI h3
  refine new_ok (by intro e; cases e) hk he htk hI' hH hu hs fun ρ a w hr => ?_
  have hops : o.op.operands.toList = parts.toList.map (·.2) := by simp [ho, Op.operands]
  obtain ⟨k1, k2, k3⟩ := h4 ρ a fun x hx => hr.op (by rw [← Array.mem_toList_iff, hops]; exact hx)
  have hlen : (parts.toList.map (·.2)).length = n := by have := congrArg List.length hp; rw [List.length_map, List.length_range] at this; rw [List.length_map]; exact this
  have hps : parts = (((parts.toList.map (·.2))).zipIdx.map fun p => (p.2, p.1)).toArray := by
    apply Array.ext'
    show parts.toList = (((parts.toList.map (·.2))).zipIdx.map fun p => (p.2, p.1))
    apply List.ext_getElem?
    intro j
    simp only [List.getElem?_map, List.getElem?_zipIdx, Nat.zero_add]
    have hj := congrArg (fun l => l[j]?) hp
    simp only [List.getElem?_map] at hj
    cases hq : parts.toList[j]? with
    | none => simp
    | some q =>
      rw [hq] at hj
      have hjn : j < n := by
        have := (List.getElem?_eq_some_iff.1 hq).1
        simp at hlen this; omega
      rw [List.getElem?_range hjn] at hj
      simp at hj
      simp [← hj]
  have hrun := X.run_buildSlice (P := P) (zs := zv.cells.toList) h1.ti h2.ti ⟨⟨zv, by rw [h2.i]; exact congrArg some hz, by simp⟩⟩ ((parts.toList.map (·.2)).map a.eval) k2 (by rw [List.length_map, hlen]; exact hlim) w
  have hln : ((parts.toList.map (·.2)).map a.eval).length = n := by rw [List.length_map]; exact hlen
  rw [hln] at hrun
  have hsum : (((parts.toList.map (·.2)).map a.eval).flatMap fun u => u.cells.toList).length = n * i2.size := by
    have : ∀ l : List Value, (∀ v ∈ l, v.cells.size = i2.size) → (l.flatMap (·.cells.toList)).length = l.length * i2.size := fun l => by
      induction l with
      | nil => simp
      | cons a r ih => intro h; rw [List.flatMap_cons, List.length_append, ih (fun v hv => h v (by simp [hv]))]; simp [h a (by simp), Nat.succ_mul]; omega
    rw [this _ k2, hln]
  refine ⟨.slice (some ⟨w.heap.size, 0, none⟩) n n, w.alloc (.cells (((parts.toList.map (·.2)).map a.eval).flatMap fun u => u.cells.toList).toArray e), w.heap.size, n * i2.size, ?_, rfl, rfl, rfl, by simp, fun k hk => Below.heap_alloc w _ k hk, Nat.le_refl _, by simp, fun ρ' hle => ⟨_, heap_alloc_new w _, by rw [← hsum]; exact List.size_toArray, _, [], (List.append_nil _).symm, TvL_mono hle k1, k3⟩, fun ρ' h => Tv_slAt h (fun _ => rfl) (Nat.le_refl _) ?_ (fun _ => rfl) (by omega) (fun _ => ⟨rfl, rfl⟩)⟩
  · have hparts : parts.map (fun (q : Nat × Operand) => (q.1, a.eval q.2)) = (((parts.toList.map (·.2)).map a.eval).zipIdx.map fun p => (p.2, p.1)).toArray := by
      conv => lhs; rw [hps]
      exact X.parts_seq (parts.toList.map (·.2)) a.eval
    simp only [execOp, ho, hparts, Sem.run_bind, hrun, Result.andThen_ok, Sem.run_pure]
  · have : n ≤ n * i2.size := Nat.le_mul_of_pos_right _ hpos
    unfold maxLen; omega
end
end Go.Proofs.YtnkkfmnpkgjabaaGreat.Y

/- The same logic: rows that grow and may turn. -/
namespace Go.Proofs.YtnkkfmnpkgjabaaGreat.X
open Go.RowKit
set_option linter.unusedVariables false
set_option linter.unusedSimpArgs false

section
variable {P : Program} {o : Oper} {t : T} {bs : BS} {y : A} {x z : Operand} {ty ty2 : TypeId} {d : TypeDesc} {sz by_ : Nat}
theorem rows_blk {w : World} {Z : Zones} {g cap : Nat} {e : TypeId} {rs : List (List A)} (h : BlkOk w Z g (.rows rs cap sz e)) : ∃ arr : Array Value, (∀ k, w.cell? ⟨g, k, none⟩ = arr[k]?) ∧ (∀ k, w.frozen? ⟨g, k, none⟩ = false) ∧ rs.length ≤ cap ∧ cap ≤ maxLen ∧ arr.size = cap * sz ∧ (∀ r ∈ rs, r.length = sz) ∧ ∀ k x, rs.flatten[k]? = some x → k < arr.size ∧ Rep w Z (arr.getD k undef) x ∧ (arr.getD k undef).oneCell' = true := by
  obtain ⟨arr, h1, h2, h3, h4, h5, h6⟩ := h
  refine ⟨arr, fun k => cell_of_row w g k arr e (0, 0) h1, fun k => by simp [World.frozen?, h1], h2, h3, h4, h5, fun k x hk => ⟨?_, h6 k x hk⟩⟩
  have := (List.getElem?_eq_some_iff.1 hk).1
  rw [flat_lenA h5] at this
  rw [h4]
  exact Nat.lt_of_lt_of_le this (Nat.mul_le_mul_right _ h2)
theorem Rep.rp_inv {w : World} {Z : Zones} {u : Value} {g s i j : Nat} (h : Rep w Z u (.rp g s i j)) : u = .pointer (some ⟨g, i * s + j, none⟩) := by cases h; rfl
/-- 'indexAddr' of rows that may turn; a field of a row. -/
theorem OpQ.idx_rows {e : TypeId} {k : IntKind} {i : Int} {n g len cap : Nat} {s1 b1 : Nat} {d2 : TypeDesc} {s2 b2 : Nat} [h1 : TI P ty (.slice e) s1 b1] [h2 : TI P e d2 s2 b2] (ho : o.op = .indexAddr ty x z) (hx : Wk (evA t x) (.ms g 0 len cap)) (hz : Wk (evA t z) (.v (.int k i))) (h0 : 0 ≤ i ∧ i < len) (hn : i.toNat = n) : OpQ P o t bs (.rp g s2 n 0) :=
  .of_run fun a w h hb => by
    subst hn
    have e1 := (op_rep h (x := x) (by simp [ho, Op.operands]) hx).ms_inv
    have e2 := (op_rep h (x := z) (by simp [ho, Op.operands]) hz).val
    refine ⟨.pointer (some ⟨g, i.toNat * s2 + 0, none⟩), ?_, .rp⟩
    simp only [execOp, ho, e1, e2, Instr.indexAt, asIntOf, Sem.run_bind, Sem.run_pure, Result.andThen_ok, h1.run_und, h0, and_self, if_true, h2.sizeOf_, Addr.add_mid, Nat.zero_add, Nat.add_zero]
theorem OpQ.field_rp {fs : Array Field} {f g s i j q k : Nat} {fld : Field} [h1 : TI P ty (.struct fs) sz by_] (ho : o.op = .fieldAddr ty x f) (hx : Wk (evA t x) (.rp g s i j)) (hf : fs[f]? = some fld) (h2 : (sizeN P fld.type == 0) = false) (hk : fld.offset = k) (hq : j + k = q) : OpQ P o t bs (.rp g s i q) :=
  .of_run fun a w h hb => by
    have e := (op_rep h (x := x) (by simp [ho, Op.operands]) hx).rp_inv
    subst hk; subst hq
    exact ⟨.pointer (some ⟨g, i * s + (j + fld.offset), none⟩), by simp only [execOp, ho, e, Sem.run_bind, run_fieldAt h1 hf h2, Result.andThen_ok, Sem.run_pure, Nat.add_assoc], .rp⟩
/-- 'load' of a cell of a row. -/
theorem OpQ.load_row {g i j cap s : Nat} {e : TypeId} {rs : List (List A)} {row : List A} [h1 : TI P ty d sz by_] (ho : o.op = .load ty x) (hx : Wk (evA t x) (.rp g s i j)) (hm : (g, .rows rs cap s e) ∈ bs) (hr : rs[i]? = some row) (hd : d.isRow = false) (hy : row[j]? = some y) : OpQ P o t bs y :=
  .of_run fun a w h hb => by
    have e := (op_rep h (x := x) (by simp [ho, Op.operands]) hx).rp_inv
    obtain ⟨arr, hc, _, _, _, _, hs, hrep⟩ := rows_blk (hb.get hm)
    obtain ⟨q1, q2, q3⟩ := hrep _ y (flat_getA hs i j row y hr hy)
    have h0 : arr[i * s + j]? = some (arr.getD (i * s + j) undef) := by simp [q1]
    exact ⟨arr.getD (i * s + j) undef, by simp only [execOp, ho, e, Sem.run_bind, run_loadAt_one h1 hd ((hc _).trans h0), Result.andThen_ok, Sem.run_pure], q2⟩
/-- 'load' of a row. -/
theorem OpQ.loads_row {g i cap s : Nat} {e : TypeId} {rs : List (List A)} {row : List A} [h1 : TI P ty d sz by_] (ho : o.op = .load ty x) (hx : Wk (evA t x) (.rp g s i 0)) (hm : (g, .rows rs cap s e) ∈ bs) (hr : rs[i]? = some row) (hd : d.isRow = true) (hs2 : s = sz) : OpQ P o t bs (.agg row) :=
  .of_run fun a w h hb => by
    subst hs2
    have e := (op_rep h (x := x) (by simp [ho, Op.operands]) hx).rp_inv
    rw [Nat.add_zero] at e
    obtain ⟨arr, hc, _, _, _, _, hs, hrep⟩ := rows_blk (hb.get hm)
    have hlen := hs row (List.mem_of_getElem? hr)
    have hat : ∀ k q, row[k]? = some q → i * s + k < arr.size ∧ Rep w (zones bs) (arr.getD (i * s + k) undef) q ∧ (arr.getD (i * s + k) undef).oneCell' = true := fun k q hk => hrep _ q (flat_getA hs i k row q hr hk)
    refine ⟨.agg ((arr.toList.drop (i * s)).take s).toArray, ?_, ?_⟩
    · have hl : ((arr.toList.drop (i * s)).take s).length = s := by
        rcases Nat.eq_zero_or_pos s with h0 | h0
        · subst h0; simp
        · have := (hat (s - 1) _ (List.getElem?_eq_getElem (by omega))).1
          simp; omega
      have hr : w.rangeAt g (i * s) ((arr.toList.drop (i * s)).take s) := fun j v hj => by
        have hlt : j < s := by have := (List.getElem?_eq_some_iff.1 hj).1; omega
        rw [List.getElem?_take_of_lt hlt, List.getElem?_drop] at hj
        rw [hc]; simpa using hj
      simp only [execOp, ho, e, Sem.run_bind, run_loadAt_row h1 hd hl hr, Result.andThen_ok, Sem.run_pure]
    · have hget : ∀ k, k < s → ((arr.toList.drop (i * s)).take s).toArray.getD k undef = arr.getD (i * s + k) undef := fun k hk => by
        simp only [Array.getD_eq_getD_getElem?, List.getElem?_toArray, List.getElem?_take_of_lt hk, List.getElem?_drop, Array.getElem?_toList]
      refine .agg ?_ (fun k q hk => ?_) (fun k q hk => ?_)
      · rcases Nat.eq_zero_or_pos s with h0 | h0
        · subst h0; simp [hlen]
        · have := (hat (s - 1) _ (List.getElem?_eq_getElem (by omega))).1
          simp; omega
      all_goals
        have hlt := (List.getElem?_eq_some_iff.1 hk).1
        rw [hget k (by omega)]
      · exact (hat k q hk).2.1
      · exact (hat k q hk).2.2
theorem flat_set {rs : List (List A)} {s i j : Nat} {row ys : List A} (hs : ∀ r ∈ rs, r.length = s) (hr : rs[i]? = some row) (hj : j + ys.length ≤ s) : spl rs.flatten (i * s + j) ys = (rs.set i (spl row j ys)).flatten := by
  have hlen := hs row (List.mem_of_getElem? hr)
  have hi := (List.getElem?_eq_some_iff.1 hr).1
  have hs' : ∀ r ∈ rs.set i (spl row j ys), r.length = s := fun r hr' => by
    rcases List.mem_or_eq_of_mem_set hr' with h | h
    · exact hs r h
    · subst h; rw [spl_len]; exact hlen
  have hfit : i * s + j + ys.length ≤ rs.flatten.length := by
    rw [flat_lenA hs]
    have : (i + 1) * s ≤ rs.length * s := Nat.mul_le_mul_right _ hi
    rw [Nat.succ_mul] at this; omega
  apply List.ext_getElem?
  intro k
  rw [spl_get _ _ _ _ hfit]
  rcases Nat.eq_zero_or_pos s with h0 | h0
  · subst h0
    have : ys = [] := List.eq_nil_of_length_eq_zero (by omega)
    subst this
    have e1 := flat_lenA hs; have e2 := flat_lenA hs'
    rw [if_neg (by simp), List.getElem?_eq_none (by rw [e1]; simp), List.getElem?_eq_none (by rw [e2]; simp)]
  · by_cases hk : k < rs.length * s
    · have hq : k / s < rs.length := (Nat.div_lt_iff_lt_mul h0).2 hk
      have hm : k % s < s := Nat.mod_lt _ h0
      have hdm : k / s * s + k % s = k := by have := Nat.div_add_mod k s; rw [Nat.mul_comm] at this; exact this
      have hrow := hs _ (List.getElem_mem hq)
      have a1 := flat_getA hs (k / s) (k % s) rs[k / s] (rs[k / s][k % s]'(by omega)) (List.getElem?_eq_getElem hq) (List.getElem?_eq_getElem (by omega))
      rw [hdm] at a1
      by_cases hki : k / s = i
      · have hrw : rs[k / s] = row := by
          have h1 : rs[k / s]? = some row := by rw [hki]; exact hr
          rw [List.getElem?_eq_getElem hq] at h1
          simpa using h1
        have hin : k % s < (spl row j ys).length := by rw [spl_len, hlen]; exact hm
        have a2 := flat_getA hs' (k / s) (k % s) (spl row j ys) ((spl row j ys)[k % s]) (by rw [hki, List.getElem?_set]; simp [hi]) (List.getElem?_eq_getElem hin)
        rw [hdm] at a2
        rw [a2]
        have hget := spl_get ys row j (k % s) (by omega)
        rw [List.getElem?_eq_getElem hin] at hget
        rw [hget]
        have hk2 : k = i * s + k % s := by rw [← hki]; omega
        by_cases hc : j ≤ k % s ∧ k % s < j + ys.length
        · rw [if_pos hc, if_pos (by omega), show k - (i * s + j) = k % s - j by omega]
        · rw [if_neg hc, if_neg (by omega), a1, ← List.getElem?_eq_getElem (by omega), hrw]
      · have a2 := flat_getA hs' (k / s) (k % s) rs[k / s] (rs[k / s][k % s]'(by omega)) (by rw [List.getElem?_set_ne (Ne.symm hki)]; exact List.getElem?_eq_getElem hq) (List.getElem?_eq_getElem (by omega))
        rw [hdm] at a2
        rw [a2, ← a1]
        refine if_neg fun hc => hki ?_
        have h1 : i * s ≤ k := by omega
        have h2 : k < (i + 1) * s := by rw [Nat.succ_mul]; omega
        have h3 := (Nat.le_div_iff_mul_le h0).2 h1
        have h4 := (Nat.div_lt_iff_lt_mul h0).2 h2
        omega
    · have e1 := flat_lenA hs; have e2 := flat_lenA hs'
      simp only [List.length_set] at e2
      rw [if_neg (by omega), List.getElem?_eq_none (by omega), List.getElem?_eq_none (by omega)]
/-- 'store' into a row. -/
theorem OpW.store_row {g i j cap s : Nat} {e : TypeId} {rs rs' : List (List A)} {row : List A} {bs' : BS} [h1 : TI P ty d sz by_] (ho : o.op = .store ty x z) (hx : Wk (evA t x) (.rp g s i j)) (hz : Wk (evA t z) y) (hc : y.isCell = true ∨ ∃ xs, y = .agg xs) (hm : (g, .rows rs cap s e) ∈ bs) (hr : rs[i]? = some row) (hrs : rs.set i (spl row j (cellsOf y)) = rs') (hu : BUpd bs g (.rows rs cap s e) g (.rows rs' cap s e) bs') (hl : j + sz ≤ s) (hs : (cellsOf y).length = sz) :
    OpW P o t bs fun q b => q = .junk ∧ b = bs' := by
  subst hrs
  intro a w h hb K Q hK
  have e1 := (op_rep h (x := x) (by simp [ho, Op.operands]) hx).rp_inv
  have hrp := op_rep h (x := z) (by simp [ho, Op.operands]) hz
  obtain ⟨l, hcell⟩ := hrp.cells hc
  obtain ⟨arr, ha1, ha2, ha3, ha4, ha5, ha6⟩ := hb.get hm
  have hi := (List.getElem?_eq_some_iff.1 hr).1
  have hlen := ha5 row (List.mem_of_getElem? hr)
  have hfit : i * s + j + sz ≤ arr.size := by
    rw [ha4]
    have : (i + 1) * s ≤ cap * s := Nat.mul_le_mul_right _ (by omega)
    rw [Nat.succ_mul] at this; omega
  have hone : ∀ v ∈ (a.eval z).cells.toList, v.oneCell' = true := fun v hv => by
    obtain ⟨k, hk⟩ := List.mem_iff_getElem?.1 hv
    have hlt : k < (cellsOf y).length := by rw [← l]; simpa using (List.getElem?_eq_some_iff.1 hk).1
    have := (hcell k _ (List.getElem?_eq_getElem hlt)).2
    rwa [getD_toList hk] at this
  have hcl : ∀ k, w.cell? ⟨g, k, none⟩ = arr[k]? := fun k => cell_of_row w g k arr e (0, 0) ha1
  have hrun : (execOp a.eval o).run P w = .ok .skip (w.setCells g (i * s + j) (a.eval z).cells.toList) := by
    simp only [execOp, ho, e1, Sem.run_bind, run_storeAt h1 (u := a.eval z) (w := w) (g := g) (p := i * s + j) (by omega) (fun k hk => by rw [hcl, Array.getElem?_eq_getElem (by omega)]; rfl) (fun k _ => by simp [World.frozen?, ha1]) hone, Result.andThen_ok, Sem.run_pure]
  obtain ⟨q1, q2, q3, q4, q5⟩ := setCells_same g (a.eval z).cells.toList (i * s + j) w
  obtain ⟨b1, b2⟩ := hb.upd (w' := w.setCells g (i * s + j) (a.eval z).cells.toList) hu q1 q2 q3 (by omega) (.inl ⟨rfl, Nat.le_refl _⟩) (fun k _ hk => q5 k hk) (fun k hk => by simp [Blk.from_] at hk) fun he => by
    refine ⟨(spl arr.toList (i * s + j) (a.eval z).cells.toList).toArray, setCells_heap g e _ _ w arr ha1, by simpa using ha2, ha3, by simp [spl_len, ha4], fun r hr' => ?_, fun k q hk => ?_⟩
    · rcases List.mem_or_eq_of_mem_set hr' with h | h
      · exact ha5 r h
      · subst h; rw [spl_len]; exact hlen
    · rw [← flat_set ha5 hr (by omega), spl_get _ _ _ _ (by rw [flat_lenA ha5]; have : (i + 1) * s ≤ rs.length * s := Nat.mul_le_mul_right _ hi; rw [Nat.succ_mul] at this; omega)] at hk
      have hget : (spl arr.toList (i * s + j) (a.eval z).cells.toList).toArray.getD k undef = if i * s + j ≤ k ∧ k < i * s + j + (cellsOf y).length then (a.eval z).cells.getD (k - (i * s + j)) undef else arr.getD k undef := by
        simp only [Array.getD_eq_getD_getElem?, List.getElem?_toArray]
        rw [spl_get _ arr.toList _ k (by simp [l]; omega)]
        simp only [Array.length_toList, l]
        split <;> simp
      rw [hget]
      split at hk
      · rename_i hin; rw [if_pos hin]; exact ⟨(hcell _ q hk).1.ext he, (hcell _ q hk).2⟩
      · rename_i hout; rw [if_neg hout]; exact ⟨(ha6 k q hk).1.ext he, (ha6 k q hk).2⟩
  unfold Oper.wp
  rw [hrun]
  exact hK _ _ _ _ ⟨rfl, rfl⟩ .junk b1 b2
/-- 'append' onto nil, or a full slice: a new row that may turn. -/
theorem OpW.app_newr {e : TypeId} {s1 b1 s2 b2 : Nat} {d2 : TypeDesc} {zs : List Value} {cs : List A} {rows rows2 : List (List A)} {q : A} [h1 : TI P ty (.slice e) s1 b1] [h2 : TI P e d2 s2 b2] [hz : TC P e zs cs] (ho : o.op = .call { callee := .builtin .append, args := #[x, z], argTypes := #[ty, ty] })
    (hx : evA t x = q) (hf : Full q rows) (hy : Wk (evA t z) (.sl rows2)) (hzl : cs.length = s2) (hpos : 0 < s2) (hb2 : 0 < b2) (hs : ∀ r ∈ rows ++ rows2, r.length = s2) (hp : 0 < rows2.length) (hbd : (rows.length + rows2.length) * b2 ≤ 140737488355328) :
    OpW P o t bs fun y bs' => ∃ g c, y = .ms g 0 (rows ++ rows2).length c ∧ bs' = (g, .rows (rows ++ rows2) c s2 e) :: bs ∧ (rows ++ rows2).length ≤ c := by
  intro a w h hb K Q hK
  obtain ⟨hr1, hr2⟩ := append_ops ho h
  rw [hx] at hr1
  obtain ⟨v, w', us, us2, hrun, hown, hgr, hl, hone, r1, r2⟩ := run_app_new h1 h2 hz.z (by have := congrArg List.length hz.abs; simp at this; omega) hpos hb2 o.type hs (hr1.full hf) (hr2.wk hy) hp hbd
  obtain ⟨g, c, arr, rfl, hg, hh, hnc, hcm, hsz, hR⟩ := own_new hown hgr hb hs (by simp) hl hone r1 r2 (by omega)
  have hlen : (rows ++ rows2).length = rows.length + rows2.length := by simp
  obtain ⟨b1', e1'⟩ := BsOk.push hb (g := g) (b := .rows (rows ++ rows2) c s2 e) hg hgr.os hgr.tape hgr.output hgr.size (fun k hk => hgr.block k hk (by simp)) fun he => by
    exact ⟨arr, hh, by omega, hcm, hsz, hs, fun k x hk => ⟨(hR k x hk).1.ext he, (hR k x hk).2.1⟩⟩
  unfold Oper.wp
  rw [append_run ho rfl rfl hrun, ← hlen]
  exact hK _ _ _ _ ⟨g, c, rfl, rfl, by omega⟩ .ms b1' e1'
/-- 'append' onto rows that may turn. -/
theorem OpW.app_rows {e : TypeId} {s1 b1 s2 b2 g c n : Nat} {d2 : TypeDesc} {zs : List Value} {cs : List A} {rs rows rows2 : List (List A)} {B : Nat → Nat → BS} [h1 : TI P ty (.slice e) s1 b1] [h2 : TI P e d2 s2 b2] [hz : TC P e zs cs] (ho : o.op = .call { callee := .builtin .append, args := #[x, z], argTypes := #[ty, ty] })
    (hx : Wk (evA t x) (.ms g 0 n c)) (hy : Wk (evA t z) (.sl rows2)) (hrows : rs.take n = rows) (hu : ∀ g' c', BUpd bs g (.rows rs c s2 e) g' (.rows (rows ++ rows2) c' s2 e) (B g' c')) (hn : n ≤ rs.length) (hzl : cs.length = s2) (hpos : 0 < s2) (hb2 : 0 < b2) (hs2 : ∀ r ∈ rows2, r.length = s2) (hp : 0 < rows2.length) (hbd : (n + rows2.length) * b2 ≤ 140737488355328) :
    OpW P o t bs fun y bs' => ∃ g c, y = .ms g 0 (n + rows2.length) c ∧ bs' = B g c ∧ n + rows2.length ≤ c := by
  subst hrows
  intro a w h hb K Q hK
  obtain ⟨hr1, hr2⟩ := append_ops ho h
  have e1 := (hr1.wk hx).ms_inv
  have hr2 := hr2.wk hy
  obtain ⟨arr, ha1, ha2, ha3, ha4, ha5, ha6⟩ := hb.get (hu 0 0).mem
  have hln : (rs.take n).length = n := by simp; omega
  have hs : ∀ r ∈ rs.take n ++ rows2, r.length = s2 := fun r hr => by rcases List.mem_append.1 hr with h | h; exact ha5 r (List.mem_of_mem_take h); exact hs2 r h
  have hlen : (rs.take n ++ rows2).length = n + rows2.length := by simp; omega
  obtain ⟨i, hi1, hi2, hi3⟩ := h2.info
  obtain ⟨zv, hzq, hzc⟩ := hz.z.zero
  have hzv : i.zero = some zv := by rw [hi1] at hzq; simpa using hzq
  have hzs : zv.cells.size = s2 := by rw [hzc]; have := congrArg List.length hz.abs; simp at this ⊢; omega
  obtain ⟨Ad2, c2, us2, e2, l2, o2, a2, r2⟩ := hr2.sl_list (sz := s2) hs2
  obtain ⟨g2, p2, rfl, hc2⟩ := a2 hp
  have h63 : n + rows2.length ≤ maxLen := by
    have : n + rows2.length ≤ (n + rows2.length) * b2 := Nat.le_mul_of_pos_right _ hb2
    unfold maxLen; omega
  have hnews : ∀ j v, us2[j]? = some v → w.cell? ((⟨g2, p2, none⟩ : Addr).add j) = some v := fun j v hj => by rw [Addr.add_mid]; exact hc2 j v hj
  have hnle : n * s2 ≤ arr.size := by rw [ha4]; exact Nat.mul_le_mul_right _ (by omega)
  have hfl : (rs.take n).flatten = rs.flatten.take (n * s2) := flat_takeA ha5 n
  have r1 : ∀ k x, (rs.take n).flatten[k]? = some x → Rep w (zones bs) ((arr.toList.take (n * s2)).getD k undef) x ∧ ((arr.toList.take (n * s2)).getD k undef).oneCell' = true := fun k x hk => by
    rw [hfl, List.getElem?_take] at hk
    split at hk
    · rename_i hlt
      obtain ⟨q1, q2⟩ := ha6 k x hk
      have : (arr.toList.take (n * s2)).getD k undef = arr.getD k undef := by
        simp only [List.getD_eq_getElem?_getD, List.getElem?_take_of_lt hlt, Array.getD_eq_getD_getElem?, Array.getElem?_toList]
      rw [this]; exact ⟨q1, q2⟩
    · cases hk
  have l1 : (arr.toList.take (n * s2)).length = n * s2 := by simp; omega
  have hfin : ∀ k, k < n * s2 → ∃ x, (rs.take n).flatten[k]? = some x := fun k hk => ⟨_, List.getElem?_eq_getElem (by rw [flat_lenA (fun r hr => ha5 r (List.mem_of_mem_take hr)), hln]; exact hk)⟩
  have o1 : ∀ v ∈ arr.toList.take (n * s2), v.oneCell' = true := fun v hv => by
    obtain ⟨k, hk⟩ := List.mem_iff_getElem?.1 hv
    have hlt : k < n * s2 := by rw [← l1]; exact (List.getElem?_eq_some_iff.1 hk).1
    obtain ⟨x, hx⟩ := hfin k hlt
    have := (r1 k x hx).2
    rwa [List.getD_eq_getElem?_getD, hk] at this
  have hone : ∀ v ∈ arr.toList.take (n * s2) ++ us2, v.oneCell' = true := fun v hv => by rcases List.mem_append.1 hv with h | h; exact o1 v h; exact o2 v h
  have holds : ∀ j v, (arr.toList.take (n * s2))[j]? = some v → w.cell? ((⟨g, 0, none⟩ : Addr).add j) = some v := fun j v hj => by
    have hlt : j < n * s2 := by rw [← l1]; exact (List.getElem?_eq_some_iff.1 hj).1
    rw [List.getElem?_take_of_lt hlt] at hj
    rw [Addr.add_mid, Nat.zero_add, cell_of_row w g j arr e (0, 0) ha1]; simpa using hj
  unfold Oper.wp
  by_cases hroom : n + rows2.length ≤ c
  · have hrun := run_append_room_cells (P := P) w ty o.type e i h1.und hi1 g 0 n c ⟨g2, p2, none⟩ rows2.length c2 us2 (by rw [hi2]; exact l2) hnews o2 hroom
      (fun j hj => by
        have hin : 0 + n * i.size + j < arr.size := by
          rw [ha4, hi2, Nat.zero_add]
          have : (n + rows2.length) * s2 ≤ c * s2 := Nat.mul_le_mul_right _ hroom
          rw [Nat.add_mul] at this; omega
        rw [cell_of_row w g _ arr e (0, 0) ha1, Array.getElem?_eq_getElem hin]; rfl)
      (fun j hj => by simp [World.frozen?, ha1])
    rw [hi2, Nat.zero_add] at hrun
    rw [append_run ho e1 e2 hrun]
    obtain ⟨q1, q2, q3, q4, q5⟩ := setCells_same g us2 (n * s2) w
    have hheap := setCells_heap g e us2 (n * s2) w arr ha1
    have hfit : n * s2 + us2.length ≤ arr.size := by
      rw [ha4, l2, ← Nat.add_mul]; exact Nat.mul_le_mul_right _ hroom
    obtain ⟨b1', e1'⟩ := hb.upd (w' := w.setCells g (n * s2) us2) (hu g c) q1 q2 q3 (by omega) (.inl ⟨rfl, Nat.le_refl _⟩) (fun k _ hk => q5 k hk) (fun k hk => by simp [Blk.from_] at hk) fun he => by
      refine ⟨_, hheap, by omega, ha3, by simp [spl_len, ha4], hs, fun k x hk => ?_⟩
      have hlt : k < (n + rows2.length) * s2 := by have := (List.getElem?_eq_some_iff.1 hk).1; rwa [flat_lenA hs, hlen] at this
      have hfl2 : (rs.take n).flatten.length = n * s2 := by rw [flat_lenA (fun r hr => ha5 r (List.mem_of_mem_take hr)), hln]
      rw [List.flatten_append] at hk
      have hg : (spl arr.toList (n * s2) us2).toArray.getD k undef = (arr.toList.take (n * s2) ++ us2).getD k undef := by
        simp only [Array.getD_eq_getD_getElem?, List.getElem?_toArray, List.getD_eq_getElem?_getD]
        rw [spl_get us2 arr.toList _ k (by simpa using hfit)]
        by_cases hkk : k < n * s2
        · rw [if_neg (by omega), List.getElem?_append_left (by omega), List.getElem?_take_of_lt hkk]
        · rw [if_pos (by rw [l2, ← Nat.add_mul]; omega), List.getElem?_append_right (by omega), l1]
      rw [hg]
      by_cases hlt2 : k < n * s2
      · rw [List.getElem?_append_left (by omega)] at hk
        have e : (arr.toList.take (n * s2) ++ us2).getD k undef = (arr.toList.take (n * s2)).getD k undef := by simp only [List.getD_eq_getElem?_getD]; rw [List.getElem?_append_left (by omega)]
        rw [e]; exact ⟨(r1 k x hk).1.ext he, (r1 k x hk).2⟩
      · rw [List.getElem?_append_right (by omega), hfl2] at hk
        have e : (arr.toList.take (n * s2) ++ us2).getD k undef = us2.getD (k - n * s2) undef := by simp only [List.getD_eq_getElem?_getD]; rw [List.getElem?_append_right (by omega), l1]
        rw [e]
        have hin : us2[k - n * s2]? = some (us2.getD (k - n * s2) undef) := by
          rw [List.getD_eq_getElem?_getD, List.getElem?_eq_getElem (by rw [Nat.add_mul] at hlt; omega)]; rfl
        exact ⟨(r2 _ x hk).ext he, o2 _ (List.mem_of_getElem? hin)⟩
    exact hK _ _ _ _ ⟨g, c, rfl, rfl, hroom⟩ .ms b1' e1'
  · obtain ⟨v, w', hrun, hown, hgr⟩ := run_append_arg_grows (P := P) w ty o.type e i zv s2 b2 h1.und hi1 hzv hi2 hi3 hzs hpos ⟨g, 0, none⟩ n c _ l1 holds ⟨g2, p2, none⟩ rows2.length c2 us2 l2 hnews (by omega) h63 hbd
    obtain ⟨g', c', arr', rfl, hg', hh', hnc', hcm', hsz', hR⟩ := own_new (rows := rs.take n) hown hgr hb hs hlen (by rw [l1, hln]) hone (fun k x hk => (r1 k x hk).1) r2 (by omega)
    rw [append_run ho e1 e2 hrun]
    obtain ⟨b1', e1'⟩ := hb.upd (w' := w') (hu g' c') hgr.os hgr.tape hgr.output hgr.size (.inr hg') (fun k hk _ => hgr.block k hk (by simp)) (fun k hk => by simp [Blk.from_] at hk) (fun he => ⟨arr', hh', by omega, hcm', hsz', hs, fun k x hk => ⟨(hR k x hk).1.ext he, (hR k x hk).2.1⟩⟩)
    exact hK _ _ _ _ ⟨g', c', rfl, rfl, hnc'⟩ .ms b1' e1'
end
end Go.Proofs.YtnkkfmnpkgjabaaGreat.X
