/- Names; whether a list has a text; what is asked of an account, an asset, an amount. -/
import Derived.Test.YtlgebdoadfljhaaHas
namespace Go.Proofs.Ytlgebdoadfljhaa
open Go.RowKit
set_option linter.unusedVariables false
set_option linter.unusedSimpArgs false

def nameB (s : ByteArray) : Bool := decide (1 ≤ s.size ∧ s.size ≤ 16)
theorem name_any (s : ByteArray) (w : World) (hs : s.size ≤ 9223372036854775807) : Calls Try.prog 22 #[.string s] w fun e w' => e = .returned (.bool (nameB s)) ∧ w = w' := by
  by_cases h1 : 1 ≤ s.size
  · by_cases h2 : s.size ≤ 16
    · have E := Lib.hid (show nameB s = true by simp [nameB, h1, h2])
      have b1 : decide ((1 : Int) ≤ s.size) = true := by simp; omega
      have b2 : decide ((s.size : Int) ≤ 16) = true := by simp; omega
      go_enter Try.func22, Try.ntmps22
      go_wp2
      go_ret
      exact ⟨by rw [E.out]; rfl, rfl⟩
    · have E := Lib.hid (show nameB s = false by simp [nameB, h2])
      have b1 : decide ((1 : Int) ≤ s.size) = true := by simp; omega
      have b2 : decide ((s.size : Int) ≤ 16) = false := by simp; omega
      go_enter Try.func22, Try.ntmps22
      go_wp2
      go_ret
      exact ⟨by rw [E.out]; rfl, rfl⟩
  · have E := Lib.hid (show nameB s = false by simp [nameB, h1])
    have b1 : decide ((1 : Int) ≤ s.size) = false := by simp; omega
    go_enter Try.func22, Try.ntmps22
    go_wp2
    go_ret
    exact ⟨by rw [E.out]; rfl, rfl⟩

def txt (s : ByteArray) : List Value := [.string s]
theorem txt_ones (s : ByteArray) : ∀ v ∈ txt s, v.oneCell' = true := by simp [txt, Value.oneCell']
def idxS (ss : List ByteArray) (s : ByteArray) : Int := match ss.findIdx? (fun x => s.toList == x.toList) with | some i => i | none => -1
def memS (ss : List ByteArray) (s : ByteArray) : Bool := ss.any (fun x => s.toList == x.toList)
theorem idxS_at {ss : List ByteArray} {s x : ByteArray} {k : Nat} (hb : ∀ (i : Nat) (y : ByteArray), ss[i]? = some y → i < k → (s.toList == y.toList) = false) (hx : ss[k]? = some x) (he : (s.toList == x.toList) = true) : idxS ss s = k := by
  unfold idxS
  have hlt := (List.getElem?_eq_some_iff.1 hx).1
  have : ss.findIdx? (fun x => s.toList == x.toList) = some k := by
    rw [List.findIdx?_eq_some_iff_getElem]
    refine ⟨hlt, ?_, fun j hj => ?_⟩
    · rw [(List.getElem?_eq_some_iff.1 hx).2]; exact he
    · have := hb j _ (List.getElem?_eq_getElem (by omega)) hj
      simp at this ⊢; exact this
  rw [this]
theorem idxS_none {ss : List ByteArray} {s : ByteArray} (hb : ∀ (i : Nat) (y : ByteArray), ss[i]? = some y → (s.toList == y.toList) = false) : idxS ss s = -1 := by
  unfold idxS
  have : ss.findIdx? (fun x => s.toList == x.toList) = none := by
    rw [List.findIdx?_eq_none_iff]
    intro x hx
    obtain ⟨i, hi⟩ := List.mem_iff_getElem?.1 hx
    exact hb i x hi
  rw [this]
theorem idxS_mem (ss : List ByteArray) (s : ByteArray) : decide (0 ≤ idxS ss s) = memS ss s := by
  unfold idxS memS
  cases h : ss.findIdx? (fun x => s.toList == x.toList) with
  | none =>
    rw [List.findIdx?_eq_none_iff] at h
    have : ss.any (fun x => s.toList == x.toList) = false := by
      rw [List.any_eq_false]; intro x hx; rw [h x hx]; simp
    rw [this]; rfl
  | some i =>
    rw [List.findIdx?_eq_some_iff_getElem] at h
    obtain ⟨hlt, hp, _⟩ := h
    have : ss.any (fun x => s.toList == x.toList) = true := List.any_eq_true.2 ⟨ss[i], List.getElem_mem hlt, hp⟩
    rw [this]; simp

set_option maxHeartbeats 400000 in
theorem index_any (X : List Nat) (A : Option Addr) (c : Nat) (ss : List ByteArray) (s : ByteArray) (w : World) (hs : Sl w X A 1 (ss.map txt)) (hn : ss.length ≤ 1000000) :
    Calls Try.prog 39 #[.slice A ss.length c, .string s] w fun e w' => e = .returned (.int .i64 (idxS ss s)) ∧ w = w' := by
  have HS := Lib.hid hs
  clear hs
  generalize hL : ss.length = n at *
  have HL := Lib.hid hL
  clear hL
  go_enter Try.func39, Try.ntmps39
  go_wp2
  go_loop [8] (fun v => ∃ k : Nat, k ≤ n ∧ v = .int .i64 k ∧ Hid (∀ i y, ss[i]? = some y → i < k → (s.toList == y.toList) = false)) (fun v => n - (intOf v).toNat)
  case atStart => exact ⟨0, Nat.zero_le _, rfl, fun i y _ h => absurd h (Nat.not_lt_zero _)⟩
  case round =>
    obtain ⟨k, hk, rfl, HB⟩ := hrel
    by_cases hlt : k < n
    · obtain ⟨x, hx⟩ : ∃ x, ss[k]? = some x := ⟨_, List.getElem?_eq_getElem (by rw [HL.out]; omega)⟩
      obtain ⟨g, o, rfl, _, hgl, hr, _⟩ := HS.out.get (i := k) (r := txt x) (by rw [List.getElem?_map, hx]; rfl)
      have c0 : w.cell? ⟨g, o + k, none⟩ = some (.string x) := by simpa using hr 0 _ rfl
      have HX := Lib.hid hx
      clear hr hx
      by_cases he : (s.toList == x.toList) = true
      · have E := Lib.hid (idxS_at HB.out HX.out he)
        go_wp2
        go_ret
        exact ⟨by rw [E.out]; rfl, rfl⟩
      · have he' : (s.toList == x.toList) = false := by simpa using he
        clear he
        have HB' : Hid (∀ i y, ss[i]? = some y → i < k + 1 → (s.toList == y.toList) = false) := Lib.hid (fun i y hy hi => by
          by_cases e : i = k
          · subst e; rw [HX.out] at hy; injection hy with hy; subst hy; exact he'
          · exact HB.out i y hy (by omega))
        go_wp2
        go_round
        case rel => exact ⟨k + 1, by omega, by go_num, HB'⟩
        case measure => simp [intOf]; omega
    · obtain rfl : k = n := by omega
      have E := Lib.hid (idxS_none (ss := ss) (s := s) (fun i y hy => HB.out i y hy (by rw [← HL.out]; exact (List.getElem?_eq_some_iff.1 hy).1)))
      go_wp2
      go_ret
      exact ⟨by rw [E.out]; rfl, rfl⟩
theorem contains_any (X : List Nat) (A : Option Addr) (c : Nat) (ss : List ByteArray) (s : ByteArray) (w : World) (hs : Sl w X A 1 (ss.map txt)) (hn : ss.length ≤ 1000000) :
    Calls Try.prog 23 #[.slice A ss.length c, .string s] w fun e w' => e = .returned (.bool (memS ss s)) ∧ w = w' := by
  rw [← idxS_mem]
  have HS := Lib.hid hs
  have HN := Lib.hid hn
  clear hs hn
  go_enter Try.func23, Try.ntmps23
  go_wp2_with (first | (go_at_call 39; refine (index_any X _ _ ss s _ HS.out HN.out).mono ?_; rintro e w2 ⟨rfl, rfl⟩))
  go_ret
  exact ⟨rfl, rfl⟩
theorem clip_any (A : Option Addr) (n c : Nat) (w : World) (hn : n ≤ c) (hc : c ≤ 9223372036854775807) : Calls Try.prog 24 #[.slice A n c] w fun e w' => e = .returned (.slice A n n) ∧ w = w' := by
  go_enter Try.func24, Try.ntmps24
  go_wp2
  go_ret
  exact ⟨rfl, rfl⟩

def maxAmount : Int := 1125899906842624
/-- What is wrong of an account, an asset, an amount. -/
def asksE (accts : List ByteArray) (who ast : ByteArray) (amt : Int) : Int :=
  if nameB ast = false ∨ amt < 1 ∨ maxAmount < amt then 1 else if memS accts who = false then 4 else 0

set_option maxHeartbeats 400000 in
theorem asks_any (X : List Nat) (num tm amt : Int) (vf ve : Value) (A : Option Addr) (c : Nat) (ss : List ByteArray) (who ast : ByteArray) (w : World) (hs : Sl w X A 1 (ss.map txt)) (hn : ss.length ≤ 1000000) (ha : ast.size ≤ 9223372036854775807) :
    Calls Try.prog 25 #[.agg #[.int .i64 num, .int .i64 tm, .slice A ss.length c, vf, ve], .string who, .string ast, .int .i64 amt] w fun e w' => e = .returned (.int .i64 (asksE ss who ast amt)) ∧ Kp [] w w' := by
  have HS := Lib.hid hs
  have HN := Lib.hid hn
  have HA := Lib.hid ha
  clear hs hn ha
  cases hb : nameB ast with
  | false =>
    have E := Lib.hid (show asksE ss who ast amt = 1 by unfold asksE; rw [if_pos (.inl hb)])
    go_enter Try.func25, Try.ntmps25
    go_wp2_with (first
      | ((with_reducible refine at_dst (N := 4) rfl ?_); refine ev_box rfl 26 _ rfl _ rfl [.int .i64 num, .int .i64 tm, .slice A ss.length c, vf, ve] rfl ?_; intro g1 w1 hg1 hb1 hk1)
      | (go_at_call 22; refine (name_any ast _ HA.out).mono ?_; rintro e w2 ⟨rfl, rfl⟩; rw [hb]))
    go_ret
    exact ⟨by rw [E.out]; rfl, hk1⟩
  | true =>
    by_cases h1 : amt < 1
    · have E := Lib.hid (show asksE ss who ast amt = 1 by unfold asksE; rw [if_pos (.inr (.inl h1))])
      have d1 : decide (amt < 1) = true := by simpa using h1
      clear h1
      go_enter Try.func25, Try.ntmps25
      go_wp2_with (first
        | ((with_reducible refine at_dst (N := 4) rfl ?_); refine ev_box rfl 26 _ rfl _ rfl [.int .i64 num, .int .i64 tm, .slice A ss.length c, vf, ve] rfl ?_; intro g1 w1 hg1 hb1 hk1)
        | (go_at_call 22; refine (name_any ast _ HA.out).mono ?_; rintro e w2 ⟨rfl, rfl⟩; rw [hb]))
      go_ret
      exact ⟨by rw [E.out]; rfl, hk1⟩
    · have d1 : decide (amt < 1) = false := by simpa using h1
      by_cases h2 : maxAmount < amt
      · have E := Lib.hid (show asksE ss who ast amt = 1 by unfold asksE; rw [if_pos (.inr (.inr h2))])
        have d2 : decide ((1125899906842624 : Int) < amt) = true := by simpa [maxAmount] using h2
        clear h1 h2
        go_enter Try.func25, Try.ntmps25
        go_wp2_with (first
          | ((with_reducible refine at_dst (N := 4) rfl ?_); refine ev_box rfl 26 _ rfl _ rfl [.int .i64 num, .int .i64 tm, .slice A ss.length c, vf, ve] rfl ?_; intro g1 w1 hg1 hb1 hk1)
          | (go_at_call 22; refine (name_any ast _ HA.out).mono ?_; rintro e w2 ⟨rfl, rfl⟩; rw [hb]))
        go_ret
        exact ⟨by rw [E.out]; rfl, hk1⟩
      · have d2 : decide ((1125899906842624 : Int) < amt) = false := by simpa [maxAmount] using h2
        have hE : asksE ss who ast amt = if memS ss who = false then 4 else 0 := by
          unfold asksE; rw [if_neg]; rintro (h | h | h)
          · rw [hb] at h; cases h
          · exact h1 h
          · exact h2 h
        clear h1 h2
        cases hm : memS ss who with
        | false =>
          have E := Lib.hid (show asksE ss who ast amt = 4 by rw [hE, if_pos hm])
          clear hE
          go_enter Try.func25, Try.ntmps25
          go_wp2_with (first
            | ((with_reducible refine at_dst (N := 4) rfl ?_); refine ev_box rfl 26 _ rfl _ rfl [.int .i64 num, .int .i64 tm, .slice A ss.length c, vf, ve] rfl ?_; intro g1 w1 hg1 hb1 hk1; have hc2 : w1.cell? ⟨g1, 2, none⟩ = some (.slice A ss.length c) := hb1.cell 2)
            | (go_at_call 22; refine (name_any ast _ HA.out).mono ?_; rintro e w2 ⟨rfl, rfl⟩; rw [hb])
            | (go_at_call 23; refine (contains_any X A c ss who _ (HS.out.keep0 hk1) HN.out).mono ?_; rintro e w2 ⟨rfl, rfl⟩; rw [hm]))
          go_ret
          exact ⟨by rw [E.out]; rfl, hk1⟩
        | true =>
          have E := Lib.hid (show asksE ss who ast amt = 0 by rw [hE, if_neg (by rw [hm]; simp)])
          clear hE
          go_enter Try.func25, Try.ntmps25
          go_wp2_with (first
            | ((with_reducible refine at_dst (N := 4) rfl ?_); refine ev_box rfl 26 _ rfl _ rfl [.int .i64 num, .int .i64 tm, .slice A ss.length c, vf, ve] rfl ?_; intro g1 w1 hg1 hb1 hk1; have hc2 : w1.cell? ⟨g1, 2, none⟩ = some (.slice A ss.length c) := hb1.cell 2)
            | (go_at_call 22; refine (name_any ast _ HA.out).mono ?_; rintro e w2 ⟨rfl, rfl⟩; rw [hb])
            | (go_at_call 23; refine (contains_any X A c ss who _ (HS.out.keep0 hk1) HN.out).mono ?_; rintro e w2 ⟨rfl, rfl⟩; rw [hm]))
          go_ret
          exact ⟨by rw [E.out]; rfl, hk1⟩
end Go.Proofs.Ytlgebdoadfljhaa
