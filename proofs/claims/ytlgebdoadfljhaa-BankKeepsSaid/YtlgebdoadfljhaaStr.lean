/- Strings in order; names; lists of strings: the small functions. -/
import Derived.Test.YtlgebdoadfljhaaLib
import Derived.Sort.Walk0
import Derived.StillTailTactics
namespace Go.Proofs.Ytlgebdoadfljhaa
open Go.RowKit
set_option linter.unusedVariables false
set_option linter.unusedSimpArgs false

/-- How cmp.Compare orders strings. -/
def cmpS (a b : ByteArray) : Int := if Op.bytesLess a.toList b.toList = true then -1 else if Op.bytesLess b.toList a.toList = true then 1 else 0

theorem less_iff (a b : ByteArray) : Op.bytesLess a.toList b.toList = true ↔ a.toList < b.toList := by
  rw [bytesLess_eq]; simp
theorem isNaN_any (s : ByteArray) (w : World) : Calls Try.prog 85 #[.string s] w fun e w' => e = .returned (.bool false) ∧ w = w' := by
  have h : (s.toList != s.toList) = false := by simp
  go_enter Try.func85, Try.ntmps85
  go_wp2
  go_ret
  exact ⟨rfl, rfl⟩

theorem cmpS_neg {a b : ByteArray} : cmpS a b < 0 ↔ a.toList < b.toList := by
  unfold cmpS
  rw [← less_iff]
  by_cases h1 : Op.bytesLess a.toList b.toList = true
  · simp only [h1, if_true]; simp
  · rw [if_neg h1]; split <;> simp [h1]
theorem cmpS_zero {a b : ByteArray} : cmpS a b = 0 ↔ a.toList = b.toList := by
  unfold cmpS
  by_cases h1 : Op.bytesLess a.toList b.toList = true
  · rw [if_pos h1]; rw [less_iff] at h1
    constructor
    · intro h; cases h
    · intro e; rw [e] at h1; exact absurd h1 (List.lt_irrefl _)
  · rw [if_neg h1]; rw [less_iff] at h1
    by_cases h2 : Op.bytesLess b.toList a.toList = true
    · rw [if_pos h2]; rw [less_iff] at h2
      constructor
      · intro h; cases h
      · intro e; rw [e] at h2; exact absurd h2 (List.lt_irrefl _)
    · rw [if_neg h2]; rw [less_iff] at h2
      exact ⟨fun _ => List.le_antisymm (List.not_lt.1 h2) (List.not_lt.1 h1), fun _ => rfl⟩

set_option maxHeartbeats 400000 in
theorem compare_any (a b : ByteArray) (w : World) : Calls Try.prog 66 #[.string a, .string b] w fun e w' => e = .returned (.int .i64 (cmpS a b)) ∧ w = w' := by
  by_cases h1 : Op.bytesLess a.toList b.toList = true
  · have e := Lib.hid (show cmpS a b = -1 by unfold cmpS; rw [if_pos h1])
    go_enter Try.func66, Try.ntmps66
    go_wp2_with (first | (go_at_call 85; refine (isNaN_any _ _).mono ?_; rintro e w' ⟨rfl, rfl⟩))
    go_ret
    exact ⟨by rw [e.out]; rfl, rfl⟩
  · have h1' : Op.bytesLess a.toList b.toList = false := by simpa using h1
    by_cases h2 : Op.bytesLess b.toList a.toList = true
    · have e := Lib.hid (show cmpS a b = 1 by unfold cmpS; rw [if_neg h1, if_pos h2])
      have h3 : (a.toList == b.toList) = false := by
        rw [beq_eq_false_iff_ne]; intro e; rw [less_iff, e] at h2; exact List.lt_irrefl _ h2
      clear h1 h2
      go_enter Try.func66, Try.ntmps66
      go_wp2_with (first | (go_at_call 85; refine (isNaN_any _ _).mono ?_; rintro e w' ⟨rfl, rfl⟩))
      go_ret
      exact ⟨by rw [e.out]; rfl, rfl⟩
    · have e := Lib.hid (show cmpS a b = 0 by unfold cmpS; rw [if_neg h1, if_neg h2])
      have h3 : (a.toList == b.toList) = true := by
        rw [beq_iff_eq]; rw [less_iff] at h1 h2; exact List.le_antisymm (List.not_lt.1 h2) (List.not_lt.1 h1)
      clear h1 h2
      go_enter Try.func66, Try.ntmps66
      go_wp2_with (first | (go_at_call 85; refine (isNaN_any _ _).mono ?_; rintro e w' ⟨rfl, rfl⟩))
      go_ret
      exact ⟨by rw [e.out]; rfl, rfl⟩

def orI (x y : Int) : Int := if x = 0 then y else x
set_option maxHeartbeats 400000 in
/-- The first of two numbers that is not 0. -/
theorem or_any (g : Nat) (x y : Int) (w : World) (h0 : w.cell? ⟨g, 0, none⟩ = some (.int .i64 x)) (h1 : w.cell? ⟨g, 1, none⟩ = some (.int .i64 y)) (c : Nat) :
    Calls Try.prog 65 #[.slice (some ⟨g, 0, none⟩) 2 c] w fun e w' => e = .returned (.int .i64 (orI x y)) ∧ w = w' := by
  by_cases hx : x = 0
  · by_cases hy : y = 0
    · have e := Lib.hid (show orI x y = 0 by unfold orI; rw [if_pos hx, hy])
      subst hx; subst hy
      go_enter Try.func65, Try.ntmps65
      go_wp2
      refine wp_loop_rounds 3 ?_
      rw [rounds_succ]; go_wp2; rw [rounds_succ]; go_wp2; rw [rounds_succ]; go_wp2
      go_ret
      exact ⟨by rw [e.out]; rfl, rfl⟩
    · have e := Lib.hid (show orI x y = y by unfold orI; rw [if_pos hx])
      subst hx
      have hb : (y != 0) = true := by simpa using hy
      clear hy
      go_enter Try.func65, Try.ntmps65
      go_wp2
      refine wp_loop_rounds 2 ?_
      rw [rounds_succ]; go_wp2; rw [rounds_succ]; go_wp2
      go_ret
      exact ⟨by rw [e.out]; rfl, rfl⟩
  · have hb : (x != 0) = true := by simpa using hx
    have e := Lib.hid (show orI x y = x by unfold orI; rw [if_neg hx])
    clear hx
    go_enter Try.func65, Try.ntmps65
    go_wp2
    refine wp_loop_rounds 1 ?_
    rw [rounds_succ]; go_wp2
    go_ret
    exact ⟨by rw [e.out]; rfl, rfl⟩

/-- How funds are ordered: by account, then by asset. -/
def fcmp (a b : ByteArray × ByteArray) : Int := orI (cmpS a.1 b.1) (cmpS a.2 b.2)

set_option maxHeartbeats 400000 in
set_option maxRecDepth 100000 in
theorem order_any (a1 a2 b1 b2 : ByteArray) (n m : Int) (w : World) :
    Calls Try.prog 43 #[.agg #[.string a1, .string a2, .int .i64 n], .agg #[.string b1, .string b2, .int .i64 m]] w fun e w' => e = .returned (.int .i64 (fcmp (a1, a2) (b1, b2))) ∧ Kp [] w w' := by
  unfold fcmp
  go_enter Try.func43, Try.ntmps43
  go_wp2_with (first
    | ((with_reducible refine at_dst (N := 2) rfl ?_); refine ev_box rfl 41 _ rfl _ rfl [.string a1, .string a2, .int .i64 n] rfl ?_; intro g1 w1 hg1 hb1 hk1)
    | ((with_reducible refine at_dst (N := 3) rfl ?_); refine ev_box rfl 41 _ rfl _ rfl [.string b1, .string b2, .int .i64 m] rfl ?_; intro g2 w2 hg2 hb2 hk2))
  have hc0 : w2.cell? ⟨g1, 0, none⟩ = some (.string a1) := (hb1.keep hk2 (by simp)).cell 0
  have hc1 : w2.cell? ⟨g1, 1, none⟩ = some (.string a2) := (hb1.keep hk2 (by simp)).cell 1
  have hd0 : w2.cell? ⟨g2, 0, none⟩ = some (.string b1) := hb2.cell 0
  have hd1 : w2.cell? ⟨g2, 1, none⟩ = some (.string b2) := hb2.cell 1
  have K2 := Lib.hid (hk1.trans hk2)
  clear hb1 hb2 hk1 hk2 hg1 hg2
  refine wp_region_still_tail 10 (by kernel_rfl) (by kernel_rfl) ?_
  simp only [List.take_succ_cons, List.take_zero, List.drop_succ_cons, List.drop_zero]
  iterate 4 still_step
  still_call ((compare_any a1 b1 _).mono fun _ _ h => ⟨h.1, h.2.symm⟩)
  iterate 4 still_step
  still_call ((compare_any a2 b2 _).mono fun _ _ h => ⟨h.1, h.2.symm⟩)
  refine wpStill_nil ?_
  change wpList _ _ _ _ _ w2.drew
  have hsz : w2.drew.heap.size = w2.heap.size := rfl
  go_wp2_with (first
    | (go_at_call 65; refine (or_any w2.heap.size (cmpS a1 b1) (cmpS a2 b2) _ (by simp [go_sem]) (by simp [go_sem]) _).mono ?_; rintro e w' ⟨rfl, rfl⟩))
  go_ret
  exact ⟨rfl, (K2.out.trans (Kp.alloc _ _)).trans (Kp.drew _)⟩
end Go.Proofs.Ytlgebdoadfljhaa
