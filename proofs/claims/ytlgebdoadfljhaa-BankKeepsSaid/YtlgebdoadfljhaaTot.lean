/- What is held (nothing), and how much there is of an asset. -/
import Derived.Test.YtlgebdoadfljhaaPut
import Derived.Test.YtlgebdoadfljhaaShelf
namespace Go.Proofs.Ytlgebdoadfljhaa
open Go.RowKit
set_option linter.unusedVariables false
set_option linter.unusedSimpArgs false

theorem held_any (num tm : Int) (va vf : Value) (A : Option Addr) (c : Nat) (w : World) :
    Calls Try.prog 28 #[.agg #[.int .i64 num, .int .i64 tm, va, vf, .slice A 0 c]] w fun e w' => e = .returned (.slice none 0 0) ∧ Kp [] w w' := by
  go_enter Try.func28, Try.ntmps28
  go_wp2_with (first
    | ((with_reducible refine at_dst (N := 1) rfl ?_); refine ev_box rfl 26 _ rfl _ rfl [.int .i64 num, .int .i64 tm, va, vf, .slice A 0 c] rfl ?_; intro g1 w1 hg1 hb1 hk1; have hc4 : w1.cell? ⟨g1, 4, none⟩ = some (.slice A 0 c) := hb1.cell 4))
  go_loopw [9, 3] (fun v9 v3 wr => v9 = .int .i64 0 ∧ v3 = .slice none 0 0 ∧ wr = w1) (fun v9 _ _ => 0)
  case atStart => exact ⟨rfl, rfl, rfl⟩
  case round =>
    obtain ⟨rfl, rfl, rfl⟩ := hrel
    go_wp2
    go_ret
    exact ⟨rfl, hk1⟩
def sumA (fs : List Fund) (ast : ByteArray) : Int := (fs.map fun f => if f.ast = ast then f.amt else 0).sum
def Smalls (fs : List Fund) : Prop := ∀ f ∈ fs, 0 ≤ f.amt ∧ f.amt ≤ 1125899906842624
theorem sumA_step (fs : List Fund) (ast : ByteArray) (i : Nat) (f : Fund) (h : fs[i]? = some f) : sumA (fs.take (i + 1)) ast = sumA (fs.take i) ast + if f.ast = ast then f.amt else 0 := by
  unfold sumA
  rw [List.take_add_one, h]
  simp
theorem sumA_le (fs : List Fund) (ast : ByteArray) (h : Smalls fs) : 0 ≤ sumA fs ast ∧ sumA fs ast ≤ fs.length * 1125899906842624 := by
  induction fs with
  | nil => simp [sumA]
  | cons f r ih =>
    have hf := h f (by simp)
    have := ih (fun g hg => h g (by simp [hg]))
    simp only [sumA, List.map_cons, List.sum_cons, List.length_cons] at this ⊢
    split <;> omega
theorem sumA_bound (fs : List Fund) (ast : ByteArray) (i : Nat) (h : Smalls fs) (hn : fs.length ≤ 1000) : 0 ≤ sumA (fs.take i) ast ∧ sumA (fs.take i) ast ≤ 1125899906842624000 := by
  have := sumA_le (fs.take i) ast (fun f hf => h f (List.mem_of_mem_take hf))
  have hl : (fs.take i).length ≤ 1000 := by rw [List.length_take]; omega
  omega
theorem tot_kp {w1 wr w7 w8 : World} {g7 : Nat} (HK : Hid (Kp [] w1 wr)) (_g : Nat) (hg7 : wr.heap.size ≤ g7) (hk7 : Kp [] wr w7) (hk8 : Kp [g7] w7 w8) : Kp [] w1 w8 :=
  (HK.out.trans hk7).then_ hk8 (by have := HK.out.size; simp; omega)
theorem str_ne {a b : ByteArray} (h : ¬ a = b) : (a.toList == b.toList) = false := by
  rw [beq_eq_false_iff_ne, ByteArray.toList_eq, ByteArray.toList_eq]
  exact fun e => h (ByteArray.ext (Array.toList_inj.mp e))
set_option maxRecDepth 100000 in
set_option maxHeartbeats 1000000 in
theorem total_any (X : List Nat) (num tm : Int) (va : Value) (A A3 : Option Addr) (c c3 : Nat) (fs : List Fund) (ast : ByteArray) (w : World) (hs : Sl w X A 3 (fs.map Fund.row)) (hn : fs.length ≤ 1000) (hsm : Smalls fs) :
    Calls Try.prog 15 #[.agg #[.int .i64 num, .int .i64 tm, va, .slice A fs.length c, .slice A3 0 c3], .string ast] w fun e w' => e = .returned (.int .i64 (sumA fs ast)) ∧ Kp [] w w' := by
  have HS := Lib.hid hs
  have HM := Lib.hid hsm
  have HB := Lib.hid (fun i => sumA_bound fs ast i hsm hn)
  clear hs hsm
  have HE := Lib.hid (show sumA fs ast = sumA (fs.take fs.length) ast by rw [List.take_length])
  generalize hL : fs.length = n at *
  have HL := Lib.hid hL
  clear hL
  go_enter Try.func15, Try.ntmps15
  go_wp2_with (first
    | ((with_reducible refine at_dst (N := 2) rfl ?_); refine ev_box rfl 26 _ rfl _ rfl [.int .i64 num, .int .i64 tm, va, .slice A n c, .slice A3 0 c3] rfl ?_; intro g1 w1 hg1 hb1 hk1; have hc3 : w1.cell? ⟨g1, 3, none⟩ = some (.slice A n c) := hb1.cell 3))
  have HB1 := Lib.hid hb1
  have HK1 := Lib.hid hk1
  clear hb1 hk1
  go_loopw [13, 5] (fun v13 v5 wr => ∃ k : Nat, k ≤ n ∧ v13 = .int .i64 k ∧ v5 = .int .i64 (sumA (fs.take k) ast) ∧ Hid (Kp [] w1 wr)) (fun v13 _ _ => n - (intOf v13).toNat)
  case atStart => exact ⟨0, Nat.zero_le _, rfl, rfl, Lib.hid (Kp.refl _ _)⟩
  case round =>
    obtain ⟨k, hk, rfl, rfl, HK⟩ := hrel
    by_cases hlt : k < n
    · obtain ⟨f, hf⟩ : ∃ f, fs[k]? = some f := ⟨_, List.getElem?_eq_getElem (by rw [HL.out]; omega)⟩
      obtain ⟨g, o, rfl, _, hgl, hr, _⟩ := HS.out.get (i := k) (r := f.row) (by rw [List.getElem?_map, hf]; rfl)
      have hkk : Kp [] w wr := HK1.out.trans HK.out
      have HR := Lib.hid (hkk.range hr (by simp))
      have hb0 := HB.out k
      have hb1 := HB.out (k + 1)
      rw [sumA_step fs ast k f hf] at hb1
      have hst := Lib.hid (sumA_step fs ast k f hf)
      have hgw : g < wr.heap.size := Nat.lt_of_lt_of_le hgl hkk.size
      clear hr hkk hf
      generalize hS : sumA (fs.take k) ast = s at *
      by_cases he : f.ast = ast
      · rw [if_pos he] at hb1
        have e1 : (f.ast.toList == ast.toList) = true := by rw [he]; simp
        have hwr : IntKind.i64.wrap (s + f.amt) = s + f.amt := IntWalk.i64_in _ ⟨by omega, by omega⟩
        rw [if_pos he] at hst
        clear he hS
        go_wp2_with (first
          | ((with_reducible refine at_dst (N := 16) rfl ?_); refine ev_load rfl 41 _ rfl g (o + k * 3) rfl f.row HR.out Try.underlying41 rfl info41 ?_)
          | ((with_reducible refine at_dst (N := 7) rfl ?_); refine ev_alloc rfl 41 rfl _ fzero Try.zeroValue41 rfl ?_; intro g7 w7 hg7 hb7 hk7)
          | ((with_reducible refine at_store (p := 7) rfl ?_); refine ev_store_all rfl 41 _ _ rfl g7 rfl f.row rfl 41 fzero hb7 rfl info41 f.row_ones ?_; intro w8 hb8 hk8; have c71 : w8.cell? ⟨g7, 1, none⟩ = some (.string f.ast) := hb8.cell 1; have c72 : w8.cell? ⟨g7, 2, none⟩ = some (.int .i64 f.amt) := hb8.cell 2))
        exact ⟨⟨k + 1, by omega, by go_num, by rw [hst.out], Lib.hid (tot_kp HK g7 hg7 hk7 hk8)⟩, by simp [intOf]; omega⟩
      · have e1 : (f.ast.toList == ast.toList) = false := str_ne he
        rw [if_neg he] at hst
        clear he hS
        go_wp2_with (first
          | ((with_reducible refine at_dst (N := 16) rfl ?_); refine ev_load rfl 41 _ rfl g (o + k * 3) rfl f.row HR.out Try.underlying41 rfl info41 ?_)
          | ((with_reducible refine at_dst (N := 7) rfl ?_); refine ev_alloc rfl 41 rfl _ fzero Try.zeroValue41 rfl ?_; intro g7 w7 hg7 hb7 hk7)
          | ((with_reducible refine at_store (p := 7) rfl ?_); refine ev_store_all rfl 41 _ _ rfl g7 rfl f.row rfl 41 fzero hb7 rfl info41 f.row_ones ?_; intro w8 hb8 hk8; have c71 : w8.cell? ⟨g7, 1, none⟩ = some (.string f.ast) := hb8.cell 1))
        exact ⟨⟨k + 1, by omega, by go_num, by rw [hst.out, Int.add_zero], Lib.hid (tot_kp HK g7 hg7 hk7 hk8)⟩, by simp [intOf]; omega⟩
    · obtain rfl : k = n := by omega
      have hb0 : Blk wr g1 26 [.int .i64 num, .int .i64 tm, va, .slice A k c, .slice A3 0 c3] := HB1.out.keep HK.out (by simp)
      go_wp2_with (first
        | ((with_reducible refine at_dst (N := 26) rfl ?_); refine ev_load rfl 26 _ rfl g1 0 rfl [.int .i64 num, .int .i64 tm, va, .slice A k c, .slice A3 0 c3] hb0.range Try.underlying26 rfl info26 ?_)
        | (go_at_call 28; refine (held_any num tm va (.slice A k c) A3 c3 _).mono ?_; rintro e w9 ⟨rfl, hk9⟩))
      have HK9 := Lib.hid ((HK1.out.trans HK.out).trans hk9)
      clear hk9 hb0
      go_loopw [29, 5] (fun v29 v5 wq => v29 = .int .i64 0 ∧ v5 = .int .i64 (sumA (fs.take k) ast) ∧ wq = w9) (fun v29 _ _ => 0)
      case atStart => exact ⟨rfl, rfl, rfl⟩
      case round =>
        obtain ⟨rfl, rfl, rfl⟩ := hrel
        go_wp2
        go_ret
        exact ⟨by rw [HE.out]; rfl, HK9.out⟩
end Go.Proofs.Ytlgebdoadfljhaa
