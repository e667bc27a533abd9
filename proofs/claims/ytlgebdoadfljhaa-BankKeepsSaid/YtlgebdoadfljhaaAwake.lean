/- Each statement's first words: awake. -/
import Derived.Test.YtlgebdoadfljhaaGive
namespace Go.Proofs.Ytlgebdoadfljhaa
open Go.RowKit
set_option linter.unusedVariables false
set_option linter.unusedSimpArgs false

abbrev sA : ByteArray := ⟨#[97]⟩
abbrev gold : ByteArray := ⟨#[103, 111, 108, 100]⟩
def bk1 : Bank := ⟨1, 0, [sA], []⟩
def bk2 : Bank := ⟨1, 0, [sA], [⟨sA, gold, 5⟩]⟩
theorem aw_open : openB (newB 1) sA = (bk1, 0) := by
  unfold openB newB bk1
  rw [if_neg (by decide), if_neg (by simp [memS]), if_neg (by simp)]
  rfl
theorem asks_ok {accs : List ByteArray} {who ast : ByteArray} {n : Int} (h1 : nameB ast = true) (h2 : 1 ≤ n ∧ n ≤ 1125899906842624) (h3 : memS accs who = true) : asksE accs who ast n = 0 := by
  unfold asksE maxAmount
  rw [if_neg (by simp [h1]; omega), if_neg (by simp [h3])]
theorem mem_one (x : ByteArray) : memS [x] x = true := by simp [memS]
theorem amt_one (x y : ByteArray) (n : Int) : amtF [⟨x, y, n⟩] (x, y) = n := by rw [amtF_cons, if_pos (show fcmp (Fund.key ⟨x, y, n⟩) (x, y) = 0 from fcmp_zero.2 rfl)]
theorem sum_one (x y : ByteArray) (n : Int) : sumA [⟨x, y, n⟩] y = n := by simp [sumA]
theorem aw_give : giveB bk1 sA gold 5 = (bk2, 0) := by
  unfold giveB bk1 bk2 setB
  rw [if_pos (asks_ok (by decide) (by omega) (mem_one _)), if_neg (by rw [astS_nil]; simp), if_neg (by simp [sumA]), amtF_nil, setF_nil]
  rfl
theorem aw_take : takeB bk2 sA gold 6 = (bk2, 6) := by
  unfold takeB bk2
  rw [if_pos (asks_ok (by decide) (by omega) (mem_one _)), if_pos (by rw [amt_one]; omega)]
theorem aw_bal : balB bk2 sA gold = (5, 0) := by
  unfold balB bk2
  rw [if_pos (asks_ok (by decide) (by omega) (mem_one _)), amt_one]
theorem fit_new (n : Int) : Fit (newB n) := ⟨List.Pairwise.nil, (fun f hf => by cases hf), by simp [newB], by simp [newB]⟩
theorem fit_bk1 : Fit bk1 := ⟨List.Pairwise.nil, (fun f hf => by cases hf), by simp [bk1], by simp [bk1]⟩
theorem fit_bk2 : Fit bk2 := ⟨by simp [bk2, Sorted], (fun f hf => by simp [bk2] at hf; subst hf; simp), by simp [bk2], by simp [bk2]⟩
set_option maxRecDepth 100000 in
set_option maxHeartbeats 2000000 in
theorem awake_any (w : World) : Calls Try.prog 14 #[] w fun e w' => e = .returned (.bool true) ∧ Kp [] w w' := by
  have HO := Lib.hid aw_open
  have HG := Lib.hid aw_give
  have HT := Lib.hid aw_take
  have HBL := Lib.hid aw_bal
  go_enter Try.func14, Try.ntmps14
  go_wp2_with (first
    | (go_at_call 8; refine (new_any [] 1 _ (by decide)).mono ?_; rintro e w1 ⟨⟨v1, rfl, hv1⟩, hk1⟩)
    | (go_at_call 10; refine (open_any [] (newB 1) _ sA _ hv1 (by simp) (fit_new 1).accs (by decide)).mono ?_; rw [HO.out]; rintro e w2 ⟨⟨v2, rfl, hv2⟩, hk2⟩; obtain ⟨A1, c1, A2, c2, rfl, hb2⟩ := hv2)
    | ((with_reducible refine at_dst (N := 1) rfl ?_); refine ev_alloc rfl 26 rfl _ bookZ Try.zeroValue26 rfl ?_; intro g1 w3 hg1 hb3 hk3)
    | ((with_reducible refine at_store (p := 1) rfl ?_); refine ev_store_all rfl 26 _ _ rfl g1 rfl (bkCells bk1 A1 c1 A2 c2) rfl 26 bookZ hb3 rfl info26 (bk_ones _ _ _ _ _) ?_; intro w4 hb4 hk4; have K4 := Lib.hid (((hk1.trans hk2).trans hk3).then_ hk4 (by simp; have := hk1.size; have := hk2.size; omega)); have B4 := Lib.hid hb4; have L4 := hb4.lt; have S4 := Lib.hid (hb2.keep0 (hk3.then_ hk4 (by simp [hg1]))); clear hk1 hk2 hk3 hk4 hb3 hb4 hb2 hv1)
    | ((with_reducible refine at_dst (N := 15) rfl ?_); refine ev_load rfl 26 _ rfl g1 0 rfl (bkCells bk1 A1 c1 A2 c2) B4.out.range Try.underlying26 rfl info26 ?_)
    | (go_at_call 12; refine (give_any [] bk1 _ sA gold 5 _ ⟨A1, c1, A2, c2, rfl, S4.out⟩ (by simp) fit_bk1 (by decide)).mono ?_; rw [HG.out]; rintro e w5 ⟨⟨v5, rfl, hv5⟩, hk5⟩; obtain ⟨A3, c3, A5, c5, rfl, hb5⟩ := hv5)
    | ((with_reducible refine at_dst (N := 3) rfl ?_); refine ev_alloc rfl 26 rfl _ bookZ Try.zeroValue26 rfl ?_; intro g3 w6 hg3 hb6 hk6)
    | ((with_reducible refine at_store (p := 3) rfl ?_); refine ev_store_all rfl 26 _ _ rfl g3 rfl (bkCells bk2 A3 c3 A5 c5) rfl 26 bookZ hb6 rfl info26 (bk_ones _ _ _ _ _) ?_; intro w7 hb7 hk7; have K47 := (hk5.trans hk6).then_ hk7 (by simp; have := hk5.size; omega); have K7 := Lib.hid (K4.out.trans K47); have B17 := Lib.hid (B4.out.keep K47 (by simp)); have B7 := Lib.hid hb7; have S7 := Lib.hid (hb5.keep0 (hk6.then_ hk7 (by simp [hg3]))); clear hk5 hk6 hk7 hb6 hb7 hb5 K47)
    | ((with_reducible refine at_dst (N := 20) rfl ?_); refine ev_load rfl 26 _ rfl g3 0 rfl (bkCells bk2 A3 c3 A5 c5) B7.out.range Try.underlying26 rfl info26 ?_)
    | (go_at_call 17; refine (take_any [] bk2 _ sA gold 6 _ ⟨A3, c3, A5, c5, rfl, S7.out⟩ (by simp) fit_bk2 (by decide)).mono ?_; rw [HT.out]; rintro e w8 ⟨⟨v8, rfl, hv8⟩, hk8⟩; obtain ⟨A8, c8, A9, c9, rfl, hb8⟩ := hv8)
    | ((with_reducible refine at_dst (N := 5) rfl ?_); refine ev_alloc rfl 26 rfl _ bookZ Try.zeroValue26 rfl ?_; intro g5 w9 hg5 hb9 hk9)
    | ((with_reducible refine at_store (p := 5) rfl ?_); refine ev_store_all rfl 26 _ _ rfl g5 rfl (bkCells bk2 A8 c8 A9 c9) rfl 26 bookZ hb9 rfl info26 (bk_ones _ _ _ _ _) ?_; intro w10 hb10 hk10; have K710 := (hk8.trans hk9).then_ hk10 (by simp; have := hk8.size; omega); have K10 := Lib.hid (K7.out.trans K710); have B110 := Lib.hid (B17.out.keep K710 (by simp)); have B10 := Lib.hid (B7.out.keep K710 (by simp)); have S10 := Lib.hid (S7.out.keep0 K710); clear hk8 hk9 hk10 hb9 hb10 hb8 K710)
    | ((with_reducible refine at_dst (N := 25) rfl ?_); refine ev_load rfl 26 _ rfl g3 0 rfl (bkCells bk2 A3 c3 A5 c5) B10.out.range Try.underlying26 rfl info26 ?_)
    | (go_at_call 16; refine (balance_any [] bk2 _ sA gold _ ⟨A3, c3, A5, c5, rfl, S10.out⟩ fit_bk2 (by decide)).mono ?_; rw [HBL.out]; rintro e w11 ⟨rfl, hk11⟩; have B111 := B110.out.keep hk11 (by simp); have d0 : w11.cell? ⟨g1, 0, none⟩ = some (.int .i64 1) := B111.cell 0; have d3 : w11.cell? ⟨g1, 3, none⟩ = some (.slice A2 0 c2) := B111.cell 3; have B311 := B10.out.keep hk11 (by simp); have x0 : w11.cell? ⟨g3, 0, none⟩ = some (.int .i64 1) := B311.cell 0; have x1 : w11.cell? ⟨g3, 1, none⟩ = some (.int .i64 0) := B311.cell 1; have x2 : w11.cell? ⟨g3, 2, none⟩ = some (.slice A3 1 c3) := B311.cell 2; have x3 : w11.cell? ⟨g3, 3, none⟩ = some (.slice A5 1 c5) := B311.cell 3; have x4 : w11.cell? ⟨g3, 4, none⟩ = some (.slice none 0 0) := B311.cell 4; clear B111 B311)
    | (go_at_call 15; refine (total_bk gold (S10.out.keep0 hk11) fit_bk2).mono ?_; rw [show sumA bk2.funds gold = 5 from sum_one _ _ _]; rintro e w12 ⟨rfl, hk12⟩))
  go_ret
  exact ⟨rfl, (K10.out.trans hk11).trans hk12⟩
end Go.Proofs.Ytlgebdoadfljhaa
