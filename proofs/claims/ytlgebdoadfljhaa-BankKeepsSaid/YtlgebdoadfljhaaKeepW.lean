/- BankKeeps: the walk. -/
import Derived.Test.YtlgebdoadfljhaaKeep
namespace Go.Proofs.Ytlgebdoadfljhaa
open Go.RowKit
set_option linter.unusedVariables false
set_option linter.unusedSimpArgs false

theorem tmod_neg {v n : Int} (hn : 0 < n) (h : v.tmod n < 0) : v.tmod n + n = v % n := by
  rw [Int.tmod_eq_emod] at *
  have := Int.emod_nonneg v (show n ≠ 0 by omega)
  have := Int.emod_lt_of_pos v hn
  split at h <;> rename_i hc
  · omega
  · rw [if_neg hc]; omega
theorem tmod_pos {v n : Int} (hn : 0 < n) (h : ¬ v.tmod n < 0) : v.tmod n = v % n := by
  rw [Int.tmod_eq_emod] at *
  have := Int.emod_nonneg v (show n ≠ 0 by omega)
  have := Int.emod_lt_of_pos v hn
  split at h <;> rename_i hc
  · rw [if_pos hc]; omega
  · omega
set_option maxHeartbeats 400000 in
theorem place_any (v n : Int) (w : World) (hv : -9223372036854775808 ≤ v ∧ v ≤ 9223372036854775807) (hn : 0 < n ∧ n ≤ 4611686018427387904) :
    Calls Try.prog 9 #[.int .i64 v, .int .i64 n] w fun e w' => e = .returned (.int .i64 (v % n)) ∧ w = w' := by
  have h0 : (n == 0) = false := by rw [beq_eq_false_iff_ne]; omega
  have hm := Int.tmod_lt_of_pos v hn.1
  have hm2 := Int.lt_tmod_of_pos v hn.1
  have e1 : IntKind.i64.wrap (v.tmod n) = v.tmod n := IntWalk.i64_in _ ⟨by omega, by omega⟩
  by_cases hs : v.tmod n < 0
  · have ed : decide (v.tmod n < 0) = true := by simpa using hs
    have e2 : IntKind.i64.wrap (v.tmod n + n) = v.tmod n + n := IntWalk.i64_in _ ⟨by omega, by omega⟩
    have hE := Lib.hid (tmod_neg hn.1 hs)
    go_enter Try.func9, Try.ntmps9
    go_wp2
    go_ret
    exact ⟨by rw [hE.out]; rfl, rfl⟩
  · have ed : decide (v.tmod n < 0) = false := by simpa using hs
    have hE := Lib.hid (tmod_pos hn.1 hs)
    go_enter Try.func9, Try.ntmps9
    go_wp2
    go_ret
    exact ⟨by rw [hE.out]; rfl, rfl⟩

/-- Block g holds a book. -/
structure St (w0 : World) (g : Nat) (w : World) (b : Bank) (A1 : Option Addr) (c1 : Nat) (A : Option Addr) (c : Nat) : Prop where
  blk : Blk w g 26 (bkCells b A1 c1 A c)
  bk : Bk w [g] b A1 c1 A c
  kp : Kp [] w0 w
  ge : w0.heap.size ≤ g
def StV (w0 : World) (g : Nat) (w : World) (b : Bank) : Prop := ∃ A1 c1 A c, St w0 g w b A1 c1 A c
theorem St.keep {w0 w w' : World} {g : Nat} {b : Bank} {A1 : Option Addr} {c1 : Nat} {A : Option Addr} {c : Nat} (h : St w0 g w b A1 c1 A c) (k : Kp [] w w') : St w0 g w' b A1 c1 A c :=
  ⟨h.blk.keep k (by simp), h.bk.keep0 k, h.kp.trans k, h.ge⟩
/-- A new book is laid where one was. -/
theorem St.lay {w0 w w1 w2 : World} {g : Nat} {b b2 : Bank} {A1 A3 : Option Addr} {c1 c3 : Nat} {A A4 : Option Addr} {c c4 : Nat} (h : St w0 g w b A1 c1 A c) (k : Kp [] w w1) (hb : Bk w1 [g] b2 A3 c3 A4 c4) (hl : Blk w2 g 26 (bkCells b2 A3 c3 A4 c4)) (k2 : Kp [g] w1 w2) : St w0 g w2 b2 A3 c3 A4 c4 :=
  ⟨hl, hb.keep k2 (by simp), (h.kp.trans k).then_ k2 (by simp [h.ge]), h.ge⟩
theorem St.lt {w0 w : World} {g : Nat} {b : Bank} {A1 : Option Addr} {c1 : Nat} {A : Option Addr} {c : Nat} (h : St w0 g w b A1 c1 A c) : ∀ x ∈ [g], x < w.heap.size := by simpa using h.blk.lt
theorem St.over {w0 w w1 : World} {g : Nat} {b b2 : Bank} {A1 A3 : Option Addr} {c1 c3 : Nat} {A A4 : Option Addr} {c c4 : Nat} (h : St w0 g w b A1 c1 A c) (k : Kp [] w w1) (hb : Bk w1 [g] b2 A3 c3 A4 c4) : StV w0 g (w1.setCells g 0 (bkCells b2 A3 c3 A4 c4)) b2 := by
  refine ⟨A3, c3, A4, c4, h.lay k hb ?_ (Kp.setCells g (by simp) _ _ _)⟩
  have := Blk.setCells (bkCells b2 A3 c3 A4 c4) _ 0 _ (h.blk.keep k (by simp))
  rwa [splice_all _ _ (by simp [bkCells, bookCells])] at this
theorem ints_get {w : World} {B : Option Addr} {n : Nat} {z : Nat → Int} (HR : Hid (0 < n → ∃ g o, B = some ⟨g, o, none⟩ ∧ g < w.heap.size ∧ ∀ k, k < n → w.cell? ⟨g, o + k, none⟩ = some (.int .i64 (z k)))) {k : Nat} (hk : k < n) {w' : World} (kp : Kp [] w w') : ∃ g o, B = some ⟨g, o, none⟩ ∧ w'.cell? ⟨g, o + k, none⟩ = some (.int .i64 (z k)) := by
  obtain ⟨g, o, e, hl, h⟩ := HR.out (by omega)
  exact ⟨g, o, e, kp.cell (h k hk) (by simp)⟩
def psum (b : Bank) : Nat → Int
  | 0 => 0
  | j + 1 => psum b j + am b j
theorem psum_succ (b : Bank) (j : Nat) : psum b (j + 1) = psum b j + am b j := rfl
theorem psum_end {k : Nat} {b : Bank} (h : K2 k b) : psum b 4 = 400 := by
  have := h.amt
  simp only [psum]; omega
theorem psum_small {b : Bank} (h : Fit b) : ∀ j, j ≤ 4 → 0 ≤ psum b j ∧ psum b j ≤ 1125899906842624 * j
  | 0, _ => ⟨Int.le_refl _, Int.le_refl _⟩
  | j + 1, hj => by
    have h1 := psum_small h j (by omega)
    have h2 := am_small h j
    simp only [psum]; omega
set_option maxRecDepth 100000 in
set_option maxHeartbeats 4000000 in
theorem keeps_walk (B : Option Addr) (n c : Nat) (z : Nat → Int) (w : World) (hz : ∀ k, k < n → -9223372036854775808 ≤ z k ∧ z k ≤ 9223372036854775807)
    (hr : 0 < n → ∃ g o, B = some ⟨g, o, none⟩ ∧ g < w.heap.size ∧ ∀ k, k < n → w.cell? ⟨g, o + k, none⟩ = some (.int .i64 (z k))) (hn : n ≤ 9223372036854775807) :
    Calls Try.prog 5 #[.slice B n c] w fun e w' => e = .returned (.bool true) ∧ Kp [] w w' := by
  have HZ := Lib.hid hz
  have HR := Lib.hid hr
  clear hz hr
  go_enter Try.func5, Try.ntmps5
  go_wp2_with (first
    | (go_at_call 8; refine (new_any [] 0 _ (by decide)).mono ?_; rintro e w1 ⟨⟨v1, rfl, hv1⟩, hk1⟩; obtain ⟨A1, c1, A2, c2, rfl, hb1⟩ := hv1)
    | ((with_reducible refine at_dst (N := 3) rfl ?_); refine ev_alloc rfl 26 rfl _ bookZ Try.zeroValue26 rfl ?_; intro g3 w3 hg3 hb3 hk3)
    | ((with_reducible refine at_store (p := 3) rfl ?_); refine ev_store_all rfl 26 _ _ rfl g3 rfl (bkCells (newB 0) A1 c1 A2 c2) rfl 26 bookZ hb3 rfl info26 (bk_ones _ _ _ _ _) ?_; intro w4 hb4 hk4))
  have HS := Lib.hid (show StV w g3 w4 (newB 0) from ⟨A1, c1, A2, c2, hb4, ((hb1.more (Y := [g3]) (by simp [hg3])).keep0 hk3).keep hk4 (by simp), (hk1.trans hk3).then_ hk4 (by have := hk1.size; simp; omega), Nat.le_trans hk1.size hg3⟩)
  clear hb1 hk1 hg3 hb3 hk3 hb4 hk4
  go_loopw [4] (fun v4 wr => ∃ i : Nat, ∃ b, i ≤ 4 ∧ v4 = .int .i64 i ∧ Hid (K1 i b) ∧ Hid (StV w g3 wr b)) (fun v4 _ => 4 - (intOf v4).toNat)
  case atStart => exact ⟨0, newB 0, by omega, rfl, Lib.hid k1_new, HS⟩
  case round =>
    clear HS
    obtain ⟨i, b, hi, rfl, HK, HS⟩ := hrel
    by_cases hlt : i < 4
    · obtain ⟨A3, c3, A4, c4, hs⟩ := HS.out
      have HT := Lib.hid hs
      have d0 : wr.cell? ⟨g3, 0, none⟩ = some (.int .i64 b.num) := HT.out.blk.cell 0
      have d1 : wr.cell? ⟨g3, 1, none⟩ = some (.int .i64 b.tm) := HT.out.blk.cell 1
      have d2 : wr.cell? ⟨g3, 2, none⟩ = some (.slice A3 b.accs.length c3) := HT.out.blk.cell 2
      have d3 : wr.cell? ⟨g3, 3, none⟩ = some (.slice A4 b.funds.length c4) := HT.out.blk.cell 3
      have d4 : wr.cell? ⟨g3, 4, none⟩ = some (.slice none 0 0) := HT.out.blk.cell 4
      have i1 : (0 : Int) ≤ (i : Int) + 1 := by omega
      have i2 : (i : Int) ≤ (i : Int) + 1 := by omega
      have i3 : (i : Int) + 1 ≤ 4 := by omega
      have i4 : (i : Int) < 4 := by omega
      obtain ⟨b1, hb1⟩ : ∃ b1, b1 = ({ b with accs := cs4.take (i + 1) } : Bank) := ⟨_, rfl⟩
      have HO := Lib.hid (k1_open HK.out hlt)
      have HG := Lib.hid (k1_give HK.out hlt)
      have HK2 := Lib.hid (k1_step HK.out hlt)
      have HF1 : Hid (Fit b1) := Lib.hid (by rw [hb1]; exact ⟨HK.out.fit.sorted, HK.out.fit.smalls, HK.out.fit.funds, by show (cs4.take (i + 1)).length ≤ 1000; rw [List.length_take]; omega⟩)
      rw [← hb1] at HO HG HK2
      clear hs hb1
      generalize setB b1 (ch i, gold) 100 = b2 at *
      have hsz := ch_size hlt
      have HSZ := Lib.hid hsz
      clear hsz
      have hwr : IntKind.i64.wrap ((i : Int) + 1) = (i : Int) + 1 := IntWalk.i64_in _ ⟨by omega, by omega⟩
      have htn : ((i : Int) + 1).toNat = i + 1 := by omega
      go_wp2_with fail
      go_cut [] (fun wc => Hid (StV w g3 wc b1))
      case first =>
        go_region_with (first | (go_at_call 10; refine (open_any [g3] b _ (ch i) _ ⟨A3, c3, A4, c4, rfl, HT.out.bk.keep0 (Kp.drew _)⟩ HT.out.lt HK.out.fit.accs (by rw [HSZ.out]; decide)).mono ?_; rw [HO.out]; rintro e w5 ⟨⟨v5, rfl, hv5⟩, hk5⟩; obtain ⟨A5, c5, A6, c6, rfl, hb5⟩ := hv5; have HL5 := Lib.hid (HT.out.keep ((Kp.drew _).trans hk5)); have y0 := HL5.out.blk.cell 0; have q0 := HL5.out.blk.frozen 0; have y1 := HL5.out.blk.cell 1; have q1 := HL5.out.blk.frozen 1; have y2 := HL5.out.blk.cell 2; have q2 := HL5.out.blk.frozen 2; have y3 := HL5.out.blk.cell 3; have q3 := HL5.out.blk.frozen 3; have y4 := HL5.out.blk.cell 4; have q4 := HL5.out.blk.frozen 4; simp only [bkCells, bookCells, List.getElem?_cons_zero, List.getElem?_cons_succ] at y0 y1 y2 y3 y4 ⊢))
        all_goals
          go_wp2
          go_meet
          case rel => exact Lib.hid (HT.out.over ((Kp.drew _).trans hk5) hb5)
      case rest =>
        obtain ⟨wb, rfl⟩ : ∃ wb : World, wb = wc := ⟨_, rfl⟩
        clear d0 d1 d2 d3 d4 HT HS
        obtain ⟨A3, c3, A4, c4, hs⟩ := hcut.out
        have HT := Lib.hid hs
        have d0 : wb.cell? ⟨g3, 0, none⟩ = some (.int .i64 b1.num) := HT.out.blk.cell 0
        have d1 : wb.cell? ⟨g3, 1, none⟩ = some (.int .i64 b1.tm) := HT.out.blk.cell 1
        have d2 : wb.cell? ⟨g3, 2, none⟩ = some (.slice A3 b1.accs.length c3) := HT.out.blk.cell 2
        have d3 : wb.cell? ⟨g3, 3, none⟩ = some (.slice A4 b1.funds.length c4) := HT.out.blk.cell 3
        have d4 : wb.cell? ⟨g3, 4, none⟩ = some (.slice none 0 0) := HT.out.blk.cell 4
        clear hs
        go_wp2_with fail
        go_region_with (first | (go_at_call 12; refine (give_any [g3] b1 _ (ch i) gold 100 _ ⟨A3, c3, A4, c4, rfl, HT.out.bk.keep0 (Kp.drew _)⟩ HT.out.lt HF1.out (by decide)).mono ?_; rw [HG.out]; rintro e w5 ⟨⟨v5, rfl, hv5⟩, hk5⟩; obtain ⟨A5, c5, A6, c6, rfl, hb5⟩ := hv5; have HL5 := Lib.hid (HT.out.keep ((Kp.drew _).trans hk5)); have y0 := HL5.out.blk.cell 0; have q0 := HL5.out.blk.frozen 0; have y1 := HL5.out.blk.cell 1; have q1 := HL5.out.blk.frozen 1; have y2 := HL5.out.blk.cell 2; have q2 := HL5.out.blk.frozen 2; have y3 := HL5.out.blk.cell 3; have q3 := HL5.out.blk.frozen 3; have y4 := HL5.out.blk.cell 4; have q4 := HL5.out.blk.frozen 4; simp only [bkCells, bookCells, List.getElem?_cons_zero, List.getElem?_cons_succ] at y0 y1 y2 y3 y4 ⊢))
        all_goals
          clear d0 d1 d2 d3 d4 y0 y1 y2 y3 y4 q0 q1 q2 q3 q4
          go_wp2
          refine ⟨⟨_, _, _, _, _, _, _, _, _, _, _, _, _, _, _, _, _, _, _, _, _, _, _, ?rel, rfl⟩, ?measure⟩
          case rel => exact ⟨i + 1, b2, by omega, by go_num, HK2, Lib.hid (HT.out.over ((Kp.drew _).trans hk5) hb5)⟩
          case measure => simp [intOf]; omega
    · obtain rfl : i = 4 := by omega
      have HK0 := Lib.hid (k2_start HK.out)
      have HS0 := HS
      clear HK HS
      go_wp2_with fail
      go_loopw [5] (fun v5 wr2 => ∃ k : Nat, ∃ b2, k ≤ n ∧ v5 = .int .i64 k ∧ Hid (K2 k b2) ∧ Hid (StV w g3 wr2 b2)) (fun v5 _ => n - (intOf v5).toNat)
      case atStart => exact ⟨0, b, Nat.zero_le _, rfl, HK0, HS0⟩
      case round =>
        clear HK0 HS0
        obtain ⟨k, b2, hk, rfl, HK, HS⟩ := hrel
        by_cases hk2 : k < n ∧ k < 100
        · obtain ⟨hkn, hk100⟩ := hk2
          obtain ⟨A3, c3, A4, c4, hs⟩ := HS.out
          have HT := Lib.hid hs
          obtain ⟨g, o, rfl, hcell⟩ := ints_get HR hkn hs.kp
          have hzk := HZ.out k hkn
          have j1 : decide ((k : Int) < n) = true := by simp; omega
          have j2 : decide ((k : Int) < 100) = true := by simp; omega
          have j3 : (k : Int) < n := by omega
          have j4 : (0 : Int) ≤ k := by omega
          have j5 : (k : Int) < 100 := by omega
          clear hs HS
          go_upto_region 11 with (first
            | (go_at_call 9; refine (place_any (z k) 1048576 _ hzk (by omega)).mono ?_; rintro e w9 ⟨rfl, rfl⟩))
          have hp1 := Int.emod_nonneg (z k) (show (1048576 : Int) ≠ 0 by omega)
          have hp2 := Int.emod_lt_of_pos (z k) (show (0 : Int) < 1048576 by omega)
          generalize z k % 1048576 = p at *
          obtain ⟨q, rfl⟩ := Int.eq_ofNat_of_zero_le hp1
          clear hcell hzk j1 j2 j3 j4 hp1
          go_quiet (fail)
          obtain ⟨wq, hwq⟩ : ∃ wq, wq = wr.drewN nq := ⟨_, rfl⟩
          have HTq := Lib.hid (HT.out.keep (w' := wq) (by rw [hwq]; exact Kp.drewN _ _))
          rw [← hwq]
          clear HT hwq
          have hx : q % 4 < 4 := Nat.mod_lt _ (by omega)
          have hy : q / 4 % 4 < 4 := Nat.mod_lt _ (by omega)
          have hm : (1 : Int) ≤ 1 + (q : Int) / 16 % 60 ∧ 1 + (q : Int) / 16 % 60 ≤ 60 := by omega
          generalize q % 4 = x at *
          generalize q / 4 % 4 = y at *
          generalize 1 + (q : Int) / 16 % 60 = m at *
          clear hp2
          have HBL := Lib.hid (k2_bal HK.out hx)
          have hfl : b2.funds.length + 1 ≤ 1000 := by have := HK.out.len; omega
          have key : ∃ b3 f, Hid (moveB b2 (ch x) (ch y) gold m = (b3, f)) ∧ Hid (K2 (k + 1) b3) ∧ ((f = 6 ∧ decide (m ≤ am b2 x) = false) ∨ (f = 0 ∧ decide (m ≤ am b2 x) = true)) := by
            by_cases hlt : am b2 x < m
            · exact ⟨_, _, Lib.hid (k2_poor HK.out hx hm hlt), Lib.hid (k2_more HK.out), .inl ⟨rfl, by simpa using hlt⟩⟩
            · exact ⟨_, _, Lib.hid (k2_move HK.out hx hy hm hlt), Lib.hid (k2_step HK.out hk100 hx hy hm hlt), .inr ⟨rfl, by simpa using hlt⟩⟩
          obtain ⟨b3, f, HM, HK3, hcase⟩ := key
          rcases hcase with ⟨rfl, hd⟩ | ⟨rfl, hd⟩
          all_goals
            go_upto_region 17 with (first
              | ((with_reducible refine at_dst (N := 75) rfl ?_); refine ev_load rfl 26 _ rfl g3 0 rfl (bkCells b2 A3 c3 A4 c4) HTq.out.blk.range Try.underlying26 rfl info26 ?_)
              | (go_at_call 16; refine (balance_any [g3] b2 _ (ch x) gold _ ⟨A3, c3, A4, c4, rfl, HTq.out.bk⟩ HK.out.fit (by decide)).mono ?_; rw [HBL.out]; rintro e w6 ⟨rfl, hk6⟩)
              | ((with_reducible refine at_dst (N := 81) rfl ?_); refine ev_load rfl 26 _ rfl g3 0 rfl (bkCells b2 A3 c3 A4 c4) (HTq.out.keep hk6).blk.range Try.underlying26 rfl info26 ?_)
              | (go_at_call 18; refine (move_any [g3] b2 _ (ch x) (ch y) gold m _ ⟨A3, c3, A4, c4, rfl, (HTq.out.keep hk6).bk⟩ (HTq.out.keep hk6).lt HK.out.fit hfl (by decide)).mono ?_; rw [HM.out]; rintro e w7 ⟨⟨v7, rfl, hv7⟩, hk7⟩; obtain ⟨A5, c5, A6, c6, rfl, hb7⟩ := hv7)
              | ((with_reducible refine at_dst (N := 12) rfl ?_); refine ev_alloc rfl 26 rfl _ bookZ Try.zeroValue26 rfl ?_; intro g12 w8 hg12 hb8 hk8)
              | ((with_reducible refine at_store (p := 12) rfl ?_); refine ev_store_all rfl 26 _ _ rfl g12 rfl (bkCells b3 A5 c5 A6 c6) rfl 26 bookZ hb8 rfl info26 (bk_ones _ _ _ _ _) ?_; intro w9 hb9 hk9)
              | ((with_reducible refine at_dst (N := 106) rfl ?_); refine ev_load rfl 26 _ rfl g12 0 rfl (bkCells b3 A5 c5 A6 c6) hb9.range Try.underlying26 rfl info26 ?_)
              | ((with_reducible refine at_store (p := 3) rfl ?_); refine ev_store_all rfl 26 _ _ rfl g3 rfl (bkCells b3 A5 c5 A6 c6) rfl 26 (bkCells b2 A3 c3 A4 c4) (HTq.out.keep ((hk6.trans hk7).trans (hk8.then_ hk9 (by simp [hg12])))).blk rfl info26 (bk_ones _ _ _ _ _) ?_; intro w10 hb10 hk10))
            have HN := Lib.hid (HTq.out.lay ((hk6.trans hk7).trans (hk8.then_ hk9 (by simp [hg12]))) (hb7.keep0 (hk8.then_ hk9 (by simp [hg12]))) hb10 hk10)
            have HSN : Hid (StV w g3 w10 b3) := Lib.hid ⟨A5, c5, A6, c6, HN.out⟩
            clear hk6 hk7 hb7 hg12 hb8 hk8 hb9 hk9 hb10 hk10 hd HTq HM HBL HN
            have HPE := Lib.hid (psum_end HK3.out)
            go_wp2_with fail
            go_loopw [15, 14] (fun v15 v14 wi => ∃ j : Nat, j ≤ 4 ∧ v15 = .int .i64 j ∧ v14 = .int .i64 (psum b3 j) ∧ Hid (StV w g3 wi b3)) (fun v15 _ _ => 4 - (intOf v15).toNat)
            case atStart => exact ⟨0, by omega, rfl, rfl, HSN⟩
            case round =>
              clear HSN
              obtain ⟨j, hj, rfl, rfl, HSi⟩ := hrel
              obtain ⟨A7, c7, A8, c8, hsi⟩ := HSi.out
              have HT := Lib.hid hsi
              have d0 : wr.cell? ⟨g3, 0, none⟩ = some (.int .i64 b3.num) := hsi.blk.cell 0
              have d1 : wr.cell? ⟨g3, 1, none⟩ = some (.int .i64 b3.tm) := hsi.blk.cell 1
              have d2 : wr.cell? ⟨g3, 2, none⟩ = some (.slice A7 b3.accs.length c7) := hsi.blk.cell 2
              have d3 : wr.cell? ⟨g3, 3, none⟩ = some (.slice A8 b3.funds.length c8) := hsi.blk.cell 3
              have d4 : wr.cell? ⟨g3, 4, none⟩ = some (.slice none 0 0) := hsi.blk.cell 4
              clear hsi HSi
              by_cases hj4 : j < 4
              · have i1 : (0 : Int) ≤ (j : Int) + 1 := by omega
                have i2 : (j : Int) ≤ (j : Int) + 1 := by omega
                have i3 : (j : Int) + 1 ≤ 4 := by omega
                have i4 : (j : Int) < 4 := by omega
                have HBJ := Lib.hid (k2_bal HK3.out hj4)
                have hnn := am_small HK3.out.fit j
                have hps := psum_small HK3.out.fit j (by omega)
                have HPS := Lib.hid (psum_succ b3 j)
                have e9 : decide (am b3 j < 0) = false := by simp; omega
                have ew : IntKind.i64.wrap (psum b3 j + am b3 j) = psum b3 j + am b3 j := IntWalk.i64_in _ ⟨by omega, by omega⟩
                have hwr : IntKind.i64.wrap ((j : Int) + 1) = (j : Int) + 1 := IntWalk.i64_in _ ⟨by omega, by omega⟩
                have htn : ((j : Int) + 1).toNat = j + 1 := by omega
                generalize am b3 j = aj at *
                generalize psum b3 j = pj at *
                go_wp2_with fail
                go_region_with (first | (go_at_call 16; refine (balance_any [g3] b3 _ (ch j) gold _ ⟨A7, c7, A8, c8, rfl, HT.out.bk.keep0 (Kp.drew _)⟩ HK3.out.fit (by decide)).mono ?_; rw [HBJ.out]; rintro e w6 ⟨rfl, hk6⟩))
                all_goals
                  clear d0 d1 d2 d3 d4
                  go_wp2
                  exact ⟨⟨j + 1, by omega, by go_num, by rw [HPS.out], Lib.hid ⟨A7, c7, A8, c8, HT.out.keep ((Kp.drew _).trans hk6)⟩⟩, by simp [intOf]; omega⟩
              · obtain rfl : j = 4 := by omega
                have HSUM := Lib.hid HK3.out.sum
                rw [HPE.out]
                go_wp2_with (first
                  | (go_at_call 15; refine (total_bk gold HT.out.bk HK3.out.fit).mono ?_; rw [HSUM.out]; rintro e w8 ⟨rfl, hk8⟩))
                clear d0 d1 d2 d3 d4
                refine ⟨⟨_, _, _, _, _, _, _, _, _, _, _, _, _, _, _, _, _, _, _, _, _, _, _, _, _, _, _, _, _, _, _, _, _, _, _, _, _, _, _, _, _, _, _, _, _, _, _, _, _, _, _, _, _, _, _, _, _, _, _, _, _, _, _, _, _, _, _, _, _, _, _, _, _, _, _, _, _, _, _, _, _, _, _, _, _, _, _, _, _, _, _, _, _, _, _, _, _, _, _, _, _, _, _, _, _, ?rel, rfl⟩, ?measure⟩
                case rel => exact ⟨k + 1, b3, by omega, by go_num, HK3, Lib.hid ⟨A7, c7, A8, c8, HT.out.keep hk8⟩⟩
                case measure => simp [intOf]; omega
        · obtain ⟨A3, c3, A4, c4, hs⟩ := HS.out
          have HT := Lib.hid hs
          clear hs HS
          by_cases hkn : k < n
          · have j1 : decide ((k : Int) < n) = true := by simp; omega
            have j2 : decide ((k : Int) < 100) = false := by simp; omega
            go_wp2_with (first
              | (go_at_call 14; refine (awake_any _).mono ?_; rintro e w20 ⟨rfl, hk20⟩))
            go_ret
            exact ⟨rfl, HT.out.kp.trans hk20⟩
          · obtain rfl : k = n := by omega
            go_wp2_with (first
              | (go_at_call 14; refine (awake_any _).mono ?_; rintro e w20 ⟨rfl, hk20⟩))
            go_ret
            exact ⟨rfl, HT.out.kp.trans hk20⟩
end Go.Proofs.Ytlgebdoadfljhaa
