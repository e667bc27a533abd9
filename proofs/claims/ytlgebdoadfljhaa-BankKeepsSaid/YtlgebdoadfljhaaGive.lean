/- Give, Move, New. -/
import Derived.Test.YtlgebdoadfljhaaCalls
namespace Go.Proofs.Ytlgebdoadfljhaa
open Go.RowKit
set_option linter.unusedVariables false
set_option linter.unusedSimpArgs false

theorem astS_le (fs : List Fund) : (astS fs).length ≤ fs.length := by
  rw [astS_len]
  refine Nat.le_trans (Lib.compact_length_le _) ?_
  simp [sortS, astL]
def AstV (X : List Nat) (fs : List Fund) (v : Value) (w' : World) : Prop := ∃ A c, v = .slice A (astS fs).length c ∧ Sl w' X A 1 ((astS fs).map txt)
theorem assets_bk2 {X : List Nat} {b : Bank} {A1 A : Option Addr} {c1 c : Nat} {w : World} (hb : Bk w X b A1 c1 A c) (hX : ∀ x ∈ X, x < w.heap.size) (hf : Fit b) :
    Calls Try.prog 26 #[.agg (bkCells b A1 c1 A c).toArray] w fun e w' => (∃ v, e = .returned v ∧ AstV X b.funds v w') ∧ Kp [] w w' :=
  (assets_bk hb hX hf).mono fun e w' ⟨⟨A', c', he, hs⟩, hk⟩ => ⟨⟨_, he, A', c', rfl, hs⟩, hk⟩
theorem AstV.keep {X : List Nat} {fs : List Fund} {v : Value} {w w' : World} (h : AstV X fs v w) (k : Kp [] w w') : AstV X fs v w' := by
  obtain ⟨A, c, e, hs⟩ := h
  exact ⟨A, c, e, hs.keep0 k⟩
def giveB (b : Bank) (who ast : ByteArray) (n : Int) : Bank × Int :=
  if asksE b.accs who ast n = 0 then (if 4 ≤ (astS b.funds).length ∧ memS (astS b.funds) ast = false then (b, 7) else if 1125899906842624 - n < sumA b.funds ast then (b, 3) else (setB b (who, ast) (amtF b.funds (who, ast) + n), 0)) else (b, asksE b.accs who ast n)
set_option maxRecDepth 100000 in
set_option maxHeartbeats 2000000 in
theorem give_any (X : List Nat) (b : Bank) (v : Value) (who ast : ByteArray) (n : Int) (w : World) (hb : BkV w X b v) (hX : ∀ x ∈ X, x < w.heap.size) (hf : Fit b) (ha : ast.size ≤ 9223372036854775807) :
    Calls Try.prog 12 #[v, .string who, .string ast, .int .i64 n] w fun e w' => BkE X (giveB b who ast n) e w' ∧ Kp [] w w' := by
  obtain ⟨A1, c1, A, c, rfl, hk⟩ := hb
  have HB := Lib.hid hk
  have HF := Lib.hid hf
  have HX := Lib.hid hX
  clear hk hf hX
  have E0 : giveB b who ast n = if asksE b.accs who ast n = 0 then (if 4 ≤ (astS b.funds).length ∧ memS (astS b.funds) ast = false then (b, 7) else if 1125899906842624 - n < sumA b.funds ast then (b, 3) else (setB b (who, ast) (amtF b.funds (who, ast) + n), 0)) else (b, asksE b.accs who ast n) := rfl
  have E := Lib.hid E0
  clear E0
  have HZ := Lib.hid (fun h => asks_zero (accs := b.accs) (who := who) (ast := ast) (n := n) h)
  generalize hE : asksE b.accs who ast n = k at *
  have EK := Lib.hid hE
  clear hE
  go_enter Try.func12, Try.ntmps12
  go_upto_region 1 with (first
    | ((with_reducible refine at_dst (N := 4) rfl ?_); refine ev_box rfl 26 _ rfl _ rfl (bkCells b A1 c1 A c) rfl ?_; intro g4 w1 hg4 hb4 hk1)
    | ((with_reducible refine at_dst (N := 8) rfl ?_); refine ev_alloc rfl 26 rfl _ bookZ Try.zeroValue26 rfl ?_; intro g8 w2 hg8 hb8 hk2))
  have HB4 := Lib.hid (hb4.keep hk2 (by simp))
  have HB8 := Lib.hid hb8
  have HK2 := Lib.hid (hk1.trans hk2)
  have gl8 : w.heap.size ≤ g8 := by have := hk1.size; omega
  have hl8 := hb8.lt
  clear hb4 hb8 hk1 hk2
  go_cut [10, 11] (fun v10 v11 wc => v10 = .int .i64 k ∧ Hid (AstV (g8 :: X) b.funds v11 wc) ∧ Hid (Kp [] w2 wc))
  case first =>
    have k0 := Kp.refl [] w2
    have d0 : w2.cell? ⟨g4, 0, none⟩ = some (.int .i64 b.num) := HB4.out.cell 0
    have d1 : w2.cell? ⟨g4, 1, none⟩ = some (.int .i64 b.tm) := HB4.out.cell 1
    have d2 : w2.cell? ⟨g4, 2, none⟩ = some (.slice A1 b.accs.length c1) := HB4.out.cell 2
    have d3 : w2.cell? ⟨g4, 3, none⟩ = some (.slice A b.funds.length c) := HB4.out.cell 3
    have d4 : w2.cell? ⟨g4, 4, none⟩ = some (.slice none 0 0) := HB4.out.cell 4
    go_region_held3 (fun w' => w'.cell? ⟨g4, 0, none⟩ = some (.int .i64 b.num) ∧ w'.cell? ⟨g4, 1, none⟩ = some (.int .i64 b.tm) ∧ w'.cell? ⟨g4, 2, none⟩ = some (.slice A1 b.accs.length c1) ∧ w'.cell? ⟨g4, 3, none⟩ = some (.slice A b.funds.length c) ∧ w'.cell? ⟨g4, 4, none⟩ = some (.slice none 0 0) ∧ Hid (Kp [] w2 w'))
      (first | exact ⟨d0, d1, d2, d3, d4, Lib.hid k0⟩ | exact ⟨d0, d1, d2, d3, d4, Lib.hid (Kp.drew _)⟩ | (go_split_ands; exact ⟨hk3.cell (by assumption) (by simp), hk3.cell (by assumption) (by simp), hk3.cell (by assumption) (by simp), hk3.cell (by assumption) (by simp), hk3.cell (by assumption) (by simp), Lib.hid (Kp.trans (Hid.out (by assumption)) hk3)⟩))
      (first
        | (go_at_call 25; go_split_ands; have hq := (by apply Hid.out; assumption : Kp [] w2 _); refine (asks_bk who ast n (HB.out.keep0 (HK2.out.trans hq)) HF.out ha).mono ?_; rintro e w3 ⟨rfl, hk3⟩; rw [EK.out])
        | (go_at_call 26; go_split_ands; have hq := (by apply Hid.out; assumption : Kp [] w2 _); refine (assets_bk2 (bk_more HB (HK2.out.trans hq) gl8) (more_lt HX (HK2.out.trans hq) g8 (Nat.lt_of_lt_of_le hl8 hq.size)) HF.out).mono ?_; rintro e w3 ⟨⟨v, rfl, hv⟩, hk3⟩))
    all_goals
      go_wp2
      go_meet
      case rel => exact ⟨rfl, Lib.hid hv, Lib.hid (((Kp.drew _).trans (by assumption)).trans (by assumption))⟩
  case rest =>
    obtain ⟨rfl, HV, HKc⟩ := hcut
    obtain ⟨wb, rfl⟩ : ∃ wb : World, wb = wc := ⟨_, rfl⟩
    have HK := Lib.hid (HK2.out.trans HKc.out)
    have HB4c := Lib.hid (HB4.out.keep HKc.out (by simp))
    have HB8c := Lib.hid (HB8.out.keep HKc.out (by simp))
    have hl8c := HB8c.out.lt
    have hv := HV.out
    obtain ⟨A2, c2, rfl, hsv⟩ := hv
    have HS := Lib.hid hsv
    have hal := astS_le b.funds
    have hfl := HF.out.funds
    clear hsv HKc HB4 HB8 HK2 HV
    by_cases h0 : k = 0
    · subst h0
      have hn := HZ.out rfl
      have hwr : IntKind.i64.wrap (1125899906842624 - n) = 1125899906842624 - n := IntWalk.i64_in _ ⟨by omega, by omega⟩
      go_wp2_with (first
        | (go_at_call 23; refine (contains_any (g8 :: X) A2 c2 (astS b.funds) ast _ HS.out (by omega)).mono ?_; rintro e w3 ⟨rfl, rfl⟩)
        | ((with_reducible refine at_dst (N := 34) rfl ?_); refine ev_load rfl 26 _ rfl g4 0 rfl (bkCells b A1 c1 A c) HB4c.out.range Try.underlying26 rfl info26 ?_)
        | ((with_reducible refine at_dst (N := 36) rfl ?_); refine ev_load rfl 26 _ rfl g4 0 rfl (bkCells b A1 c1 A c) HB4c.out.range Try.underlying26 rfl info26 ?_)
        | (go_at_call 15; refine (total_bk ast (HB.out.keep0 HK.out) HF.out).mono ?_; rintro e w4 ⟨rfl, hk4⟩)
        | ((with_reducible refine at_dst (N := 42) rfl ?_); refine ev_load rfl 26 _ rfl g4 0 rfl (bkCells b A1 c1 A c) (HB4c.out.keep hk4 (by simp)).range Try.underlying26 rfl info26 ?_)
        | ((with_reducible refine at_dst (N := 43) rfl ?_); refine ev_load rfl 26 _ rfl g4 0 rfl (bkCells b A1 c1 A c) (HB4c.out.keep hk4 (by simp)).range Try.underlying26 rfl info26 ?_)
        | (go_at_call 27; refine (put_bk who ast n (bk_more HB (HK.out.trans hk4) gl8) (more_lt HX (HK.out.trans hk4) g8 (Nat.lt_of_lt_of_le hl8c hk4.size)) HF.out (by omega)).mono ?_; rintro e w5 ⟨⟨A', c', rfl, hb5⟩, hk5⟩)
        | ((with_reducible refine at_store (p := 8) rfl ?_); refine ev_store_all rfl 26 _ _ rfl g8 rfl (bkCells (setB b (who, ast) (amtF b.funds (who, ast) + n)) A1 c1 A' c') rfl 26 bookZ ((HB8c.out.keep hk4 (by simp)).keep hk5 (by simp)) rfl info26 (bk_ones _ _ _ _ _) ?_; intro w9 hb9 hk9)
        | ((with_reducible refine at_store (p := 8) rfl ?_); refine ev_store_all rfl 26 _ _ rfl g8 rfl (bkCells b A1 c1 A c) rfl 26 bookZ (HB8c.out.keep hk4 (by simp)) rfl info26 (bk_ones _ _ _ _ _) ?_; intro w9 hb9 hk9)
        | ((with_reducible refine at_store (p := 8) rfl ?_); refine ev_store_all rfl 26 _ _ rfl g8 rfl (bkCells b A1 c1 A c) rfl 26 bookZ HB8c.out rfl info26 (bk_ones _ _ _ _ _) ?_; intro w9 hb9 hk9))
      · rename_i h1 h2
        refine ret_cell_tmp rfl rfl rfl hb9.range Try.underlying26 rfl info26 ?_
        exact bk_same HB HK.out hk9 gl8 (by rw [E.out, if_pos trivial, if_pos ⟨by omega, by simpa using h2⟩]) rfl
      · rename_i h1 h2 h3
        refine ret_cell_tmp rfl rfl rfl hb9.range Try.underlying26 rfl info26 ?_
        exact bk_same HB (HK.out.trans hk4) hk9 gl8 (by rw [E.out, if_pos trivial, if_neg (by simp at h2; simp [h2]), if_pos h3]) rfl
      · rename_i h1 h2 h3
        refine ret_cell_tmp rfl rfl rfl hb9.range Try.underlying26 rfl info26 ?_
        rw [E.out, if_pos trivial, if_neg (by simp at h2; simp [h2]), if_neg (by omega)]
        exact bk_new hb5 ((HK.out.trans hk4).trans hk5) hk9 gl8
      · rename_i h1 h3
        refine ret_cell_tmp rfl rfl rfl hb9.range Try.underlying26 rfl info26 ?_
        exact bk_same HB (HK.out.trans hk4) hk9 gl8 (by rw [E.out, if_pos trivial, if_neg (by omega), if_pos h3]) rfl
      · rename_i h1 h3
        refine ret_cell_tmp rfl rfl rfl hb9.range Try.underlying26 rfl info26 ?_
        rw [E.out, if_pos trivial, if_neg (by omega), if_neg (by omega)]
        exact bk_new hb5 ((HK.out.trans hk4).trans hk5) hk9 gl8
    · have e1 : (k != 0) = true := by simpa using h0
      have E2 := Lib.hid (show giveB b who ast n = (b, k) by rw [E.out, if_neg h0])
      clear h0
      go_wp2_with (first
        | ((with_reducible refine at_dst (N := 22) rfl ?_); refine ev_load rfl 26 _ rfl g4 0 rfl (bkCells b A1 c1 A c) HB4c.out.range Try.underlying26 rfl info26 ?_)
        | ((with_reducible refine at_store (p := 8) rfl ?_); refine ev_store_all rfl 26 _ _ rfl g8 rfl (bkCells b A1 c1 A c) rfl 26 bookZ HB8c.out rfl info26 (bk_ones _ _ _ _ _) ?_; intro w9 hb9 hk9))
      refine ret_cell_tmp rfl rfl rfl hb9.range Try.underlying26 rfl info26 ?_
      exact bk_same HB HK.out hk9 gl8 E2.out rfl

def newB (n : Int) : Bank := ⟨max 0 (min n 3), 0, [], []⟩
theorem new_any (X : List Nat) (n : Int) (w : World) (hn : IntKind.i64.wrap n = n) :
    Calls Try.prog 8 #[.int .i64 n] w fun e w' => (∃ v, e = .returned v ∧ BkV w' X (newB n) v) ∧ Kp [] w w' := by
  have hv : ∀ w, BkV w X (newB n) (.agg (bookCells (max 0 (min n 3)) 0 (.slice none 0 0) (.slice none 0 0) (.slice none 0 0)).toArray) := fun w => ⟨none, 0, none, 0, rfl, Sl.nil _ _ _ _, Sl.nil _ _ _ _, ⟨Nat.le_refl _, by show (0 : Nat) ≤ _; omega⟩, fun _ => rfl⟩
  have HV := Lib.hid hv
  clear hv
  go_enter Try.func8, Try.ntmps8
  go_wp2_with (first
    | ((with_reducible refine at_dst (N := 2) rfl ?_); refine ev_alloc rfl 26 rfl _ bookZ Try.zeroValue26 rfl ?_; intro g2 w1 hg2 hb2 hk1)
    | ((with_reducible refine at_store (p := 2) rfl ?_); refine ev_store_all rfl 26 _ _ rfl g2 rfl (bookCells (max 0 (min n 3)) 0 (.slice none 0 0) (.slice none 0 0) (.slice none 0 0)) rfl 26 bookZ hb2 rfl info26 (book_ones rfl) ?_; intro w9 hb9 hk9))
  refine ret_cell rfl rfl rfl hb9.range Try.underlying26 rfl info26 ?_
  exact ⟨⟨_, rfl, HV.out _⟩, hk1.then_ hk9 (by simp [hg2])⟩
theorem fit_set {b : Bank} (h : Fit b) (hl : b.funds.length + 1 ≤ 1000) (t : Key) {m : Int} (hm : 0 ≤ m ∧ m ≤ 1125899906842624) : Fit (setB b t m) where
  sorted := (setF_sorted h.sorted t m).1
  smalls := fun f hf => by
    rcases setF_mem t m f hf with hf | ⟨rfl, _⟩
    · exact h.smalls f hf
    · exact hm
  funds := by have := setF_len b.funds t m; show (setF b.funds t m).length ≤ 1000; omega
  accs := h.accs
theorem take_fit {b : Bank} (h : Fit b) (hl : b.funds.length + 1 ≤ 1000) (who ast : ByteArray) (n : Int) (h0 : (takeB b who ast n).2 = 0) : Fit (takeB b who ast n).1 ∧ 1 ≤ n ∧ n ≤ 1125899906842624 := by
  have ha := amtF_small h.smalls (who, ast)
  unfold takeB at h0 ⊢
  by_cases h1 : asksE b.accs who ast n = 0
  · rw [if_pos h1] at h0 ⊢
    have hn := asks_zero h1
    by_cases h2 : amtF b.funds (who, ast) < n
    · rw [if_pos h2] at h0; cases h0
    · rw [if_neg h2]
      exact ⟨fit_set h hl _ ⟨by omega, by omega⟩, hn⟩
  · rw [if_neg h1] at h0
    exact absurd h0 h1
def moveB (b : Bank) (who whom ast : ByteArray) (n : Int) : Bank × Int :=
  if (takeB b who ast n).2 = 0 then (if memS b.accs whom = false then (b, 4) else (setB (takeB b who ast n).1 (whom, ast) (amtF (takeB b who ast n).1.funds (whom, ast) + n), 0)) else (b, (takeB b who ast n).2)
theorem move_mid {w w2 w3 w4 w5 : World} {X : List Nat} {b b2 : Bank} {A1 A A2 A4 : Option Addr} {c1 c c2 c4 g5 g10 g12 : Nat} {cs cs2 : List Value} (HK : Hid (Kp [] w w2)) (hk3 : Kp [] w2 w3) (hk4 : Kp [] w3 w4) (hk5 : Kp [g12] w4 w5) (hg12 : w3.heap.size ≤ g12)
    (hb3 : Bk w3 (g10 :: X) b2 A2 c2 A4 c4) (HB5 : Hid (Blk w2 g5 26 cs)) (HB10 : Hid (Blk w2 g10 26 cs2)) (HB : Hid (Bk w X b A1 c1 A c)) (hl10 : g10 < w2.heap.size) (hl5 : g5 < w2.heap.size) :
    Blk w5 g5 26 cs ∧ Blk w5 g10 26 cs2 ∧ Kp [] w w5 ∧ Bk w5 (g10 :: X) b2 A2 c2 A4 c4 := by
  have s3 := hk3.size
  have k35 : Kp [] w3 w5 := hk4.then_ hk5 (by simp [hg12])
  exact ⟨(HB5.out.keep hk3 (by simp)).keep k35 (by simp), (HB10.out.keep hk3 (by simp)).keep k35 (by simp), (HK.out.trans hk3).trans k35, hb3.keep0 k35⟩
set_option maxRecDepth 100000 in
set_option maxHeartbeats 2000000 in
theorem move_any (X : List Nat) (b : Bank) (v : Value) (who whom ast : ByteArray) (n : Int) (w : World) (hb : BkV w X b v) (hX : ∀ x ∈ X, x < w.heap.size) (hf : Fit b) (hl : b.funds.length + 1 ≤ 1000) (ha : ast.size ≤ 9223372036854775807) :
    Calls Try.prog 18 #[v, .string who, .string whom, .string ast, .int .i64 n] w fun e w' => BkE X (moveB b who whom ast n) e w' ∧ Kp [] w w' := by
  obtain ⟨A1, c1, A, c, rfl, hk⟩ := hb
  have HB := Lib.hid hk
  have HF := Lib.hid hf
  have HX := Lib.hid hX
  have HT := Lib.hid (take_fit hf hl who ast n)
  have E0 : moveB b who whom ast n = if (takeB b who ast n).2 = 0 then (if memS b.accs whom = false then (b, 4) else (setB (takeB b who ast n).1 (whom, ast) (amtF (takeB b who ast n).1.funds (whom, ast) + n), 0)) else (b, (takeB b who ast n).2) := rfl
  have E := Lib.hid E0
  clear hk hf hX E0
  generalize hE : takeB b who ast n = r at *
  obtain ⟨b2, k⟩ := r
  have EK := Lib.hid hE
  clear hE
  have hal := HF.out.accs
  go_enter Try.func18, Try.ntmps18
  go_wp2_with (first
    | ((with_reducible refine at_dst (N := 5) rfl ?_); refine ev_box rfl 26 _ rfl _ rfl (bkCells b A1 c1 A c) rfl ?_; intro g5 w1 hg5 hb5 hk1)
    | ((with_reducible refine at_dst (N := 10) rfl ?_); refine ev_alloc rfl 26 rfl _ bookZ Try.zeroValue26 rfl ?_; intro g10 w2 hg10 hb10 hk2; have HB5 := Lib.hid (hb5.keep hk2 (by simp)); have HB10 := Lib.hid hb10; have HK2 := Lib.hid (hk1.trans hk2); have gl10 : w.heap.size ≤ g10 := (by have := hk1.size; omega); have hl10 := hb10.lt; have hl5 := HB5.out.lt; have g510 : g5 ≠ g10 := (by have := hb5.lt; omega); clear hb5 hb10 hk1 hk2)
    | ((with_reducible refine at_dst (N := 15) rfl ?_); refine ev_load rfl 26 _ rfl g5 0 rfl (bkCells b A1 c1 A c) HB5.out.range Try.underlying26 rfl info26 ?_)
    | (go_at_call 17; refine (take_any (g10 :: X) b _ who ast n _ ⟨A1, c1, A, c, rfl, bk_more HB HK2.out gl10⟩ (more_lt HX HK2.out g10 hl10) HF.out ha).mono ?_; rintro e w3 ⟨⟨v3, rfl, hv3⟩, hk3⟩; rw [EK.out] at hv3 ⊢; obtain ⟨A2, c2, A4, c4, rfl, hb3⟩ := hv3)
    | ((with_reducible refine at_dst (N := 12) rfl ?_); refine ev_alloc rfl 26 rfl _ bookZ Try.zeroValue26 rfl ?_; intro g12 w4 hg12 hb12 hk4)
    | ((with_reducible refine at_store (p := 12) rfl ?_); refine ev_store_all rfl 26 _ _ rfl g12 rfl (bkCells b2 A2 c2 A4 c4) rfl 26 bookZ hb12 rfl info26 (bk_ones _ _ _ _ _) ?_; intro w5 hbb hk5; have F := move_mid HK2 hk3 hk4 hk5 hg12 hb3 HB5 HB10 HB hl10 hl5; have HF5 := Lib.hid F; have H12 := Lib.hid hbb; have c52 : w5.cell? ⟨g5, 2, none⟩ = some (.slice A1 b.accs.length c1) := F.1.cell 2; clear hb12 hbb hb3 F hk3 hk4 hk5)
    | ((with_reducible refine at_dst (N := 25) rfl ?_); refine ev_load rfl 26 _ rfl g5 0 rfl (bkCells b A1 c1 A c) HF5.out.1.range Try.underlying26 rfl info26 ?_)
    | (go_at_call 23; refine (contains_any X A1 c1 b.accs whom _ (HB.out.keep0 HF5.out.2.2.1).accs (by omega)).mono ?_; rintro e w6 ⟨rfl, rfl⟩)
    | ((with_reducible refine at_dst (N := 33) rfl ?_); refine ev_load rfl 26 _ rfl g5 0 rfl (bkCells b A1 c1 A c) HF5.out.1.range Try.underlying26 rfl info26 ?_)
    | ((with_reducible refine at_dst (N := 34) rfl ?_); refine ev_load rfl 26 _ rfl g12 0 rfl (bkCells b2 A2 c2 A4 c4) H12.out.range Try.underlying26 rfl info26 ?_)
    | (go_at_call 27
       have hk0 : k = 0 := (by first | assumption | (have hq : (k != 0) = false := (by assumption); simpa using hq))
       refine (put_bk whom ast n HF5.out.2.2.2 (more_lt HX HF5.out.2.2.1 g10 HF5.out.2.1.lt) (HT.out hk0).1 (by have := (HT.out hk0).2; omega)).mono ?_
       rintro e w7 ⟨⟨A', c', rfl, hb7⟩, hk7⟩)
    | ((with_reducible refine at_store (p := 10) rfl ?_); refine ev_store_all rfl 26 _ _ rfl g10 rfl (bkCells (setB b2 (whom, ast) (amtF b2.funds (whom, ast) + n)) A2 c2 A' c') rfl 26 bookZ (HF5.out.2.1.keep hk7 (by simp)) rfl info26 (bk_ones _ _ _ _ _) ?_; intro w9 hb9 hk9)
    | ((with_reducible refine at_store (p := 10) rfl ?_); refine ev_store_all rfl 26 _ _ rfl g10 rfl (bkCells b A1 c1 A c) rfl 26 bookZ HF5.out.2.1 rfl info26 (bk_ones _ _ _ _ _) ?_; intro w9 hb9 hk9))
  · rename_i h1
    refine ret_cell_tmp rfl rfl rfl hb9.range Try.underlying26 rfl info26 ?_
    exact bk_same HB HF5.out.2.2.1 hk9 gl10 (by rw [E.out, if_neg (by simpa using h1)]) rfl
  · rename_i h1 h2
    refine ret_cell_tmp rfl rfl rfl hb9.range Try.underlying26 rfl info26 ?_
    exact bk_same HB HF5.out.2.2.1 hk9 gl10 (by rw [E.out, if_pos (by simpa using h1), if_pos (by simpa using h2)]) rfl
  · rename_i h1 h2
    refine ret_cell_tmp rfl rfl rfl hb9.range Try.underlying26 rfl info26 ?_
    rw [E.out, if_pos hk0, if_neg (by simp_all)]
    exact bk_new hb7 (HF5.out.2.2.1.trans hk7) hk9 gl10
end Go.Proofs.Ytlgebdoadfljhaa
