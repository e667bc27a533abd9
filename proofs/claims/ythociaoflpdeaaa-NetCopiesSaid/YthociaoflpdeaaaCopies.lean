/- NetCopies: a message looked at stays, one that is copied stands there twice, the copy behind all. -/
import Derived.Test.YthociaoflpdeaaaOrder
namespace Go.Proofs.Ythociaoflpdeaaa
open Go.RowKit
set_option linter.unusedVariables false
set_option linter.unusedSimpArgs false

theorem look_none (b lost : Nat) (L : List (List Value)) (i : Int) (w : World) (h : Bag w b L lost) (hi : i < 0 ∨ (L.length : Int) ≤ i) :
    Calls Try.prog 16 #[.pointer (some ⟨b, 0, none⟩), .int .i64 i] w fun e w' => Msgs e zmsg false ∧ Kp [] w w' := by
  obtain ⟨f, S, hr, _⟩ := h
  exact look_out b L.length i w hr.cn hi

set_option maxHeartbeats 1000000 in
theorem copy_bag (b lost : Nat) (L : List (List Value)) (i : Nat) (m : List Value) (j : Int) (hj : j = i) (w : World) (h : Bag w b L lost) (hi : L[i]? = some m) (hl : lost < 100000) (hm : Cells10 m) :
    Calls Try.prog 18 #[.pointer (some ⟨b, 0, none⟩), .int .i64 j] w fun e w' => e = .returned (.bool true) ∧ Kp [b] w w' ∧ Bag w' b (put1 (L, lost) m).1 (put1 (L, lost) m).2 := by
  have H := Lib.hid h
  have HI := Lib.hid hi
  have hbw := h.lt
  have HJ := Lib.hid hj
  have hml := Lib.hid hm.len
  have hm1 := Lib.hid hm.ones
  have HM := Lib.hid hm
  clear h hi hj hm
  go_enter Try.func18, Try.ntmps18
  go_wp2_with fail
  refine (look_bag b lost L i m j HJ.out _ H.out HI.out).mono ?_
  rintro e w1 ⟨rfl, hk1⟩
  go_wp2_with (first
    | ((with_reducible refine at_dst (N := 5) rfl ?_); refine ev_alloc rfl 28 rfl _ zmsg Try.zeroValue28 rfl ?_; intro g2 w2 hg2 hb2 hk2)
    | ((with_reducible refine at_store (p := 5) rfl ?_); refine ev_store_all rfl 28 _ _ rfl g2 rfl m rfl 28 zmsg hb2 (by rw [hml.out]; rfl) (by rw [hml.out]; exact info28) hm1.out ?_; intro w3 hb3 hk3; have HB3 := Lib.hid hb3; clear hb2 hb3)
    | ((with_reducible refine at_dst (N := 15) rfl ?_); refine ev_load rfl 28 _ rfl g2 0 rfl m HB3.out.range Try.underlying28 rfl (by rw [hml.out]; exact info28) ?_)
    | ((with_reducible refine at_dst (N := 16) rfl ?_); refine ev_lit1 rfl 25 28 _ rfl m rfl Try.underlying25 info28 Try.zeroValue28 rfl hml.out (by omega) ?_; intro g4 w4 hg4 hb4 hk4))
  have hk14 : Kp [] w w4 := ((hk1.trans hk2).then_ hk3 (by have := hk1.size; simp; omega)).trans hk4
  have hb4' : Bag w4 b L lost := (((H.out.keep hk1 (by simp)).keep hk2 (by simp)).keep hk3 (by have := hk1.size; simp; omega)).keep hk4 (by simp)
  have hg4b : g4 ≠ b := by have := hk1.size; have := hk2.size; have := hk3.size; omega
  have hg4w : w.heap.size ≤ g4 := by have := hk1.size; have := hk2.size; have := hk3.size; omega
  have hL : Lot w4 b (some ⟨g4, 0, none⟩) 1 [m] := lot_of (b := b) (g := g4) (ms := [m]) hg4b (by simpa using HM.out) (fun j v hv => by rw [hb4.cell]; simpa using hv)
  have HK := Lib.hid hk14
  clear hk1 hk2 hk3 hk4 hk14 hb4
  refine (put_any b lost L _ 1 1 [m] _ hb4' hL (by omega)).mono ?_
  rintro e w5 ⟨rfl, hk5, hb5⟩
  go_wp2_with fail
  go_ret
  exact ⟨rfl, (HK.out.mono (by simp)).trans hk5, hb5⟩
theorem copy_none (b lost : Nat) (L : List (List Value)) (i : Int) (w : World) (h : Bag w b L lost) (hi : i < 0 ∨ (L.length : Int) ≤ i) :
    Calls Try.prog 18 #[.pointer (some ⟨b, 0, none⟩), .int .i64 i] w fun e w' => e = .returned (.bool false) ∧ Kp [] w w' := by
  have H := Lib.hid h
  clear h
  have HI := Lib.hid hi
  clear hi
  go_enter Try.func18, Try.ntmps18
  go_wp2_with (first
    | (go_at_call 16; refine (look_none b lost L i _ H.out HI.out).mono ?_; rintro e w1 ⟨rfl, hk1⟩)
    | ((with_reducible refine at_dst (N := 5) rfl ?_); refine ev_alloc rfl 28 rfl _ zmsg Try.zeroValue28 rfl ?_; intro g2 w2 hg2 hb2 hk2)
    | ((with_reducible refine at_store (p := 5) rfl ?_); refine ev_store_all rfl 28 _ _ rfl g2 rfl zmsg rfl 28 zmsg hb2 rfl info28 cells_zmsg.ones ?_; intro w3 hb3 hk3))
  go_ret
  exact ⟨rfl, (hk1.trans hk2).then_ hk3 (by have := hk1.size; simp; omega)⟩

theorem i64_bounds {a : Int} (w : (Lit.int .i64 a).wf = true) : -9223372036854775808 ≤ a ∧ a ≤ 9223372036854775807 := by
  simpa [Lit.wf, IntKind.min, IntKind.max, IntKind.signed, IntKind.bits] using w
theorem tms_get {k i : Nat} (h : i < k) : ((List.range k).map tm)[i]? = some (tm i) := by
  rw [List.getElem?_map, List.getElem?_range h]; rfl

set_option maxRecDepth 10000 in
set_option maxHeartbeats 4000000 in
theorem copies_walk (a0 a1 a2 : Int) (w0 : (Lit.int .i64 a0).wf = true) (w1 : (Lit.int .i64 a1).wf = true) (w2 : (Lit.int .i64 a2).wf = true) (w : World) :
    Calls Try.prog 5 #[.int .i64 a0, .int .i64 a1, .int .i64 a2] w fun e w' => e = .returned (.bool true) ∧ Kp [] w w' := by
  have HB0 := Lib.hid (i64_bounds w0)
  have HB1 := Lib.hid (i64_bounds w1)
  have HB2 := Lib.hid (i64_bounds w2)
  clear w0 w1 w2
  obtain ⟨p, hp⟩ := Int.eq_ofNat_of_zero_le (Int.emod_nonneg a0 (show (50 : Int) ≠ 0 by omega))
  have hp5 : p < 50 := by omega
  obtain ⟨i, hi⟩ := Int.eq_ofNat_of_zero_le (Int.emod_nonneg a1 (show (1 + (p : Int)) ≠ 0 by omega))
  have hip : i < p + 1 := by have := Int.emod_lt_of_pos a1 (show 0 < 1 + (p : Int) by omega); omega
  obtain ⟨q, hq⟩ := Int.eq_ofNat_of_zero_le (Int.emod_nonneg a2 (show (100 : Int) ≠ 0 by omega))
  have hq1 : q < 100 := by omega
  have HP := Lib.hid hp
  have HI := Lib.hid hi
  have HQ := Lib.hid hq
  clear hp hi hq
  go_enter Try.func5, Try.ntmps5
  go_wp2_with fail
  refine (place_any a0 50 _ HB0.out (by omega)).mono ?_
  rintro e w' ⟨rfl, rfl⟩
  rw [HP.out]
  go_wp2_with fail
  refine (place_any a1 (1 + p) _ HB1.out (by omega)).mono ?_
  rintro e w' ⟨rfl, rfl⟩
  rw [HI.out]
  go_wp2_with (first
    | (go_at_call 7; refine (new_any _).mono ?_; rintro e w1 ⟨g, rfl, hg, hbag, hk1⟩))
  have hgw := hbag.lt
  have HBAG := Lib.hid hbag
  have HK1 := Lib.hid hk1
  clear hbag hk1
  go_loopw [10, 11] (fun v8 v9 wr => ∃ t : Nat, t ≤ p + 1 ∧ v9 = .int .i64 t ∧ Hid (wr.ownsRow (g + 1) 28 10 v8 t ((List.range' 0 t).map tm).flatten) ∧ Hid (Bag wr g [] 0) ∧ Hid (Kp [] w wr)) (fun _ v9 _ => p + 1 - (intOf v9).toNat)
  case atStart => exact ⟨0, Nat.zero_le _, rfl, ⟨rfl, .inl ⟨rfl, rfl⟩⟩, HBAG, HK1⟩
  case round =>
    obtain ⟨t, htp, rfl, hown, HB, HK2⟩ := hrel
    clear HBAG HK1
    have hgr := HB.out.lt
    by_cases hlt : t < p + 1
    · go_wp2_with (first
        | (at_builtin
           refine ev_append rfl (.tmp 37) (.tmp 40) 25 rfl (g + 1) 28 (.agg zmsg.toArray) 10 104 Try.underlying25 info28a rfl (by omega) u10 t _ rfl (hown.out.alloc _) wr.heap.size 1 1 rfl 28 (tm t) (Blk.new wr 28 (tm t)) rfl (cells_pmsg 0 t).ones (by omega) (by omega) (by omega) (by simp; omega) ?_
           intro g3 cap3 w3 hown3 hk3 hat3))
      exact ⟨⟨t + 1, by omega, by go_num, Lib.hid (range_more hown3 (Nat.zero_le _)), (HB.out.keep (Kp.alloc (X := []) _ _) (by simp)).keep hk3 (own_ne hown.out (Nat.lt_succ_self g)), (HK2.out.trans (Kp.alloc (X := []) _ _)).then_ hk3 (own_ge hown.out (by omega))⟩, by simp [intOf]; omega⟩
    · obtain rfl : t = p + 1 := by omega
      obtain ⟨g3, cap3, hv, hg3, hg3l⟩ := hown.out.form (by omega)
      subst hv
      go_wp2_with fail
      refine (put_any g 0 [] _ (p + 1) _ ((List.range' 0 (p + 1)).map tm) _ HB.out (lot_own rfl hown.out (Nat.lt_succ_self g) (cells_tm _) (by simp)) (by omega)).mono ?_
      rintro e w4 ⟨rfl, hk4, hb4⟩
      have hb5 : Bag w4 g ((List.range (p + 1)).map tm) 0 := by
        have e0 : ((List.range' 0 (p + 1)).map tm).foldl put1 ([], 0) = ((List.range (p + 1)).map tm, 0) := by
          have := bagOf_eq (p + 1)
          rw [show p + 1 - 200 = 0 by omega] at this
          rw [← List.range_eq_range']; exact this
        rw [e0] at hb4; exact hb4
      have HB5 := Lib.hid hb5
      have HK5 := Lib.hid (HK2.out.then_ hk4 (by simp [hg]))
      clear hb4 hb5 hk4 HB HK2 hown
      generalize hL : (List.range (p + 1)).map tm = L at *
      have HLi : Hid (L[i]? = some (pmsg 0 i)) := Lib.hid (by rw [← hL]; exact tms_get hip)
      have HLl : Hid (L.length = p + 1) := Lib.hid (by rw [← hL]; simp)
      clear hL
      go_wp2_with fail
      refine (look_bag g 0 L i (pmsg 0 i) i rfl _ HB5.out HLi.out).mono ?_
      rintro e w6 ⟨rfl, hk6⟩
      have HB6 := Lib.hid (HB5.out.keep hk6 (by simp))
      have HK6 := Lib.hid (HK5.out.trans hk6)
      clear hk6 HB5 HK5
      go_wp2_with (first
        | ((with_reducible refine at_dst (N := 12) rfl ?_); refine ev_alloc rfl 28 rfl _ zmsg Try.zeroValue28 rfl ?_; intro g7 w7 hg7 hb7 hk7)
        | ((with_reducible refine at_store (p := 12) rfl ?_); refine ev_store_all rfl 28 _ _ rfl g7 rfl (pmsg 0 i) rfl 28 zmsg hb7 rfl info28 (cells_pmsg _ _).ones ?_; intro w8 hb8 hk8; have hc3 : w8.cell? ⟨g7, 3, none⟩ = some (.int .i64 i) := hb8.cell 3; have hm8 := HB6.out.lt; have HB8 := Lib.hid ((HB6.out.keep hk7 (by simp)).keep hk8 (by simp; omega)); have hs6 := HK6.out.size; have HK8 := Lib.hid ((HK6.out.trans hk7).then_ hk8 (by simp; omega)); clear hk7 hk8 hb7 hb8 HB6 HK6))
      refine (copy_bag g 0 L i (pmsg 0 i) i rfl _ HB8.out HLi.out (by omega) (cells_pmsg _ _)).mono ?_
      rintro e w9 ⟨rfl, hk9, hb9⟩
      have hput : put1 (L, 0) (pmsg 0 i) = (L ++ [pmsg 0 i], 0) := by unfold put1; rw [if_neg (by rw [HLl.out]; omega)]
      rw [hput] at hb9
      have HB9 : Hid (Bag w9 g (L ++ [pmsg 0 i]) 0) := Lib.hid hb9
      have HK9 := Lib.hid (HK8.out.then_ hk9 (by simp [hg]))
      clear hb9 hk9 hput HB8 HK8
      have HLk : Hid ((L ++ [pmsg 0 i])[p + 1]? = some (pmsg 0 i)) := Lib.hid (by rw [List.getElem?_append_right (by rw [HLl.out]; omega), HLl.out, Nat.sub_self]; rfl)
      have HLi2 : Hid ((L ++ [pmsg 0 i])[i]? = some (pmsg 0 i)) := Lib.hid (by rw [List.getElem?_append_left (by rw [HLl.out]; omega)]; exact HLi.out)
      have HLl2 : Hid ((L ++ [pmsg 0 i]).length = p + 2) := Lib.hid (by rw [List.length_append, HLl.out]; rfl)
      generalize L ++ [pmsg 0 i] = L2 at *
      go_wp2_with fail
      refine (len_any g (1 + (p : Int) + 1) _ (by obtain ⟨f, S, hr, _⟩ := HB9.out; have := hr.cn; rw [HLl2.out] at this; rw [this]; congr 2; omega)).mono ?_
      rintro e wx ⟨rfl, rfl⟩
      go_wp2_with fail
      refine (look_bag g 0 L2 (p + 1) (pmsg 0 i) (1 + p) (by omega) _ HB9.out HLk.out).mono ?_
      rintro e w10 ⟨rfl, hk10⟩
      have HB10 := Lib.hid (HB9.out.keep hk10 (by simp))
      have HK10 := Lib.hid (HK9.out.trans hk10)
      clear hk10 HB9 HK9 hc3
      go_wp2_with (first
        | ((with_reducible refine at_dst (N := 14) rfl ?_); refine ev_alloc rfl 28 rfl _ zmsg Try.zeroValue28 rfl ?_; intro g7 w7 hg7 hb7 hk7)
        | ((with_reducible refine at_store (p := 14) rfl ?_); refine ev_store_all rfl 28 _ _ rfl g7 rfl (pmsg 0 i) rfl 28 zmsg hb7 rfl info28 (cells_pmsg _ _).ones ?_; intro w8 hb8 hk8; have HBk := Lib.hid hb8; have hm8 := HB10.out.lt; have HB11 := Lib.hid ((HB10.out.keep hk7 (by simp)).keep hk8 (by simp; omega)); have hs6 := HK10.out.size; have HK11 := Lib.hid ((HK10.out.trans hk7).then_ hk8 (by simp; omega)); have hgk : g ≠ g7 := (by omega); clear hk7 hk8 hb7 hb8 HB10 HK10 hs6 hm8))
      refine (take_bag g 0 L2 i (pmsg 0 i) i rfl _ HB11.out HLi2.out).mono ?_
      rintro e w12 ⟨rfl, hk12, hb12⟩
      have HBk12 := Lib.hid (HBk.out.keep hk12 (by simp [Ne.symm hgk]))
      have HB12 := Lib.hid hb12
      have HK12 := Lib.hid (HK11.out.then_ hk12 (by simp [hg]))
      have HLe : Hid ((L2.eraseIdx i).length = p + 1) := Lib.hid (by rw [List.length_eraseIdx, if_pos (by rw [HLl2.out]; omega), HLl2.out]; omega)
      generalize L2.eraseIdx i = L3 at *
      clear hb12 hk12 HB11 HK11 HBk
      go_wp2_with (first
        | ((with_reducible refine at_dst (N := 16) rfl ?_); refine ev_alloc rfl 28 rfl _ zmsg Try.zeroValue28 rfl ?_; intro g13 w13 hg13 hb13 hk13)
        | ((with_reducible refine at_store (p := 16) rfl ?_); refine ev_store_all rfl 28 _ _ rfl g13 rfl (pmsg 0 i) rfl 28 zmsg hb13 rfl info28 (cells_pmsg _ _).ones ?_; intro w14 hb14 hk14))
      have hgl := HB12.out.lt
      have hg14 : g ≠ g13 := by omega
      have hg713 : g7 ≠ g13 := by have := HBk12.out.lt; omega
      have HB14 := Lib.hid ((HB12.out.keep hk13 (by simp)).keep hk14 (by simp [hg14]))
      have HK14 := Lib.hid ((HK12.out.trans hk13).then_ hk14 (by have := HK12.out.size; simp; omega))
      have HBk14 := Lib.hid ((HBk12.out.keep hk13 (by simp)).keep hk14 (by simp [hg713]))
      have HBx14 := Lib.hid hb14
      clear hb13 hb14 hk13 hk14 HB12 HK12 HBk12 hgl
      refine (place_any a2 100 _ HB2.out (by omega)).mono ?_
      rintro e w' ⟨rfl, rfl⟩
      rw [HQ.out]
      go_wp2_with fail
      refine (look_none g 0 L3 _ _ HB14.out (.inr (by rw [HLe.out]; omega))).mono ?_
      rintro e w15 ⟨rfl, hk15⟩
      have HB15 := Lib.hid (HB14.out.keep hk15 (by simp))
      have HK15 := Lib.hid (HK14.out.trans hk15)
      have HBk15 := Lib.hid (HBk14.out.keep hk15 (by simp))
      have HBx15 := Lib.hid (HBx14.out.keep hk15 (by simp))
      clear hk15 HB14 HK14 HBk14 HBx14
      go_wp2_with (first
        | ((with_reducible refine at_dst (N := 19) rfl ?_); refine ev_alloc rfl 28 rfl _ zmsg Try.zeroValue28 rfl ?_; intro g16 w16 hg16 hb16 hk16)
        | ((with_reducible refine at_store (p := 19) rfl ?_); refine ev_store_all rfl 28 _ _ rfl g16 rfl zmsg rfl 28 zmsg hb16 rfl info28 cells_zmsg.ones ?_; intro w17 hb17 hk17))
      have K17 : Kp [g16] w15 w17 := (hk16.mono (by simp)).trans hk17
      have HB17 := Lib.hid (HB15.out.keep K17 (by have := HB15.out.lt; simp; omega))
      have HK17 := Lib.hid (HK15.out.then_ K17 (by have := HK15.out.size; simp; omega))
      have HBk17 := Lib.hid (HBk15.out.keep K17 (by have := HBk15.out.lt; simp; omega))
      have HBx17 := Lib.hid (HBx15.out.keep K17 (by have := HBx15.out.lt; simp; omega))
      clear hb16 hb17 hk16 hk17 K17 HB15 HK15 HBk15 HBx15
      refine (place_any a2 100 _ HB2.out (by omega)).mono ?_
      rintro e w' ⟨rfl, rfl⟩
      rw [HQ.out]
      go_wp2_with fail
      refine (take_none g 0 L3 _ _ HB17.out (.inl (by omega))).mono ?_
      rintro e w18 ⟨rfl, hk18⟩
      have HB18 := Lib.hid (HB17.out.keep hk18 (by simp))
      have HK18 := Lib.hid (HK17.out.trans hk18)
      have HBk18 := Lib.hid (HBk17.out.keep hk18 (by simp))
      have HBx18 := Lib.hid (HBx17.out.keep hk18 (by simp))
      clear hk18 HB17 HK17 HBk17 HBx17
      go_wp2_with (first
        | ((with_reducible refine at_dst (N := 21) rfl ?_); refine ev_alloc rfl 28 rfl _ zmsg Try.zeroValue28 rfl ?_; intro g19 w19 hg19 hb19 hk19)
        | ((with_reducible refine at_store (p := 21) rfl ?_); refine ev_store_all rfl 28 _ _ rfl g19 rfl zmsg rfl 28 zmsg hb19 rfl info28 cells_zmsg.ones ?_; intro w20 hb20 hk20; have K20 : Kp [g19] w18 w20 := ((hk19.mono (by simp)).trans hk20); have HB20 := Lib.hid (HB18.out.keep K20 (by have := HB18.out.lt; simp; omega)); have HK20 := Lib.hid (HK18.out.then_ K20 (by have := HK18.out.size; simp; omega)); have hcK : w20.cell? ⟨g7, 3, none⟩ = some (.int .i64 i) := (HBk18.out.keep K20 (by have := HBk18.out.lt; simp; omega)).cell 3; have hcX : w20.cell? ⟨g13, 3, none⟩ = some (.int .i64 i) := (HBx18.out.keep K20 (by have := HBx18.out.lt; simp; omega)).cell 3; clear hb19 hb20 hk19 hk20 K20 HB18 HK18 HBk18 HBx18))
      refine (len_any g (1 + (p : Int)) _ (by obtain ⟨f, S, hr, _⟩ := HB20.out; have := hr.cn; rw [HLe.out] at this; rw [this]; congr 2; omega)).mono ?_
      rintro e wx ⟨rfl, rfl⟩
      go_wp2_with fail
      refine (copy_none g 0 L3 _ _ HB20.out (.inr (by rw [HLe.out]; omega))).mono ?_
      rintro e w21 ⟨rfl, hk21⟩
      have HB21 := Lib.hid (HB20.out.keep hk21 (by simp))
      have HK21 := Lib.hid (HK20.out.trans hk21)
      clear hk21 HB20 HK20 hcK hcX
      go_wp2_with fail
      refine (len_any g (1 + (p : Int)) _ (by obtain ⟨f, S, hr, _⟩ := HB21.out; have := hr.cn; rw [HLe.out] at this; rw [this]; congr 2; omega)).mono ?_
      rintro e wx ⟨rfl, rfl⟩
      go_wp2_with fail
      refine (lost_any g 0 _ (by obtain ⟨f, S, hr, _⟩ := HB21.out; exact hr.cl)).mono ?_
      rintro e wx ⟨rfl, rfl⟩
      go_wp2_with fail
      refine (awake_any _).mono ?_
      rintro e w22 ⟨rfl, hk22⟩
      go_wp2_with fail
      go_ret
      exact ⟨rfl, HK21.out.trans hk22⟩
end Go.Proofs.Ythociaoflpdeaaa
