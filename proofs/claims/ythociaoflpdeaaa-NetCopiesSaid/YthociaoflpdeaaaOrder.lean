/- NetOrder: they come out in order, the oldest lost if there are too many. -/
import Derived.Test.YthociaoflpdeaaaNew
namespace Go.Proofs.Ythociaoflpdeaaa
open Go.RowKit
set_option linter.unusedVariables false
set_option linter.unusedSimpArgs false

def tm (i : Nat) : List Value := pmsg 0 i
theorem cells_tm (l : List Nat) : ∀ m ∈ l.map tm, Cells10 m := by
  intro m hm
  obtain ⟨i, _, rfl⟩ := List.mem_map.1 hm
  exact cells_pmsg _ _
/-- What a bag holds when the first p have been put. -/
def bagOf (p : Nat) : List (List Value) × Nat := ((List.range p).map tm).foldl put1 ([], 0)
theorem bagOf_eq (p : Nat) : bagOf p = (((List.range p).drop (p - 200)).map tm, p - 200) := by
  unfold bagOf
  induction p with
  | zero => rfl
  | succ p ih =>
    rw [List.range_succ, List.map_append, List.foldl_append, ih]
    simp only [List.map_cons, List.map_nil, List.foldl_cons, List.foldl_nil, put1, List.length_map, List.length_drop, List.length_range]
    by_cases h : p < 200
    · rw [if_neg (by omega), show p - 200 = 0 by omega, show p + 1 - 200 = 0 by omega]; simp
    · rw [if_pos (by omega), List.drop_append_of_le_length (by simp <;> omega), List.map_append]
      have e : (List.map tm (List.drop (p - 200) (List.range p))).eraseIdx 0 = List.map tm (List.drop (p + 1 - 200) (List.range p)) := by
        rw [List.eraseIdx_zero, ← List.map_tail, List.tail_drop, show p - 200 + 1 = p + 1 - 200 by omega]
      rw [e]
      simp [show p - 200 + 1 = p + 1 - 200 by omega]
theorem bagOf_put (p n : Nat) : ((List.range' p n).map tm).foldl put1 (bagOf p) = bagOf (p + n) := by
  unfold bagOf
  rw [← List.foldl_append, ← List.map_append]
  have := List.range'_append (s := 0) (m := p) (n := n) (step := 1)
  simp only [Nat.one_mul, Nat.zero_add] at this
  rw [List.range_eq_range', List.range_eq_range', this]
theorem tm_flat (l : List Nat) : ((l.map tm).flatten).length = l.length * 10 := by
  rw [flat_length fun m hm => (cells_tm l m hm).len, List.length_map]
theorem lot_own {w : World} {b base n : Nat} {v : Value} {A : Option Addr} {cap : Nat} {ms : List (List Value)} (hv : v = .slice A n cap) (h : w.ownsRow base 28 10 v n ms.flatten) (hb : b < base) (hm : ∀ m ∈ ms, Cells10 m) (hn : ms.length = n) : Lot w b A n ms := by
  subst hn
  refine ⟨rfl, hm, fun hpos => ?_⟩
  obtain ⟨g, cap', hv', hg, _⟩ := h.form hpos
  rw [hv] at hv'
  injection hv' with hA _ _
  subst hA
  have := lot_of (w := w) (b := b) (g := g) (ms := ms) (by omega) hm (fun j u hu => by
    have := h.cells (g := g) (by rw [hv]; rfl) j u hu
    rwa [Addr.add_mid, Nat.zero_add] at this)
  exact this.at_ hpos

theorem own_ne {w : World} {base g n size : Nat} {e : TypeId} {v : Value} {xs : List Value} (h : w.ownsRow base e size v n xs) (hb : g < base) : g ∉ v.ownBlock.toList := by
  rcases h.2 with ⟨rfl, _⟩ | ⟨g', cap, cur, rfl, hg, _⟩
  · simp [Value.ownBlock]
  · simp [Value.ownBlock]; omega
theorem own_ge {w : World} {base B n size : Nat} {e : TypeId} {v : Value} {xs : List Value} {X : List Nat} (h : w.ownsRow base e size v n xs) (hb : B ≤ base) : ∀ g ∈ v.ownBlock.toList, g ∈ X ∨ B ≤ g := by
  rcases h.2 with ⟨rfl, _⟩ | ⟨g', cap, cur, rfl, hg, _⟩
  · simp [Value.ownBlock]
  · simp [Value.ownBlock]; omega
theorem range_more {w : World} {base p i : Nat} {v : Value} {n : Nat} (h : w.ownsRow base 28 10 v n (((List.range' p (i - p)).map tm).flatten ++ tm i)) (hpi : p ≤ i := by omega) : w.ownsRow base 28 10 v n ((List.range' p (i - p + 1)).map tm).flatten := by
  have e : (List.range' p (i - p + 1)).map tm = (List.range' p (i - p)).map tm ++ [tm i] := by
    rw [List.range'_concat]; simp [show p + (i - p) = i by omega]
  rw [e, List.flatten_append]; simpa using h
theorem bag_more {w : World} {g p i : Nat} (hpi : p ≤ i) (h : Bag w g (((List.range' p (i - p + 1)).map tm).foldl put1 ((bagOf p).1, (bagOf p).2)).1 (((List.range' p (i - p + 1)).map tm).foldl put1 ((bagOf p).1, (bagOf p).2)).2) : Bag w g (bagOf (i + 1)).1 (bagOf (i + 1)).2 := by
  have e0 : ((List.range' p (i - p + 1)).map tm).foldl put1 ((bagOf p).1, (bagOf p).2) = bagOf (i + 1) := by
    have := bagOf_put p (i - p + 1)
    rwa [show p + (i - p + 1) = i + 1 by omega] at this
  rw [e0] at h; exact h

theorem info28a : (Try.prog.info? 28).map (fun i => (i.zero, i.size, i.bytes)) = some (some (.agg zmsg.toArray), 10, 104) := by kernel_rfl

theorem gone_max (p : Nat) : ((p - 200 : Nat) : Int) = max ((p : Int) - 200) 0 := by omega
theorem gone_le (p : Nat) : p - 200 ≤ p := Nat.sub_le _ _
set_option maxRecDepth 10000 in
set_option maxHeartbeats 2000000 in
theorem order_walk (a0 a1 : Int) (w0 : (Lit.int .i64 a0).wf = true) (w1 : (Lit.int .i64 a1).wf = true) (w : World) :
    Calls Try.prog 3 #[.int .i64 a0, .int .i64 a1] w fun e w' => e = .returned (.bool true) ∧ Kp [] w w' := by
  have hb0 : -9223372036854775808 ≤ a0 ∧ a0 ≤ 9223372036854775807 := by simpa [Lit.wf, IntKind.min, IntKind.max, IntKind.signed, IntKind.bits] using w0
  have hb1 : -9223372036854775808 ≤ a1 ∧ a1 ≤ 9223372036854775807 := by simpa [Lit.wf, IntKind.min, IntKind.max, IntKind.signed, IntKind.bits] using w1
  clear w0 w1
  obtain ⟨k, hk⟩ := Int.eq_ofNat_of_zero_le (Int.emod_nonneg a0 (show (500 : Int) ≠ 0 by omega))
  obtain ⟨j, hj⟩ := Int.eq_ofNat_of_zero_le (Int.emod_nonneg a1 (show (60 : Int) ≠ 0 by omega))
  have hk5 : k < 500 := by omega
  have hj6 : j < 60 := by omega
  have HK := Lib.hid hk
  have HJ := Lib.hid hj
  have HB0 := Lib.hid hb0
  have HB1 := Lib.hid hb1
  clear hk hj hb0 hb1
  go_enter Try.func3, Try.ntmps3
  go_wp2_with fail
  refine (place_any a0 500 _ HB0.out (by omega)).mono ?_
  rintro e w' ⟨rfl, rfl⟩
  rw [HK.out]
  go_wp2_with fail
  refine (place_any a1 60 _ HB1.out (by omega)).mono ?_
  rintro e w' ⟨rfl, rfl⟩
  rw [HJ.out]
  go_wp2_with (first
    | (go_at_call 7; refine (new_any _).mono ?_; rintro e w1 ⟨g, rfl, hg, hbag, hk1⟩))
  have hgw := hbag.lt
  have HBAG : Hid (Bag w1 g (bagOf 0).1 (bagOf 0).2) := Lib.hid hbag
  have HK1 := Lib.hid hk1
  clear hbag hk1
  go_loopw [8, 9] (fun v8 v9 wr => ∃ i p : Nat, p ≤ i ∧ i ≤ k ∧ i - p ≤ j ∧ (i = k → p = k) ∧ v9 = .int .i64 i ∧ Hid (wr.ownsRow (g + 1) 28 10 v8 (i - p) ((List.range' p (i - p)).map tm).flatten) ∧ Hid (Bag wr g (bagOf p).1 (bagOf p).2) ∧ Hid (Kp [] w wr)) (fun _ v9 _ => k - (intOf v9).toNat)
  case atStart => exact ⟨0, 0, Nat.le_refl _, Nat.zero_le _, Nat.zero_le _, fun h => h, rfl, ⟨rfl, .inl ⟨rfl, rfl⟩⟩, HBAG, HK1⟩
  case round =>
    obtain ⟨i, p, hpi, hik, hpj, hend, rfl, hown, HB, HK2⟩ := hrel
    clear HBAG HK1
    have hgr := HB.out.lt
    have HE := Lib.hid hend
    clear hend
    by_cases hlt : i < k
    · obtain ⟨n, hn⟩ : ∃ n, n = i - p := ⟨_, rfl⟩
      have HN := Lib.hid hn
      go_wp2_with (first
        | (at_builtin
           refine ev_append rfl (.tmp 29) (.tmp 32) 25 rfl (g + 1) 28 (.agg zmsg.toArray) 10 104 Try.underlying25 info28a rfl (by omega) u8 (i - p) _ rfl (hown.out.alloc _) wr.heap.size 1 1 rfl 28 (tm i) (Blk.new wr 28 (tm i)) rfl (cells_pmsg 0 i).ones (by omega) (by omega) (by omega) (by simp; omega) ?_
           intro g3 cap3 w3 hown3 hk3 hat3
           have HB3 := Lib.hid ((HB.out.keep (Kp.alloc (X := []) _ _) (by simp)).keep hk3 (own_ne hown.out (Nat.lt_succ_self g)))
           have HK3 := Lib.hid ((HK2.out.trans (Kp.alloc (X := []) _ _)).then_ hk3 (own_ge hown.out (by omega)))
           have HO3 := Lib.hid hown3
           clear hown3 hk3 hat3 hown HB HK2))

      all_goals first
        | (refine (put_any g (bagOf p).2 (bagOf p).1 _ (i - p + 1) _ ((List.range' p (i - p + 1)).map tm) _ HB3.out (lot_own rfl (range_more HO3.out) (Nat.lt_succ_self g) (cells_tm _) (by simp)) (by rw [bagOf_eq]; show p - 200 + _ ≤ _; omega)).mono ?_
           rintro e w4 ⟨rfl, hk4, hb4⟩
           have HB4 := Lib.hid (bag_more hpi hb4)
           have HK4 := Lib.hid (HK3.out.then_ hk4 (by simp [hg]))
           clear hb4 hk4
           go_wp2_with fail
           exact ⟨⟨i + 1, i + 1, Nat.le_refl _, by omega, by omega, fun _ => by omega, by go_num, Lib.hid (by rw [Nat.sub_self]; exact ⟨by simp, .inl ⟨rfl, rfl⟩⟩), HB4, HK4⟩, by simp [intOf]; omega⟩)
        | (rename_i hx
           simp only [beq_eq_false_iff_ne, ne_eq] at hx
           exact ⟨⟨i + 1, p, by omega, by omega, by omega, fun _ => by omega, by go_num, Lib.hid (by rw [show i + 1 - p = i - p + 1 by omega]; exact range_more HO3.out), HB3, HK3⟩, by simp [intOf]; omega⟩)
    · obtain rfl : i = k := by omega
      have hp := HE.out rfl
      subst hp
      clear hown
      have HB5 : Hid (Bag wr g (((List.range p).drop (p - 200)).map tm) (p - 200)) := by rw [bagOf_eq] at HB; exact HB
      clear HB
      have hq := gone_le p
      generalize hgone : p - 200 = q at *
      have hqq : (200 ≤ p ∧ p ≤ q + 200 ∧ q + 200 ≤ p) ∨ (p < 200 ∧ q ≤ 0) := by
        rw [← hgone]
        by_cases hbig : 200 ≤ p
        · exact .inl ⟨hbig, Nat.le_of_eq (Nat.sub_add_cancel hbig).symm, Nat.le_of_eq (Nat.sub_add_cancel hbig)⟩
        · exact .inr ⟨Nat.lt_of_not_le hbig, Nat.le_of_eq (Nat.sub_eq_zero_of_le (Nat.le_of_lt (Nat.lt_of_not_le hbig)))⟩
      clear hgone
      have hlen : Hid ((((List.range p).drop q).map tm).length = p - q) := Lib.hid (by rw [List.length_map, List.length_drop, List.length_range])
      generalize hL : ((List.range p).drop q).map tm = L at *
      have HL := Lib.hid hL
      clear hL
      obtain ⟨n, hn⟩ : ∃ n : Nat, L.length = n := ⟨_, rfl⟩
      rw [hn] at hlen
      have hnp : p ≤ q + n ∧ q + n ≤ p := by have := hlen.out; constructor <;> omega
      have HCN : Hid (wr.cell? ⟨g, 2001, none⟩ = some (.int .i64 n)) := by obtain ⟨f, S, hr, _⟩ := HB5.out; rw [← hn]; exact hr.cn
      have HCL : Hid (wr.cell? ⟨g, 2002, none⟩ = some (.int .i64 q)) := by obtain ⟨f, S, hr, _⟩ := HB5.out; exact hr.cl
      clear hn hlen
      obtain ⟨hnp1, hnp2⟩ := hnp
      rcases hqq with ⟨hbig, hq1, hq2⟩ | ⟨hbig, hq1⟩
      · have hx1 : ((n : Int) != (p : Int) - ((p : Int) - 200)) = false := by simp; omega
        have hx2 : ((q : Int) != (p : Int) - 200) = false := by simp; omega
        go_wp2_with (first
          | (go_at_call 9; refine (len_any g _ _ HCN.out).mono ?_; rintro e w9 ⟨rfl, rfl⟩)
          | (go_at_call 10; refine (lost_any g _ _ HCL.out).mono ?_; rintro e w9 ⟨rfl, rfl⟩))
        clear hx1 hx2
        clear HCN HCL
        go_loopw [11] (fun v11 wx => ∃ t : Nat, t ≤ n ∧ v11 = .int .i64 ((q : Int) + t) ∧ Hid (Bag wx g (L.drop t) q) ∧ Hid (Kp [] w wx)) (fun v11 _ => p - (intOf v11).toNat)
        case atStart => exact ⟨0, Nat.zero_le _, by congr 1; omega, HB5, HK2⟩
        case round =>
          obtain ⟨wx, rfl⟩ : ∃ wx : World, wx = wr := ⟨_, rfl⟩
          obtain ⟨t, htn, rfl, HBt, HKt⟩ := hrel
          clear HB5 HK2
          by_cases hlt : t < n
          · have hLt : (L.drop t)[0]? = some (pmsg 0 ((q : Int) + t)) := by
              rw [List.getElem?_drop, ← HL.out, List.getElem?_map, List.getElem?_drop, Nat.add_zero, List.getElem?_range (by omega)]; simp [tm]
            have HLt := Lib.hid hLt
            clear hLt
            go_wp2_with fail
            refine (take_bag g q _ 0 _ 0 rfl _ HBt.out HLt.out).mono ?_
            rintro e w3 ⟨rfl, hk3, hb3⟩
            have hgl := HBt.out.lt
            have HB3 : Hid (Bag w3 g (L.drop (t + 1)) q) := by
              rw [List.eraseIdx_zero, List.tail_drop] at hb3; exact hb3
            have HK3 := Lib.hid (HKt.out.then_ hk3 (by simp [hg]))
            have hs3 := hk3.size
            clear hk3 hb3 HBt HKt
            go_wp2_with (first
              | ((with_reducible refine at_dst (N := 12) rfl ?_); refine ev_alloc rfl 28 rfl _ zmsg Try.zeroValue28 rfl ?_; intro g4 w4 hg4 hb4 hk4)
              | ((with_reducible refine at_store (p := 12) rfl ?_); refine ev_store_all rfl 28 _ _ rfl g4 rfl (pmsg 0 ((q : Int) + t)) rfl 28 zmsg hb4 rfl info28 (cells_pmsg _ _).ones ?_; intro w5 hb5 hk5; have hc3 : w5.cell? ⟨g4, 3, none⟩ = some (.int .i64 ((q : Int) + t)) := hb5.cell 3))
            have hne : g ≠ g4 := by omega
            have hws := HK3.out.size
            go_roundw
            case rel => exact ⟨t + 1, by omega, by rw [show ((q : Int) + t) + 1 = q + ((t + 1 : Nat) : Int) by omega], (HB3.out.keep hk4 (by simp)).keep hk5 (by simp [hne]), (HK3.out.trans hk4).then_ hk5 (by simp; omega)⟩
            case measure => simp [intOf]; omega
          · obtain rfl : t = n := by omega
            have hgl := HBt.out.lt
            go_wp2_with (first
              | (go_at_call 11; refine (take_none g q _ 0 _ HBt.out (.inr (by rw [List.length_drop, ← HL.out, List.length_map, List.length_drop, List.length_range]; omega))).mono ?_; rintro e w3 ⟨rfl, hk3⟩)
              | ((with_reducible refine at_dst (N := 14) rfl ?_); refine ev_alloc rfl 28 rfl _ zmsg Try.zeroValue28 rfl ?_; intro g4 w4 hg4 hb4 hk4)
              | ((with_reducible refine at_store (p := 14) rfl ?_); refine ev_store_all rfl 28 _ _ rfl g4 rfl zmsg rfl 28 zmsg hb4 rfl info28 cells_zmsg.ones ?_; intro w5 hb5 hk5)
              | (go_at_call 12; refine (awake_any _).mono ?_; rintro e w6 ⟨rfl, hk6⟩))
            go_ret
            have hws := HKt.out.size
            have hs3 := hk3.size
            exact ⟨rfl, (((HKt.out.trans hk3).trans hk4).then_ hk5 (by simp; omega)).trans hk6⟩
      · have hx1 : ((n : Int) != (p : Int)) = false := by simp; omega
        have hx2 : ((q : Int) != 0) = false := by simp; omega
        go_wp2_with (first
          | (go_at_call 9; refine (len_any g _ _ HCN.out).mono ?_; rintro e w9 ⟨rfl, rfl⟩)
          | (go_at_call 10; refine (lost_any g _ _ HCL.out).mono ?_; rintro e w9 ⟨rfl, rfl⟩))
        clear hx1 hx2
        clear HCN HCL
        go_loopw [11] (fun v11 wx => ∃ t : Nat, t ≤ n ∧ v11 = .int .i64 ((q : Int) + t) ∧ Hid (Bag wx g (L.drop t) q) ∧ Hid (Kp [] w wx)) (fun v11 _ => p - (intOf v11).toNat)
        case atStart => exact ⟨0, Nat.zero_le _, by congr 1; omega, HB5, HK2⟩
        case round =>
          obtain ⟨wx, rfl⟩ : ∃ wx : World, wx = wr := ⟨_, rfl⟩
          obtain ⟨t, htn, rfl, HBt, HKt⟩ := hrel
          clear HB5 HK2
          by_cases hlt : t < n
          · have hLt : (L.drop t)[0]? = some (pmsg 0 ((q : Int) + t)) := by
              rw [List.getElem?_drop, ← HL.out, List.getElem?_map, List.getElem?_drop, Nat.add_zero, List.getElem?_range (by omega)]; simp [tm]
            have HLt := Lib.hid hLt
            clear hLt
            go_wp2_with fail
            refine (take_bag g q _ 0 _ 0 rfl _ HBt.out HLt.out).mono ?_
            rintro e w3 ⟨rfl, hk3, hb3⟩
            have hgl := HBt.out.lt
            have HB3 : Hid (Bag w3 g (L.drop (t + 1)) q) := by
              rw [List.eraseIdx_zero, List.tail_drop] at hb3; exact hb3
            have HK3 := Lib.hid (HKt.out.then_ hk3 (by simp [hg]))
            have hs3 := hk3.size
            clear hk3 hb3 HBt HKt
            go_wp2_with (first
              | ((with_reducible refine at_dst (N := 12) rfl ?_); refine ev_alloc rfl 28 rfl _ zmsg Try.zeroValue28 rfl ?_; intro g4 w4 hg4 hb4 hk4)
              | ((with_reducible refine at_store (p := 12) rfl ?_); refine ev_store_all rfl 28 _ _ rfl g4 rfl (pmsg 0 ((q : Int) + t)) rfl 28 zmsg hb4 rfl info28 (cells_pmsg _ _).ones ?_; intro w5 hb5 hk5; have hc3 : w5.cell? ⟨g4, 3, none⟩ = some (.int .i64 ((q : Int) + t)) := hb5.cell 3))
            have hne : g ≠ g4 := by omega
            have hws := HK3.out.size
            go_roundw
            case rel => exact ⟨t + 1, by omega, by rw [show ((q : Int) + t) + 1 = q + ((t + 1 : Nat) : Int) by omega], (HB3.out.keep hk4 (by simp)).keep hk5 (by simp [hne]), (HK3.out.trans hk4).then_ hk5 (by simp; omega)⟩
            case measure => simp [intOf]; omega
          · obtain rfl : t = n := by omega
            have hgl := HBt.out.lt
            go_wp2_with (first
              | (go_at_call 11; refine (take_none g q _ 0 _ HBt.out (.inr (by rw [List.length_drop, ← HL.out, List.length_map, List.length_drop, List.length_range]; omega))).mono ?_; rintro e w3 ⟨rfl, hk3⟩)
              | ((with_reducible refine at_dst (N := 14) rfl ?_); refine ev_alloc rfl 28 rfl _ zmsg Try.zeroValue28 rfl ?_; intro g4 w4 hg4 hb4 hk4)
              | ((with_reducible refine at_store (p := 14) rfl ?_); refine ev_store_all rfl 28 _ _ rfl g4 rfl zmsg rfl 28 zmsg hb4 rfl info28 cells_zmsg.ones ?_; intro w5 hb5 hk5)
              | (go_at_call 12; refine (awake_any _).mono ?_; rintro e w6 ⟨rfl, hk6⟩))
            go_ret
            have hws := HKt.out.size
            have hs3 := hk3.size
            exact ⟨rfl, (((HKt.out.trans hk3).trans hk4).then_ hk5 (by simp; omega)).trans hk6⟩
end Go.Proofs.Ythociaoflpdeaaa
