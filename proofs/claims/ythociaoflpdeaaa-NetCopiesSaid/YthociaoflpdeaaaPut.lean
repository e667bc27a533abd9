/- Put, Copy, New: what goes into a bag. -/
import Derived.Test.YthociaoflpdeaaaTake
namespace Go.Proofs.Ythociaoflpdeaaa
open Go.RowKit
set_option linter.unusedVariables false
set_option linter.unusedSimpArgs false

/-- Block b is a bag of the messages L; lost were lost. -/
def Bag (w : World) (b : Nat) (L : List (List Value)) (lost : Nat) : Prop := ∃ f S, Ring w b f L.length lost S ∧ ∀ j m, L[j]? = some m → S j = m
theorem Bag.keep {w w' : World} {X : List Nat} {b lost : Nat} {L : List (List Value)} (h : Bag w b L lost) (k : Kp X w w') (hb : b ∉ X) : Bag w' b L lost := by
  obtain ⟨f, S, hr, hs⟩ := h
  exact ⟨f, S, hr.keep k hb, hs⟩
theorem Bag.lt {w : World} {b lost : Nat} {L : List (List Value)} (h : Bag w b L lost) : b < w.heap.size := by
  obtain ⟨f, S, hr, hs⟩ := h
  exact hr.lt

theorem take_bag (b lost : Nat) (L : List (List Value)) (i : Nat) (m : List Value) (j : Int) (hj : j = i) (w : World) (h : Bag w b L lost) (hi : L[i]? = some m) :
    Calls Try.prog 11 #[.pointer (some ⟨b, 0, none⟩), .int .i64 j] w fun e w' => Msgs e m true ∧ Kp [b] w w' ∧ Bag w' b (L.eraseIdx i) lost := by
  obtain ⟨f, S, hr, hs⟩ := h
  subst hj
  have hlt := (List.getElem?_eq_some_iff.1 hi).1
  refine (take_in b f L.length lost S i w hr (by omega) (by omega)).mono ?_
  rintro e w' ⟨he, hk, f', hr', hs'⟩
  refine ⟨by simpa [hs i m hi] using he, hk, _, f', by rw [List.length_eraseIdx, if_pos hlt]; exact hr', fun k u hu => ?_⟩
  rw [List.getElem?_eraseIdx] at hu
  have hkl : k < L.length - 1 := by
    have := (List.getElem?_eq_some_iff.1 (by rw [← List.getElem?_eraseIdx] at hu; exact hu)).1
    rwa [List.length_eraseIdx, if_pos hlt] at this
  rw [hs' k hkl]
  simp only [Int.toNat_natCast]
  split at hu
  · rename_i h1; rw [if_pos h1]; exact hs _ _ hu
  · rename_i h1; rw [if_neg h1]; exact hs _ _ hu
theorem look_bag (b lost : Nat) (L : List (List Value)) (i : Nat) (m : List Value) (j : Int) (hj : j = i) (w : World) (h : Bag w b L lost) (hi : L[i]? = some m) :
    Calls Try.prog 16 #[.pointer (some ⟨b, 0, none⟩), .int .i64 j] w fun e w' => Msgs e m true ∧ Kp [] w w' := by
  obtain ⟨f, S, hr, hs⟩ := h
  subst hj
  have hlt := (List.getElem?_eq_some_iff.1 hi).1
  refine (look_in b f L.length lost S i w hr (by omega) (by omega)).mono ?_
  rintro e w' ⟨he, hk⟩
  exact ⟨by simpa [hs i m hi] using he, hk⟩

/-- One message more: the oldest goes if there is no room. -/
def put1 (s : List (List Value) × Nat) (m : List Value) : List (List Value) × Nat := if s.1.length = 200 then (s.1.eraseIdx 0 ++ [m], s.2 + 1) else (s.1 ++ [m], s.2)

theorem put1_lost (ms : List (List Value)) : ∀ (s : List (List Value) × Nat), (ms.foldl put1 s).2 ≤ s.2 + ms.length := by
  induction ms with
  | nil => intro s; simp
  | cons m ms ih =>
    intro s
    refine Nat.le_trans (ih _) ?_
    unfold put1
    split <;> simp <;> omega

/-- A slice of messages outside the bag. -/
structure Lot (w : World) (b : Nat) (A : Option Addr) (n : Nat) (ms : List (List Value)) : Prop where
  len : ms.length = n
  cells : ∀ m ∈ ms, Cells10 m
  at_ : 0 < n → ∃ g o, A = some ⟨g, o, none⟩ ∧ g ≠ b ∧ ∀ i m, ms[i]? = some m → w.rangeAt g (o + i * 10) m
theorem Lot.keep {w w' : World} {b n : Nat} {A : Option Addr} {ms : List (List Value)} (h : Lot w b A n ms) (k : Kp [b] w w') : Lot w' b A n ms :=
  ⟨h.len, h.cells, fun hn => by
    obtain ⟨g, o, hA, hg, hm⟩ := h.at_ hn
    exact ⟨g, o, hA, hg, fun i m hi => k.range (hm i m hi) (by simpa using hg)⟩⟩

set_option maxHeartbeats 4000000 in
theorem put_any (b lost : Nat) (L : List (List Value)) (A : Option Addr) (n cap : Nat) (ms : List (List Value)) (w : World) (h : Bag w b L lost) (hl : Lot w b A n ms) (hn : lost + n ≤ 1000000) :
    Calls Try.prog 8 #[.pointer (some ⟨b, 0, none⟩), .slice A n cap] w fun e w' => e = .returned (.tuple #[]) ∧ Kp [b] w w' ∧ Bag w' b (ms.foldl put1 (L, lost)).1 (ms.foldl put1 (L, lost)).2 := by
  have hbs := h.lt
  have H := Lib.hid h
  have HL := Lib.hid hl
  clear h hl
  go_enter Try.func8, Try.ntmps8
  go_wp2_with fail
  go_loopw [8] (fun v wr => ∃ k : Nat, k ≤ n ∧ v = .int .i64 k ∧ Hid (Bag wr b ((ms.take k).foldl put1 (L, lost)).1 ((ms.take k).foldl put1 (L, lost)).2) ∧ Hid (Kp [b] w wr)) (fun v _ => n - (intOf v).toNat)
  case atStart => exact ⟨0, Nat.zero_le _, rfl, H, Kp.refl _ _⟩
  case round =>
    obtain ⟨k, hkn, rfl, HB, HK⟩ := hrel
    by_cases hk : k < n
    · obtain ⟨g, o, rfl, hgb, hcell⟩ := HL.out.at_ (by omega)
      obtain ⟨m, hm⟩ : ∃ m, ms[k]? = some m := ⟨_, List.getElem?_eq_getElem (by rw [HL.out.len]; exact hk)⟩
      have hmc := HL.out.cells m (List.mem_of_getElem? hm)
      have hml := Lib.hid hmc.1
      have hm1 := Lib.hid hmc.2
      have hmt := Lib.hid hmc.typed
      have HC := Lib.hid (HK.out.range (hcell k m hm) (by simpa using hgb))
      have HM := Lib.hid hm
      clear hcell hmc hm
      generalize hs : (ms.take k).foldl put1 (L, lost) = st at *
      obtain ⟨L1, l1⟩ := st
      have hl1 : l1 ≤ lost + k := by
        have := put1_lost (ms.take k) (L, lost)
        rw [hs, List.length_take] at this
        simp only at this
        omega
      have HS := Lib.hid hs
      clear hs
      obtain ⟨f, S, hr, hS⟩ := HB.out
      clear HB
      have hcn := hr.cn
      have hcl := hr.cl
      have hnn := hr.hn
      have HR := Lib.hid hr
      have HSm := Lib.hid hS
      clear hr hS
      go_upto_if 16 with (first
        | ((with_reducible refine at_dst (N := 11) rfl ?_); refine ev_load rfl 28 _ rfl g _ rfl m HC.out Try.underlying28 rfl (by rw [hml.out]; exact info28) ?_)
        | ((with_reducible refine at_dst (N := 5) rfl ?_); refine ev_alloc rfl 28 rfl _ zmsg Try.zeroValue28 rfl ?_; intro g5 w5 hg5 hb5 hk5)
        | ((with_reducible refine at_store (p := 5) rfl ?_); refine ev_store_all rfl 28 _ _ rfl g5 rfl m rfl 28 zmsg hb5 (by rw [hml.out]; rfl) (by rw [hml.out]; exact info28) hm1.out ?_; intro w6 hb6 hk6; clear hcn; have hcn := (hk5.then_ hk6 (by simp [hg5])).cell HR.out.cn (by simp)))
      have hg5b : g5 ≠ b := by have := HK.out.size; have := hg5; omega
      have hg5w : w.heap.size ≤ g5 := by have := HK.out.size; have := hg5; omega
      have K6 : Kp [] wr w6 := hk5.then_ hk6 (by simp [hg5])
      have HB6 : Hid (Bag w6 b L1 l1) := Lib.hid ⟨f, S, HR.out.keep K6 (by simp), HSm.out⟩
      have HK6 : Hid (Kp [b] w w6) := Lib.hid (HK.out.trans (K6.mono (by simp)))
      have H56 := Lib.hid hb6
      have hcl6 := K6.cell hcl (by simp)
      clear HK HR HSm hk5 hk6 hb5 hb6 K6 hcl HC
      go_cut [] (fun wc => Hid (∃ L2 l2, L2.length < 200 ∧ (L2 ++ [m], l2) = put1 (L1, l1) m ∧ Bag wc b L2 l2 ∧ Blk wc g5 28 m ∧ Kp [b] w wc))
      case first =>
        by_cases hfull : L1.length = 200
        · have e1 : ((L1.length : Int) == 200) = true := by rw [beq_iff_eq]; omega
          obtain ⟨m0, hm0⟩ : ∃ m0, L1[0]? = some m0 := ⟨_, List.getElem?_eq_getElem (by omega)⟩
          have HM0 := Lib.hid hm0
          clear hm0
          go_wp2_with fail
          refine (take_bag b l1 L1 0 m0 _ rfl _ HB6.out HM0.out).mono ?_
          rintro e w7 ⟨rfl, hk7, hB7⟩
          obtain ⟨f7, S7, hr7, hS7⟩ := hB7
          have hcl7 := hr7.cl
          have hff := (hr7.there 2002 (by omega)).2
          simp only [Nat.zero_add] at hff
          have HR7 := Lib.hid hr7
          have HS7 := Lib.hid hS7
          have HK7 := Lib.hid hk7
          clear hr7 hS7 hk7 e1 hcn hcl6
          have e2 : IntKind.i64.wrap ((l1 : Int) + 1) = (l1 + 1 : Nat) := by rw [IntWalk.i64_in _ ⟨by omega, by omega⟩]; rfl
          go_wp2_with fail
          go_meet
          case rel =>
            refine ⟨L1.eraseIdx 0, l1 + 1, by rw [List.length_eraseIdx, if_pos (by omega)]; omega, by unfold put1; rw [if_pos hfull], ⟨f7, S7, HR7.out.setL _ rfl, HS7.out⟩, (H56.out.keep HK7.out (by simp [hg5b])).keep (Kp.setCell (X := [b]) _ _ _ (by simp)) (by simp [hg5b]), (HK6.out.trans HK7.out).trans (Kp.setCell (X := [b]) _ _ _ (by simp))⟩
        · have e1 : ((L1.length : Int) == 200) = false := by rw [beq_eq_false_iff_ne]; omega
          go_wp2
          go_meet
          case rel => exact ⟨L1, l1, by omega, by unfold put1; rw [if_neg hfull], HB6.out, H56.out, HK6.out⟩
      case rest =>
        clear hcl6 HB6 HK6 H56 hcn
        obtain ⟨wb, rfl⟩ : ∃ wb : World, wb = wc := ⟨_, rfl⟩
        obtain ⟨L2, l2, hL2, hput, hB2, hb5, hkc⟩ := hcut.out
        obtain ⟨f2, S2, hr2, hS2⟩ := hB2
        have hcf := hr2.cf
        have hcn := hr2.cn
        have hf2 := hr2.hf
        have HR2 := Lib.hid hr2
        have HS2 := Lib.hid hS2
        have HB5 := Lib.hid hb5
        have HKC := Lib.hid hkc
        have HP := Lib.hid hput
        have hbc := hr2.lt
        clear hr2 hS2 hb5 hkc hput hcut
        go_upto_region 6 with (fail)
        (try simp only [Act.put])
        go_cut [] (fun wd => Hid (∃ nq, wd = (wb.drewN nq).setCells b ((f2 + L2.length) % 200 * 10) m))
        case first =>
          obtain ⟨m0, m1, m2, m3, m4, m5, m6, m7, m8, m9, m10, m11, rfl⟩ := hmt.out
          have hold := HR2.out.ms L2.length (by omega)
          have holdat := HR2.out.at_ L2.length (by omega)
          have hfz := HR2.out.there
          generalize S2 L2.length = ol at *
          obtain ⟨b0, b1, b2, b3, b4, b5, b6, b7, b8, b9, b10, b11, rfl⟩ := hold.typed
          have hmod : (f2 + L2.length) % 200 < 200 := Nat.mod_lt _ (by omega)
          generalize hp : (f2 + L2.length) % 200 * 10 = p at *
          have c0 : wb.cell? ⟨g5, 0, none⟩ = some (.int .i64 m0) := HB5.out.cell 0
          have d0 : wb.cell? ⟨b, p, none⟩ = some (.int .i64 b0) := holdat 0 _ rfl
          have e0 : wb.frozen? ⟨b, p, none⟩ = false := by simpa using (hfz (p + 0) (by omega)).2
          have c1 : wb.cell? ⟨g5, 1, none⟩ = some (.int .i64 m1) := HB5.out.cell 1
          have d1 : wb.cell? ⟨b, p + 1, none⟩ = some (.int .i64 b1) := holdat 1 _ rfl
          have e1 : wb.frozen? ⟨b, p + 1, none⟩ = false := by simpa using (hfz (p + 1) (by omega)).2
          have c2 : wb.cell? ⟨g5, 2, none⟩ = some (.int .i64 m2) := HB5.out.cell 2
          have d2 : wb.cell? ⟨b, p + 2, none⟩ = some (.int .i64 b2) := holdat 2 _ rfl
          have e2 : wb.frozen? ⟨b, p + 2, none⟩ = false := by simpa using (hfz (p + 2) (by omega)).2
          have c3 : wb.cell? ⟨g5, 3, none⟩ = some (.int .i64 m3) := HB5.out.cell 3
          have d3 : wb.cell? ⟨b, p + 3, none⟩ = some (.int .i64 b3) := holdat 3 _ rfl
          have e3 : wb.frozen? ⟨b, p + 3, none⟩ = false := by simpa using (hfz (p + 3) (by omega)).2
          have c4 : wb.cell? ⟨g5, 4, none⟩ = some (.int .i64 m4) := HB5.out.cell 4
          have d4 : wb.cell? ⟨b, p + 4, none⟩ = some (.int .i64 b4) := holdat 4 _ rfl
          have e4 : wb.frozen? ⟨b, p + 4, none⟩ = false := by simpa using (hfz (p + 4) (by omega)).2
          have c5 : wb.cell? ⟨g5, 5, none⟩ = some (.int .i64 m5) := HB5.out.cell 5
          have d5 : wb.cell? ⟨b, p + 5, none⟩ = some (.int .i64 b5) := holdat 5 _ rfl
          have e5 : wb.frozen? ⟨b, p + 5, none⟩ = false := by simpa using (hfz (p + 5) (by omega)).2
          have c6 : wb.cell? ⟨g5, 6, none⟩ = some (.bool m6) := HB5.out.cell 6
          have d6 : wb.cell? ⟨b, p + 6, none⟩ = some (.bool b6) := holdat 6 _ rfl
          have e6 : wb.frozen? ⟨b, p + 6, none⟩ = false := by simpa using (hfz (p + 6) (by omega)).2
          have c7 : wb.cell? ⟨g5, 7, none⟩ = some (.int .i64 m7) := HB5.out.cell 7
          have d7 : wb.cell? ⟨b, p + 7, none⟩ = some (.int .i64 b7) := holdat 7 _ rfl
          have e7 : wb.frozen? ⟨b, p + 7, none⟩ = false := by simpa using (hfz (p + 7) (by omega)).2
          have c8 : wb.cell? ⟨g5, 8, none⟩ = some (.slice m8 m9 m10) := HB5.out.cell 8
          have d8 : wb.cell? ⟨b, p + 8, none⟩ = some (.slice b8 b9 b10) := holdat 8 _ rfl
          have e8 : wb.frozen? ⟨b, p + 8, none⟩ = false := by simpa using (hfz (p + 8) (by omega)).2
          have c9 : wb.cell? ⟨g5, 9, none⟩ = some (.string m11) := HB5.out.cell 9
          have d9 : wb.cell? ⟨b, p + 9, none⟩ = some (.string b11) := holdat 9 _ rfl
          have e9 : wb.frozen? ⟨b, p + 9, none⟩ = false := by simpa using (hfz (p + 9) (by omega)).2
          have hpl := Lib.hid hp
          have hbg := Ne.symm hg5b
          clear holdat hfz hp hold
          go_region_with (first | (go_at_call 20; refine (at_nat b f2 L2.length _ _ (by simpa using hcf) hf2 rfl (by omega)).mono ?_; rintro e w' ⟨rfl, nq, rfl⟩; rw [hpl.out]))
          all_goals
            go_wp2
            go_meet
            case rel => exact ⟨_, by first | rfl | (rw [hpl.out]; rfl)⟩
        case rest =>
          obtain ⟨nq, hwd⟩ := hcut.out
          have hlen : (L2 ++ [m]).length = L2.length + 1 := by simp
          have hmm : Cells10 m := ⟨hml.out, hm1.out, hmt.out⟩
          have R4 : Ring wc b f2 L2.length l2 (upd S2 L2.length m) := by
            rw [hwd]; exact (HR2.out.keep (Kp.drewN (X := []) _ _) (by simp)).slot (by omega) hmm
          have K4 : Kp [b] wb wc := by rw [hwd]; exact (Kp.drewN _ _).trans (Kp.setCells b (by simp) _ _ _)
          clear hcf hcn
          have hcn := R4.cn
          have hff := (R4.there 2001 (by omega)).2
          simp only [Nat.zero_add] at hff
          have HR4 := Lib.hid R4
          have HK4 := Lib.hid K4
          clear R4 K4 hwd hcut hlen
          go_wp2_with fail
          refine ⟨⟨k + 1, by omega, by go_num, Lib.hid ?_, Lib.hid ?_⟩, by simp [intOf]; omega⟩
          · rw [List.take_add_one, HM.out, Option.toList_some, List.foldl_append, HS.out]
            show Bag _ b (put1 (L1, l1) m).1 (put1 (L1, l1) m).2
            rw [← HP.out]
            refine ⟨f2, upd S2 L2.length m, HR4.out.setN (by simp; omega) _ (by simp), fun j u hu => ?_⟩
            rw [List.getElem?_append] at hu
            unfold upd
            split at hu
            · rw [if_neg (by omega)]; exact HS2.out j u hu
            · rename_i hge
              have hj : j - L2.length = 0 := by
                have := (List.getElem?_eq_some_iff.1 hu).1
                simp at this; omega
              rw [hj] at hu
              rw [if_pos (by omega)]
              simpa using hu
          · exact (HKC.out.trans HK4.out).trans (Kp.setCell (X := [b]) _ _ _ (by simp))
    · obtain rfl : k = n := by omega
      go_wp2_with fail
      go_end0
      have hlen := HL.out.len
      rw [List.take_of_length_le (by omega)] at HB
      exact ⟨rfl, HK.out, HB.out⟩
end Go.Proofs.Ythociaoflpdeaaa
