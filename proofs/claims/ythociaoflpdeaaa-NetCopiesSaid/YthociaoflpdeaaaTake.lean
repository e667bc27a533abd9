/- Look and Take: what a bag hands out and what stays. -/
import Derived.Test.YthociaoflpdeaaaBag
namespace Go.Proofs.Ythociaoflpdeaaa
open Go.RowKit
set_option linter.unusedVariables false
set_option linter.unusedSimpArgs false

/-- The walk's own way to say what the message is that lies at a place. -/
theorem Ring.msg {w w' : World} {X : List Nat} {b f n lost : Nat} {S : Nat → List Value} (h : Ring w b f n lost S) {j : Nat} (hj : j < 200) (k : Kp X w w') (hb : b ∉ X) : w'.rangeAt b ((f + j) % 200 * 10) (S j) := k.range (h.at_ j hj) hb

theorem Ring.slots {w : World} {b f n lost : Nat} {S : Nat → List Value} (h : Ring w b f n lost S) (j : Nat) : w.there b ((f + j) % 200 * 10) 10 := fun k hk => by
  have := h.there ((f + j) % 200 * 10 + k) (by omega)
  simpa using this

def Msgs (e : Ending) (m : List Value) (ok : Bool) : Prop := e = .returned (.tuple #[.agg m.toArray, .bool ok])

set_option maxHeartbeats 400000 in
theorem look_in (b f n lost : Nat) (S : Nat → List Value) (i : Int) (w : World) (h : Ring w b f n lost S) (hi0 : 0 ≤ i) (hi : i < n) :
    Calls Try.prog 16 #[.pointer (some ⟨b, 0, none⟩), .int .i64 i] w fun e w' => Msgs e (S i.toNat) true ∧ Kp [] w w' := by
  have hcn := h.cn
  have hf := h.hf
  have hn := h.hn
  have H := Lib.hid h
  have hm := (h.ms i.toNat (by omega))
  have hml := Lib.hid hm.1
  have hm1 := Lib.hid hm.2
  clear hm h
  generalize hM : S i.toNat = M at *
  have HM := Lib.hid hM
  clear hM
  go_enter Try.func16, Try.ntmps16
  go_wp2_with (first
    | ((with_reducible refine at_dst (N := 4) rfl ?_); refine ev_alloc rfl 28 rfl _ zmsg Try.zeroValue28 rfl ?_; intro g0 w0 hg0 hb0 hk0; clear hcn; have hcn := hk0.cell H.out.cn (by simp))
    | (go_at_call 20; refine (at_nat b f i.toNat i _ (hk0.cell H.out.cf (by simp)) hf (by omega) (by omega)).mono ?_; rintro e w' ⟨rfl, nq, rfl⟩)
    | ((with_reducible refine at_dst (N := 21) rfl ?_); refine ev_load rfl 28 _ rfl b _ rfl M (by rw [← HM.out]; exact H.out.msg (by omega) (hk0.trans (Kp.drewN _ _)) (by simp)) Try.underlying28 rfl (by rw [hml.out]; exact info28) ?_)
    | ((with_reducible refine at_store (p := 4) rfl ?_); refine ev_store_all rfl 28 _ _ rfl g0 rfl M rfl 28 zmsg hb0 (by rw [hml.out]; rfl) (by rw [hml.out]; exact info28) hm1.out ?_; intro w3 hb3 hk3))
  exact ret_cell_tmp rfl rfl rfl hb3.range Try.underlying28 rfl (by rw [hml.out]; exact info28) ⟨rfl, (hk0.trans (Kp.drewN _ nq)).then_ hk3 (by simp [hg0])⟩
theorem look_out (b n : Nat) (i : Int) (w : World) (hcn : w.cell? ⟨b, 2001, none⟩ = some (.int .i64 n)) (hi : i < 0 ∨ (n : Int) ≤ i) :
    Calls Try.prog 16 #[.pointer (some ⟨b, 0, none⟩), .int .i64 i] w fun e w' => Msgs e zmsg false ∧ Kp [] w w' := by
  have hbs : b < w.heap.size := World.block_lt_of_cell? w _ hcn
  by_cases h0 : i < 0
  · clear hi
    go_enter Try.func16, Try.ntmps16
    go_wp2
    exact ret_cell_tmp (cs := zmsg) rfl rfl rfl range_new Try.underlying28 rfl info28 ⟨rfl, Kp.alloc _ _⟩
  · have h1 : (n : Int) ≤ i := by omega
    clear hi
    go_enter Try.func16, Try.ntmps16
    go_wp2
    exact ret_cell_tmp (cs := zmsg) rfl rfl rfl range_new Try.underlying28 rfl info28 ⟨rfl, Kp.alloc _ _⟩

/-- Take's inner loop, as what lies where. -/
def shifted (S : Nat → List Value) (k i : Nat) : Nat → List Value := fun j => if k < j ∧ j ≤ i then S (j - 1) else S j

theorem shifted_step (S : Nat → List Value) {k i : Nat} (hk : 0 < k) (hki : k ≤ i) : upd (shifted S k i) k (shifted S k i (k - 1)) = shifted S (k - 1) i := by
  funext j
  unfold upd shifted
  by_cases h1 : j = k
  · subst h1
    rw [if_pos rfl, if_neg (by omega), if_pos (by omega)]
  · rw [if_neg h1]
    by_cases h2 : k < j ∧ j ≤ i
    · rw [if_pos h2, if_pos (by omega)]
    · rw [if_neg h2, if_neg (by omega)]

/-- A bag out of which the message in place i went. -/
def Taken (w : World) (b f n lost : Nat) (S : Nat → List Value) (i : Nat) : Prop :=
  ∃ S', Ring w b ((f + 1) % 200) (n - 1) lost S' ∧ ∀ j, j < n - 1 → S' j = S (if j < i then j else j + 1)
theorem Taken.keep {w w' : World} {X : List Nat} {b f n lost i : Nat} {S : Nat → List Value} (h : Taken w b f n lost S i) (k : Kp X w w') (hb : b ∉ X) : Taken w' b f n lost S i := by
  obtain ⟨S', hr, hs⟩ := h
  exact ⟨S', hr.keep k hb, hs⟩
theorem taken_mk {w : World} {b f n lost i : Nat} {S : Nat → List Value}
    (h : Ring w b ((f + 1) % 200) (n - 1) lost (fun j => upd (shifted S 0 i) 0 zmsg (((f + 1) % 200 + j + (200 - f)) % 200))) (hn : n ≤ 200) (hf : f < 200) : Taken w b f n lost S i := by
  refine ⟨_, h, fun j hj => ?_⟩
  show upd (shifted S 0 i) 0 zmsg (((f + 1) % 200 + j + (200 - f)) % 200) = _
  rw [show ((f + 1) % 200 + j + (200 - f)) % 200 = j + 1 by omega]
  unfold upd shifted
  rw [if_neg (by omega)]
  by_cases h1 : j < i
  · rw [if_pos (by omega), if_pos h1]; rfl
  · rw [if_neg (by omega), if_neg h1]

set_option maxHeartbeats 1000000 in
theorem take_in (b f n lost : Nat) (S : Nat → List Value) (i : Int) (w : World) (h : Ring w b f n lost S) (hi0 : 0 ≤ i) (hi : i < n) :
    Calls Try.prog 11 #[.pointer (some ⟨b, 0, none⟩), .int .i64 i] w fun e w' => Msgs e (S i.toNat) true ∧ Kp [b] w w' ∧ Taken w' b f n lost S i.toNat := by
  have hbs : b < w.heap.size := h.lt
  have hf := h.hf
  have hn := h.hn
  have H := Lib.hid h
  have hm := (h.ms i.toNat (by omega))
  have hml := Lib.hid hm.1
  have hm1 := Lib.hid hm.2
  clear hm h
  generalize hM : S i.toNat = M at *
  have HM := Lib.hid hM
  clear hM
  go_enter Try.func11, Try.ntmps11
  go_wp2_with (first
    | ((with_reducible refine at_dst (N := 4) rfl ?_); refine ev_alloc rfl 28 rfl _ zmsg Try.zeroValue28 rfl ?_; intro g0 w0 hg0 hb0 hk0)
    | (go_at_call 16; refine (look_in b f n lost S i _ (H.out.keep hk0 (by simp)) hi0 hi).mono ?_; rintro e w1 ⟨rfl, hk1⟩; rw [HM.out])
    | ((with_reducible refine at_dst (N := 6) rfl ?_); refine ev_alloc rfl 28 rfl _ zmsg Try.zeroValue28 rfl ?_; intro g2 w2 hg2 hb2 hk2)
    | ((with_reducible refine at_store (p := 6) rfl ?_); refine ev_store_all rfl 28 _ _ rfl g2 rfl M rfl 28 zmsg hb2 (by rw [hml.out]; rfl) (by rw [hml.out]; exact info28) hm1.out ?_; intro w3 hb3 hk3))
  have hgb : g2 ≠ b := by have := hk0.size; have := hk1.size; omega
  have hg2w : w.heap.size ≤ g2 := by have := hk0.size; have := hk1.size; omega
  have hg0b : g0 ≠ b := by omega
  have hg0w : w.heap.size ≤ g0 := hg0
  have hgg : g0 ≠ g2 := by have := hb0.lt; have := hk1.size; omega
  have K0 : Kp [b] w w3 := (((hk0.trans hk1).trans hk2).mono (Y := [b]) (by simp)).then_ hk3 (by simp [hg2w])
  have R3 : Ring w3 b f n lost S := ((H.out.keep hk0 (by simp)).keep (hk1.trans hk2) (by simp)).keep hk3 (by simp [Ne.symm hgb])
  have B0 : Blk w3 g0 28 zmsg := (hb0.keep (hk1.trans hk2) (by simp)).keep hk3 (by simp [hgg])
  obtain ⟨i0, rfl⟩ := Int.eq_ofNat_of_zero_le hi0
  simp only [Int.toNat_natCast] at HM ⊢
  have hi' : i0 < n := by omega
  clear hi0 hi hk0 hk1 hk2 hk3 hb0 hb2 hg0 hg2
  have HK0 := Lib.hid K0
  have HR3 := Lib.hid R3
  have HB0 := Lib.hid B0
  have HB3 := Lib.hid hb3
  clear K0 R3 B0 hb3
  go_loopw [1] (fun v wr => ∃ k : Nat, k ≤ i0 ∧ v = .int .i64 k ∧ Hid (Ring wr b f n lost (shifted S k i0)) ∧ Hid (Blk wr g2 28 M) ∧ Hid (Blk wr g0 28 zmsg) ∧ Hid (Kp [b] w wr)) (fun v _ => (intOf v).toNat)
  case atStart => exact ⟨i0, Nat.le_refl _, rfl, by rw [show shifted S i0 i0 = S from funext fun j => by unfold shifted; rw [if_neg (by omega)]]; exact HR3, HB3, HB0, HK0⟩
  case round =>
    obtain ⟨k, hki, rfl, R, B2, B0, K⟩ := hrel
    by_cases hk : 0 < k
    · have hkk : 0 < (k : Int) := by omega
      have hmm := R.out.ms (k - 1) (by omega)
      have hml' := Lib.hid hmm.1
      have hm1' := Lib.hid hmm.2
      have hcf := R.out.cf
      clear hmm
      generalize hM' : shifted S k i0 (k - 1) = M' at *
      have HM' := Lib.hid hM'
      clear hM'
      go_wp2_with fail
      refine (at_nat b f k _ _ hcf hf rfl (by omega)).mono ?_
      rintro e w' ⟨rfl, nq1, rfl⟩
      go_wp2_with fail
      refine (at_nat b f (k - 1) _ _ (by simpa using hcf) hf (by omega) (by omega)).mono ?_
      rintro e w' ⟨rfl, nq2, rfl⟩
      go_wp2_with (first
        | ((with_reducible refine at_dst (N := 29) rfl ?_); refine ev_load rfl 28 _ rfl b _ rfl M' (by rw [← HM'.out]; exact R.out.msg (by omega) (Kp.drewN (X := []) _ _) (by simp)) Try.underlying28 rfl (by rw [hml'.out]; exact info28) ?_)
        | ((with_reducible refine at_store (p := 30) rfl ?_); refine ev_store rfl 28 _ _ rfl b _ rfl M' rfl (by rw [hml'.out]; exact (Kp.drewN (X := []) _ _).there (R.out.slots k) (by simp)) (by rw [hml'.out]; exact info28) hm1'.out ?_; intro w3 hw3))
      have R1 : Ring w3 b f n lost (shifted S (k - 1) i0) := by
        rw [hw3.out, ← HM'.out, ← shifted_step S hk hki]
        exact (R.out.keep (Kp.drewN (X := []) _ _) (by simp)).slot (by omega) ((R.out.ms _ (by omega)))
      have K1 : Kp [b] wr w3 := by rw [hw3.out]; exact (Kp.drewN _ _).trans (Kp.setCells b (by simp) _ _ _)
      exact ⟨⟨k - 1, by omega, by rw [show ((k : Int) - 1) = ((k - 1 : Nat) : Int) by omega], R1, B2.out.keep K1 (by simp [hgb]), B0.out.keep K1 (by simp [hg0b]), K.out.trans K1⟩, by simp [intOf]; omega⟩
    · obtain rfl : k = 0 := by omega
      have hcf := R.out.cf
      have hcn := R.out.cn
      go_wp2_with (first
        | (go_at_call 20; refine (at_nat b f 0 _ _ hcf hf rfl (by omega)).mono ?_; rintro e w' ⟨rfl, nq1, rfl⟩)
        | ((with_reducible refine at_store (p := 34) rfl ?_); refine ev_store rfl 28 _ _ rfl b _ rfl zmsg rfl ((Kp.drewN (X := []) _ _).there (R.out.slots 0) (by simp)) info28 cells_zmsg.2 ?_; intro w4 hw4))
      have R1 : Ring w4 b f n lost (upd (shifted S 0 i0) 0 zmsg) := by
        rw [hw4.out]
        exact (R.out.keep (Kp.drewN (X := []) _ _) (by simp)).slot (j := 0) (by omega) cells_zmsg
      have K1 : Kp [b] wr w4 := by rw [hw4.out]; exact (Kp.drewN _ _).trans (Kp.setCells b (by simp) _ _ _)
      have HR1 := Lib.hid R1
      have HK1 := Lib.hid K1
      clear hcf hcn
      have hcf := R1.cf
      have hcn := R1.cn
      have hff := (R1.there 2000 (by omega)).2
      have hfn := (R1.there 2001 (by omega)).2
      simp only [Nat.zero_add] at hff hfn
      clear R1 K1
      clear hw4
      have e1 : IntKind.i64.wrap ((f : Int) + 1) = f + 1 := IntWalk.i64_in _ ⟨by omega, by omega⟩
      have e2 : ((f : Int) + 1).tmod 200 = ((f + 1) % 200 : Nat) := by rw [Int.tmod_eq_emod_of_nonneg (by omega)]; omega
      have e3 : IntKind.i64.wrap ((n : Int) - 1) = (n - 1 : Nat) := by rw [IntWalk.i64_in _ ⟨by omega, by omega⟩]; omega
      (try simp only [Act.put])
      go_cut [] (fun wc => Hid (Taken wc b f n lost S i0 ∧ Kp [b] w4 wc))
      case first =>
        go_region
        all_goals
          go_wp2
          go_meet
          case rel => exact ⟨taken_mk (((HR1.out.setF (f' := (f + 1) % 200) (Nat.mod_lt _ (by omega)) _ (by rw [← e2]; rfl)).setN (n' := n - 1) (by omega) _ rfl).keep (Kp.drew (X := []) _) (by simp)) (by omega) hf, ((Kp.setCell (X := [b]) w4 ⟨b, 2000, none⟩ _ (by simp)).trans (Kp.setCell _ ⟨b, 2001, none⟩ _ (by simp))).trans (Kp.drew _)⟩
      case rest =>
        clear e1 e2 e3 hff hfn hcf hcn
        obtain ⟨hT, hKc⟩ := hcut.out
        have B2c := Lib.hid (B2.out.keep (HK1.out.trans hKc) (by simp [hgb]))
        have B0c := Lib.hid (B0.out.keep (HK1.out.trans hKc) (by simp [hg0b]))
        have KC := Lib.hid (K.out.trans (HK1.out.trans hKc))
        clear HK1 HR1 hKc hcut B2 B0 K R
        go_wp2_with (first
          | ((with_reducible refine at_dst (N := 52) rfl ?_); refine ev_load rfl 28 _ rfl g2 0 rfl M B2c.out.range Try.underlying28 rfl (by rw [hml.out]; exact info28) ?_)
          | ((with_reducible refine at_store (p := 4) rfl ?_); refine ev_store_all rfl 28 _ _ rfl g0 rfl M rfl 28 zmsg B0c.out (by rw [hml.out]; rfl) (by rw [hml.out]; exact info28) hm1.out ?_; intro w9 hb9 hk9))
        refine ret_cell_tmp rfl rfl rfl hb9.range Try.underlying28 rfl (by rw [hml.out]; exact info28) ?_
        exact ⟨rfl, KC.out.then_ hk9 (by simp [hg0w]), hT.keep hk9 (by simp [Ne.symm hg0b])⟩
end Go.Proofs.Ythociaoflpdeaaa
