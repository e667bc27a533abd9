/- A new bag; what Place gives; the document's example. -/
import Derived.Test.YthociaoflpdeaaaPut
namespace Go.Proofs.Ythociaoflpdeaaa
open Go.RowKit
set_option linter.unusedVariables false
set_option linter.unusedSimpArgs false

def bagCells : List Value := (List.replicate 200 zmsg).flatten ++ [.int .i64 0, .int .i64 0, .int .i64 0]
def bagZero : Value := .agg bagCells.toArray
theorem build47 (w : World) : (Instr.build 47 #[]).run Try.prog w = .ok bagZero w := by kernel_rfl
theorem flat_len (n : Nat) : ((List.replicate n zmsg).flatten).length = n * 10 := by
  induction n with
  | zero => rfl
  | succ n ih => rw [List.replicate_succ, List.flatten_cons, List.length_append, ih]; simp only [zmsg, List.length_cons, List.length_nil]; omega
theorem bagCells_len : bagCells.length = 2003 := by
  unfold bagCells; rw [List.length_append, flat_len]; rfl
theorem flat_get (k : Nat) (hk : k < 10) : ∀ (n j : Nat), j < n → ((List.replicate n zmsg).flatten)[j * 10 + k]? = zmsg[k]? := by
  intro n
  induction n with
  | zero => intro j hj; omega
  | succ n ih =>
    intro j hj
    rw [List.replicate_succ, List.flatten_cons]
    have hl : zmsg.length = 10 := rfl
    by_cases h0 : j = 0
    · subst h0; rw [List.getElem?_append_left (by omega)]; simp
    · rw [List.getElem?_append_right (by omega), hl, show j * 10 + k - 10 = (j - 1) * 10 + k by omega]
      exact ih (j - 1) (by omega)
theorem bagCells_slot (j k : Nat) (hj : j < 200) (hk : k < 10) : bagCells[j * 10 + k]? = zmsg[k]? := by
  unfold bagCells
  rw [List.getElem?_append_left (by rw [flat_len]; omega)]
  exact flat_get k hk 200 j hj
theorem bagCells_end (k : Nat) (hk : k < 3) : bagCells[2000 + k]? = some (.int .i64 0) := by
  unfold bagCells
  rw [List.getElem?_append_right (by rw [flat_len]; omega), flat_len, show 2000 + k - 200 * 10 = k by omega]
  match k, hk with
  | 0, _ => rfl
  | 1, _ => rfl
  | 2, _ => rfl
theorem bag_new {w : World} {g : Nat} (h : Blk w g 47 bagCells) : Bag w g [] 0 := by
  refine ⟨0, fun _ => zmsg, ⟨by omega, by simp, h.there (by rw [bagCells_len]; omega), ?_, ?_, ?_, fun _ _ => cells_zmsg, fun j hj => ?_⟩, by simp⟩
  · rw [h.cell]; exact bagCells_end 0 (by omega)
  · rw [h.cell]; exact bagCells_end 1 (by omega)
  · rw [h.cell]; exact bagCells_end 2 (by omega)
  · refine h.part _ _ fun k v hv => ?_
    have hk : k < 10 := (List.getElem?_eq_some_iff.1 hv).1
    rw [show (0 + j) % 200 = j by omega, bagCells_slot j k hj hk]; exact hv
theorem new_any (w : World) :
    Calls Try.prog 7 #[] w fun e w' => ∃ g, e = .returned (.pointer (some ⟨g, 0, none⟩)) ∧ w.heap.size ≤ g ∧ Bag w' g [] 0 ∧ Kp [] w w' := by
  generalize hz : bagZero = Z
  have hb : ∀ w, (Instr.build 47 #[]).run Try.prog w = .ok Z w := fun w => hz ▸ build47 w
  go_enter Try.func7, Try.ntmps7
  go_wp2_with (first
    | ((with_reducible refine at_dst (N := 1) rfl ?_); refine ev_value rfl (v := Z) (w1 := w) (by unfold execOp; simp [Sem.run_bind, hb]) ?_)
    | ((with_reducible refine at_dst (N := 2) rfl ?_); refine ev_box rfl 47 _ rfl Z rfl bagCells (by rw [← hz]; rfl) ?_; intro g w1 hg hb1 hk1))
  go_ret
  exact ⟨g, rfl, hg, bag_new hb1, hk1⟩

/-- Place: any number as one from 0 to n - 1. -/
theorem tmod_neg {v n : Int} (hn : 0 < n) (h : v.tmod n < 0) : v.tmod n + n = v % n := by
  rw [Int.tmod_eq_emod] at *
  have := Int.emod_nonneg v (show n ≠ 0 by omega)
  have := Int.emod_lt_of_pos v hn
  split at h <;> rename_i hc
  · omega
  · rw [if_neg hc]; omega
theorem tmod_pos {v n : Int} (hn : 0 < n) (h : ¬ v.tmod n < 0) : v.tmod n = v % n := by
  rw [Int.tmod_eq_emod] at *
  have := Int.emod_nonneg v (show n ≠ 0 by omega)
  have := Int.emod_lt_of_pos v hn
  split at h <;> rename_i hc
  · rw [if_pos hc]; omega
  · omega
set_option maxHeartbeats 400000 in
theorem place_any (v n : Int) (w : World) (hv : -9223372036854775808 ≤ v ∧ v ≤ 9223372036854775807) (hn : 0 < n ∧ n ≤ 4611686018427387904) :
    Calls Try.prog 6 #[.int .i64 v, .int .i64 n] w fun e w' => e = .returned (.int .i64 (v % n)) ∧ w = w' := by
  have h0 : (n == 0) = false := by rw [beq_eq_false_iff_ne]; omega
  have hm := Int.tmod_lt_of_pos v hn.1
  have hm2 := Int.lt_tmod_of_pos v hn.1
  have e1 : IntKind.i64.wrap (v.tmod n) = v.tmod n := IntWalk.i64_in _ ⟨by omega, by omega⟩
  by_cases hs : v.tmod n < 0
  · have ed : decide (v.tmod n < 0) = true := by simpa using hs
    have e2 : IntKind.i64.wrap (v.tmod n + n) = v.tmod n + n := IntWalk.i64_in _ ⟨by omega, by omega⟩
    have hE := Lib.hid (tmod_neg hn.1 hs)
    go_enter Try.func6, Try.ntmps6
    go_wp2
    go_ret
    exact ⟨by rw [hE.out]; rfl, rfl⟩
  · have ed : decide (v.tmod n < 0) = false := by simpa using hs
    have hE := Lib.hid (tmod_pos hn.1 hs)
    go_enter Try.func6, Try.ntmps6
    go_wp2
    go_ret
    exact ⟨by rw [hE.out]; rfl, rfl⟩

theorem take_none (b lost : Nat) (L : List (List Value)) (i : Int) (w : World) (h : Bag w b L lost) (hi : i < 0 ∨ (L.length : Int) ≤ i) :
    Calls Try.prog 11 #[.pointer (some ⟨b, 0, none⟩), .int .i64 i] w fun e w' => Msgs e zmsg false ∧ Kp [] w w' := by
  obtain ⟨f, S, hr, _⟩ := h
  have hcn := Lib.hid hr.cn
  clear hr
  go_enter Try.func11, Try.ntmps11
  go_wp2_with (first
    | ((with_reducible refine at_dst (N := 4) rfl ?_); refine ev_alloc rfl 28 rfl _ zmsg Try.zeroValue28 rfl ?_; intro g0 w0 hg0 hb0 hk0)
    | (go_at_call 16; refine (look_out b L.length i _ (hk0.cell hcn.out (by simp)) hi).mono ?_; rintro e w1 ⟨rfl, hk1⟩)
    | ((with_reducible refine at_dst (N := 6) rfl ?_); refine ev_alloc rfl 28 rfl _ zmsg Try.zeroValue28 rfl ?_; intro g2 w2 hg2 hb2 hk2)
    | ((with_reducible refine at_store (p := 6) rfl ?_); refine ev_store_all rfl 28 _ _ rfl g2 rfl zmsg rfl 28 zmsg hb2 rfl info28 cells_zmsg.ones ?_; intro w3 hb3 hk3)
    | ((with_reducible refine at_dst (N := 16) rfl ?_); refine ev_load rfl 28 _ rfl g2 0 rfl zmsg hb3.range Try.underlying28 rfl info28 ?_)
    | ((with_reducible refine at_store (p := 4) rfl ?_); have hb4 : Blk w3 g0 28 zmsg := (hb0.keep (hk1.trans hk2) (by simp)).keep hk3 (by have := hb0.lt; have := hk1.size; simp; omega); refine ev_store_all rfl 28 _ _ rfl g0 rfl zmsg rfl 28 zmsg hb4 rfl info28 cells_zmsg.ones ?_; intro w5 hb5 hk5))
  refine ret_cell_tmp rfl rfl rfl hb5.range Try.underlying28 rfl info28 ⟨rfl, ?_⟩
  have := hk0.size
  have := hk1.size
  exact (((hk0.trans hk1).trans hk2).then_ hk3 (by simp; omega)).then_ hk5 (by simp [hg0])

theorem flat_at {ms : List (List Value)} (h : ∀ m ∈ ms, m.length = 10) : ∀ (i k : Nat) (m : List Value) (v : Value), ms[i]? = some m → m[k]? = some v → ms.flatten[i * 10 + k]? = some v := by
  induction ms with
  | nil => intro i k m v hi; simp at hi
  | cons x xs ih =>
    intro i k m v hi hk
    have hx := h x (by simp)
    rw [List.flatten_cons]
    cases i with
    | zero =>
      simp at hi; subst hi
      have := (List.getElem?_eq_some_iff.1 hk).1
      rw [List.getElem?_append_left (by omega)]; simpa using hk
    | succ i =>
      rw [List.getElem?_append_right (by omega), hx, show (i + 1) * 10 + k - 10 = i * 10 + k by omega]
      exact ih (fun m hm => h m (by simp [hm])) i k m v (by simpa using hi) hk
theorem flat_length {ms : List (List Value)} (h : ∀ m ∈ ms, m.length = 10) : ms.flatten.length = ms.length * 10 := by
  induction ms with
  | nil => rfl
  | cons x xs ih => rw [List.flatten_cons, List.length_append, h x (by simp), ih (fun m hm => h m (by simp [hm]))]; simp; omega
theorem lot_of {w : World} {b g : Nat} {ms : List (List Value)} (hg : g ≠ b) (hm : ∀ m ∈ ms, Cells10 m) (hc : ∀ j v, ms.flatten[j]? = some v → w.cell? ⟨g, j, none⟩ = some v) : Lot w b (some ⟨g, 0, none⟩) ms.length ms :=
  ⟨rfl, hm, fun _ => ⟨g, 0, rfl, hg, fun i m hi k v hv => by
    rw [Nat.zero_add]; exact hc _ _ (flat_at (fun m hm' => (hm m hm').len) i k m v hi hv)⟩⟩

def pmsg (k : Int) (r : Int) : List Value := [.int .i64 k, .int .i64 0, .int .i64 0, .int .i64 r, .int .i64 0, .int .i64 0, .bool false, .int .i64 0, .slice none 0 0, .string ⟨#[]⟩]
theorem cells_pmsg (k r : Int) : Cells10 (pmsg k r) := Cells10.mk_ _ _ _ _ _ _ _ _ _ _ _ _

set_option maxHeartbeats 1000000 in
theorem awake_any (w : World) : Calls Try.prog 12 #[] w fun e w' => e = .returned (.bool true) ∧ Kp [] w w' := by
  go_enter Try.func12, Try.ntmps12
  go_wp2_with (first
    | (go_at_call 7; refine (new_any _).mono ?_; rintro e w1 ⟨g, rfl, hg, hb1, hk1⟩))
  have hb := hb1.lt
  have hL : Lot (w1.alloc (.cells [pmsg 1 0, pmsg 2 0].flatten.toArray 28)) g (some ⟨w1.heap.size, 0, none⟩) 2 [pmsg 1 0, pmsg 2 0] :=
    lot_of (b := g) (g := w1.heap.size) (ms := [pmsg 1 0, pmsg 2 0]) (by omega) (by intro m hm; simp at hm; rcases hm with rfl | rfl <;> exact cells_pmsg _ _) (fun j v hv => by rw [(Blk.new w1 28 _).cell]; exact hv)
  refine (put_any g 0 [] _ 2 2 [pmsg 1 0, pmsg 2 0] _ (hb1.keep (Kp.alloc (X := []) _ _) (by simp)) hL (by omega)).mono ?_
  rintro e w2 ⟨rfl, hk2, hb2⟩
  have K2 : Kp [] w w2 := (hk1.trans (Kp.alloc _ _)).then_ hk2 (by simp [hg])
  have hb2' : Bag w2 g [pmsg 1 0, pmsg 2 0] 0 := hb2
  clear hb2 hL hb1 hk1 hk2 hb
  have HB2 := Lib.hid hb2'
  have HK2 := Lib.hid K2
  clear hb2' K2
  go_wp2_with fail
  refine (take_bag g 0 _ 0 (pmsg 1 0) 0 rfl _ HB2.out rfl).mono ?_
  rintro e w3 ⟨rfl, hk3, hb3⟩
  have hb3' : Bag w3 g [pmsg 2 0] 0 := hb3
  have K3 := HK2.out.then_ hk3 (by simp [hg])
  have HB3 := Lib.hid hb3'
  have HK3 := Lib.hid K3
  clear hb3 hb3' hk3 K3 HB2 HK2
  go_wp2_with (first
    | ((with_reducible refine at_dst (N := 2) rfl ?_); refine ev_alloc rfl 28 rfl _ zmsg Try.zeroValue28 rfl ?_; intro g4 w4 hg4 hb4 hk4)
    | ((with_reducible refine at_store (p := 2) rfl ?_); refine ev_store_all rfl 28 _ _ rfl g4 rfl (pmsg 1 0) rfl 28 zmsg hb4 rfl info28 (cells_pmsg _ _).ones ?_; intro w5 hb5 hk5))
  have hgw := HB3.out.lt
  have hg4g : g ≠ g4 := by omega
  have hww := HK3.out.size
  have HB5 := Lib.hid ((HB3.out.keep hk4 (by simp)).keep hk5 (by simp [hg4g]))
  have HK5 := Lib.hid ((HK3.out.trans hk4).then_ hk5 (by simp; omega))
  have H5 := Lib.hid hb5
  clear hb4 hb5 hk4 hk5 HB3 HK3
  refine (take_none g 0 _ 5 _ HB5.out (by simp)).mono ?_
  rintro e w6 ⟨rfl, hk6⟩
  have HB6 := Lib.hid (HB5.out.keep hk6 (by simp))
  have HK6 := Lib.hid (HK5.out.trans hk6)
  have H6 := Lib.hid (H5.out.keep hk6 (by simp))
  clear hk6 HB5 HK5 H5
  go_wp2_with (first
    | ((with_reducible refine at_dst (N := 4) rfl ?_); refine ev_alloc rfl 28 rfl _ zmsg Try.zeroValue28 rfl ?_; intro g7 w7 hg7 hb7 hk7)
    | ((with_reducible refine at_store (p := 4) rfl ?_); refine ev_store_all rfl 28 _ _ rfl g7 rfl zmsg rfl 28 zmsg hb7 rfl info28 cells_zmsg.ones ?_; intro w8 hb8 hk8; have hc0 : w8.cell? ⟨g4, 0, none⟩ = some (.int .i64 1) := ((H6.out.keep hk7 (by simp)).keep hk8 (by have := H6.out.lt; simp; omega)).cell 0; have hBB := Lib.hid ((HB6.out.keep hk7 (by simp)).keep hk8 (by have := HB6.out.lt; simp; omega)))
    | (go_at_call 9; refine (len_any g 1 _ (by obtain ⟨f, S, hr, _⟩ := hBB.out; exact hr.cn)).mono ?_; rintro e w9 ⟨rfl, rfl⟩)
    | (go_at_call 10; refine (lost_any g 0 _ (by obtain ⟨f, S, hr, _⟩ := hBB.out; exact hr.cl)).mono ?_; rintro e w9 ⟨rfl, rfl⟩))
  go_outline
  go_ret
  exact ⟨rfl, (HK6.out.trans hk7).then_ hk8 (by have := HK6.out.size; simp; omega)⟩
end Go.Proofs.Ythociaoflpdeaaa
