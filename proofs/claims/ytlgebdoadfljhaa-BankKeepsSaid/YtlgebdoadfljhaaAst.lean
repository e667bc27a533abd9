/- Which assets there are. -/
import Derived.Test.YtlgebdoadfljhaaTot
namespace Go.Proofs.Ytlgebdoadfljhaa
open Go.RowKit
open Go.Sort (Holds putRow grow)
set_option linter.unusedVariables false
set_option linter.unusedSimpArgs false

/-! ### Plain: sorted, and each once -/
theorem le_of_sorted {zs : List (List UInt8)} (h : zs.Pairwise (fun x y => x ≤ y)) {i j : Nat} {x y : List UInt8} (hi : zs[i]? = some x) (hj : zs[j]? = some y) (hij : i < j) : x ≤ y := by
  obtain ⟨hi', rfl⟩ := List.getElem?_eq_some_iff.1 hi
  obtain ⟨hj', rfl⟩ := List.getElem?_eq_some_iff.1 hj
  exact List.pairwise_iff_getElem.1 h i j hi' hj' hij
theorem compact_upto (zs : List (List UInt8)) (h : zs.Pairwise (fun x y => x ≤ y)) : ∀ m, m ≤ zs.length → (Lib.compactUpTo zs.toArray m).Nodup ∧ ∀ x, x ∈ Lib.compactUpTo zs.toArray m ↔ x ∈ zs.take m
  | 0, _ => by simp [Lib.compactUpTo]
  | m + 1, hm => by
    obtain ⟨ih1, ih2⟩ := compact_upto zs h m (by omega)
    have hg : zs[m]? = some zs[m] := List.getElem?_eq_getElem (by omega)
    have hd : zs.toArray[m]! = zs[m] := by simp [getElem!_pos, show m < zs.length by omega]
    rw [Lib.compactUpTo_succ, List.take_add_one, hg, Option.toList_some]
    by_cases hk : Lib.keeps zs.toArray m = true
    · rw [if_pos hk, hd]
      have hnew : zs[m] ∉ zs.take m := fun hx => by
        obtain ⟨j, hj, he⟩ := List.mem_iff_getElem.1 hx
        rw [List.length_take] at hj
        rw [List.getElem_take] at he
        simp only [Lib.keeps, decide_eq_true_eq] at hk
        rcases hk with h0 | hne
        · omega
        · apply hne
          have hd1 : zs.toArray[m - 1]! = zs[m - 1] := by simp [getElem!_pos, show m - 1 < zs.length by omega]
          rw [hd, hd1]
          have hg1 : zs[m - 1]? = some zs[m - 1] := List.getElem?_eq_getElem (by omega)
          have l1 : zs[m - 1] ≤ zs[m] := le_of_sorted h hg1 hg (by omega)
          by_cases hjm : j = m - 1
          · subst hjm; exact he.symm
          · have l2 := le_of_sorted h (List.getElem?_eq_getElem (show j < zs.length by omega)) hg1 (by omega)
            rw [he] at l2
            exact List.le_antisymm l2 l1
      refine ⟨?_, fun x => ?_⟩
      · rw [List.nodup_append]
        exact ⟨ih1, by simp, fun a ha b hb e => by
          rw [List.mem_singleton] at hb
          subst hb; subst e
          exact hnew ((ih2 _).1 ha)⟩
      · rw [List.mem_append, List.mem_append, ih2]
    · rw [if_neg hk, List.append_nil]
      refine ⟨ih1, fun x => ?_⟩
      rw [ih2, List.mem_append, List.mem_singleton]
      constructor
      · exact .inl
      · rintro (h1 | rfl)
        · exact h1
        · simp only [Lib.keeps, decide_eq_true_eq, not_or, ne_eq, Classical.not_not] at hk
          have hd1 : zs.toArray[m - 1]! = zs[m - 1] := by simp [getElem!_pos, show m - 1 < zs.length by omega]
          rw [hd, hd1] at hk
          rw [hk.2, List.mem_iff_getElem]
          exact ⟨m - 1, by rw [List.length_take]; omega, by rw [List.getElem_take]⟩
def sortS (ls : List (List UInt8)) : List (List UInt8) := ls.mergeSort fun x y => decide (x ≤ y)
theorem sortS_pair (ls : List (List UInt8)) : (sortS ls).Pairwise (fun x y => x ≤ y) := by
  have := List.pairwise_mergeSort (le := fun x y : List UInt8 => decide (x ≤ y)) (fun a b c h1 h2 => by
    simp only [decide_eq_true_eq] at *; exact List.le_trans h1 h2) (fun a b => by
    simp only [Bool.or_eq_true, decide_eq_true_eq]; exact List.le_total a b) ls
  exact this.imp (by simp)
def astL (fs : List Fund) : List (List UInt8) := fs.map fun f => f.ast.data.toList
def astB (fs : List Fund) : List (List UInt8) := Lib.compact (sortS (astL fs))
/-- Each asset once. -/
def astS (fs : List Fund) : List ByteArray := (astB fs).map fun l => ⟨l.toArray⟩
theorem astB_nodup (fs : List Fund) : (astB fs).Nodup := (compact_upto _ (sortS_pair _) _ (Nat.le_refl _)).1
theorem mem_astB (fs : List Fund) (x : List UInt8) : x ∈ astB fs ↔ ∃ f ∈ fs, f.ast.data.toList = x := by
  unfold astB Lib.compact
  rw [(compact_upto _ (sortS_pair _) _ (Nat.le_refl _)).2, List.take_length]
  unfold sortS astL
  rw [(List.mergeSort_perm _ _).mem_iff, List.mem_map]
theorem mem_astS (fs : List Fund) (x : ByteArray) : x ∈ astS fs ↔ ∃ f ∈ fs, f.ast = x := by
  unfold astS
  rw [List.mem_map]
  constructor
  · rintro ⟨l, hl, rfl⟩
    obtain ⟨f, hf, rfl⟩ := (mem_astB fs l).1 hl
    exact ⟨f, hf, by simp⟩
  · rintro ⟨f, hf, rfl⟩
    exact ⟨_, (mem_astB fs _).2 ⟨f, hf, rfl⟩, by simp⟩
theorem astS_nodup (fs : List Fund) : (astS fs).Nodup := by
  unfold astS
  rw [List.nodup_iff_pairwise_ne, List.pairwise_map]
  refine (List.nodup_iff_pairwise_ne.1 (astB_nodup fs)).imp fun {a b} hne e => hne ?_
  have := congrArg (fun x : ByteArray => x.data.toList) e
  simpa using this

/-! ### The walk -/
section
variable {P : Program} {ops : Array Oper} {rest : List Oper} {o : Oper} {a : Act} {Q : Exit → Act → World → Prop} {w : World}
/-- '[]string{x}'. -/
theorem ev_lits (hgd : o.guard = none) (t e : TypeId) (x : Operand) (ho : o.op = .buildSlice t 1 #[(0, x)]) (v : Value) (hx : a.eval x = v) (hv : v.cells = #[v]) (ht : P.underlying t = some (.slice e))
    (hi : (P.info? e).map (·.size) = some 1) {z : Value} (hz : ∀ w, (zeroValue e).run P w = .ok z w) (hzn : z.cells.size = 1)
    (h : ∀ (g : Nat) (w1 : World), w.heap.size ≤ g → Blk w1 g e [v] → Kp [] w w1 → wpList P ops Q rest (a.put o.dst (.slice (some ⟨g, 0, none⟩) 1 1)) w1) : wpList P ops Q (o :: rest) a w := by
  refine ev_value hgd (v := .slice (some ⟨w.heap.size, 0, none⟩) 1 1) (w1 := w.alloc (.cells [v].toArray e)) ?_ (h _ _ (Nat.le_refl _) (Blk.new w e [v]) (Kp.alloc w _))
  have hr : (Instr.buildSlice t 1 #[(0, v)]).run P w = .ok (.slice (some ⟨w.heap.size, 0, none⟩) 1 1) (w.alloc (.cells [v].toArray e)) := by
    obtain ⟨i, hi1, hi2⟩ : ∃ i, P.info? e = some i ∧ i.size = 1 := by
      cases hq : P.info? e with
      | none => simp [hq] at hi
      | some i => exact ⟨i, rfl, by simpa [hq] using hi⟩
    have hsz : ∀ w, (sizeOf e).run P w = .ok 1 w := fun w => by simp [sizeOf, typeInfo, hi1, hi2]
    have hfill : ∀ C : Array Value, C.size = 1 → Instr.fill (fun i => some (i * 1, 1)) C [(0, v)] = some [v].toArray := by
      intro C hC
      have hf := fill_array [v] C (by simp [hC])
      simp only [Instr.fill, Nat.zero_mul, hv]
      rw [if_neg (by simp [hC])]
      exact congrArg some hf
    have hn0 : ¬ (1 : Nat) = 0 := by omega
    have hn24 : ¬ (16777216 : Nat) < 1 := by omega
    unfold Instr.buildSlice
    simp only [Sem.run_bind, run_underlying ht, Result.andThen_ok, hsz, Nat.one_mul, Nat.reducePow, gt_iff_lt, hn24, hn0, if_false, Sem.run_pure, hz, newRow]
    rw [hfill _ (by simp)]
    simp [go_sem, Sem.run_bind]
  simp only [execOp, ho, List.map_toArray, List.map_cons, List.map_nil, hx, Sem.run_bind, hr, Result.andThen_ok, Sem.run_pure]
end
theorem info9 : (Try.prog.info? 9).map (·.size) = some 1 := by kernel_rfl
theorem info9a : (Try.prog.info? 9).map (fun i => (i.zero, i.size, i.bytes)) = some (some (.string ⟨#[]⟩), 1, 16) := by kernel_rfl
theorem Kp.putRow {α : Type} [Inhabited α] (enc : α → Value) (w : World) (g off : Nat) (d : Array α) : Kp [g] w (putRow enc w g off d) :=
  ⟨rfl, rfl, rfl, by simp, fun k _ hk => by
    have hk' : g ≠ k := fun e => hk (by simp [e])
    simp [Go.Sort.putRow, Go.Sort.mapBlock, Array.getElem?_modify, hk']⟩
theorem Kp.ahead (w : World) (n : Nat) : Kp [] w (Go.Sort.ahead w n) := ⟨rfl, rfl, rfl, Nat.le_refl _, fun _ _ _ => rfl⟩
theorem Kp.grow (w : World) (os : Array Obj) : Kp [] w (grow w os) := ⟨rfl, rfl, rfl, by simp, fun k hk _ => Go.Sort.heap_grow_old w os hk⟩
theorem sort_c (g cap n : Nat) (zs : List (List UInt8)) (w : World) (hH : Holds encStr w g 0 zs.toArray) (hg : g < w.heap.size) (hn : zs.length = n) (hn2 : n ≤ 1000000) :
    Calls Try.prog 40 #[.slice (some ⟨g, 0, none⟩) n cap] w fun e w' => e = .returned (.tuple #[]) ∧ Holds encStr w' g 0 (sortS zs).toArray ∧ Kp [g] w w' := by
  subst hn
  refine (Try.slices_Sort_string g 0 cap zs w hH hg (by omega)).mono ?_
  rintro e w' ⟨rfl, m, os, rfl⟩
  have hsz : (sortS zs).toArray.size = zs.toArray.size := by simp [sortS]
  have hA : Holds encStr (Go.Sort.ahead w m) g 0 zs.toArray := hH
  exact ⟨rfl, Go.Sort.holds_grow encStr _ os g 0 _ (by simpa using hg) (Go.Sort.holds_putRow encStr _ g 0 _ _ hA hsz), ((Kp.ahead w m).mono (by simp)).trans (Kp.then_ (Kp.putRow encStr _ g 0 _) (Kp.grow _ os) (by simp))⟩
theorem compact_c (g cap n : Nat) (zs : List (List UInt8)) (w : World) (hH : Holds encStr w g 0 zs.toArray) (hg : g < w.heap.size) (hn : zs.length = n) (hn2 : n ≤ 1000000) (hc : n ≤ cap) :
    Calls Try.prog 41 #[.slice (some ⟨g, 0, none⟩) n cap] w fun e w' => e = .returned (.slice (some ⟨g, 0, none⟩) (Lib.compact zs).length cap) ∧ (∀ j x, (Lib.compact zs)[j]? = some x → w'.cell? ⟨g, j, none⟩ = some (encStr x)) ∧ Kp [g] w w' := by
  subst hn
  refine (Try.slices_Compact_string g 0 cap zs w hH (by omega) hc).mono ?_
  rintro e w' ⟨rfl, q, rfl⟩
  have hle := Lib.compact_length_le zs
  have hA : Holds encStr (Go.Sort.ahead w q) g 0 zs.toArray := hH
  have hsz : (Lib.compact zs ++ List.replicate (zs.length - (Lib.compact zs).length) []).toArray.size = zs.toArray.size := by simp; omega
  have hP := Go.Sort.holds_putRow encStr _ g 0 _ _ hA hsz
  refine ⟨rfl, fun j x hx => ?_, ((Kp.ahead w q).mono (by simp)).trans (Kp.putRow encStr _ g 0 _)⟩
  have hj := (List.getElem?_eq_some_iff.1 hx).1
  have := (hP j (by simp; omega)).1
  rw [Nat.zero_add] at this
  rw [this]
  congr 2
  rw [getElem!_pos _ _ (by simp; omega)]
  simp only [List.getElem_toArray]
  rw [List.getElem_append_left hj]
  exact (List.getElem?_eq_some_iff.1 hx).2

def rowS (fs : List Fund) : List Value := fs.map fun f => .string f.ast
def AstR (X : List Nat) (fs : List Fund) (e : Ending) (w' : World) : Prop := ∃ A c, e = .returned (.slice A (astS fs).length c) ∧ Sl w' X A 1 ((astS fs).map txt)
theorem ast_end {w : World} {X : List Nat} {fs : List Fund} {g : Nat} (h : ∀ j x, (astB fs)[j]? = some x → w.cell? ⟨g, j, none⟩ = some (encStr x)) (hg : g < w.heap.size) (hX : ∀ x ∈ X, x < g) : Sl w X (some ⟨g, 0, none⟩) 1 ((astS fs).map txt) := by
  refine ⟨by simp [txt], by simp [txt, Value.oneCell'], fun _ => ⟨g, 0, rfl, fun hm => by have := hX g hm; omega, hg, fun i r hi k v hk => ?_⟩⟩
  unfold astS at hi
  rw [List.map_map, List.getElem?_map] at hi
  cases hq : (astB fs)[i]? with
  | none => rw [hq] at hi; cases hi
  | some x =>
    rw [hq] at hi
    injection hi with hi
    subst hi
    have hk0 : k = 0 := by
      have := (List.getElem?_eq_some_iff.1 hk).1
      simp [txt] at this; omega
    subst hk0
    simp [txt] at hk
    subst hk
    have := h i x hq
    simpa using this
theorem own_holds {w : World} {g cap n : Nat} {fs : List Fund} {cur : Array Value} (hb : w.heap[g]? = some (.cells cur 9 (0, 0))) (hc : cur.toList.take (n * 1) = rowS fs) (hn : fs.length = n) (hcap : n ≤ cap) (hs : cur.size = cap * 1) : Holds encStr w g 0 (astL fs).toArray := by
  have hb' : Blk w g 9 cur.toList := by unfold Blk; rw [Array.toArray_toList]; exact hb
  intro j hj
  have hj' : j < fs.length := by simpa [astL] using hj
  refine ⟨?_, by rw [hb'.frozen]⟩
  rw [Nat.zero_add, hb'.cell]
  have h1 : cur.toList[j]? = (cur.toList.take (n * 1))[j]? := by rw [List.getElem?_take_of_lt (by omega)]
  rw [h1, hc]
  simp [rowS, astL, hj', getElem!_pos, encStr]
theorem astS_nil : astS [] = [] := List.eq_nil_iff_forall_not_mem.2 fun x hx => by obtain ⟨f, hf, _⟩ := (mem_astS [] x).1 hx; cases hf
theorem astS_len (fs : List Fund) : (astS fs).length = (Lib.compact (sortS (astL fs))).length := by unfold astS astB; rw [List.length_map]
theorem rowS_step (fs : List Fund) (k : Nat) (f : Fund) (h : fs[k]? = some f) : rowS (fs.take (k + 1)) = rowS (fs.take k) ++ [.string f.ast] := by
  unfold rowS; rw [List.take_add_one, h]; simp
theorem ast_kp {w1 wr w7 w8 w9 w10 : World} {g7 n : Nat} {v : Value} {xs : List Value} {B : Nat} (HK : Hid (Kp [] w1 wr)) (hg7 : wr.heap.size ≤ g7) (hk7 : Kp [] wr w7) (hk8 : Kp [g7] w7 w8) (hk9 : Kp [] w8 w9) (hown : wr.ownsRow B 9 1 v n xs) (hB : w1.heap.size ≤ B) (hk10 : Kp v.ownBlock.toList w9 w10) : Kp [] w1 w10 :=
  (((HK.out.trans hk7).then_ hk8 (by have := HK.out.size; simp; omega)).trans hk9).then_ hk10 (own_ge hown hB)
set_option maxRecDepth 100000 in
set_option maxHeartbeats 2000000 in
theorem assets_any (X : List Nat) (num tm : Int) (va : Value) (A A3 : Option Addr) (c c3 : Nat) (fs : List Fund) (w : World) (hs : Sl w X A 3 (fs.map Fund.row)) (hn : fs.length ≤ 1000) (hX : ∀ x ∈ X, x < w.heap.size) :
    Calls Try.prog 26 #[.agg #[.int .i64 num, .int .i64 tm, va, .slice A fs.length c, .slice A3 0 c3]] w fun e w' => AstR X fs e w' ∧ Kp [] w w' := by
  have HS := Lib.hid hs
  have HX := Lib.hid hX
  clear hs hX
  have HE := Lib.hid (show rowS fs = rowS (fs.take fs.length) by rw [List.take_length])
  generalize hL : fs.length = n at *
  have HL := Lib.hid hL
  clear hL
  go_enter Try.func26, Try.ntmps26
  go_wp2_with (first
    | ((with_reducible refine at_dst (N := 1) rfl ?_); refine ev_box rfl 26 _ rfl _ rfl [.int .i64 num, .int .i64 tm, va, .slice A n c, .slice A3 0 c3] rfl ?_; intro g1 w1 hg1 hb1 hk1; have hc3 : w1.cell? ⟨g1, 3, none⟩ = some (.slice A n c) := hb1.cell 3))
  have HB1 := Lib.hid hb1
  have HK1 := Lib.hid hk1
  clear hb1 hk1
  go_loopw [11, 3] (fun v11 v3 wr => ∃ k : Nat, k ≤ n ∧ v11 = .int .i64 k ∧ Hid (wr.ownsRow w1.heap.size 9 1 v3 k (rowS (fs.take k))) ∧ Hid (Kp [] w1 wr)) (fun v11 _ _ => n - (intOf v11).toNat)
  case atStart => exact ⟨0, Nat.zero_le _, rfl, Lib.hid ⟨rfl, .inl ⟨rfl, rfl⟩⟩, Lib.hid (Kp.refl _ _)⟩
  case round =>
    obtain ⟨k, hk, rfl, HO, HK⟩ := hrel
    by_cases hlt : k < n
    · obtain ⟨f, hf⟩ : ∃ f, fs[k]? = some f := ⟨_, List.getElem?_eq_getElem (by rw [HL.out]; omega)⟩
      obtain ⟨g, o, rfl, _, hgl, hr, _⟩ := HS.out.get (i := k) (r := f.row) (by rw [List.getElem?_map, hf]; rfl)
      have hkk : Kp [] w wr := HK1.out.trans HK.out
      have HR := Lib.hid (hkk.range hr (by simp))
      have hst := Lib.hid (rowS_step fs k f hf)
      have hgw : g < wr.heap.size := Nat.lt_of_lt_of_le hgl hkk.size
      have hw1 := HK.out.size
      clear hr hkk hf
      go_wp2_with (first
        | ((with_reducible refine at_dst (N := 14) rfl ?_); refine ev_load rfl 41 _ rfl g (o + k * 3) rfl f.row HR.out Try.underlying41 rfl info41 ?_)
        | ((with_reducible refine at_dst (N := 5) rfl ?_); refine ev_alloc rfl 41 rfl _ fzero Try.zeroValue41 rfl ?_; intro g7 w7 hg7 hb7 hk7)
        | ((with_reducible refine at_store (p := 5) rfl ?_); refine ev_store_all rfl 41 _ _ rfl g7 rfl f.row rfl 41 fzero hb7 rfl info41 f.row_ones ?_; intro w8 hb8 hk8; have c71 : w8.cell? ⟨g7, 1, none⟩ = some (.string f.ast) := hb8.cell 1)
        | ((with_reducible refine at_dst (N := 18) rfl ?_); refine ev_lits rfl 22 9 _ rfl (.string f.ast) rfl rfl Try.underlying22 info9 Try.zeroValue9 rfl ?_; intro g9 w9 hg9 hb9 hk9)
        | (at_builtin
           have hs8 := hk7.size
           have hs9 := hk8.size
           have hs10 := hk9.size
           have ho9 := own_keep HO.out ((hk7.then_ hk8 (by simp [hg7])).trans hk9) (by simp)
           refine ev_append rfl (.tmp 15) (.tmp 18) 22 rfl w1.heap.size 9 _ 1 16 Try.underlying22 info9a rfl (by omega) _ k _ rfl ho9 g9 1 1 rfl 9 [.string f.ast] hb9 rfl (by simp [Value.oneCell']) (by omega) (by omega) (by omega) (by omega) ?_
           intro g10 cap10 w10 ho10 hk10 _))
      exact ⟨⟨k + 1, by omega, by go_num, Lib.hid (by rw [hst.out]; exact ho10), Lib.hid (ast_kp HK hg7 hk7 hk8 hk9 HO.out (Nat.le_refl _) hk10)⟩, by simp [intOf]; omega⟩
    · obtain rfl : k = n := by omega
      rw [← HE.out] at HO
      have hb0 : Blk wr g1 26 [.int .i64 num, .int .i64 tm, va, .slice A k c, .slice A3 0 c3] := HB1.out.keep HK.out (by simp)
      have hwr := HK.out.size
      rcases HO.out.2 with ⟨rfl, h0⟩ | ⟨g, cap, cur, rfl, hgB, hh, hcap, hmx, hsz, hcur⟩
      · subst h0
        have hfs : fs = [] := List.eq_nil_of_length_eq_zero HL.out
        subst hfs
        go_wp2_with (first
          | ((with_reducible refine at_dst (N := 21) rfl ?_); refine ev_load rfl 26 _ rfl g1 0 rfl [.int .i64 num, .int .i64 tm, va, .slice A 0 c, .slice A3 0 c3] hb0.range Try.underlying26 rfl info26 ?_)
          | (go_at_call 28; refine (held_any num tm va (.slice A 0 c) A3 c3 _).mono ?_; rintro e w9 ⟨rfl, hk9⟩))
        have HK9 := Lib.hid ((HK1.out.trans HK.out).trans hk9)
        clear hk9 hb0
        go_loopw [24, 3] (fun v24 v3 wq => v24 = .int .i64 0 ∧ v3 = .slice none 0 0 ∧ wq = w9) (fun v24 _ _ => 0)
        case atStart => exact ⟨rfl, rfl, rfl⟩
        case round =>
          obtain ⟨rfl, rfl, rfl⟩ := hrel
          go_wp2_with (first
            | (go_at_call 40; refine (Try.slices_Sort_string_none none 0 _).mono ?_; rintro e w10 ⟨rfl, rfl⟩)
            | (go_at_call 41; refine (Try.slices_Compact_string_empty none 0 _).mono ?_; rintro e w11 ⟨rfl, rfl⟩))
          go_ret
          exact ⟨⟨none, 0, by rw [show (astS []).length = 0 by rw [astS_nil]; rfl]; rfl, by rw [astS_nil]; exact Sl.nil _ _ _ _⟩, HK9.out⟩
      · have HH := Lib.hid (own_holds hh hcur HL.out hcap hsz)
        have hgl : g < wr.heap.size := (show Blk wr g 9 cur.toList by unfold Blk; rw [Array.toArray_toList]; exact hh).lt
        have hmx' : cap ≤ 9223372036854775807 := by unfold maxLen at hmx; omega
        clear hh hcur hsz hmx
        go_wp2_with (first
          | ((with_reducible refine at_dst (N := 21) rfl ?_); refine ev_load rfl 26 _ rfl g1 0 rfl [.int .i64 num, .int .i64 tm, va, .slice A k c, .slice A3 0 c3] hb0.range Try.underlying26 rfl info26 ?_)
          | (go_at_call 28; refine (held_any num tm va (.slice A k c) A3 c3 _).mono ?_; rintro e w9 ⟨rfl, hk9⟩))
        have HK9 := Lib.hid ((HK1.out.trans HK.out).trans hk9)
        have HH9 : Hid (Holds encStr w9 g 0 (astL fs).toArray) := Lib.hid (fun j hj => ⟨hk9.cell (HH.out j hj).1 (by simp), by rw [hk9.frozen hgl (by simp)]; exact (HH.out j hj).2⟩)
        have hgl9 : g < w9.heap.size := Nat.lt_of_lt_of_le hgl hk9.size
        have h1w := HK1.out.size
        clear hk9 hb0
        go_loopw [24, 3] (fun v24 v3 wq => v24 = .int .i64 0 ∧ v3 = .slice (some ⟨g, 0, none⟩) k cap ∧ wq = w9) (fun v24 _ _ => 0)
        case atStart => exact ⟨rfl, rfl, rfl⟩
        case round =>
          obtain ⟨rfl, rfl, rfl⟩ := hrel
          go_wp2_with (first
            | (go_at_call 40; refine (sort_c g cap k (astL fs) _ HH9.out hgl9 (by simp [astL, HL.out]) (by omega)).mono ?_; rintro e w10 ⟨rfl, hH10, hk10⟩)
            | (go_at_call 41; refine (compact_c g cap k (sortS (astL fs)) _ hH10 (Nat.lt_of_lt_of_le hgl9 hk10.size) (by simp [sortS, astL, HL.out]) (by omega) hcap).mono ?_; rintro e w11 ⟨rfl, hc11, hk11⟩))
          go_ret
          exact ⟨⟨_, cap, by rw [astS_len]; rfl, ast_end hc11 (Nat.lt_of_lt_of_le hgl9 (Nat.le_trans hk10.size hk11.size)) (fun x hx => by have := HX.out x hx; omega)⟩, (HK9.out.then_ hk10 (by simp; omega)).then_ hk11 (by simp; omega)⟩
end Go.Proofs.Ytlgebdoadfljhaa
