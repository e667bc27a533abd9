/- Words for memory: what a call keeps ('Kp'), shared by the texts of this seat. -/
import Derived.Test.YtlgebdoadfljhaaRows
import Derived.WalkKit
import Derived.WalkLawsBesides
import Derived.WalkSpells
import Derived.ProofKit
import Derived.RegionTactic
import Derived.Deep.QuietTactic
import Derived.BigQuiet
import Derived.Deep.MidRow
import Derived.Laws.ResultCell
import Derived.Deep.AppendLies
import Derived.Deep.Upon
import Derived.Maps.AppendAt
import Derived.OwnWalk
import Derived.Lib.Hide
import Derived.Deep.DeepMust
import Derived.Deep.DeepFit
import Derived.Deep.RegionWith
import Derived.Deep.RegionHeld3
import Derived.Deep.DeepCutAuto
import Derived.Deep.CutBlock
import Derived.Deep.Light
import Derived.Deep.LoopGhost
import Derived.Deep.WholeRow
import Derived.StillTailTactics
namespace Go.Proofs.Ytlgebdoadfljhaa
open Go.RowKit
set_option linter.unusedVariables false
set_option linter.unusedSimpArgs false

/-- All blocks that were there, but those of X, are as they were. -/
structure Kp (X : List Nat) (w w' : World) : Prop where
  os : w'.os = w.os
  tape : w'.tape = w.tape
  output : w'.output = w.output
  size : w.heap.size ≤ w'.heap.size
  block : ∀ k, k < w.heap.size → k ∉ X → w'.heap[k]? = w.heap[k]?
section
variable {X Y : List Nat} {w w' w'' : World}
theorem Kp.refl (X : List Nat) (w : World) : Kp X w w := ⟨rfl, rfl, rfl, Nat.le_refl _, fun _ _ _ => rfl⟩
theorem Kp.trans (h : Kp X w w') (k : Kp X w' w'') : Kp X w w'' :=
  ⟨k.os.trans h.os, k.tape.trans h.tape, k.output.trans h.output, Nat.le_trans h.size k.size, fun i hi hx => (k.block i (Nat.lt_of_lt_of_le hi h.size) hx).trans (h.block i hi hx)⟩
/-- What the second step may turn is X's, or was not there. -/
theorem Kp.then_ (h : Kp X w w') (k : Kp Y w' w'') (hy : ∀ g ∈ Y, g ∈ X ∨ w.heap.size ≤ g) : Kp X w w'' :=
  ⟨k.os.trans h.os, k.tape.trans h.tape, k.output.trans h.output, Nat.le_trans h.size k.size, fun i hi hx =>
    (k.block i (Nat.lt_of_lt_of_le hi h.size) (fun hm => (hy i hm).elim hx (fun hge => by omega))).trans (h.block i hi hx)⟩
theorem Kp.mono (h : Kp X w w') (hx : ∀ g ∈ X, g ∈ Y) : Kp Y w w' := ⟨h.os, h.tape, h.output, h.size, fun k hk hn => h.block k hk fun hm => hn (hx k hm)⟩
theorem Kp.drew (w : World) : Kp X w w.drew := ⟨rfl, rfl, rfl, Nat.le_refl _, fun _ _ _ => rfl⟩
theorem Kp.drewN (w : World) (n : Nat) : Kp X w (w.drewN n) := ⟨rfl, rfl, rfl, Nat.le_refl _, fun _ _ _ => rfl⟩
theorem Kp.alloc (w : World) (o : Obj) : Kp X w (w.alloc o) := ⟨rfl, rfl, rfl, by simp, fun k hk _ => Below.heap_alloc w o k hk⟩
theorem Kp.setCell (w : World) (a : Addr) (v : Value) (h : a.block ∈ X) : Kp X w (w.setCell a v) :=
  ⟨rfl, rfl, rfl, by simp [World.setCell], fun k _ hx => Below.heap_setCell w a v k (fun e => hx (e ▸ h))⟩
theorem Kp.setCells (b : Nat) (hb : b ∈ X) : ∀ (vs : List Value) (o : Nat) (w : World), Kp X w (w.setCells b o vs)
  | [], _, w => Kp.refl X w
  | v :: r, o, w => (Kp.setCell w ⟨b, o, none⟩ v hb).trans (Kp.setCells b hb r (o + 1) _)
theorem Kp.of_below (h : Below w.heap.size w w') : Kp X w w' := ⟨h.os, h.tape, h.output, h.size, fun k hk _ => h.block k hk⟩
theorem Kp.below (h : Kp [] w w') : Below w.heap.size w w' := ⟨h.os, h.tape, h.output, h.size, fun k hk => h.block k hk (by simp)⟩
theorem Kp.of_grown {row : Option Nat} (h : w.grownBy w' row) (hr : ∀ g, row = some g → g ∈ X) : Kp X w w' :=
  ⟨h.os, h.tape, h.output, h.size, fun k hk hx => h.block k hk (fun e => hx (hr k e.symm))⟩
theorem Kp.cell (h : Kp X w w') {p : Addr} {v : Value} (hc : w.cell? p = some v) (hx : p.block ∉ X) : w'.cell? p = some v := by
  rw [World.cell?_of_block (w := w) (h.block p.block (World.block_lt_of_cell? w _ hc) hx)]; exact hc
theorem Kp.frozen (h : Kp X w w') {p : Addr} (hc : p.block < w.heap.size) (hx : p.block ∉ X) : w'.frozen? p = w.frozen? p :=
  World.frozen?_of_block (w := w) (h.block p.block hc hx)
theorem Kp.range (h : Kp X w w') {b o : Nat} {cs : List Value} (hc : w.rangeAt b o cs) (hx : b ∉ X) : w'.rangeAt b o cs := fun j v hv => h.cell (hc j v hv) hx
theorem Kp.there (h : Kp X w w') {b o n : Nat} (hc : w.there b o n) (hx : b ∉ X) : w'.there b o n := fun j hj => by
  obtain ⟨h1, h2⟩ := hc j hj
  obtain ⟨u, hu⟩ := Option.isSome_iff_exists.1 h1
  exact ⟨by rw [h.cell hu hx]; rfl, by rw [h.frozen (World.block_lt_of_cell? w _ hu) hx]; exact h2⟩
end

theorem size_setCells (b : Nat) (vs : List Value) (o : Nat) (w : World) : (w.setCells b o vs).heap.size = w.heap.size := by
  induction vs generalizing o w with
  | nil => rfl
  | cons v r ih => rw [World.setCells, ih]; simp

theorem cell_past {w : World} {a : Addr} {v : Value} (h : w.cell? a = some v) (o : Obj) : (w.alloc o).cell? a = some v := by
  rw [World.cell?_alloc_lt _ _ _ (World.block_lt_of_cell? w _ h)]; exact h
theorem setCells_head {w : World} {b o : Nat} {vs : List Value} {a : Addr} (h : a.block ≠ b ∨ a.off < o ∨ o + vs.length ≤ a.off) : (w.setCells b o vs).cell? a = w.cell? a :=
  World.cell?_setCells_out b vs o w a (fun hb _ => by rcases h with h | h | h; exact absurd hb h; exact .inl h; exact .inr h)

/-- A function of two results, the first in a cell: it hands back what lies there. -/
theorem ret_cell_tmp {P : Program} {fn : Func} {R : Ending → World → Prop} {a : Act} {w : World} {p u : Tmp} {ty : TypeId} {g : Nat} {cs : List Value} {d : TypeDesc}
    (h : fn.results = #[.cell p ty, .tmp u]) (hd : a.defers = []) (hp : a.tmps.getD p undef = .pointer (some ⟨g, 0, none⟩)) (hc : w.rangeAt g 0 cs)
    (hu : P.underlying ty = some d) (hr : d.isRow = true) (hi : (P.info? ty).map (·.size) = some cs.length)
    (hR : R (.returned (.tuple #[.agg cs.toArray, a.tmps.getD u undef])) w) : bodyPost P fn R .ret a w := by
  refine bodyPost_ret (v := .tuple #[.agg cs.toArray, a.tmps.getD u undef]) ?_ hd hR
  rw [results_cell_tmp h, hp]
  simp [asAddr, Result.andThen, run_loadVar_mid w g 0 ty cs d hc hu hr hi]
theorem there_new {w : World} {cs : Array Value} {t : TypeId} {n : Nat} (h : cs.size = n) : (w.alloc (.cells cs t)).there w.heap.size 0 n := fun j hj => by
  subst h; simp [World.cell?_alloc_new, hj]
theorem range_new {w : World} {cs : List Value} {t : TypeId} : (w.alloc (.cells cs.toArray t)).rangeAt w.heap.size 0 cs := fun j v hv => by
  simp [World.cell?_alloc_new, hv]

/-- Block g is just these cells, none frozen. -/
def Blk (w : World) (g : Nat) (t : TypeId) (cs : List Value) : Prop := w.heap[g]? = some (.cells cs.toArray t (0, 0))
section
variable {X : List Nat} {w w' : World} {g : Nat} {t : TypeId} {cs : List Value}
theorem Blk.lt (h : Blk w g t cs) : g < w.heap.size := by
  rcases Nat.lt_or_ge g w.heap.size with hlt | hge
  · exact hlt
  · unfold Blk at h; rw [Array.getElem?_eq_none hge] at h; cases h
theorem Blk.cell (h : Blk w g t cs) (i : Nat) : w.cell? ⟨g, i, none⟩ = cs[i]? := by
  rw [cell_of_row w g i cs.toArray t (0, 0) h]; simp
theorem Blk.frozen (h : Blk w g t cs) (i : Nat) : w.frozen? ⟨g, i, none⟩ = false := by
  unfold Blk at h; simp [World.frozen?, h]
theorem Blk.keep (h : Blk w g t cs) (k : Kp X w w') (hx : g ∉ X) : Blk w' g t cs := (k.block g h.lt hx).trans h
theorem Blk.new (w : World) (t : TypeId) (cs : List Value) : Blk (w.alloc (.cells cs.toArray t)) w.heap.size t cs := heap_alloc_new w _
theorem Blk.range (h : Blk w g t cs) : w.rangeAt g 0 cs := fun j v hv => by rw [Nat.zero_add, h.cell, hv]
theorem Blk.part (h : Blk w g t cs) (o : Nat) (vs : List Value) (hv : ∀ j v, vs[j]? = some v → cs[o + j]? = some v) : w.rangeAt g o vs := fun j v hj => by rw [h.cell, hv j v hj]
theorem Blk.there (h : Blk w g t cs) {o n : Nat} (hn : o + n ≤ cs.length) : w.there g o n := fun j hj => by
  refine ⟨?_, h.frozen _⟩
  rw [h.cell, List.getElem?_eq_getElem (by omega)]; rfl
theorem Blk.setCell (h : Blk w g t cs) (i : Nat) (v : Value) : Blk (w.setCell ⟨g, i, none⟩ v) g t (cs.set i v) := by
  unfold Blk at h ⊢
  simp [World.setCell, Array.getElem?_modify, h]
theorem Blk.other (h : Blk w g t cs) {a : Addr} (hne : g ≠ a.block) (v : Value) : Blk (w.setCell a v) g t cs := (Below.heap_setCell w a v g hne).trans h
end
/-- Some cells of a list turned, from a place on. -/
def splice (cs : List Value) : Nat → List Value → List Value
  | _, [] => cs
  | o, v :: r => splice (cs.set o v) (o + 1) r
theorem Blk.setCells {g : Nat} {t : TypeId} : ∀ (vs : List Value) (cs : List Value) (o : Nat) (w : World), Blk w g t cs → Blk (w.setCells g o vs) g t (splice cs o vs)
  | [], _, _, _, h => h
  | v :: r, cs, o, w, h => Blk.setCells r (cs.set o v) (o + 1) _ (h.setCell o v)
theorem splice_len : ∀ (vs cs : List Value) (o : Nat), (splice cs o vs).length = cs.length
  | [], _, _ => rfl
  | v :: r, cs, o => by rw [splice, splice_len r]; simp
theorem splice_get : ∀ (vs cs : List Value) (o j : Nat), o + vs.length ≤ cs.length → (splice cs o vs)[j]? = if o ≤ j ∧ j < o + vs.length then vs[j - o]? else cs[j]?
  | [], cs, o, j, _ => by simp [splice]; intro h1 h2; omega
  | v :: r, cs, o, j, h => by
    rw [splice, splice_get r (cs.set o v) (o + 1) j (by simp at h ⊢; omega)]
    simp only [List.length_cons] at h ⊢
    by_cases h1 : o + 1 ≤ j ∧ j < o + 1 + r.length
    · rw [if_pos h1, if_pos (by omega), show j - o = (j - (o + 1)) + 1 by omega]; simp
    · rw [if_neg h1, List.getElem?_set]
      by_cases h2 : o = j
      · subst h2; rw [if_pos rfl, if_pos (by omega), if_pos (by omega)]; simp
      · rw [if_neg h2, if_neg (by omega)]
theorem splice_all (vs cs : List Value) (h : vs.length = cs.length) : splice cs 0 vs = vs := by
  apply List.ext_getElem?
  intro j
  rw [splice_get vs cs 0 j (by omega)]
  by_cases h1 : 0 ≤ j ∧ j < 0 + vs.length
  · rw [if_pos h1]; simp
  · rw [if_neg h1, List.getElem?_eq_none (by omega), List.getElem?_eq_none (by omega)]

/-! ### Steps of a walk that leave the world a variable -/
section
variable {P : Program} {ops : Array Oper} {rest : List Oper} {o : Oper} {a : Act} {Q : Exit → Act → World → Prop} {w : World}
theorem ev_value (hgd : o.guard = none) {v : Value} {w1 : World} (hrun : (execOp a.eval o).run P w = .ok (.value v) w1) (h : wpList P ops Q rest (a.put o.dst v) w1) : wpList P ops Q (o :: rest) a w := by
  refine wpList_plain hgd fun K hK => ?_
  unfold Oper.wp
  rw [hrun]
  exact hK _ _ h
theorem ev_skip (hgd : o.guard = none) {w1 : World} (hrun : (execOp a.eval o).run P w = .ok .skip w1) (h : wpList P ops Q rest (a.put o.dst undef) w1) : wpList P ops Q (o :: rest) a w := by
  refine wpList_plain hgd fun K hK => ?_
  unfold Oper.wp
  rw [hrun]
  exact hK _ _ h
/-- A guard: the step that writes slot N. -/
theorem at_dst {N : Tmp} (_hN : o.dst = some N) (h : wpList P ops Q (o :: rest) a w) : wpList P ops Q (o :: rest) a w := h
/-- A guard: a store through slot p. -/
theorem at_store {p : Tmp} {t : TypeId} {y : Operand} (_hN : o.op = .store t (.tmp p) y) (h : wpList P ops Q (o :: rest) a w) : wpList P ops Q (o :: rest) a w := h
/-- 'alloc t': a new block of t's zero. -/
theorem ev_alloc (hgd : o.guard = none) (t : TypeId) (ho : o.op = .alloc t) (z : Value) (cs : List Value) (hz : ∀ w, (zeroValue t).run P w = .ok z w) (hc : z.cells = cs.toArray)
    (h : ∀ (g : Nat) (w1 : World), w.heap.size ≤ g → Blk w1 g t cs → Kp [] w w1 → wpList P ops Q rest (a.put o.dst (.pointer (some ⟨g, 0, none⟩))) w1) : wpList P ops Q (o :: rest) a w := by
  refine ev_value hgd (v := .pointer (some ⟨w.heap.size, 0, none⟩)) (w1 := w.alloc (.cells cs.toArray t)) ?_ (h _ _ (Nat.le_refl _) (Blk.new w t cs) (Kp.alloc w _))
  unfold execOp
  simp [ho, Instr.alloc, Sem.run_bind, hz, newVar, go_sem]
  exact congrArg (fun c => w.alloc (.cells c t)) hc
/-- 'box t v': a new block of v's cells. -/
theorem ev_box (hgd : o.guard = none) (t : TypeId) (x : Operand) (ho : o.op = .box t x) (v : Value) (hx : a.eval x = v) (cs : List Value) (hc : v.cells = cs.toArray)
    (h : ∀ (g : Nat) (w1 : World), w.heap.size ≤ g → Blk w1 g t cs → Kp [] w w1 → wpList P ops Q rest (a.put o.dst (.pointer (some ⟨g, 0, none⟩))) w1) : wpList P ops Q (o :: rest) a w := by
  refine ev_value hgd (v := .pointer (some ⟨w.heap.size, 0, none⟩)) (w1 := w.alloc (.cells cs.toArray t)) ?_ (h _ _ (Nat.le_refl _) (Blk.new w t cs) (Kp.alloc w _))
  unfold execOp
  have hr : (Instr.box t v).run P w = .ok (.pointer (some ⟨w.heap.size, 0, none⟩)) (w.alloc (.cells cs.toArray t)) := by
    unfold Instr.box newVar
    rw [hc]
    simp [Sem.run_bind, go_sem]
  simp only [ho, hx, Sem.run_bind, hr, Result.andThen_ok, Sem.run_pure]
/-- 'store' of a whole value into a range that is there. -/
theorem ev_store (hgd : o.guard = none) (ty : TypeId) (x y : Operand) (ho : o.op = .store ty x y) (g p : Nat) (hx : a.eval x = .pointer (some ⟨g, p, none⟩)) (vs : List Value) (hy : a.eval y = .agg vs.toArray)
    (ht : w.there g p vs.length) (hi : (P.info? ty).map (·.size) = some vs.length) (h1 : ∀ v ∈ vs, v.oneCell' = true)
    (h : ∀ w1, Hid (w1 = w.setCells g p vs) → wpList P ops Q rest (a.put o.dst undef) w1) : wpList P ops Q (o :: rest) a w :=
  wpList_store_mid hgd ty x y ho g p vs.toArray hx hy (by simpa using ht) (by simpa using hi) (all_oneCell_toArray h1) (h _ (Lib.hid (by simp)))
/-- 'store' of a value that fills a block of one's own. -/
theorem ev_store_all (hgd : o.guard = none) (ty : TypeId) (x y : Operand) (ho : o.op = .store ty x y) (g : Nat) (hx : a.eval x = .pointer (some ⟨g, 0, none⟩)) (vs : List Value) (hy : a.eval y = .agg vs.toArray)
    (t : TypeId) (cs : List Value) (hb : Blk w g t cs) (hl : vs.length = cs.length) (hi : (P.info? ty).map (·.size) = some vs.length) (h1 : ∀ v ∈ vs, v.oneCell' = true)
    (h : ∀ w1, Blk w1 g t vs → Kp [g] w w1 → wpList P ops Q rest (a.put o.dst undef) w1) : wpList P ops Q (o :: rest) a w :=
  ev_store hgd ty x y ho g 0 hx vs hy (hb.there (by omega)) hi h1 fun w1 e => by
    have e := e.out; subst e
    exact h _ (by have := Blk.setCells vs cs 0 w hb; rwa [splice_all vs cs hl] at this) (Kp.setCells g (by simp) _ _ _)
/-- 'load' of a whole value out of a range. -/
theorem ev_load (hgd : o.guard = none) (ty : TypeId) (x : Operand) (ho : o.op = .load ty x) (g p : Nat) (hx : a.eval x = .pointer (some ⟨g, p, none⟩)) (vs : List Value) (hc : w.rangeAt g p vs)
    {d : TypeDesc} (hu : P.underlying ty = some d) (hd : d.isRow = true) (hi : (P.info? ty).map (·.size) = some vs.length)
    (h : wpList P ops Q rest (a.put o.dst (.agg vs.toArray)) w) : wpList P ops Q (o :: rest) a w :=
  wpList_load_mid hgd ty x ho g p hx vs d hc hu hd hi h
/-- 'append(s, x...)': s a row of one's own, x a block. -/
theorem ev_append (hgd : o.guard = none) (s x : Operand) (t : TypeId) (ho : o.op = .call { callee := .builtin .append, args := #[s, x], argTypes := #[t, t] })
    (base : Nat) (e : TypeId) (z : Value) (size bytes : Nat) (ht : P.underlying t = some (.slice e)) (hinfo : (P.info? e).map (fun i => (i.zero, i.size, i.bytes)) = some (some z, size, bytes)) (hzs : z.cells.size = size) (hsz : 0 < size)
    (v : Value) (n : Nat) (xs : List Value) (hs : a.eval s = v) (hown : w.ownsRow base e size v n xs)
    (g m c : Nat) (hx : a.eval x = .slice (some ⟨g, 0, none⟩) m c) (te : TypeId) (news : List Value) (hb : Blk w g te news) (hl : news.length = m * size) (h1 : ∀ u ∈ news, u.oneCell' = true)
    (hm : 0 < m) (h63 : n + m ≤ 9223372036854775807) (hbytes : (n + m) * bytes ≤ 140737488355328) (hbase : base ≤ w.heap.size)
    (h : ∀ g' cap w', w'.ownsRow base e size (.slice (some ⟨g', 0, none⟩) (n + m) cap) (n + m) (xs ++ news) → Kp v.ownBlock.toList w w' → (v.ownBlock = some g' ∨ w.heap.size ≤ g') →
      wpList P ops Q rest (a.put o.dst (.slice (some ⟨g', 0, none⟩) (n + m) cap)) w') : wpList P ops Q (o :: rest) a w := by
  obtain ⟨i, hi, hz, hsize, hby⟩ := info_parts hinfo
  refine wpList_append_lies w hgd s x t ho base e i z size bytes ht hi hz hsize hby hzs hsz v n xs hs hown ⟨g, 0, none⟩ m c news hx hl (fun j u hu => ?_) h1 hm (by unfold maxLen; omega) hbytes hbase _ rfl
    fun g' cap w' h2 h3 h4 _ => h g' cap w' h2 (Kp.of_grown h3 fun k hk => by rw [hk]; simp) (h4.imp id fun e => by omega)
  rw [Addr.add_mid, Nat.zero_add, hb.cell]; exact hu
theorem fill_list (vs : List Value) : ∀ (k : Nat) (cs : Array Value), (vs.zipIdx k).foldl (fun cs x => cs.setIfInBounds (0 + x.2) x.1) cs = (splice cs.toList k vs).toArray := by
  induction vs with
  | nil => intro k cs; rfl
  | cons v r ih =>
    intro k cs
    rw [List.zipIdx_cons, List.foldl_cons, ih (k + 1), splice]
    congr 2
    simp
theorem fill_array (vs : List Value) (cs : Array Value) (h : vs.length = cs.size) : vs.toArray.zipIdx.foldl (fun cs x => cs.setIfInBounds (0 + x.2) x.1) cs = vs.toArray := by
  rw [← Array.foldl_toList, Array.toList_zipIdx, fill_list vs 0 cs, splice_all vs cs.toList (by simpa using h)]
/-- '[]T{x}': a new block of x's cells. -/
theorem ev_lit1 (hgd : o.guard = none) (t e : TypeId) (x : Operand) (ho : o.op = .buildSlice t 1 #[(0, x)]) (vs : List Value) (hx : a.eval x = .agg vs.toArray) (ht : P.underlying t = some (.slice e))
    {n : Nat} (hi : (P.info? e).map (·.size) = some n) {z : Value} (hz : ∀ w, (zeroValue e).run P w = .ok z w) (hzn : z.cells.size = n) (hn : vs.length = n)
    (hn2 : 0 < n ∧ n ≤ 16777216)
    (h : ∀ (g : Nat) (w1 : World), w.heap.size ≤ g → Blk w1 g e vs → Kp [] w w1 → wpList P ops Q rest (a.put o.dst (.slice (some ⟨g, 0, none⟩) 1 1)) w1) : wpList P ops Q (o :: rest) a w := by
  refine ev_value hgd (v := .slice (some ⟨w.heap.size, 0, none⟩) 1 1) (w1 := w.alloc (.cells vs.toArray e)) ?_ (h _ _ (Nat.le_refl _) (Blk.new w e vs) (Kp.alloc w _))
  have hr : (Instr.buildSlice t 1 #[(0, .agg vs.toArray)]).run P w = .ok (.slice (some ⟨w.heap.size, 0, none⟩) 1 1) (w.alloc (.cells vs.toArray e)) := by
    obtain ⟨i, hi1, hi2⟩ : ∃ i, P.info? e = some i ∧ i.size = n := by
      cases hq : P.info? e with
      | none => simp [hq] at hi
      | some i => exact ⟨i, rfl, by simpa [hq] using hi⟩
    have hsz : ∀ w, (sizeOf e).run P w = .ok n w := fun w => by simp [sizeOf, typeInfo, hi1, hi2]
    have hn0 : ¬ n = 0 := by omega
    have hn24 : ¬ 16777216 < n := by omega
    have hfill : ∀ C : Array Value, C.size = n → Instr.fill (fun i => some (i * n, n)) C [(0, .agg vs.toArray)] = some vs.toArray := by
      intro C hC
      have hf := fill_array vs C (by omega)
      have hc : (Value.agg vs.toArray).cells = vs.toArray := rfl
      simp only [Instr.fill, Nat.zero_mul, hc]
      rw [if_neg (by simp [hn, hC])]
      exact congrArg some hf
    unfold Instr.buildSlice
    simp only [Sem.run_bind, run_underlying ht, Result.andThen_ok, hsz, Nat.one_mul, Nat.reducePow, gt_iff_lt, hn24, hn0, if_false, Sem.run_pure, hz, newRow]
    rw [hfill _ (by simp)]
    simp [go_sem, Sem.run_bind]
  simp only [execOp, ho, List.map_toArray, List.map_cons, List.map_nil, hx, Sem.run_bind, hr, Result.andThen_ok, Sem.run_pure]
/-- 'append(s, x...)', x whatever can be read (nil, too). -/
theorem ev_append_any (hgd : o.guard = none) (s x : Operand) (t : TypeId) (ho : o.op = .call { callee := .builtin .append, args := #[s, x], argTypes := #[t, t] })
    (base : Nat) (e : TypeId) (z : Value) (size bytes : Nat) (ht : P.underlying t = some (.slice e)) (hinfo : (P.info? e).map (fun i => (i.zero, i.size, i.bytes)) = some (some z, size, bytes)) (hzs : z.cells.size = size) (hsz : 0 < size)
    (v : Value) (n : Nat) (xs : List Value) (hs : a.eval s = v) (hown : w.ownsRow base e size v n xs)
    (A : Option Addr) (m c : Nat) (hx : a.eval x = .slice A m c) (news : List Value) (hl : news.length = m * size) (hb : 0 < m → ∃ g p, A = some ⟨g, p, none⟩ ∧ w.rangeAt g p news) (h1 : ∀ u ∈ news, u.oneCell' = true)
    (h63 : n + m ≤ 9223372036854775807) (hbytes : (n + m) * bytes ≤ 140737488355328) (hbase : base ≤ w.heap.size)
    (h : ∀ v' w', w'.ownsRow base e size v' (n + m) (xs ++ news) → Kp v.ownBlock.toList w w' → (v'.ownBlock = v.ownBlock ∨ ∃ g, v'.ownBlock = some g ∧ w.heap.size ≤ g) →
      wpList P ops Q rest (a.put o.dst v') w') : wpList P ops Q (o :: rest) a w := by
  obtain ⟨i, hi, hz, hsize, hby⟩ := info_parts hinfo
  have key : ∃ v' w', (Builtin.append_ #[t, t] o.type #[v, .slice A m c]).run P w = .ok v' w' ∧ w'.ownsRow base e size v' (n + m) (xs ++ news) ∧ w.grownBy w' v.ownBlock ∧ (v'.ownBlock = v.ownBlock ∨ v'.ownBlock = some w.heap.size) := by
    rcases A with _ | ad
    · have hm : m = 0 := by
        rcases Nat.eq_zero_or_pos m with h0 | h0
        · exact h0
        · obtain ⟨_, _, hh, _⟩ := hb h0; cases hh
      subst hm
      have hn : news = [] := List.eq_nil_of_length_eq_zero (by simpa using hl)
      subst hn
      refine ⟨v, w, ?_, by simpa using hown, World.grownBy.refl w _, .inl rfl⟩
      rcases hown.2 with ⟨rfl, rfl⟩ | ⟨g, cap, cur, rfl, _, _, hnc, _⟩
      · simp [Builtin.append_, run_underlying ht, sizeOf, typeInfo, hi, Builtin.lenOf, Builtin.firstCells]
      · simp [Builtin.append_, run_underlying ht, sizeOf, typeInfo, hi, Builtin.lenOf, Builtin.firstCells, hnc, storeCells]
    · have hcells : ∀ j u, news[j]? = some u → w.cell? (ad.add j) = some u := by
        intro j u hu
        rcases Nat.eq_zero_or_pos m with h0 | h0
        · subst h0
          have hn : news = [] := List.eq_nil_of_length_eq_zero (by simpa using hl)
          subst hn
          simp at hu
        · obtain ⟨g, p, hh, hc⟩ := hb h0
          injection hh with hh
          subst hh
          rw [Addr.add_mid]
          exact hc j u hu
      obtain ⟨v', w', hrun, h2, h3, _, h5⟩ := run_append_own_at (P := P) w base t o.type e i z size bytes ht hi hz hsize hby hzs hsz v n xs hown ad m c news hl hcells h1 (by unfold maxLen; omega) hbytes hbase
      exact ⟨v', w', hrun, h2, h3, h5⟩
  obtain ⟨v', w', hrun, h2, h3, h4⟩ := key
  refine wpList_plain hgd fun K hK => ?_
  unfold Oper.wp execOp
  simp only [ho, resolve, invoke, builtin, Sem.run_bind, Sem.run_pure, Result.andThen_ok, List.map_toArray, List.map_cons, List.map_nil, hs, hx, hrun]
  exact hK _ _ (h v' w' h2 (Kp.of_grown h3 fun k hk => by rw [hk]; simp) (h4.imp id fun e => ⟨_, e, Nat.le_refl _⟩))
end

/-- Address A holds these rows, each of so many cells, in a block outside X. -/
structure Sl (w : World) (X : List Nat) (A : Option Addr) (size : Nat) (rows : List (List Value)) : Prop where
  lens : ∀ r ∈ rows, r.length = size
  ones : ∀ r ∈ rows, ∀ v ∈ r, v.oneCell' = true
  at_ : 0 < rows.length → ∃ g o, A = some ⟨g, o, none⟩ ∧ g ∉ X ∧ g < w.heap.size ∧ ∀ i r, rows[i]? = some r → w.rangeAt g (o + i * size) r
section
variable {X Y : List Nat} {w w' : World} {A : Option Addr} {size : Nat} {rows : List (List Value)}
theorem Sl.keep (h : Sl w X A size rows) (k : Kp Y w w') (hy : ∀ g ∈ Y, g ∈ X ∨ w.heap.size ≤ g) : Sl w' X A size rows :=
  ⟨h.lens, h.ones, fun hp => by
    obtain ⟨g, o, hA, hg, hlt, hr⟩ := h.at_ hp
    exact ⟨g, o, hA, hg, Nat.lt_of_lt_of_le hlt k.size, fun i r hi => k.range (hr i r hi) (fun hm => (hy g hm).elim hg (fun hge => by omega))⟩⟩
theorem Sl.keep0 (h : Sl w X A size rows) (k : Kp [] w w') : Sl w' X A size rows := h.keep k (by simp)
/-- What is new is not where it lies. -/
theorem Sl.more (h : Sl w X A size rows) (hy : ∀ g ∈ Y, g ∈ X ∨ w.heap.size ≤ g) : Sl w Y A size rows :=
  ⟨h.lens, h.ones, fun hp => by
    obtain ⟨g, o, hA, hg, hlt, hr⟩ := h.at_ hp
    exact ⟨g, o, hA, fun hm => (hy g hm).elim hg (fun hge => by omega), hlt, hr⟩⟩
theorem Sl.nil (w : World) (X : List Nat) (A : Option Addr) (size : Nat) : Sl w X A size [] := ⟨by simp, by simp, by simp⟩
theorem Sl.get (h : Sl w X A size rows) {i : Nat} {r : List Value} (hi : rows[i]? = some r) : ∃ g o, A = some ⟨g, o, none⟩ ∧ g ∉ X ∧ g < w.heap.size ∧ w.rangeAt g (o + i * size) r ∧ r.length = size := by
  obtain ⟨g, o, hA, hg, hlt, hr⟩ := h.at_ (by have := (List.getElem?_eq_some_iff.1 hi).1; omega)
  exact ⟨g, o, hA, hg, hlt, hr i r hi, h.lens r (List.mem_of_getElem? hi)⟩
theorem flat_at {rows : List (List Value)} {size : Nat} (h : ∀ m ∈ rows, m.length = size) : ∀ (i k : Nat) (m : List Value) (v : Value), rows[i]? = some m → m[k]? = some v → rows.flatten[i * size + k]? = some v := by
  induction rows with
  | nil => intro i k m v hi; simp at hi
  | cons x xs ih =>
    intro i k m v hi hk
    have hx := h x (by simp)
    rw [List.flatten_cons]
    cases i with
    | zero =>
      simp at hi; subst hi
      have := (List.getElem?_eq_some_iff.1 hk).1
      rw [List.getElem?_append_left (by omega)]; simpa using hk
    | succ i =>
      rw [Nat.succ_mul, List.getElem?_append_right (by omega), hx, show i * size + size + k - size = i * size + k by omega]
      exact ih (fun m hm => h m (by simp [hm])) i k m v (by simpa using hi) hk
theorem flat_length {rows : List (List Value)} {size : Nat} (h : ∀ m ∈ rows, m.length = size) : rows.flatten.length = rows.length * size := by
  induction rows with
  | nil => simp
  | cons x xs ih => rw [List.flatten_cons, List.length_append, h x (by simp), ih (fun m hm => h m (by simp [hm]))]; simp [Nat.succ_mul]; omega
theorem flat_ones {rows : List (List Value)} (h : ∀ r ∈ rows, ∀ v ∈ r, v.oneCell' = true) : ∀ v ∈ rows.flatten, v.oneCell' = true := by
  intro v hv
  obtain ⟨r, hr, hv⟩ := List.mem_flatten.1 hv
  exact h r hr v hv
theorem Sl.flat (h : Sl w X A size rows) (hp : 0 < rows.length) : ∃ g o, A = some ⟨g, o, none⟩ ∧ g ∉ X ∧ g < w.heap.size ∧ w.rangeAt g o rows.flatten := by
  obtain ⟨g, o, hA, hg, hlt, hr⟩ := h.at_ hp
  refine ⟨g, o, hA, hg, hlt, fun j v hv => ?_⟩
  have hl := flat_length h.lens
  have hj : j < rows.length * size := by rw [← hl]; exact (List.getElem?_eq_some_iff.1 hv).1
  have hsz : 0 < size := by rcases Nat.eq_zero_or_pos size with e | e; · subst e; simp at hj
                            · exact e
  have hq : j / size < rows.length := (Nat.div_lt_iff_lt_mul hsz).2 hj
  have hr1 : rows[j / size]? = some rows[j / size] := List.getElem?_eq_getElem hq
  have hlen := h.lens _ (List.mem_of_getElem? hr1)
  have hmod : j % size < size := Nat.mod_lt _ hsz
  have hk : (rows[j / size])[j % size]? = some ((rows[j / size])[j % size]'(by omega)) := List.getElem?_eq_getElem (by omega)
  have hdm : j / size * size + j % size = j := by have := Nat.div_add_mod j size; rw [Nat.mul_comm] at this; exact this
  have := flat_at h.lens _ _ _ _ hr1 hk
  rw [hdm] at this
  rw [this] at hv
  have h2 := hr _ _ hr1 _ _ hk
  rw [Nat.add_assoc, hdm] at h2
  rw [h2]; exact hv
/-- A row of one's own, as it can be read. -/
theorem Sl.of_own {base n c : Nat} {e : TypeId} {xs : List Value} (h : w.ownsRow base e size (.slice A n c) n xs) (hx : xs = rows.flatten) (hn : rows.length = n) (hl : ∀ r ∈ rows, r.length = size) (h1 : ∀ r ∈ rows, ∀ v ∈ r, v.oneCell' = true)
    (hX : ∀ g ∈ X, g < base) : Sl w X A size rows :=
  ⟨hl, h1, fun hp => by
    obtain ⟨g, cap, hv, hg, hlt⟩ := h.form (by omega)
    have hA : A = some ⟨g, 0, none⟩ := by injection hv
    subst hA
    refine ⟨g, 0, rfl, fun hm => by have := hX g hm; omega, hlt, fun i r hi k v hk => ?_⟩
    have := h.cells (g := g) rfl (i * size + k) v (by rw [hx]; exact flat_at hl i k r v hi hk)
    rw [Addr.add_mid, Nat.zero_add] at this
    rw [Nat.zero_add]; exact this⟩
end
end Go.Proofs.Ytlgebdoadfljhaa
