/- The same logic: what makes memory, what is stored, appended; calls. -/
import Derived.Test.YtnkkfmnpkgjabaaA5
namespace Go.Proofs.Ytnkkfmnpkgjabaa.X
open Go.RowKit
set_option linter.unusedVariables false
set_option linter.unusedSimpArgs false

/-- The zero of a type, and what its cells tell. -/
class TC (P : Program) (t : TypeId) (zs : outParam (List Value)) (cs : outParam (List A)) : Prop where
  z : TZ P t zs
  abs : zs.map absC = cs
  one : zs.all (fun u => u.oneCell') = true
def cellsOf : A → List A
  | .agg xs => xs
  | y => [y]
def spl {α : Type} (cs : List α) : Nat → List α → List α
  | _, [] => cs
  | o, v :: r => spl (cs.set o v) (o + 1) r
theorem spl_len {α : Type} : ∀ (vs cs : List α) (o : Nat), (spl cs o vs).length = cs.length
  | [], _, _ => rfl
  | v :: r, cs, o => by rw [spl, spl_len r]; simp
theorem spl_get {α : Type} : ∀ (vs cs : List α) (o j : Nat), o + vs.length ≤ cs.length → (spl cs o vs)[j]? = if o ≤ j ∧ j < o + vs.length then vs[j - o]? else cs[j]?
  | [], cs, o, j, _ => by simp [spl]; intro h1 h2; omega
  | v :: r, cs, o, j, h => by
    rw [spl, spl_get r (cs.set o v) (o + 1) j (by simp at h ⊢; omega)]
    simp only [List.length_cons] at h ⊢
    by_cases h1 : o + 1 ≤ j ∧ j < o + 1 + r.length
    · rw [if_pos h1, if_pos (by omega), show j - o = (j - (o + 1)) + 1 by omega]; simp
    · rw [if_neg h1, List.getElem?_set]
      by_cases h2 : o = j
      · subst h2; rw [if_pos rfl, if_pos (by omega), if_pos (by omega)]; simp
      · rw [if_neg h2, if_neg (by omega)]
theorem spl_all {α : Type} (vs cs : List α) (h : vs.length = cs.length) : spl cs 0 vs = vs := by
  apply List.ext_getElem?
  intro j
  rw [spl_get vs cs 0 j (by omega)]
  by_cases h1 : 0 ≤ j ∧ j < 0 + vs.length
  · rw [if_pos h1]; simp
  · rw [if_neg h1, List.getElem?_eq_none (by omega), List.getElem?_eq_none (by omega)]
theorem setCells_same (b : Nat) : ∀ (vs : List Value) (o : Nat) (w : World), (w.setCells b o vs).os = w.os ∧ (w.setCells b o vs).tape = w.tape ∧ (w.setCells b o vs).output = w.output ∧ (w.setCells b o vs).heap.size = w.heap.size ∧ ∀ k, k ≠ b → (w.setCells b o vs).heap[k]? = w.heap[k]?
  | [], _, _ => ⟨rfl, rfl, rfl, rfl, fun _ _ => rfl⟩
  | v :: r, o, w => by
    obtain ⟨h1, h2, h3, h4, h5⟩ := setCells_same b r (o + 1) (w.setCell ⟨b, o, none⟩ v)
    exact ⟨h1, h2, h3, by rw [World.setCells, h4]; simp, fun k hk => by rw [World.setCells, h5 k hk]; exact Below.heap_setCell w _ v k hk⟩
theorem setCells_heap (b : Nat) (t : TypeId) : ∀ (vs : List Value) (o : Nat) (w : World) (arr : Array Value), w.heap[b]? = some (.cells arr t (0, 0)) → (w.setCells b o vs).heap[b]? = some (.cells (spl arr.toList o vs).toArray t (0, 0))
  | [], _, _, arr, h => by simpa [spl, World.setCells] using h
  | v :: r, o, w, arr, h => by
    have h2 : (w.setCell ⟨b, o, none⟩ v).heap[b]? = some (.cells (arr.toList.set o v).toArray t (0, 0)) := by
      simp [World.setCell, Array.getElem?_modify, h]
      exact Array.toList_inj.1 (by simp)
    have := setCells_heap b t r (o + 1) _ _ h2
    rwa [spl, World.setCells]
section
variable {P : Program} {o : Oper} {t : T} {bs : BS} {y : A} {x z : Operand} {ty ty2 : TypeId} {d : TypeDesc} {sz by_ : Nat}
theorem Rep.one {w : World} {Z : Zones} {u : Value} {y : A} (h : Rep w Z u y) (hc : y.isCell = true) : u.oneCell' = true := by
  cases h <;> first | assumption | rfl | (simp [A.isCell] at hc; done) | (rename_i h; cases h; rfl)
theorem cells_one {u : Value} (h : u.oneCell' = true) : u.cells = #[u] := by
  cases u <;> first | rfl | (simp [Value.oneCell'] at h)
/-- A value's cells, and what they tell. -/
theorem Rep.cells {w : World} {Z : Zones} {u : Value} {y : A} (h : Rep w Z u y) (hc : y.isCell = true ∨ ∃ xs, y = .agg xs) : u.cells.size = (cellsOf y).length ∧ ∀ k x, (cellsOf y)[k]? = some x → Rep w Z (u.cells.getD k undef) x ∧ (u.cells.getD k undef).oneCell' = true := by
  rcases hc with hc | ⟨xs, rfl⟩
  · have e1 := cells_one (h.one hc)
    have e2 : cellsOf y = [y] := by cases y <;> first | rfl | (simp [A.isCell] at hc)
    rw [e1, e2]
    refine ⟨rfl, fun k x hk => ?_⟩
    cases k with
    | zero => simp at hk; subst hk; exact ⟨h, h.one hc⟩
    | succ k => simp at hk
  · cases h with
    | agg l hr h1 => exact ⟨l, fun k x hk => ⟨hr k x hk, h1 k x hk⟩⟩
theorem run_newRow (w : World) (ty : TypeId) (cells : Array Value) : (newRow ty cells).run P w = .ok ⟨w.heap.size, 0, none⟩ (w.alloc (.cells cells ty)) := by
  rfl
theorem TZ.run {zs : List Value} (h : TZ P ty zs) : ∃ z, (∀ w, (zeroValue ty).run P w = .ok z w) ∧ z.cells = zs.toArray := by
  obtain ⟨z, h1, h2⟩ := h.zero
  refine ⟨z, fun w => ?_, h2⟩
  cases hq : P.info? ty with
  | none => rw [hq] at h1; cases h1
  | some i =>
    rw [hq] at h1
    have h1 : i.zero = some z := by simpa using h1
    simp [zeroValue, typeInfo, hq, h1, Sem.run_bind]
theorem zero_rep {zs : List Value} {cs : List A} (h : TC P ty zs cs) (w : World) (Z : Zones) : CellsRep w Z zs.toArray cs := by
  rw [← h.abs]
  refine ⟨by simp, fun k x hk => ?_⟩
  simp only [List.getElem?_map, Option.map_eq_some_iff] at hk
  obtain ⟨u, hu, rfl⟩ := hk
  rw [show zs.toArray.getD k undef = u by simp [hu]]
  exact ⟨rep_absC w Z u, List.all_eq_true.1 h.one u (List.mem_of_getElem? hu)⟩
/-- 'alloc'. -/
theorem OpW.alloc {zs : List Value} {cs : List A} [hz : TC P ty zs cs] (ho : o.op = .alloc ty) : OpW P o t bs fun y bs' => ∃ g, y = .ptr g 0 ∧ bs' = (g, .cells cs) :: bs := by
  intro a w hx hb K Q hK
  obtain ⟨z, h1, h2⟩ := hz.z.run
  obtain ⟨b1, b2⟩ := hb.alloc zs.toArray ty cs (zero_rep hz w _)
  have hrun : (execOp a.eval o).run P w = .ok (.value (.pointer (some ⟨w.heap.size, 0, none⟩))) (w.alloc (.cells zs.toArray ty)) := by
    simp only [execOp, ho, Instr.alloc, Sem.run_bind, h1, Result.andThen_ok, newVar, h2, run_newRow, Sem.run_pure]
  unfold Oper.wp
  rw [hrun]
  exact hK _ _ _ _ ⟨w.heap.size, rfl, rfl⟩ .ptr b1 b2
/-- 'box'. -/
theorem OpW.box (ho : o.op = .box ty x) (hx : Wk (evA t x) y) (hc : y.isCell = true ∨ ∃ xs, y = .agg xs) {cs : List A} (hcs : cellsOf y = cs) : OpW P o t bs fun q bs' => ∃ g, q = .ptr g 0 ∧ bs' = (g, .cells cs) :: bs := by
  subst hcs
  intro a w h hb K Q hK
  have hr := op_rep h (x := x) (by simp [ho, Op.operands]) hx
  obtain ⟨b1, b2⟩ := hb.alloc (a.eval x).cells ty (cellsOf y) (hr.cells hc)
  have hrun : (execOp a.eval o).run P w = .ok (.value (.pointer (some ⟨w.heap.size, 0, none⟩))) (w.alloc (.cells (a.eval x).cells ty)) := by
    simp only [execOp, ho, Instr.box, Sem.run_bind, Result.andThen_ok, newVar, run_newRow, Sem.run_pure]
  unfold Oper.wp
  rw [hrun]
  exact hK _ _ _ _ ⟨w.heap.size, rfl, rfl⟩ .ptr b1 b2
/-- Cells of a block are laid anew. -/
theorem BsOk.set {w : World} {bs' : BS} (hb : BsOk w bs) {g p : Nat} {cs ys : List A} {vs : List Value} (hu : BUpd bs g (.cells cs) g (.cells (spl cs p ys)) bs') (hl : p + ys.length ≤ cs.length) (hv : vs.length = ys.length)
    (hr : ∀ k x, ys[k]? = some x → Rep w (zones bs) (vs.getD k undef) x ∧ (vs.getD k undef).oneCell' = true) : BsOk (w.setCells g p vs) bs' ∧ Ext w (zones bs) (w.setCells g p vs) (zones bs') := by
  obtain ⟨arr, t, h1, h2, h3⟩ := hb.get hu.mem
  obtain ⟨e1, e2, e3, e4, e5⟩ := setCells_same g vs p w
  refine hb.upd hu e1 e2 e3 (by omega) (.inl ⟨rfl, Nat.le_refl _⟩) (fun k _ hk => e5 k hk) (fun k hk => by simp [Blk.from_] at hk) fun he => ?_
  refine ⟨(spl arr.toList p vs).toArray, t, setCells_heap g t vs p w arr h1, by simp [spl_len, h2], fun k x hk => ?_⟩
  rw [spl_get ys cs p k hl] at hk
  have hget : (spl arr.toList p vs).toArray.getD k undef = if p ≤ k ∧ k < p + ys.length then vs.getD (k - p) undef else arr.getD k undef := by
    simp only [Array.getD_eq_getD_getElem?, List.getElem?_toArray, List.getD_eq_getElem?_getD]
    rw [spl_get vs arr.toList p k (by simp; omega), hv]
    split <;> simp
  rw [hget]
  split at hk
  · rename_i hin
    rw [if_pos hin]
    exact ⟨(hr _ x hk).1.ext he, (hr _ x hk).2⟩
  · rename_i hout
    rw [if_neg hout]
    exact ⟨(h3 k x hk).1.ext he, (h3 k x hk).2⟩
theorem run_storeAt {d : TypeDesc} (h1 : TI P ty d sz by_) {w : World} {g p : Nat} {u : Value} (hs : u.cells.size = sz) (hc : ∀ j, j < u.cells.size → (w.cell? ⟨g, p + j, none⟩).isSome = true) (hf : ∀ j, j < u.cells.size → w.frozen? ⟨g, p + j, none⟩ = false) (h1c : ∀ v ∈ u.cells.toList, v.oneCell' = true) :
    (Instr.storeAt ty (.pointer (some ⟨g, p, none⟩)) u).run P w = .ok () (w.setCells g p u.cells.toList) := by
  have hst := run_storeCells_cells (P := P) g p u.cells.toList 0 w (by simpa using hc) (by simpa using hf) h1c
  simp only [Nat.add_zero] at hst
  simp only [Instr.storeAt, Instr.sureAddr, Sem.run_bind, Sem.run_pure, Result.andThen_ok, storeVar, h1.sizeOf_, hs]
  simp [hst]
/-- 'store' into a block of one's own. -/
theorem OpW.store {g p : Nat} {cs cs' : List A} {bs' : BS} [h1 : TI P ty d sz by_] (ho : o.op = .store ty x z) (hx : Wk (evA t x) (.ptr g p)) (hz : Wk (evA t z) y) (hc : y.isCell = true ∨ ∃ xs, y = .agg xs) (hm : (g, .cells cs) ∈ bs) (hcs : spl cs p (cellsOf y) = cs') (hu : BUpd bs g (.cells cs) g (.cells cs') bs') (hl : p + sz ≤ cs.length) (hs : (cellsOf y).length = sz) :
    OpW P o t bs fun q b => q = .junk ∧ b = bs' := by
  subst hcs
  intro a w h hb K Q hK
  have e := (op_rep h (x := x) (by simp [ho, Op.operands]) hx).ptr_inv
  have hr := op_rep h (x := z) (by simp [ho, Op.operands]) hz
  obtain ⟨l, hcell⟩ := hr.cells hc
  obtain ⟨arr, ha, hcl, hfz, _⟩ := blk_range (hb.get hm)
  obtain ⟨b1, b2⟩ := hb.set (vs := (a.eval z).cells.toList) hu (by omega) (by simpa using l) (fun k x hk => by simpa using hcell k x hk)
  have hone : ∀ v ∈ (a.eval z).cells.toList, v.oneCell' = true := fun v hv => by
    obtain ⟨k, hk⟩ := List.mem_iff_getElem?.1 hv
    have hlt : k < (cellsOf y).length := by rw [← l]; simpa using (List.getElem?_eq_some_iff.1 hk).1
    have := (hcell k _ (List.getElem?_eq_getElem hlt)).2
    rwa [getD_toList hk] at this
  have hrun : (execOp a.eval o).run P w = .ok .skip (w.setCells g p (a.eval z).cells.toList) := by
    simp only [execOp, ho, e, Sem.run_bind, run_storeAt h1 (u := a.eval z) (w := w) (g := g) (p := p) (by omega) (fun j hj => by rw [hcl, Array.getElem?_eq_getElem (by omega)]; rfl) (fun j _ => hfz _) hone, Result.andThen_ok, Sem.run_pure]
  unfold Oper.wp
  rw [hrun]
  exact hK _ _ _ _ ⟨rfl, rfl⟩ .junk b1 b2
/-! ### makeSlice -/
theorem flat_rep {α : Type} (cs : List α) : ∀ (n k : Nat), 0 < cs.length → k < n * cs.length → (List.replicate n cs).flatten[k]? = cs[k % cs.length]?
  | 0, k, h0, hk => by simp at hk
  | n + 1, k, h0, hk => by
    rw [List.replicate_succ, List.flatten_cons]
    by_cases h : k < cs.length
    · rw [List.getElem?_append_left h, Nat.mod_eq_of_lt h]
    · rw [List.getElem?_append_right (by omega), flat_rep cs n (k - cs.length) h0 (by rw [Nat.succ_mul] at hk; omega)]
      rw [← Nat.mod_eq_sub_mod (a := k) (by omega)]
theorem rep_rows_len {α : Type} (cs : List α) (n : Nat) : (List.replicate n cs).flatten.length = n * cs.length := by
  induction n with
  | zero => simp
  | succ n ih => rw [List.replicate_succ, List.flatten_cons, List.length_append, ih, Nat.succ_mul]; omega
theorem OpW.makeSlice {e : TypeId} {s1 b1 s2 b2 : Nat} {d2 : TypeDesc} {zs : List Value} {cs : List A} {k j : IntKind} {i1 i2 : Int} {n c : Nat} [h1 : TI P ty (.slice e) s1 b1] [h2 : TI P e d2 s2 b2] [hz : TC P e zs cs] (ho : o.op = .makeSlice ty x z)
    (hx : Wk (evA t x) (.v (.int k i1))) (hz2 : Wk (evA t z) (.v (.int j i2))) (e1 : i1 = (n : Nat)) (e2 : i2 = (c : Nat)) (hnc : n ≤ c) (hl : cs.length = s2) (hpos : 0 < s2) (hc : c * b2 ≤ 140737488355328) (hc2 : c ≤ 140737488355328) :
    OpW P o t bs fun q bs' => ∃ g, q = .ms g 0 n c ∧ bs' = (g, .cells (List.replicate c cs).flatten) :: bs := by
  subst e1; subst e2
  intro a w h hb K Q hK
  have e1 := (op_rep h (x := x) (by simp [ho, Op.operands]) hx).val
  have e2 := (op_rep h (x := z) (by simp [ho, Op.operands]) hz2).val
  obtain ⟨zv, hz1, hz3⟩ := hz.z.run
  obtain ⟨i, hi1, hi2, hi3⟩ := h2.info
  have hzl : zs.length = s2 := by have := congrArg List.length hz.abs; simp at this; omega
  have w1 : IntKind.i64.wrap (n : Int) = n := IntWalk.i64_in _ ⟨by omega, by omega⟩
  have w2 : IntKind.i64.wrap (c : Int) = c := IntWalk.i64_in _ ⟨by omega, by omega⟩
  have hbc : ¬ (i.bytes * (c : Int) > 2 ^ 48) := by
    rw [hi3, Int.mul_comm]
    have : ((c * b2 : Nat) : Int) ≤ 140737488355328 := by omega
    rw [Int.natCast_mul] at this
    omega
  have hR : CellsRep w (zones bs) ((Array.range (c * s2)).map (zs.toArray[· % zs.toArray.size]!)) (List.replicate c cs).flatten := by
    have hz0 := zero_rep hz w (zones bs)
    refine ⟨by simp [hl], fun q v hq => ?_⟩
    have hlt : q < c * s2 := by have := (List.getElem?_eq_some_iff.1 hq).1; rw [rep_rows_len, hl] at this; exact this
    rw [flat_rep cs c q (by omega) (by rw [hl]; exact hlt), hl] at hq
    have hmod : q % s2 < zs.length := by rw [hzl]; exact Nat.mod_lt _ hpos
    have e : ((Array.range (c * s2)).map (zs.toArray[· % zs.toArray.size]!)).getD q undef = zs.toArray.getD (q % s2) undef := by
      simp [hlt, hzl, List.getElem?_eq_getElem hmod]
    rw [e]
    exact hz0.2 _ v hq
  obtain ⟨b1', b2'⟩ := hb.alloc _ e _ hR
  have hrun : (execOp a.eval o).run P w = .ok (.value (.slice (some ⟨w.heap.size, 0, none⟩) n c)) (w.alloc (.cells ((Array.range (c * s2)).map (zs.toArray[· % zs.toArray.size]!)) e)) := by
    have hneg : ¬ ((c : Int) < 0) := by omega
    have hneg2 : ¬ ((n : Int) < 0) := by omega
    have hgt : ¬ ((n : Int) > c) := by omega
    have hroom : ∀ w, (askRoom (c * i.bytes)).run P w = .ok () w := fun w => by unfold askRoom; split <;> simp [mark, Sem.run]
    by_cases h0 : c * s2 = 0
    · simp only [execOp, ho, e1, e2, Instr.makeSlice, Sem.run_bind, h1.run_und, Result.andThen_ok, asInt, asIntOf, Sem.run_pure, typeInfo, program, Sem.run, hi1, w1, w2, hneg, hneg2, hgt, hbc, decide_false, Bool.or_false, Bool.false_eq_true, if_false, Int.toNat_natCast, hroom, h2.sizeOf_, h0, if_true, run_newRow, show Array.range 0 = (#[] : Array Nat) from rfl]
      simp
    · simp only [execOp, ho, e1, e2, Instr.makeSlice, Sem.run_bind, h1.run_und, Result.andThen_ok, asInt, asIntOf, Sem.run_pure, typeInfo, program, Sem.run, hi1, w1, w2, hneg, hneg2, hgt, hbc, decide_false, Bool.or_false, Bool.false_eq_true, if_false, Int.toNat_natCast, hroom, h2.sizeOf_, h0, hz1, hz3, run_newRow]
  unfold Oper.wp
  rw [hrun]
  exact hK _ _ _ _ ⟨w.heap.size, rfl, rfl⟩ .ms b1' b2'
end
end Go.Proofs.Ytnkkfmnpkgjabaa.X
