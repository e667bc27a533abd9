/- The same logic: rows that are laid, appended; texts and bytes; calls; guards. -/
import Derived.Test.YtnkkfmnpkgjabaaA6
namespace Go.Proofs.Ytnkkfmnpkgjabaa.X
open Go.RowKit
set_option linter.unusedVariables false
set_option linter.unusedSimpArgs false

section
variable {P : Program} {o : Oper} {t : T} {bs : BS} {y : A} {x z : Operand} {ty ty2 : TypeId} {d : TypeDesc} {sz by_ : Nat}
theorem zones_lt {w : World} (hb : BsOk w bs) : ∀ q ∈ zones bs, q.1 < w.heap.size := fun q hq => by
  obtain ⟨x, hx, rfl⟩ := mem_zones.1 hq
  exact (hb.ok x hx).lt
/-- A new row that is read only. -/
theorem BsOk.keep {w w' : World} (hb : BsOk w bs) (hos : w'.os = w.os) (htape : w'.tape = w.tape) (hout : w'.output = w.output) (hsize : w.heap.size ≤ w'.heap.size) (hh : ∀ k, k < w.heap.size → w'.heap[k]? = w.heap[k]?) : BsOk w' bs ∧ Ext w (zones bs) w' (zones bs) := by
  have he : Ext w (zones bs) w' (zones bs) := ⟨hos, htape, hout, hsize, fun k hk _ => hh k hk, fun g k hg _ => World.cell?_of_block (w := w) (a := ⟨g, k, none⟩) (hh g hg), fun z hz => .inl ⟨z, hz, rfl, Nat.le_refl _⟩⟩
  exact ⟨⟨hb.nodup, fun x hx => (hb.ok x hx).stay he (hh _ (hb.ok x hx).lt)⟩, he⟩
theorem BsOk.new {w : World} (hb : BsOk w bs) (ob : Obj) : BsOk (w.alloc ob) bs ∧ Ext w (zones bs) (w.alloc ob) (zones bs) := hb.keep rfl rfl rfl (by simp) fun k hk => Below.heap_alloc w ob k hk
/-- A new block of one's own. -/
theorem BsOk.push {w w' : World} (hb : BsOk w bs) {g : Nat} {b : Blk} (hg : w.heap.size ≤ g) (hos : w'.os = w.os) (htape : w'.tape = w.tape) (hout : w'.output = w.output) (hsize : w.heap.size ≤ w'.heap.size) (hh : ∀ k, k < w.heap.size → w'.heap[k]? = w.heap[k]?)
    (hok : Ext w (zones bs) w' (zones ((g, b) :: bs)) → BlkOk w' (zones ((g, b) :: bs)) g b) : BsOk w' ((g, b) :: bs) ∧ Ext w (zones bs) w' (zones ((g, b) :: bs)) := by
  have he : Ext w (zones bs) w' (zones ((g, b) :: bs)) := by
    refine ⟨hos, htape, hout, hsize, fun k hk _ => hh k hk, fun g k hg _ => World.cell?_of_block (w := w) (a := ⟨g, k, none⟩) (hh g hg), fun z hz => ?_⟩
    rw [zones_cons] at hz
    rcases List.mem_cons.1 hz with rfl | hz
    · exact .inr hg
    · exact .inl ⟨z, hz, rfl, Nat.le_refl _⟩
  refine ⟨⟨?_, fun x hx => ?_⟩, he⟩
  · simp only [List.map_cons, List.nodup_cons]
    refine ⟨fun hm => ?_, hb.nodup⟩
    obtain ⟨x, hx, e⟩ := List.mem_map.1 hm
    have := (hb.ok x hx).lt
    omega
  · rcases List.mem_cons.1 hx with rfl | hx
    · exact hok he
    · exact (hb.ok x hx).stay he (hh _ (hb.ok x hx).lt)
/-- What a new row tells. -/
theorem Rep.new_row {w' : World} {Z : Zones} {g : Nat} {arr : Array Value} {e : TypeId} {fz : Nat × Nat} {n c sz : Nat} {rows : List (List A)} (hh : w'.heap[g]? = some (.cells arr e fz)) (hn : rows.length = n) (hc : n ≤ c) (hm : c ≤ maxLen) (hs : ∀ r ∈ rows, r.length = sz)
    (hr : ∀ k x, rows.flatten[k]? = some x → Rep w' Z (arr.getD k undef) x ∧ (arr.getD k undef).oneCell' = true ∧ k < arr.size) (hst : ∀ k, k < n * sz → Stable Z g k) : Rep w' Z (.slice (some ⟨g, 0, none⟩) n c) (.sl rows) := by
  have hlt : ∀ k x, rows.flatten[k]? = some x → k < n * sz := fun k x hk => by
    have := (List.getElem?_eq_some_iff.1 hk).1
    rwa [flat_lenA hs, hn] at this
  refine .sl hn hc hm sz g 0 (fun k => arr.getD k undef) hs (fun _ => rfl) (fun k x hk => ?_) (fun k x hk => ?_) (fun k x hk => (hr k x hk).2.1) (fun k x hk => (hr k x hk).1)
  · rw [Nat.zero_add, cell_of_row w' g k arr e fz hh]
    simp [(hr k x hk).2.2]
  · rw [Nat.zero_add]; exact hst k (hlt k x hk)
theorem stable_new {w : World} (hb : BsOk w bs) {g k : Nat} (hg : w.heap.size ≤ g) : Stable (zones bs) g k := fun q hq e => by have := zones_lt hb q hq; omega
/-! ### rows that are laid -/
theorem fill_listA (vs : List Value) : ∀ (off k : Nat) (cs : Array Value), (vs.zipIdx k).foldl (fun cs x => cs.setIfInBounds (off + x.2) x.1) cs = (spl cs.toList (off + k) vs).toArray := by
  induction vs with
  | nil => intro off k cs; rfl
  | cons v r ih =>
    intro off k cs
    rw [List.zipIdx_cons, List.foldl_cons, ih off (k + 1), spl]
    congr 2
    simp
theorem spl_append {α : Type} : ∀ (a b : List α) (cs : List α) (o : Nat), spl (spl cs o a) (o + a.length) b = spl cs o (a ++ b)
  | [], b, cs, o => rfl
  | x :: a, b, cs, o => by rw [List.cons_append, spl, spl, ← spl_append a b]; simp [Nat.add_comm, Nat.add_left_comm]
theorem fill_seq (sz : Nat) : ∀ (vs : List Value) (k : Nat) (cells : Array Value), (∀ v ∈ vs, v.cells.size = sz) → (k + vs.length) * sz ≤ cells.size →
    Instr.fill (fun i => some (i * sz, sz)) cells ((vs.zipIdx k).map fun p => (p.2, p.1)) = some (spl cells.toList (k * sz) (vs.flatMap (·.cells.toList))).toArray
  | [], k, cells, _, _ => by simp [Instr.fill, spl]
  | v :: r, k, cells, h, hl => by
    have hv := h v (by simp)
    have h1 : k * sz + sz ≤ cells.size := by
      have : (k + 1) * sz ≤ (k + (v :: r).length) * sz := Nat.mul_le_mul_right _ (by simp)
      rw [Nat.succ_mul] at this; omega
    rw [List.zipIdx_cons, List.map_cons, Instr.fill]
    simp only [hv, ne_eq, not_true_eq_false, decide_false, Bool.false_or]
    rw [if_neg (by simp; omega)]
    have hf : (v.cells.zipIdx).foldl (fun cs x => cs.setIfInBounds (k * sz + x.2) x.1) cells = (spl cells.toList (k * sz) v.cells.toList).toArray := by
      rw [← Array.foldl_toList, Array.toList_zipIdx, fill_listA v.cells.toList (k * sz) 0 cells, Nat.add_zero]
    have hf' : (v.cells.zipIdx).foldl (fun cs (x : Value × Nat) => match x with | (c, j) => cs.setIfInBounds (k * sz + j) c) cells = (spl cells.toList (k * sz) v.cells.toList).toArray := hf
    rw [hf', fill_seq sz r (k + 1) _ (fun q hq => h q (by simp [hq])) (by simp only [List.size_toArray, spl_len, Array.length_toList]; rw [show k + 1 + r.length = k + (r.length + 1) by omega]; exact hl)]
    simp only [List.flatMap_cons]
    rw [← spl_append, show (k + 1) * sz = k * sz + v.cells.toList.length by rw [Nat.succ_mul]; simp [hv]]
theorem run_buildSlice {e : TypeId} {s1 b1 s2 b2 : Nat} {d2 : TypeDesc} {zs : List Value} (h1 : TI P ty (.slice e) s1 b1) (h2 : TI P e d2 s2 b2) (hz : TZ P e zs) (vs : List Value) (hs : ∀ v ∈ vs, v.cells.size = s2) (hlim : vs.length * s2 ≤ 16777216) (w : World) :
    (Instr.buildSlice ty vs.length (vs.zipIdx.map fun p => (p.2, p.1)).toArray).run P w = .ok (.slice (some ⟨w.heap.size, 0, none⟩) vs.length vs.length) (w.alloc (.cells (vs.flatMap (·.cells.toList)).toArray e)) := by
  obtain ⟨z, hz1, hz2⟩ := hz.run
  have hfl : ∀ l : List Value, (∀ v ∈ l, v.cells.size = s2) → (l.flatMap (·.cells.toList)).length = l.length * s2 := fun l => by
    induction l with
    | nil => simp
    | cons a r ih => intro h; rw [List.flatMap_cons, List.length_append, ih (fun v hv => h v (by simp [hv]))]; simp [h a (by simp), Nat.succ_mul]; omega
  have hfill : ∀ C : Array Value, C.size = vs.length * s2 → Instr.fill (fun i => some (i * s2, s2)) C (vs.zipIdx.map fun p => (p.2, p.1)) = some (vs.flatMap (·.cells.toList)).toArray := fun C hC => by
    rw [fill_seq s2 vs 0 C hs (by rw [Nat.zero_add]; omega), Nat.zero_mul, spl_all _ _ (by rw [hfl vs hs]; simp [hC])]
  have hn : ¬ (vs.length * s2 > 2 ^ 24) := by omega
  unfold Instr.buildSlice
  by_cases h0 : vs.length * s2 = 0
  · simp only [Sem.run_bind, h1.run_und, Result.andThen_ok, h2.sizeOf_, h0, gt_iff_lt, Nat.not_lt_zero, if_false, if_true, Sem.run_pure, show Array.range 0 = (#[] : Array Nat) from rfl, Array.map_empty, hfill #[] (by simp [h0])]
    simp [run_newRow, Sem.run_bind]
  · simp only [Sem.run_bind, h1.run_und, Result.andThen_ok, h2.sizeOf_, hn, if_false, h0, hz1, Sem.run_pure]
    rw [hfill _ (by simp)]
    simp [run_newRow, Sem.run_bind]
/-- Each operand tells a row. -/
inductive Rows_ (t : T) : List Operand → List A → Prop where
  | nil : Rows_ t [] []
  | cons {x : Operand} {y : A} {r : List Operand} {ys : List A} (h : Wk (evA t x) y) (hc : y.isCell = true ∨ ∃ xs, y = .agg xs) (k : Rows_ t r ys) : Rows_ t (x :: r) (y :: ys)
theorem Rows_.rep {r : List Operand} {ys : List A} (h : Rows_ t r ys) {a : Act} {w : World} (hx : ∀ x ∈ r, Rep w (zones bs) (a.eval x) (evA t x)) (hs : ∀ y ∈ ys, (cellsOf y).length = sz) :
    (∀ v ∈ r.map a.eval, v.cells.size = sz) ∧ r.length = ys.length ∧ ∀ k q, (ys.map cellsOf).flatten[k]? = some q → Rep w (zones bs) (((r.map a.eval).flatMap (·.cells.toList)).toArray.getD k undef) q ∧ (((r.map a.eval).flatMap (·.cells.toList)).toArray.getD k undef).oneCell' = true ∧ k < ((r.map a.eval).flatMap (·.cells.toList)).toArray.size := by
  induction h with
  | nil => exact ⟨by simp, rfl, by simp⟩
  | @cons x y r ys h hc hk ih =>
    obtain ⟨i1, i2, i3⟩ := ih (fun q hq => hx q (by simp [hq])) (fun q hq => hs q (by simp [hq]))
    obtain ⟨l, hcell⟩ := ((hx x (by simp)).wk h).cells hc
    have hy := hs y (by simp)
    refine ⟨fun v hv => ?_, by simp [i2], fun k q hk => ?_⟩
    · rw [List.map_cons] at hv
      rcases List.mem_cons.1 hv with rfl | hv
      · omega
      · exact i1 v hv
    · rw [List.map_cons, List.flatten_cons] at hk
      simp only [List.map_cons, List.flatMap_cons]
      have e : ∀ L : List Value, ((a.eval x).cells.toList ++ L).toArray.getD k undef = if k < sz then (a.eval x).cells.getD k undef else L.toArray.getD (k - sz) undef := fun L => by
        simp only [Array.getD_eq_getD_getElem?, List.getElem?_toArray]
        by_cases hlt : k < sz
        · rw [if_pos hlt, List.getElem?_append_left (by simp; omega)]; simp
        · rw [if_neg hlt, List.getElem?_append_right (by simp; omega)]; simp [l, hy]
      rw [e]
      by_cases hlt : k < sz
      · rw [if_pos hlt]
        rw [List.getElem?_append_left (by omega)] at hk
        exact ⟨(hcell k q hk).1, (hcell k q hk).2, by simp; omega⟩
      · rw [if_neg hlt]
        rw [List.getElem?_append_right (by omega), hy] at hk
        obtain ⟨j1, j2, j3⟩ := i3 _ q hk
        exact ⟨j1, j2, by simp at j3 ⊢; omega⟩
theorem parts_seq (r : List Operand) (f : Operand → Value) : ((r.zipIdx.map fun p => (p.2, p.1)).toArray.map fun (p : Nat × Operand) => (p.1, f p.2)) = ((r.map f).zipIdx.map fun p => (p.2, p.1)).toArray := by
  simp [List.zipIdx_map, Function.comp_def]
/-- '[]T{..}', read only from now on. -/
theorem OpQ.lits {e : TypeId} {s1 b1 s2 b2 n : Nat} {d2 : TypeDesc} {zs : List Value} {cs : List A} {parts : Array (Nat × Operand)} {r : List Operand} {ys : List A} {rows : List (List A)} [h1 : TI P ty (.slice e) s1 b1] [h2 : TI P e d2 s2 b2] [hz : TC P e zs cs] (ho : o.op = .buildSlice ty n parts) (hr0 : parts.toList.map (·.2) = r)
    (hp : parts = (r.zipIdx.map fun p => (p.2, p.1)).toArray) (hr : Rows_ t r ys) (hn : r.length = n) (hs : ys.all (fun y => (cellsOf y).length == s2) = true) (hrows : ys.map cellsOf = rows) (hlim : n * s2 ≤ 16777216) (hpos : 0 < s2) : OpQ P o t bs (.clip rows) := by
  subst hrows; subst hp; subst hn
  intro a w h hb K Q hK
  simp only [ho, Op.operands] at h
  have hs' : ∀ y ∈ ys, (cellsOf y).length = s2 := fun y hy => by simpa using List.all_eq_true.1 hs y hy
  obtain ⟨i1, i2, i3⟩ := hr.rep (a := a) (w := w) (fun x hx => h x (by simp [List.map_map, Function.comp_def, List.zipIdx_map_fst]; exact hx)) hs'
  have hrun := run_buildSlice (P := P) h1 h2 hz.z (r.map a.eval) i1 (by simpa using hlim) w
  obtain ⟨b1', b2'⟩ := hb.new (.cells ((r.map a.eval).flatMap (·.cells.toList)).toArray e)
  have hrun2 : (execOp a.eval o).run P w = .ok (.value (.slice (some ⟨w.heap.size, 0, none⟩) r.length r.length)) (w.alloc (.cells ((r.map a.eval).flatMap (·.cells.toList)).toArray e)) := by
    simp only [List.length_map] at hrun
    simp only [execOp, ho, parts_seq r a.eval, Sem.run_bind, hrun, Result.andThen_ok, Sem.run_pure]
  unfold Oper.wp
  rw [hrun2]
  refine hK _ _ (.clip (Rep.new_row (heap_alloc_new w _) (by simp [i2]) (Nat.le_refl _) ?_ (sz := s2) (fun q hq => ?_) (fun k q hk => ?_) (fun k _ => stable_new hb (Nat.le_refl _)))) b1' b2'
  · have : r.length ≤ r.length * s2 := Nat.le_mul_of_pos_right _ hpos
    unfold maxLen; omega
  · obtain ⟨y, hy, rfl⟩ := List.mem_map.1 hq; exact hs' y hy
  · obtain ⟨j1, j2, j3⟩ := i3 k q hk
    exact ⟨j1.ext b2', j2, j3⟩
/-! ### append -/
/-- The cells of a row that is read, as a list. -/
theorem Rep.sl_list {w : World} {Z : Zones} {u : Value} {rows : List (List A)} {sz : Nat} (h : Rep w Z u (.sl rows)) (hs : ∀ r ∈ rows, r.length = sz) : ∃ Ad c, ∃ us : List Value, u = .slice Ad rows.length c ∧ us.length = rows.length * sz ∧ (∀ v ∈ us, v.oneCell' = true) ∧ (0 < rows.length → ∃ g o, Ad = some ⟨g, o, none⟩ ∧ ∀ j v, us[j]? = some v → w.cell? ⟨g, o + j, none⟩ = some v) ∧
    ∀ k x, rows.flatten[k]? = some x → Rep w Z (us.getD k undef) x := by
  obtain ⟨Ad, c, e, hc, hm, sz2, g, o, us, hs2, ha, hcell⟩ := h.sl_cells
  have hl := flat_lenA hs
  have hin : ∀ k, k < rows.flatten.length → ∃ x, rows.flatten[k]? = some x := fun k hk => ⟨_, List.getElem?_eq_getElem hk⟩
  have hget : ∀ j v, ((List.range rows.flatten.length).map us)[j]? = some v → j < rows.flatten.length ∧ v = us j := fun j v hj => by
    simp only [List.getElem?_map, Option.map_eq_some_iff] at hj
    obtain ⟨i, hi, rfl⟩ := hj
    obtain ⟨hlt, rfl⟩ := List.getElem?_eq_some_iff.1 hi
    simp at hlt ⊢; exact hlt
  refine ⟨Ad, c, (List.range rows.flatten.length).map us, e, by simp [hl], fun v hv => ?_, fun hp => ⟨g, o, ha hp, fun j v hj => ?_⟩, fun k x hk => ?_⟩
  · obtain ⟨j, hj⟩ := List.mem_iff_getElem?.1 hv
    obtain ⟨hlt, rfl⟩ := hget j v hj
    obtain ⟨x, hx⟩ := hin j hlt
    exact (hcell j x hx).2.2.1
  · obtain ⟨hlt, rfl⟩ := hget j v hj
    obtain ⟨x, hx⟩ := hin j hlt
    exact (hcell j x hx).1
  · have hlt := (List.getElem?_eq_some_iff.1 hk).1
    have e : ((List.range rows.flatten.length).map us).getD k undef = us k := by
      rw [List.getD_eq_getElem?_getD, List.getElem?_map, List.getElem?_range hlt]; rfl
    rw [e]
    exact (hcell k x hk).2.2.2
theorem append_ops {tys : Array TypeId} (ho : o.op = .call { callee := .builtin .append, args := #[x, z], argTypes := tys }) {a : Act} {w : World} (h : ∀ x ∈ o.op.operands, Rep w (zones bs) (a.eval x) (evA t x)) : Rep w (zones bs) (a.eval x) (evA t x) ∧ Rep w (zones bs) (a.eval z) (evA t z) :=
  ⟨h x (by simp [ho, Op.operands, Call.operands]), h z (by simp [ho, Op.operands, Call.operands])⟩
theorem append_run {tys : Array TypeId} (ho : o.op = .call { callee := .builtin .append, args := #[x, z], argTypes := tys }) {a : Act} {w w' : World} {u1 u2 v : Value} (e1 : a.eval x = u1) (e2 : a.eval z = u2) (hr : (Builtin.append_ tys o.type #[u1, u2]).run P w = .ok v w') : (execOp a.eval o).run P w = .ok (.value v) w' := by
  simp only [execOp, ho, resolve, invoke, builtin, Sem.run_bind, Sem.run_pure, Result.andThen_ok, List.map_toArray, List.map_cons, List.map_nil, e1, e2, hr]
/-- What lies in a new row behind an append. -/
theorem own_new {w w' : World} {e : TypeId} {sz n : Nat} {v : Value} {us us2 : List Value} {rows rows2 : List (List A)} (hown : w'.ownsRow w.heap.size e sz v n (us ++ us2)) (hgr : w.grownBy w' none) (hb : BsOk w bs) (hs : ∀ r ∈ rows ++ rows2, r.length = sz) (hn : (rows ++ rows2).length = n) (hl : us.length = rows.length * sz)
    (h1 : ∀ v ∈ us ++ us2, v.oneCell' = true) (hr : ∀ k x, rows.flatten[k]? = some x → Rep w (zones bs) (us.getD k undef) x) (hr2 : ∀ k x, rows2.flatten[k]? = some x → Rep w (zones bs) (us2.getD k undef) x) (hp : 0 < n) :
    ∃ g c arr, v = .slice (some ⟨g, 0, none⟩) n c ∧ w.heap.size ≤ g ∧ w'.heap[g]? = some (.cells arr e (0, 0)) ∧ n ≤ c ∧ c ≤ maxLen ∧ arr.size = c * sz ∧ ∀ k x, (rows ++ rows2).flatten[k]? = some x → Rep w (zones bs) (arr.getD k undef) x ∧ (arr.getD k undef).oneCell' = true ∧ k < arr.size := by
  rcases hown.2 with ⟨_, h0⟩ | ⟨g, cap, cur, rfl, hg, hh, hnc, hcm, hsz, htk⟩
  · omega
  · refine ⟨g, cap, cur, rfl, hg, hh, hnc, hcm, hsz, fun k x hk => ?_⟩
    have hlen : (us ++ us2).length = n * sz := hown.1
    have hlt : k < n * sz := by have := (List.getElem?_eq_some_iff.1 hk).1; rwa [flat_lenA hs, hn] at this
    have hcur : cur.getD k undef = (us ++ us2).getD k undef := by
      have := congrArg (fun l : List Value => l[k]?) htk
      simp only [List.getElem?_take_of_lt hlt, Array.getElem?_toList] at this
      rw [Array.getD_eq_getD_getElem?, this, List.getD_eq_getElem?_getD]
    have hks : k < cur.size := by rw [hsz]; exact Nat.lt_of_lt_of_le hlt (Nat.mul_le_mul_right _ hnc)
    have hin : (us ++ us2)[k]? = some ((us ++ us2).getD k undef) := by rw [List.getD_eq_getElem?_getD, List.getElem?_eq_getElem (by omega)]; rfl
    rw [hcur]
    refine ⟨?_, h1 _ (List.mem_of_getElem? hin), hks⟩
    have hfl : rows.flatten.length = rows.length * sz := flat_lenA fun r hr => hs r (by simp [hr])
    rw [List.flatten_append] at hk
    by_cases hlt2 : k < us.length
    · rw [List.getElem?_append_left (by omega)] at hk
      have e : (us ++ us2).getD k undef = us.getD k undef := by simp only [List.getD_eq_getElem?_getD, List.getElem?_append_left hlt2]
      rw [e]; exact hr k x hk
    · rw [List.getElem?_append_right (by omega), hfl, ← hl] at hk
      have e : (us ++ us2).getD k undef = us2.getD (k - us.length) undef := by simp only [List.getD_eq_getElem?_getD, List.getElem?_append_right (by omega : us.length ≤ k)]
      rw [e]; exact hr2 _ x hk
/-- An append onto nothing, or onto a full slice: a new row. -/
theorem run_app_new {e : TypeId} {s1 b1 s2 b2 : Nat} {d2 : TypeDesc} {zs : List Value} (h1 : TI P ty (.slice e) s1 b1) (h2 : TI P e d2 s2 b2) (hz : TZ P e zs) (hzl : zs.length = s2) (hpos : 0 < s2) (hb2 : 0 < b2) {w : World} (tyr : TypeId) {u1 u2 : Value} {Z : Zones} {rows rows2 : List (List A)} (hs : ∀ r ∈ rows ++ rows2, r.length = s2)
    (hx : u1 = .slice none 0 0 ∧ rows = [] ∨ Rep w Z u1 (.clip rows)) (hy : Rep w Z u2 (.sl rows2)) (hp : 0 < rows2.length) (hbd : (rows.length + rows2.length) * b2 ≤ 140737488355328) :
    ∃ v w', ∃ us us2 : List Value, (Builtin.append_ #[ty, ty] tyr #[u1, u2]).run P w = .ok v w' ∧ w'.ownsRow w.heap.size e s2 v (rows.length + rows2.length) (us ++ us2) ∧ w.grownBy w' none ∧ us.length = rows.length * s2 ∧ (∀ v ∈ us ++ us2, v.oneCell' = true) ∧ (∀ k x, rows.flatten[k]? = some x → Rep w Z (us.getD k undef) x) ∧ (∀ k x, rows2.flatten[k]? = some x → Rep w Z (us2.getD k undef) x) := by
  obtain ⟨i, hi1, hi2, hi3⟩ := h2.info
  obtain ⟨zv, hzq, hzc⟩ := hz.zero
  have hzv : i.zero = some zv := by rw [hi1] at hzq; simpa using hzq
  have hzs : zv.cells.size = s2 := by rw [hzc]; simp [hzl]
  obtain ⟨Ad2, c2, us2, e2, l2, o2, a2, r2⟩ := hy.sl_list (sz := s2) (fun r hr => hs r (by simp [hr]))
  obtain ⟨g2, p2, rfl, hc2⟩ := a2 hp
  have h63 : rows.length + rows2.length ≤ maxLen := by
    have : rows.length + rows2.length ≤ (rows.length + rows2.length) * b2 := Nat.le_mul_of_pos_right _ hb2
    unfold maxLen; omega
  have hnews : ∀ j v, us2[j]? = some v → w.cell? ((⟨g2, p2, none⟩ : Addr).add j) = some v := fun j v hj => by rw [Addr.add_mid]; exact hc2 j v hj
  subst e2
  have nilcase : ∀ tyq, ∃ v w', (Builtin.append_ #[ty, ty] tyq #[.slice none 0 0, .slice (some ⟨g2, p2, none⟩) rows2.length c2]).run P w = .ok v w' ∧ (rows = [] → w'.ownsRow w.heap.size e s2 v (rows.length + rows2.length) ([] ++ us2)) ∧ w.grownBy w' none := fun tyq => by
    obtain ⟨v, w', hr, hown, hgr, _, _⟩ := run_append_own_at (P := P) w w.heap.size ty tyq e i zv s2 b2 h1.und hi1 hzv hi2 hi3 hzs hpos (.slice none 0 0) 0 [] ⟨by simp, .inl ⟨rfl, rfl⟩⟩ ⟨g2, p2, none⟩ rows2.length c2 us2 l2 hnews (fun v hv => o2 v hv) (by unfold maxLen at h63 ⊢; omega)
      (Nat.le_trans (Nat.mul_le_mul_right _ (by omega)) hbd) (Nat.le_refl _)
    exact ⟨v, w', hr, fun h0 => by subst h0; simpa using hown, by simpa [Value.ownBlock] using hgr⟩
  rcases hx with ⟨rfl, rfl⟩ | hx
  · obtain ⟨v, w', hr, hown, hgr⟩ := nilcase tyr
    exact ⟨v, w', [], us2, hr, hown rfl, hgr, by simp, by simpa using o2, by simp, r2⟩
  · cases hx with
    | @clip Ad n _ hx =>
      obtain ⟨Ad1, c1, us1, e1, l1, o1, a1, r1⟩ := hx.sl_list (sz := s2) (fun r hr => hs r (by simp [hr]))
      injection e1 with ea en ec
      subst ea; subst en
      have hc1 : c1 = rows.length := ec.symm
      have hone : ∀ v ∈ us1 ++ us2, v.oneCell' = true := fun v hv => by rcases List.mem_append.1 hv with h | h; exact o1 v h; exact o2 v h
      cases Ad with
      | none =>
        have h0 : rows = [] := by
          rcases Nat.eq_zero_or_pos rows.length with h | h
          · exact List.eq_nil_of_length_eq_zero h
          · obtain ⟨_, _, h, _⟩ := a1 h; cases h
        subst h0
        have hu : us1 = [] := List.eq_nil_of_length_eq_zero (by simpa using l1)
        subst hu
        obtain ⟨v, w', hr, hown, hgr⟩ := nilcase tyr
        exact ⟨v, w', [], us2, hr, hown rfl, hgr, by simp, hone, by simp, r2⟩
      | some ad =>
        obtain ⟨v, w', hr, hown, hgr⟩ := run_append_arg_grows (P := P) w ty tyr e i zv s2 b2 h1.und hi1 hzv hi2 hi3 hzs hpos ad rows.length rows.length us1 l1 (fun j v hj => by
          rcases Nat.eq_zero_or_pos rows.length with h | h
          · have := (List.getElem?_eq_some_iff.1 hj).1; rw [l1, h] at this; omega
          · obtain ⟨g, p, hA, hc⟩ := a1 h
            injection hA with hA
            subst hA
            rw [Addr.add_mid]; exact hc j v hj) ⟨g2, p2, none⟩ rows2.length c2 us2 l2 hnews (by omega) h63 hbd
        exact ⟨v, w', us1, us2, hr, hown, hgr, l1, hone, r1, r2⟩
theorem grown_keep {w w' : World} (hgr : w.grownBy w' none) (hb : BsOk w bs) : BsOk w' bs ∧ Ext w (zones bs) w' (zones bs) := hb.keep hgr.os hgr.tape hgr.output hgr.size fun k hk => hgr.block k hk (by simp)
/-- What says the one says the other. -/
def RLe (x y : A) : Prop := ∀ (w : World) (Z : Zones) (u : Value), Rep w Z u x → Rep w Z u y
/-- Nil, or a full slice. -/
inductive Full : A → List (List A) → Prop where
  | nil : Full .nil []
  | clip (r : List (List A)) : Full (.clip r) r
theorem Rep.full {w : World} {Z : Zones} {u : Value} {rows : List (List A)} (h : Rep w Z u y) (k : Full y rows) : u = .slice none 0 0 ∧ rows = [] ∨ Rep w Z u (.clip rows) := by
  cases k with
  | nil => cases h; exact .inl ⟨rfl, rfl⟩
  | clip => exact .inr h
/-- 'append' onto nil, or a full slice: the tip of a new row. -/
theorem OpW.app_newR {e : TypeId} {s1 b1 s2 b2 : Nat} {d2 : TypeDesc} {zs : List Value} {cs : List A} {rows rows2 : List (List A)} {q : A} [h1 : TI P ty (.slice e) s1 b1] [h2 : TI P e d2 s2 b2] [hz : TC P e zs cs] (ho : o.op = .call { callee := .builtin .append, args := #[x, z], argTypes := #[ty, ty] })
    (hx : RLe (evA t x) q) (hf : Full q rows) (hy : Wk (evA t z) (.sl rows2)) (hzl : cs.length = s2) (hpos : 0 < s2) (hb2 : 0 < b2) (hs : ∀ r ∈ rows ++ rows2, r.length = s2) (hp : 0 < rows2.length) (hbd : (rows.length + rows2.length) * b2 ≤ 140737488355328) :
    OpW P o t bs fun y bs' => ∃ g c, y = .tip g c (rows ++ rows2) ∧ bs' = (g, .tip (rows ++ rows2).length c s2 e) :: bs := by
  intro a w h hb K Q hK
  obtain ⟨hr1, hr2⟩ := append_ops ho h
  have hr1 := hx _ _ _ hr1
  obtain ⟨v, w', us, us2, hrun, hown, hgr, hl, hone, r1, r2⟩ := run_app_new h1 h2 hz.z (by have := congrArg List.length hz.abs; simp at this; omega) hpos hb2 o.type hs (hr1.full hf) (hr2.wk hy) hp hbd
  obtain ⟨g, c, arr, rfl, hg, hh, hnc, hcm, hsz, hR⟩ := own_new hown hgr hb hs (by simp) hl hone r1 r2 (by omega)
  have hlen : (rows ++ rows2).length = rows.length + rows2.length := by simp
  obtain ⟨b1', e1'⟩ := BsOk.push hb (g := g) (b := .tip (rows ++ rows2).length c s2 e) hg hgr.os hgr.tape hgr.output hgr.size (fun k hk => hgr.block k hk (by simp)) fun _ => ⟨arr, hh, by omega, hcm, hsz⟩
  unfold Oper.wp
  rw [append_run ho rfl rfl hrun]
  refine hK _ _ _ _ ⟨g, c, rfl, rfl⟩ (.tip (Rep.new_row hh hlen hnc hcm hs (fun k x hk => ⟨(hR k x hk).1.ext e1', (hR k x hk).2⟩) fun k hk q hq he => ?_)) b1' e1'
  rw [zones_cons] at hq
  rcases List.mem_cons.1 hq with rfl | hq
  · simp only [Blk.from_]; rw [hlen]; exact hk
  · have := zones_lt hb q hq; omega
theorem OpW.app_new {e : TypeId} {s1 b1 s2 b2 : Nat} {d2 : TypeDesc} {zs : List Value} {cs : List A} {rows rows2 : List (List A)} {q : A} [h1 : TI P ty (.slice e) s1 b1] [h2 : TI P e d2 s2 b2] [hz : TC P e zs cs] (ho : o.op = .call { callee := .builtin .append, args := #[x, z], argTypes := #[ty, ty] })
    (hx : evA t x = q) (hf : Full q rows) (hy : Wk (evA t z) (.sl rows2)) (hzl : cs.length = s2) (hpos : 0 < s2) (hb2 : 0 < b2) (hs : ∀ r ∈ rows ++ rows2, r.length = s2) (hp : 0 < rows2.length) (hbd : (rows.length + rows2.length) * b2 ≤ 140737488355328) :
    OpW P o t bs fun y bs' => ∃ g c, y = .tip g c (rows ++ rows2) ∧ bs' = (g, .tip (rows ++ rows2).length c s2 e) :: bs := OpW.app_newR ho (fun _ _ _ h => hx ▸ h) hf hy hzl hpos hb2 hs hp hbd
/-- 'append' onto nil, or a full slice: read only. -/
theorem OpQ.app_new {e : TypeId} {s1 b1 s2 b2 : Nat} {d2 : TypeDesc} {zs : List Value} {cs : List A} {rows rows2 : List (List A)} {q : A} [h1 : TI P ty (.slice e) s1 b1] [h2 : TI P e d2 s2 b2] [hz : TC P e zs cs] (ho : o.op = .call { callee := .builtin .append, args := #[x, z], argTypes := #[ty, ty] })
    (hx : evA t x = q) (hf : Full q rows) (hy : Wk (evA t z) (.sl rows2)) (hzl : cs.length = s2) (hpos : 0 < s2) (hb2 : 0 < b2) (hs : ∀ r ∈ rows ++ rows2, r.length = s2) (hbd : (rows.length + rows2.length) * b2 ≤ 140737488355328) :
    OpQ P o t bs (.sl (rows ++ rows2)) := by
  intro a w h hb K Q hK
  obtain ⟨hr1, hr2⟩ := append_ops ho h
  rw [hx] at hr1
  unfold Oper.wp
  rcases Nat.eq_zero_or_pos rows2.length with h0 | hp
  · have h00 : rows2 = [] := List.eq_nil_of_length_eq_zero h0
    subst h00
    obtain ⟨i, hi1, hi2, hi3⟩ := h2.info
    obtain ⟨Ad2, c2, e2, _⟩ := (hr2.wk hy).slice_inv
    have key : ∃ Ad n, a.eval x = .slice Ad n n ∧ Rep w (zones bs) (a.eval x) (.sl rows) := by
      rcases hr1.full hf with ⟨e1, rfl⟩ | hr1
      · exact ⟨none, 0, e1, e1 ▸ .nil_sl⟩
      · generalize a.eval x = u at hr1
        cases hr1 with
        | @clip Ad n _ hr1 => exact ⟨Ad, n, rfl, hr1⟩
    obtain ⟨Ad, n, e1, hr⟩ := key
    have hrun : (Builtin.append_ #[ty, ty] o.type #[.slice Ad n n, .slice Ad2 0 c2]).run P w = .ok (.slice Ad n n) w := by
      cases Ad <;> cases Ad2 <;> simp [Builtin.append_, run_underlying h1.und, sizeOf, typeInfo, hi1, Builtin.lenOf, Builtin.firstCells, loadCells, loadCellsFrom, storeCells]
    rw [append_run ho e1 e2 hrun]
    refine hK _ _ ?_ hb (Ext.refl _ _)
    rw [List.append_nil, ← e1]; exact hr
  · obtain ⟨v, w', us, us2, hrun, hown, hgr, hl, hone, r1, r2⟩ := run_app_new h1 h2 hz.z (by have := congrArg List.length hz.abs; simp at this; omega) hpos hb2 o.type hs (hr1.full hf) (hr2.wk hy) hp hbd
    obtain ⟨g, c, arr, rfl, hg, hh, hnc, hcm, hsz, hR⟩ := own_new hown hgr hb hs (by simp) hl hone r1 r2 (by omega)
    obtain ⟨b1', e1'⟩ := grown_keep hgr hb
    rw [append_run ho rfl rfl hrun]
    exact hK _ _ (Rep.new_row hh (by simp) hnc hcm hs (fun k x hk => ⟨(hR k x hk).1.ext e1', (hR k x hk).2⟩) fun k hk => stable_new hb hg) b1' e1'
/-- 'append' onto the tip of a row of one's own. -/
theorem OpW.app_tipR {e : TypeId} {s1 b1 s2 b2 g c n : Nat} {d2 : TypeDesc} {zs : List Value} {cs : List A} {rows rows2 : List (List A)} {B : Nat → Nat → BS} [h1 : TI P ty (.slice e) s1 b1] [h2 : TI P e d2 s2 b2] [hz : TC P e zs cs] (ho : o.op = .call { callee := .builtin .append, args := #[x, z], argTypes := #[ty, ty] })
    (hx : RLe (evA t x) (.tip g c rows)) (hy : Wk (evA t z) (.sl rows2)) (hu : ∀ g' c', BUpd bs g (.tip n c s2 e) g' (.tip (rows ++ rows2).length c' s2 e) (B g' c')) (hn : rows.length = n) (hzl : cs.length = s2) (hpos : 0 < s2) (hb2 : 0 < b2) (hs : ∀ r ∈ rows ++ rows2, r.length = s2) (hp : 0 < rows2.length) (hbd : (rows.length + rows2.length) * b2 ≤ 140737488355328) :
    OpW P o t bs fun y bs' => ∃ g c, y = .tip g c (rows ++ rows2) ∧ bs' = B g c := by
  subst hn
  intro a w h hb K Q hK
  obtain ⟨hr1, hr2⟩ := append_ops ho h
  have hr1 := hx _ _ _ hr1
  have hr2 := hr2.wk hy
  have hlen : (rows ++ rows2).length = rows.length + rows2.length := by simp
  generalize hux : a.eval x = ux at hr1
  generalize huz : a.eval z = uz at hr2
  unfold Oper.wp
  cases hr1 with
  | @tip _ n _ _ hr1 =>
    obtain ⟨arr, ha1, ha2, ha3, ha4⟩ := hb.get (hu 0 0).mem
    obtain ⟨i, hi1, hi2, hi3⟩ := h2.info
    obtain ⟨zv, hzq, hzc⟩ := hz.z.zero
    have hzv : i.zero = some zv := by rw [hi1] at hzq; simpa using hzq
    have hzs : zv.cells.size = s2 := by rw [hzc]; have := congrArg List.length hz.abs; simp at this ⊢; omega
    obtain ⟨Ad1, c1, us1, e1, l1, o1, a1, r1⟩ := hr1.sl_list (sz := s2) (fun r hr => hs r (by simp [hr]))
    obtain ⟨Ad2, c2, us2, e2, l2, o2, a2, r2⟩ := hr2.sl_list (sz := s2) (fun r hr => hs r (by simp [hr]))
    obtain ⟨g2, p2, rfl, hc2⟩ := a2 hp
    injection e1 with ea en ec
    subst ea; subst en; subst ec
    have h63 : rows.length + rows2.length ≤ maxLen := by
      have : rows.length + rows2.length ≤ (rows.length + rows2.length) * b2 := Nat.le_mul_of_pos_right _ hb2
      unfold maxLen; omega
    have hnews : ∀ j v, us2[j]? = some v → w.cell? ((⟨g2, p2, none⟩ : Addr).add j) = some v := fun j v hj => by rw [Addr.add_mid]; exact hc2 j v hj
    have holds : ∀ j v, us1[j]? = some v → w.cell? ((⟨g, 0, none⟩ : Addr).add j) = some v := fun j v hj => by
      rcases Nat.eq_zero_or_pos rows.length with h | h
      · have := (List.getElem?_eq_some_iff.1 hj).1; rw [l1, h] at this; omega
      · obtain ⟨g1, p, hA, hc⟩ := a1 h
        injection hA with hA
        injection hA with hA1 hA2
        subst hA1; subst hA2
        rw [Addr.add_mid]; exact hc j v hj
    have hone : ∀ v ∈ us1 ++ us2, v.oneCell' = true := fun v hv => by rcases List.mem_append.1 hv with h | h; exact o1 v h; exact o2 v h
    by_cases hroom : rows.length + rows2.length ≤ c
    · have hrun := run_append_room_cells (P := P) w ty o.type e i h1.und hi1 g 0 rows.length c ⟨g2, p2, none⟩ rows2.length c2 us2 (by rw [hi2]; exact l2) hnews o2 hroom
        (fun j hj => by
          have hin : 0 + rows.length * i.size + j < arr.size := by
            rw [ha4, hi2, Nat.zero_add]
            have : (rows.length + rows2.length) * s2 ≤ c * s2 := Nat.mul_le_mul_right _ hroom
            rw [Nat.add_mul] at this; omega
          rw [cell_of_row w g _ arr e (0, 0) ha1, Array.getElem?_eq_getElem hin]; rfl)
        (fun j hj => by simp [World.frozen?, ha1])
      rw [hi2, Nat.zero_add] at hrun
      rw [append_run ho hux (huz.trans e2) hrun]
      obtain ⟨q1, q2, q3, q4, q5⟩ := setCells_same g us2 (rows.length * s2) w
      have hheap := setCells_heap g e us2 (rows.length * s2) w arr ha1
      have hfit : rows.length * s2 + us2.length ≤ arr.size := by
        rw [ha4, l2, ← Nat.add_mul]; exact Nat.mul_le_mul_right _ hroom
      have hcellq : ∀ k, (w.setCells g (rows.length * s2) us2).cell? ⟨g, k, none⟩ = if rows.length * s2 ≤ k ∧ k < rows.length * s2 + us2.length then us2[k - rows.length * s2]? else arr[k]? := fun k => by
        rw [cell_of_row _ g k _ e (0, 0) hheap]
        simp only [List.getElem?_toArray]
        rw [spl_get us2 arr.toList _ k (by simpa using hfit)]
        simp
      obtain ⟨b1', e1'⟩ := hb.upd (w' := w.setCells g (rows.length * s2) us2) (hu g c) q1 q2 q3 (by omega) (.inl ⟨rfl, by simp only [Blk.from_, hlen]; exact Nat.mul_le_mul_right _ (by omega)⟩) (fun k _ hk => q5 k hk)
        (fun k hk => by
          simp only [Blk.from_] at hk
          rw [hcellq, if_neg (by omega), cell_of_row w g k arr e (0, 0) ha1])
        (fun _ => ⟨_, hheap, by omega, ha3, by simp [spl_len, ha4]⟩)
      refine hK _ _ _ _ ⟨g, c, rfl, rfl⟩ (.tip ?_) b1' e1'
      refine Rep.new_row hheap hlen hroom ha3 hs (fun k x hk => ?_) (fun k hk q hq he => ?_)
      · have hlt : k < (rows.length + rows2.length) * s2 := by have := (List.getElem?_eq_some_iff.1 hk).1; rwa [flat_lenA hs, hlen] at this
        have hfl : rows.flatten.length = rows.length * s2 := flat_lenA fun r hr => hs r (by simp [hr])
        rw [List.flatten_append] at hk
        have hks : k < (spl arr.toList (rows.length * s2) us2).toArray.size := by
          simp only [List.size_toArray, spl_len, Array.length_toList, ha4]
          exact Nat.lt_of_lt_of_le hlt (Nat.mul_le_mul_right _ hroom)
        have hg : (spl arr.toList (rows.length * s2) us2).toArray.getD k undef = (us1 ++ us2).getD k undef := by
          simp only [Array.getD_eq_getD_getElem?, List.getElem?_toArray, List.getD_eq_getElem?_getD]
          rw [spl_get us2 arr.toList _ k (by simpa using hfit)]
          by_cases hkk : k < rows.length * s2
          · rw [if_neg (by omega), List.getElem?_append_left (by omega)]
            have hc1 := holds k _ (List.getElem?_eq_getElem (by omega))
            rw [Addr.add_mid, Nat.zero_add, cell_of_row w g k arr e (0, 0) ha1] at hc1
            simp only [Array.getElem?_toList]
            rw [hc1, List.getElem?_eq_getElem (by omega)]
          · rw [if_pos (by rw [l2, ← Nat.add_mul]; omega), List.getElem?_append_right (by omega), l1]
        have hin : (us1 ++ us2)[k]? = some ((us1 ++ us2).getD k undef) := by rw [List.getD_eq_getElem?_getD, List.getElem?_eq_getElem (by simp [l1, l2, ← Nat.add_mul]; exact hlt)]; rfl
        rw [hg]
        refine ⟨?_, hone _ (List.mem_of_getElem? hin), hks⟩
        by_cases hlt2 : k < us1.length
        · rw [List.getElem?_append_left (by omega)] at hk
          have e : (us1 ++ us2).getD k undef = us1.getD k undef := by simp only [List.getD_eq_getElem?_getD, List.getElem?_append_left hlt2]
          rw [e]; exact (r1 k x hk).ext e1'
        · rw [List.getElem?_append_right (by omega), hfl, ← l1] at hk
          have e : (us1 ++ us2).getD k undef = us2.getD (k - us1.length) undef := by simp only [List.getD_eq_getElem?_getD, List.getElem?_append_right (by omega : us1.length ≤ k)]
          rw [e]; exact (r2 _ x hk).ext e1'
      · obtain ⟨xb, hxb, rfl⟩ := mem_zones.1 hq
        have := b1'.ne (hu g c).mem' hxb he
        subst this
        simp only [Blk.from_, hlen]; exact hk
    · obtain ⟨v, w', hrun, hown, hgr⟩ := run_append_arg_grows (P := P) w ty o.type e i zv s2 b2 h1.und hi1 hzv hi2 hi3 hzs hpos ⟨g, 0, none⟩ rows.length c us1 l1 holds ⟨g2, p2, none⟩ rows2.length c2 us2 l2 hnews (by omega) h63 hbd
      obtain ⟨g', c', arr', rfl, hg', hh', hnc', hcm', hsz', hR⟩ := own_new hown hgr hb hs hlen l1 hone r1 r2 (by omega)
      rw [append_run ho hux (huz.trans e2) hrun]
      obtain ⟨b1', e1'⟩ := hb.upd (w' := w') (hu g' c') hgr.os hgr.tape hgr.output hgr.size (.inr hg') (fun k hk _ => hgr.block k hk (by simp)) (fun k hk => World.cell?_of_block (w := w) (a := ⟨g, k, none⟩) (hgr.block g (hb.get (hu 0 0).mem).lt (by simp))) (fun _ => ⟨arr', hh', by omega, hcm', hsz'⟩)
      refine hK _ _ _ _ ⟨g', c', rfl, rfl⟩ (.tip (Rep.new_row hh' hlen hnc' hcm' hs (fun k x hk => ⟨(hR k x hk).1.ext e1', (hR k x hk).2⟩) fun k hk q hq he => ?_)) b1' e1'
      obtain ⟨xb, hxb, rfl⟩ := mem_zones.1 hq
      have := b1'.ne (hu g' c').mem' hxb he
      subst this
      simp only [Blk.from_, hlen]; exact hk
theorem OpW.app_tip {e : TypeId} {s1 b1 s2 b2 g c n : Nat} {d2 : TypeDesc} {zs : List Value} {cs : List A} {rows rows2 : List (List A)} {B : Nat → Nat → BS} [h1 : TI P ty (.slice e) s1 b1] [h2 : TI P e d2 s2 b2] [hz : TC P e zs cs] (ho : o.op = .call { callee := .builtin .append, args := #[x, z], argTypes := #[ty, ty] })
    (hx : Wk (evA t x) (.tip g c rows)) (hy : Wk (evA t z) (.sl rows2)) (hu : ∀ g' c', BUpd bs g (.tip n c s2 e) g' (.tip (rows ++ rows2).length c' s2 e) (B g' c')) (hn : rows.length = n) (hzl : cs.length = s2) (hpos : 0 < s2) (hb2 : 0 < b2) (hs : ∀ r ∈ rows ++ rows2, r.length = s2) (hp : 0 < rows2.length) (hbd : (rows.length + rows2.length) * b2 ≤ 140737488355328) :
    OpW P o t bs fun y bs' => ∃ g c, y = .tip g c (rows ++ rows2) ∧ bs' = B g c := OpW.app_tipR ho (fun _ _ _ h => h.wk hx) hy hu hn hzl hpos hb2 hs hp hbd
end
end Go.Proofs.Ytnkkfmnpkgjabaa.X
