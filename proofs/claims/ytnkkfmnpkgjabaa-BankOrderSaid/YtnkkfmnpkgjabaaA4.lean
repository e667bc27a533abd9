/- The same logic: what reads memory; rows. -/
import Derived.Test.YtnkkfmnpkgjabaaA3
namespace Go.Proofs.Ytnkkfmnpkgjabaa.X
open Go.RowKit
set_option linter.unusedVariables false
set_option linter.unusedSimpArgs false

def sizeN (P : Program) (t : TypeId) : Nat := ((P.info? t).map (·.size)).getD 0
def rowN (P : Program) (t : TypeId) : Bool := match P.underlying t with
  | some d => d.isRow
  | none => true
theorem sizeN_run {P : Program} {t : TypeId} (h : (sizeN P t == 0) = false) : sizeN P t ≠ 0 ∧ ∀ w, (sizeOf t).run P w = .ok (sizeN P t) w := by
  refine ⟨by simpa using h, fun w => ?_⟩
  unfold sizeN at h ⊢
  cases hq : P.info? t with
  | none => rw [hq] at h; simp at h
  | some i => simp [sizeOf, typeInfo, hq]
/-! ### rows of cells -/
theorem flat_getA {rows : List (List A)} {sz : Nat} (h : ∀ r ∈ rows, r.length = sz) : ∀ (i k : Nat) (r : List A) (v : A), rows[i]? = some r → r[k]? = some v → rows.flatten[i * sz + k]? = some v := by
  induction rows with
  | nil => intro i k r v hi; simp at hi
  | cons x xs ih =>
    intro i k r v hi hk
    have hx := h x (by simp)
    rw [List.flatten_cons]
    cases i with
    | zero =>
      simp at hi; subst hi
      have := (List.getElem?_eq_some_iff.1 hk).1
      rw [List.getElem?_append_left (by omega)]; simpa using hk
    | succ i =>
      rw [Nat.succ_mul, List.getElem?_append_right (by omega), hx, show i * sz + sz + k - sz = i * sz + k by omega]
      exact ih (fun m hm => h m (by simp [hm])) i k r v (by simpa using hi) hk
theorem flat_lenA {rows : List (List A)} {sz : Nat} (h : ∀ r ∈ rows, r.length = sz) : rows.flatten.length = rows.length * sz := by
  induction rows with
  | nil => simp
  | cons x xs ih => rw [List.flatten_cons, List.length_append, h x (by simp), ih (fun m hm => h m (by simp [hm]))]; simp [Nat.succ_mul]; omega
theorem flat_dropA {rows : List (List A)} {sz : Nat} (h : ∀ r ∈ rows, r.length = sz) (l : Nat) : (rows.drop l).flatten = rows.flatten.drop (l * sz) := by
  induction rows generalizing l with
  | nil => simp
  | cons x xs ih =>
    cases l with
    | zero => simp
    | succ l =>
      have hx := h x (by simp)
      rw [List.drop_succ_cons, ih (fun m hm => h m (by simp [hm])), List.flatten_cons, List.drop_append, hx, show x.drop ((l + 1) * sz) = [] from List.drop_eq_nil_of_le (by rw [hx, Nat.succ_mul]; omega), List.nil_append, show (l + 1) * sz - sz = l * sz by rw [Nat.succ_mul]; omega]
theorem flat_takeA {rows : List (List A)} {sz : Nat} (h : ∀ r ∈ rows, r.length = sz) (l : Nat) : (rows.take l).flatten = rows.flatten.take (l * sz) := by
  induction rows generalizing l with
  | nil => simp
  | cons x xs ih =>
    cases l with
    | zero => simp
    | succ l =>
      have hx := h x (by simp)
      rw [List.take_succ_cons, List.flatten_cons, ih (fun m hm => h m (by simp [hm])), List.flatten_cons, List.take_append, hx, show x.take ((l + 1) * sz) = x from List.take_of_length_le (by rw [hx, Nat.succ_mul]; omega), show (l + 1) * sz - sz = l * sz by rw [Nat.succ_mul]; omega]
/-- A slice's cells, as they can be read. -/
theorem Rep.sl_cells {w : World} {Z : Zones} {u : Value} {rows : List (List A)} (h : Rep w Z u (.sl rows)) : ∃ Ad c, u = .slice Ad rows.length c ∧ rows.length ≤ c ∧ c ≤ maxLen ∧ ∃ sz g o, ∃ us : Nat → Value, (∀ r ∈ rows, r.length = sz) ∧ (0 < rows.length → Ad = some ⟨g, o, none⟩) ∧
    ∀ k x, rows.flatten[k]? = some x → w.cell? ⟨g, o + k, none⟩ = some (us k) ∧ Stable Z g (o + k) ∧ (us k).oneCell' = true ∧ Rep w Z (us k) x := by
  cases h with
  | sl hn hc hm sz g o us hs ha hcell hst h1 hr =>
    subst hn
    exact ⟨_, _, rfl, hc, hm, sz, g, o, us, hs, ha, fun k x hk => ⟨hcell k x hk, hst k x hk, h1 k x hk, hr k x hk⟩⟩
theorem Rep.ep_cells {w : World} {Z : Zones} {u : Value} {xs : List A} (h : Rep w Z u (.ep xs)) : ∃ g o, ∃ us : Nat → Value, u = .pointer (some ⟨g, o, none⟩) ∧ ∀ k x, xs[k]? = some x → w.cell? ⟨g, o + k, none⟩ = some (us k) ∧ Stable Z g (o + k) ∧ (us k).oneCell' = true ∧ Rep w Z (us k) x := by
  cases h with
  | ep us hcell hst h1 hr => exact ⟨_, _, us, rfl, fun k x hk => ⟨hcell k x hk, hst k x hk, h1 k x hk, hr k x hk⟩⟩
theorem run_load_cell {P : Program} {w : World} {a : Addr} {v : Value} (h : w.cell? a = some v) : (load a).run P w = .ok v w := by simp [load, Sem.run, h]
theorem run_loadAt_one {P : Program} {ty : TypeId} {d : TypeDesc} {sz by_ : Nat} (h : TI P ty d sz by_) (hd : d.isRow = false) {w : World} {g o : Nat} {v : Value} (hc : w.cell? ⟨g, o, none⟩ = some v) : (Instr.loadAt ty (.pointer (some ⟨g, o, none⟩))).run P w = .ok v w := by
  simp only [Instr.loadAt, Instr.sureAddr, loadVar, Sem.run_bind, Sem.run_pure, Result.andThen_ok, h.run_isAgg, hd, run_load_cell hc, Bool.false_eq_true, if_false]
theorem run_loadAt_row {P : Program} {ty : TypeId} {d : TypeDesc} {sz by_ : Nat} (h : TI P ty d sz by_) (hd : d.isRow = true) {w : World} {g o : Nat} {us : List Value} (hl : us.length = sz) (hc : w.rangeAt g o us) : (Instr.loadAt ty (.pointer (some ⟨g, o, none⟩))).run P w = .ok (.agg us.toArray) w := by
  have := run_loadVar_mid (P := P) w g o ty us d hc h.und hd (by rw [h.map_size, hl])
  simp only [Instr.loadAt, Instr.sureAddr, Sem.run_bind, Sem.run_pure, Result.andThen_ok, this]
/-- A pointer into what is read, some cells on. -/
theorem Rep.ep_drop {w : World} {Z : Zones} {g o n : Nat} {xs : List A} (h : Rep w Z (.pointer (some ⟨g, o, none⟩)) (.ep xs)) : Rep w Z (.pointer (some ⟨g, o + n, none⟩)) (.ep (xs.drop n)) := by
  cases h with
  | ep us hcell hst h1 hr =>
    refine .ep (fun k => us (n + k)) (fun k x hk => ?_) (fun k x hk => ?_) (fun k x hk => ?_) (fun k x hk => ?_)
    all_goals rw [List.getElem?_drop] at hk
    · rw [Nat.add_assoc]; exact hcell _ x hk
    · rw [Nat.add_assoc]; exact hst _ x hk
    · exact h1 _ x hk
    · exact hr _ x hk
section
variable {P : Program} {o : Oper} {t : T} {bs : BS} {y : A} {x z : Operand} {ty ty2 : TypeId} {d : TypeDesc} {sz by_ : Nat}
/-- 'load' of one cell. -/
theorem OpQ.load_ep {xs : List A} [h1 : TI P ty d sz by_] (ho : o.op = .load ty x) (hx : Wk (evA t x) (.ep xs)) (hd : d.isRow = false) (hy : xs[0]? = some y) : OpQ P o t bs y :=
  .of_run fun a w h hb => by
    obtain ⟨g, p, us, e, hc⟩ := (op_rep h (x := x) (by simp [ho, Op.operands]) hx).ep_cells
    obtain ⟨c1, _, _, c2⟩ := hc 0 y hy
    rw [Nat.add_zero] at c1
    exact ⟨us 0, by simp only [execOp, ho, e, Sem.run_bind, run_loadAt_one h1 hd c1, Result.andThen_ok, Sem.run_pure], c2⟩
theorem OpQ.load_ptr {g p : Nat} {cs : List A} [h1 : TI P ty d sz by_] (ho : o.op = .load ty x) (hx : Wk (evA t x) (.ptr g p)) (hm : (g, .cells cs) ∈ bs) (hd : d.isRow = false) (hy : cs[p]? = some y) : OpQ P o t bs y :=
  .of_run fun a w h hb => by
    have e := (op_rep h (x := x) (by simp [ho, Op.operands]) hx).ptr_inv
    obtain ⟨arr, l, hc, _, hr⟩ := blk_range (hb.get hm)
    have hp : p < arr.size := by rw [l]; exact (List.getElem?_eq_some_iff.1 hy).1
    have h0 : arr[p]? = some (arr.getD p undef) := by simp [hp]
    exact ⟨arr.getD p undef, by simp only [execOp, ho, e, Sem.run_bind, run_loadAt_one h1 hd ((hc p).trans h0), Result.andThen_ok, Sem.run_pure], (hr p y hy).1⟩
/-- 'load' of a row. -/
theorem OpQ.loads_ep {xs : List A} [h1 : TI P ty d sz by_] (ho : o.op = .load ty x) (hx : Wk (evA t x) (.ep xs)) (hd : d.isRow = true) (hl : sz ≤ xs.length) : OpQ P o t bs (.agg (xs.take sz)) :=
  .of_run fun a w h hb => by
    obtain ⟨g, p, us, e, hc⟩ := (op_rep h (x := x) (by simp [ho, Op.operands]) hx).ep_cells
    have hin : ∀ k, k < sz → ∃ y, xs[k]? = some y := fun k hk => ⟨_, List.getElem?_eq_getElem (by omega)⟩
    refine ⟨.agg ((List.range sz).map us).toArray, ?_, .agg (by simp; omega) (fun k y hk => ?_) (fun k y hk => ?_)⟩
    · have hr : w.rangeAt g p ((List.range sz).map us) := fun j v hj => by
        simp only [List.getElem?_map, Option.map_eq_some_iff] at hj
        obtain ⟨i, hi, rfl⟩ := hj
        obtain ⟨hlt, rfl⟩ := List.getElem?_eq_some_iff.1 hi
        simp at hlt
        obtain ⟨y, hy⟩ := hin j hlt
        simpa using (hc j y hy).1
      simp only [execOp, ho, e, Sem.run_bind, run_loadAt_row h1 hd (by simp) hr, Result.andThen_ok, Sem.run_pure]
    all_goals
      have hlt : k < sz := by have := (List.getElem?_eq_some_iff.1 hk).1; simp at this; omega
      rw [List.getElem?_take_of_lt hlt] at hk
      rw [show ((List.range sz).map us).toArray.getD k undef = us k by simp [hlt]]
    · exact (hc k y hk).2.2.2
    · exact (hc k y hk).2.2.1
theorem OpQ.loads_ep_all {xs : List A} [h1 : TI P ty d sz by_] (ho : o.op = .load ty x) (hx : Wk (evA t x) (.ep xs)) (hd : d.isRow = true) (hl : xs.length = sz) : OpQ P o t bs (.agg xs) := by
  have := OpQ.loads_ep (P := P) (bs := bs) ho hx hd (Nat.le_of_eq hl.symm)
  rwa [List.take_of_length_le (Nat.le_of_eq hl)] at this
theorem OpQ.loads_ptr {g p : Nat} {cs : List A} [h1 : TI P ty d sz by_] (ho : o.op = .load ty x) (hx : Wk (evA t x) (.ptr g p)) (hm : (g, .cells cs) ∈ bs) (hd : d.isRow = true) (hl : p + sz ≤ cs.length) : OpQ P o t bs (.agg ((cs.drop p).take sz)) :=
  .of_run fun a w h hb => by
    have e := (op_rep h (x := x) (by simp [ho, Op.operands]) hx).ptr_inv
    obtain ⟨arr, l, hc, _, hr⟩ := blk_range (hb.get hm)
    refine ⟨.agg ((arr.toList.drop p).take sz).toArray, ?_, .agg (by simp; omega) (fun k y hk => ?_) (fun k y hk => ?_)⟩
    · have hr : w.rangeAt g p ((arr.toList.drop p).take sz) := fun j v hj => by
        have hlt : j < sz := by have := (List.getElem?_eq_some_iff.1 hj).1; simp at this; omega
        rw [List.getElem?_take_of_lt hlt, List.getElem?_drop] at hj
        rw [hc]; simpa using hj
      simp only [execOp, ho, e, Sem.run_bind, run_loadAt_row h1 hd (by simp; omega) hr, Result.andThen_ok, Sem.run_pure]
    all_goals
      have hlt : k < sz := by have := (List.getElem?_eq_some_iff.1 hk).1; simp at this; omega
      rw [List.getElem?_take_of_lt hlt, List.getElem?_drop] at hk
      have hp : p + k < arr.size := by omega
      rw [show ((arr.toList.drop p).take sz).toArray.getD k undef = arr.getD (p + k) undef by simp [List.getElem?_take_of_lt hlt, hp]]
    · exact (hr _ y hk).1
    · exact (hr _ y hk).2
theorem OpQ.loads_ptr_all {g : Nat} {cs : List A} [h1 : TI P ty d sz by_] (ho : o.op = .load ty x) (hx : Wk (evA t x) (.ptr g 0)) (hm : (g, .cells cs) ∈ bs) (hd : d.isRow = true) (hl : cs.length = sz) : OpQ P o t bs (.agg cs) := by
  have := OpQ.loads_ptr (P := P) (bs := bs) ho hx hm hd (by omega)
  rwa [List.drop_zero, List.take_of_length_le (Nat.le_of_eq hl)] at this
/-- 'fieldAddr'. -/
theorem run_fieldAt {fs : Array Field} {f : Nat} {fld : Field} (h1 : TI P ty (.struct fs) sz by_) (hf : fs[f]? = some fld) (h2 : (sizeN P fld.type == 0) = false) (g p : Nat) (w : World) :
    (Instr.fieldAt ty (.pointer (some ⟨g, p, none⟩)) f).run P w = .ok (.pointer (some ⟨g, p + fld.offset, none⟩)) w := by
  obtain ⟨h0, hr⟩ := sizeN_run h2
  simp only [Instr.fieldAt, Sem.run_bind, h1.run_und, Result.andThen_ok, hf, Instr.sureAddr, Sem.run_pure, fieldPlace, hr, h0, if_false, Addr.add_mid]
theorem OpQ.field_ptr {fs : Array Field} {f g p q k : Nat} {fld : Field} [h1 : TI P ty (.struct fs) sz by_] (ho : o.op = .fieldAddr ty x f) (hx : Wk (evA t x) (.ptr g p)) (hf : fs[f]? = some fld) (h2 : (sizeN P fld.type == 0) = false) (hk : fld.offset = k) (hq : p + k = q) : OpQ P o t bs (.ptr g q) :=
  .of_run fun a w h hb => by
    have e := (op_rep h (x := x) (by simp [ho, Op.operands]) hx).ptr_inv
    subst hk; subst hq
    exact ⟨.pointer (some ⟨g, p + fld.offset, none⟩), by simp only [execOp, ho, e, Sem.run_bind, run_fieldAt h1 hf h2, Result.andThen_ok, Sem.run_pure], .ptr⟩
theorem OpQ.field_ep {fs : Array Field} {f k : Nat} {xs ys : List A} {fld : Field} [h1 : TI P ty (.struct fs) sz by_] (ho : o.op = .fieldAddr ty x f) (hx : Wk (evA t x) (.ep xs)) (hf : fs[f]? = some fld) (h2 : (sizeN P fld.type == 0) = false) (hk : fld.offset = k) (hq : xs.drop k = ys) : OpQ P o t bs (.ep ys) :=
  .of_run fun a w h hb => by
    have hr := op_rep h (x := x) (by simp [ho, Op.operands]) hx
    obtain ⟨g, p, e⟩ := hr.ep_inv
    rw [e] at hr
    subst hk; subst hq
    exact ⟨.pointer (some ⟨g, p + fld.offset, none⟩), by simp only [execOp, ho, e, Sem.run_bind, run_fieldAt h1 hf h2, Result.andThen_ok, Sem.run_pure], hr.ep_drop⟩
theorem run_isAggN {t : TypeId} {d : TypeDesc} (h : P.underlying t = some d) (w : World) : (isAgg t).run P w = .ok d.isRow w := by
  unfold isAgg
  simp only [Sem.run_bind, run_underlying h, Result.andThen_ok]
  cases d <;> simp [TypeDesc.isRow]
theorem part_oneN {t : TypeId} (h : rowN P t = false) (cs : Array Value) (off : Nat) (v : Value) (hv : cs[off]? = some v) (w : World) : (part t cs off).run P w = .ok v w := by
  unfold rowN at h
  cases hu : P.underlying t with
  | none => rw [hu] at h; cases h
  | some d =>
    rw [hu] at h
    unfold part
    simp only at h
    simp [Sem.run_bind, run_isAggN hu, h, hv]
theorem part_rowN {t : TypeId} (h : (rowN P t && (P.underlying t).isSome) = true) (h0 : (sizeN P t == 0) = false) (cs : Array Value) (off : Nat) (w : World) : (part t cs off).run P w = .ok (.agg (cs.extract off (off + sizeN P t))) w := by
  unfold rowN at h
  cases hu : P.underlying t with
  | none => rw [hu] at h; simp at h
  | some d =>
    rw [hu] at h
    unfold part
    simp at h
    simp [Sem.run_bind, run_isAggN hu, h, (sizeN_run h0).2]
/-- 'field' of a struct's value. -/
theorem OpQ.field_one {fs : Array Field} {f k : Nat} {xs : List A} {fld : Field} [h1 : TI P ty (.struct fs) sz by_] (ho : o.op = .field ty x f) (hx : Wk (evA t x) (.agg xs)) (hf : fs[f]? = some fld) (h2 : rowN P fld.type = false) (hk : fld.offset = k) (hy : xs[k]? = some y) : OpQ P o t bs y :=
  .of_run fun a w h hb => by
    subst hk
    have hr := op_rep h (x := x) (by simp [ho, Op.operands]) hx
    generalize hu : a.eval x = u at hr
    cases hr with
    | @agg us _ l hr h1' =>
      have hlt : fld.offset < us.size := by rw [l]; exact (List.getElem?_eq_some_iff.1 hy).1
      have hg : us[fld.offset]? = some (us.getD fld.offset undef) := by simp [hlt]
      exact ⟨us.getD fld.offset undef, by simp only [execOp, ho, hu, Instr.field, Sem.run_bind, h1.run_und, Result.andThen_ok, hf, asAgg, Sem.run_pure, part_oneN h2 us fld.offset _ hg], hr _ y hy⟩
theorem OpQ.field_row {fs : Array Field} {f k : Nat} {xs ys : List A} {fld : Field} {s2 : Nat} [h1 : TI P ty (.struct fs) sz by_] (ho : o.op = .field ty x f) (hx : Wk (evA t x) (.agg xs)) (hf : fs[f]? = some fld) (h2 : (rowN P fld.type && (P.underlying fld.type).isSome) = true) (h0 : (sizeN P fld.type == 0) = false) (hs : sizeN P fld.type = s2) (hk : fld.offset = k) (hl : k + s2 ≤ xs.length) (hy : (xs.drop k).take s2 = ys) : OpQ P o t bs (.agg ys) :=
  .of_run fun a w h hb => by
    subst hs; subst hk; subst hy
    have hr := op_rep h (x := x) (by simp [ho, Op.operands]) hx
    generalize hu : a.eval x = u at hr
    cases hr with
    | @agg us _ l hr h1' =>
      refine ⟨.agg (us.extract fld.offset (fld.offset + sizeN P fld.type)), by simp only [execOp, ho, hu, Instr.field, Sem.run_bind, h1.run_und, Result.andThen_ok, hf, asAgg, Sem.run_pure, part_rowN h2 h0 us fld.offset], .agg (by simp; omega) (fun k y hk => ?_) (fun k y hk => ?_)⟩
      all_goals
        have hlt : k < sizeN P fld.type := by have := (List.getElem?_eq_some_iff.1 hk).1; simp at this; omega
        rw [List.getElem?_take_of_lt hlt, List.getElem?_drop] at hk
        have hp : fld.offset + k < us.size := by omega
        rw [show (us.extract fld.offset (fld.offset + sizeN P fld.type)).getD k undef = us.getD (fld.offset + k) undef by simp only [Array.getD_eq_getD_getElem?, Array.getElem?_extract]; rw [if_pos (by omega)]]
      · exact hr _ y hk
      · exact h1' _ y hk
/-- 'indexAddr' of a slice that is read. -/
theorem OpQ.idx_sl {e : TypeId} {k : IntKind} {i : Int} {rows : List (List A)} {row : List A} {s1 b1 : Nat} {d2 : TypeDesc} {s2 b2 : Nat} [h1 : TI P ty (.slice e) s1 b1] [h2 : TI P e d2 s2 b2] (ho : o.op = .indexAddr ty x z) (hx : Wk (evA t x) (.sl rows)) (hz : Wk (evA t z) (.v (.int k i))) (h0 : 0 ≤ i) (hr : rows[i.toNat]? = some row) (hl : row.length = s2) : OpQ P o t bs (.ep row) :=
  .of_run fun a w h hb => by
    obtain ⟨Ad, c, e1, hc, hm, sz, g, p, us, hs, ha, hcell⟩ := (op_rep h (x := x) (by simp [ho, Op.operands]) hx).sl_cells
    have e2 := (op_rep h (x := z) (by simp [ho, Op.operands]) hz).val
    have hlt := (List.getElem?_eq_some_iff.1 hr).1
    have hsz : sz = s2 := by rw [← hl]; exact (hs row (List.mem_of_getElem? hr)).symm
    subst hsz
    rw [ha (by omega)] at e1
    have hin : 0 ≤ i ∧ i < (rows.length : Int) := by omega
    refine ⟨.pointer (some ⟨g, p + i.toNat * sz, none⟩), ?_, .ep (fun q => us (i.toNat * sz + q)) (fun q v hq => ?_) (fun q v hq => ?_) (fun q v hq => ?_) (fun q v hq => ?_)⟩
    · simp only [execOp, ho, e1, e2, Instr.indexAt, asIntOf, Sem.run_bind, Sem.run_pure, Result.andThen_ok, h1.run_und, hin, and_self, if_true, h2.sizeOf_, Addr.add_mid]
    all_goals have hf := hcell _ v (flat_getA hs i.toNat q row v hr hq)
    · rw [Nat.add_assoc]; exact hf.1
    · rw [Nat.add_assoc]; exact hf.2.1
    · exact hf.2.2.1
    · exact hf.2.2.2
/-- 'indexAddr' of an array of one's own. -/
theorem OpQ.idx_arr {e : TypeId} {k : IntKind} {i : Int} {n g p : Nat} {s1 b1 : Nat} {d2 : TypeDesc} {s2 b2 : Nat} [h1 : TI P ty (.array n e) s1 b1] [h2 : TI P e d2 s2 b2] (ho : o.op = .indexAddr ty x z) (hx : Wk (evA t x) (.ptr g p)) (hz : Wk (evA t z) (.v (.int k i))) (h0 : 0 ≤ i ∧ i < n) : OpQ P o t bs (.ptr g (p + i.toNat * s2)) :=
  .of_run fun a w h hb => by
    have e1 := (op_rep h (x := x) (by simp [ho, Op.operands]) hx).ptr_inv
    have e2 := (op_rep h (x := z) (by simp [ho, Op.operands]) hz).val
    refine ⟨.pointer (some ⟨g, p + i.toNat * s2, none⟩), ?_, .ptr⟩
    simp only [execOp, ho, e1, e2, Instr.indexAt, Instr.sureAddr, asIntOf, Sem.run_bind, Sem.run_pure, Result.andThen_ok, h1.run_und, h0, and_self, if_true, h2.sizeOf_, Addr.add_mid]
/-- 'indexAddr' of an array in what is read. -/
theorem OpQ.idx_ep {e : TypeId} {k : IntKind} {i : Int} {n : Nat} {xs : List A} {s1 b1 : Nat} {d2 : TypeDesc} {s2 b2 : Nat} [h1 : TI P ty (.array n e) s1 b1] [h2 : TI P e d2 s2 b2] (ho : o.op = .indexAddr ty x z) (hx : Wk (evA t x) (.ep xs)) (hz : Wk (evA t z) (.v (.int k i))) (h0 : 0 ≤ i ∧ i < n) : OpQ P o t bs (.ep (xs.drop (i.toNat * s2))) :=
  .of_run fun a w h hb => by
    have hr := op_rep h (x := x) (by simp [ho, Op.operands]) hx
    obtain ⟨g, p, e1⟩ := hr.ep_inv
    rw [e1] at hr
    have e2 := (op_rep h (x := z) (by simp [ho, Op.operands]) hz).val
    refine ⟨.pointer (some ⟨g, p + i.toNat * s2, none⟩), ?_, hr.ep_drop⟩
    simp only [execOp, ho, e1, e2, Instr.indexAt, Instr.sureAddr, asIntOf, Sem.run_bind, Sem.run_pure, Result.andThen_ok, h1.run_und, h0, and_self, if_true, h2.sizeOf_, Addr.add_mid]
theorem Rep.ms_inv {w : World} {Z : Zones} {u : Value} {g off len cap : Nat} (h : Rep w Z u (.ms g off len cap)) : u = .slice (some ⟨g, off, none⟩) len cap := by cases h; rfl
/-- 'indexAddr' of a slice of one's own. -/
theorem OpQ.idx_ms {e : TypeId} {k : IntKind} {i : Int} {g p len cap : Nat} {s1 b1 : Nat} {d2 : TypeDesc} {s2 b2 : Nat} [h1 : TI P ty (.slice e) s1 b1] [h2 : TI P e d2 s2 b2] (ho : o.op = .indexAddr ty x z) (hx : Wk (evA t x) (.ms g p len cap)) (hz : Wk (evA t z) (.v (.int k i))) (h0 : 0 ≤ i ∧ i < len) : OpQ P o t bs (.ptr g (p + i.toNat * s2)) :=
  .of_run fun a w h hb => by
    have e1 := (op_rep h (x := x) (by simp [ho, Op.operands]) hx).ms_inv
    have e2 := (op_rep h (x := z) (by simp [ho, Op.operands]) hz).val
    refine ⟨.pointer (some ⟨g, p + i.toNat * s2, none⟩), ?_, .ptr⟩
    simp only [execOp, ho, e1, e2, Instr.indexAt, asIntOf, Sem.run_bind, Sem.run_pure, Result.andThen_ok, h1.run_und, h0, and_self, if_true, h2.sizeOf_, Addr.add_mid]
/-- 'len'. -/
theorem OpQ.len_sl {e : TypeId} {rows : List (List A)} {s1 b1 : Nat} [h1 : TI P ty (.slice e) s1 b1] (ho : o.op = .call { callee := .builtin .len, args := #[x], argTypes := #[ty] }) (hx : Wk (evA t x) (.sl rows)) : OpQ P o t bs (.v (.int .i64 rows.length)) :=
  .of_run fun a w h hb => by
    obtain ⟨Ad, c, e1, _⟩ := (op_rep h (x := x) (by simp [ho, Op.operands, Call.operands]) hx).sl_cells
    exact ⟨_, by simp [execOp, ho, e1, resolve, invoke, builtin, Builtin.len_, Sem.run_bind, h1.run_und, goInt], .v rfl⟩
theorem OpQ.len_map {α : Type} {e : TypeId} {xs : List α} {enc : α → List A} {s1 b1 : Nat} [h1 : TI P ty (.slice e) s1 b1] (ho : o.op = .call { callee := .builtin .len, args := #[x], argTypes := #[ty] }) (hx : Wk (evA t x) (.sl (xs.map enc))) : OpQ P o t bs (.v (.int .i64 xs.length)) := by
  have := OpQ.len_sl (P := P) (bs := bs) ho hx
  rwa [List.length_map] at this
theorem OpQ.len_ms {e : TypeId} {g p len cap : Nat} {s1 b1 : Nat} [h1 : TI P ty (.slice e) s1 b1] (ho : o.op = .call { callee := .builtin .len, args := #[x], argTypes := #[ty] }) (hx : Wk (evA t x) (.ms g p len cap)) : OpQ P o t bs (.v (.int .i64 len)) :=
  .of_run fun a w h hb => by
    have e1 := (op_rep h (x := x) (by simp [ho, Op.operands, Call.operands]) hx).ms_inv
    exact ⟨_, by simp [execOp, ho, e1, resolve, invoke, builtin, Builtin.len_, Sem.run_bind, h1.run_und, goInt], .v rfl⟩
/-- 'min', 'max' of two numbers. -/
theorem OpQ.maxI {k : IntKind} {a b : Int} {tys : Array TypeId} (ho : o.op = .call { callee := .builtin .max, args := #[x, z], argTypes := tys }) (hx : Wk (evA t x) (.v (.int k a))) (hz : Wk (evA t z) (.v (.int k b))) : OpQ P o t bs (.v (.int k (max a b))) :=
  .of_run fun ac w h hb => by
    have e1 := (op_rep h (x := x) (by simp [ho, Op.operands, Call.operands]) hx).val
    have e2 := (op_rep h (x := z) (by simp [ho, Op.operands, Call.operands]) hz).val
    refine ⟨_, ?_, .v rfl⟩
    rw [show max a b = if b > a then b else a by simp only [Int.max_def]; split <;> split <;> omega]
    simp [execOp, ho, e1, e2, resolve, invoke, builtin, Builtin.max_, Builtin.max2, Sem.run_bind]
theorem OpQ.minI {k : IntKind} {a b : Int} {tys : Array TypeId} (ho : o.op = .call { callee := .builtin .min, args := #[x, z], argTypes := tys }) (hx : Wk (evA t x) (.v (.int k a))) (hz : Wk (evA t z) (.v (.int k b))) : OpQ P o t bs (.v (.int k (min a b))) :=
  .of_run fun ac w h hb => by
    have e1 := (op_rep h (x := x) (by simp [ho, Op.operands, Call.operands]) hx).val
    have e2 := (op_rep h (x := z) (by simp [ho, Op.operands, Call.operands]) hz).val
    refine ⟨_, ?_, .v rfl⟩
    rw [show min a b = if b < a then b else a by simp only [Int.min_def]; split <;> split <;> omega]
    simp [execOp, ho, e1, e2, resolve, invoke, builtin, Builtin.min_, Builtin.min2, Sem.run_bind]
end
end Go.Proofs.Ytnkkfmnpkgjabaa.X
