/- The same logic: texts and bytes, structs that are built; what one's own becomes once it is read only. -/
import Derived.Test.YtnkkfmnpkgjabaaA9
import Derived.Lib.ConvBytes
import Derived.Laws.BytesString
namespace Go.Proofs.Ytnkkfmnpkgjabaa.X
open Go.RowKit
set_option linter.unusedVariables false
set_option linter.unusedSimpArgs false

section
variable {P : Program} {o : Oper} {t : T} {bs : BS} {y : A} {x z : Operand} {ty ty2 : TypeId} {d : TypeDesc} {sz by_ : Nat}
theorem OpQ.idx_map {α : Type} {e : TypeId} {k : IntKind} {i : Int} {xs : List α} {enc : α → List A} {q : α} {s1 b1 : Nat} {d2 : TypeDesc} {s2 b2 : Nat} [h1 : TI P ty (.slice e) s1 b1] [h2 : TI P e d2 s2 b2] (ho : o.op = .indexAddr ty x z) (hx : Wk (evA t x) (.sl (xs.map enc))) (hz : Wk (evA t z) (.v (.int k i))) (h0 : 0 ≤ i) (hr : xs[i.toNat]? = some q) (hl : (enc q).length = s2) : OpQ P o t bs (.ep (enc q)) :=
  .idx_sl ho hx hz h0 (by rw [List.getElem?_map, hr]; rfl) hl
/-! ### texts and bytes -/
theorem flat_bytes (l : List UInt8) : (l.map byteRow).flatten = l.map fun b => A.v (.int .u8 b.toNat) := by
  induction l with
  | nil => rfl
  | cons b r ih => rw [List.map_cons, List.flatten_cons, ih]; rfl
theorem OpQ.to_bytes {e : TypeId} {s : ByteArray} {s1 b1 s2 b2 s3 b3 : Nat} [h1 : TI P ty .string s1 b1] [h2 : TI P ty2 (.slice e) s2 b2] [h3 : TI P e (.int .u8) s3 b3] (ho : o.op = .convert ty ty2 x) (hx : Wk (evA t x) (.v (.string s))) (hs : s.size ≤ 140737488355328) : OpQ P o t bs (.sl (s.data.toList.map byteRow)) := by
  intro a w h hb K Q hK
  have e1 := (op_rep h (x := x) (by simp [ho, Op.operands]) hx).val
  have hrun := Lib.run_convert_string_bytes (P := P) w ty ty2 e s h1.und h2.und h3.und
  obtain ⟨b1', e1'⟩ := hb.keep (w' := Lib.bytesWorld w e s) (by unfold Lib.bytesWorld World.freeze; rw [if_neg (by decide)]; rfl) (by unfold Lib.bytesWorld World.freeze; rw [if_neg (by decide)]; rfl) (by unfold Lib.bytesWorld World.freeze; rw [if_neg (by decide)]; rfl) (by rw [Lib.bytesWorld_size]; omega) (Lib.bytesWorld_at_old w e s)
  unfold Oper.wp
  rw [show (execOp a.eval o).run P w = .ok (.value (.slice (some ⟨w.heap.size, 0, none⟩) s.size (grownCap w s.size 0 e))) (Lib.bytesWorld w e s) by simp only [execOp, ho, e1, Sem.run_bind, hrun, Result.andThen_ok, Sem.run_pure]]
  refine hK _ _ (Rep.new_row (Lib.bytesWorld_at_new w e s) (by simp) (grownCap_ge _ _ _ _) (grownCap_le_maxLen _ _ _ _ (by unfold maxLen; omega)) (sz := 1) (fun r hr => by obtain ⟨b, _, rfl⟩ := List.mem_map.1 hr; rfl) (fun k q hk => ?_) (fun k _ => stable_new hb (Nat.le_refl _))) b1' e1'
  rw [flat_bytes, List.getElem?_map, Option.map_eq_some_iff] at hk
  obtain ⟨b, hb2, rfl⟩ := hk
  have hlt : k < s.data.size := by simpa using (List.getElem?_eq_some_iff.1 hb2).1
  have hg : (Lib.bytesCells w e s)[k]? = some (.int .u8 b.toNat) := by
    unfold Lib.bytesCells
    rw [Array.getElem?_append_left (by simpa using hlt)]
    simp only [Array.getElem?_toList] at hb2
    simp [hb2]
  have hk2 : k < (Lib.bytesCells w e s).size := (Array.getElem?_eq_some_iff.1 hg).1
  rw [show (Lib.bytesCells w e s).getD k undef = .int .u8 b.toNat by simp [hg]]
  exact ⟨.v rfl, rfl, hk2⟩
theorem fold_bytes : ∀ (l : List UInt8) (s : ByteArray), (l.map fun b => ((b.toNat : Nat) : Int)).foldl (fun r n => r.push (UInt8.ofNat n.toNat)) s = ⟨s.data ++ l.toArray⟩
  | [], s => by simp
  | b :: l, s => by
    rw [List.map_cons, List.foldl_cons, fold_bytes l]
    show (⟨s.data.push (UInt8.ofNat ((b.toNat : Int)).toNat) ++ l.toArray⟩ : ByteArray) = _
    rw [Int.toNat_natCast, UInt8.ofNat_toNat]
    congr 1
    simp
theorem OpQ.of_bytes {e : TypeId} {l : List UInt8} {s1 b1 s2 b2 s3 b3 : Nat} [h1 : TI P ty (.slice e) s1 b1] [h2 : TI P ty2 .string s2 b2] [h3 : TI P e (.int .u8) s3 b3] (ho : o.op = .convert ty ty2 x) (hx : Wk (evA t x) (.sl (l.map byteRow))) : OpQ P o t bs (.v (.string ⟨l.toArray⟩)) :=
  .of_run fun a w h hb => by
    obtain ⟨Ad, c, us, e1, hl, _, ha, hr⟩ := (op_rep h (x := x) (by simp [ho, Op.operands]) hx).sl_list (sz := 1) (fun r hr => by obtain ⟨b, _, rfl⟩ := List.mem_map.1 hr; rfl)
    rw [List.length_map] at e1 hl
    have hus : us = l.map fun b => Value.int .u8 b.toNat := by
      apply List.ext_getElem?
      intro k
      by_cases hk : k < l.length
      · have hx2 : ((l.map byteRow).flatten)[k]? = some (.v (.int .u8 l[k].toNat)) := by rw [flat_bytes]; simp [hk]
        have := (hr k _ hx2).val
        have hk2 : k < us.length := by omega
        rw [List.getElem?_eq_getElem hk2, List.getElem?_map, List.getElem?_eq_getElem hk]
        rw [List.getD_eq_getElem?_getD, List.getElem?_eq_getElem hk2] at this
        simpa using this
      · rw [List.getElem?_eq_none (by omega), List.getElem?_eq_none (by simp; omega)]
    refine ⟨_, ?_, .v rfl⟩
    rcases Nat.eq_zero_or_pos l.length with h0 | hp
    · have : l = [] := List.eq_nil_of_length_eq_zero h0
      subst this
      simp only [execOp, ho, e1, Sem.run_bind, run_convert_bytes_string w ty ty2 e Ad _ c h1.und h3.und h2.und]
      cases Ad with
      | none => simp [Conv.bytesToString]; rfl
      | some ad => rw [List.length_nil, run_bytesToString w ad 0 c [] (by simp [loadCells, loadCellsFrom])]; rfl
    · obtain ⟨g, p, rfl, hc⟩ := ha (by simpa using hp)
      have hld := run_loadCells_list (P := P) w ⟨g, p, none⟩ us (fun j v hj => by rw [Addr.add_mid]; exact hc j v hj)
      rw [hus] at hld
      simp only [List.length_map] at hld
      have := run_bytesToString (P := P) w ⟨g, p, none⟩ l.length c (l.map fun b => ((b.toNat : Nat) : Int)) (by rw [hld]; simp [Function.comp_def])
      rw [fold_bytes] at this
      simp only [execOp, ho, e1, Sem.run_bind, run_convert_bytes_string w ty ty2 e _ _ c h1.und h3.und h2.und, this, Result.andThen_ok, Sem.run_pure]
      simp [ByteArray.empty, ByteArray.emptyWithCapacity]
      rfl
/-! ### 'build' -/
/-- Parts of a struct's value are laid over its zero. -/
inductive Bld (P : Program) (t : T) (pl : Nat → Option (Nat × Nat)) : List (Nat × Operand) → List A → List A → Prop where
  | nil (cs : List A) : Bld P t pl [] cs cs
  | cons {i off s : Nat} {x : Operand} {y : A} {r : List (Nat × Operand)} {cs cs1 cs' : List A} (hp : pl i = some (off, s)) (h : Wk (evA t x) y) (hc : y.isCell = true ∨ ∃ xs, y = .agg xs) (hl : (cellsOf y).length = s) (hb : off + s ≤ cs.length) (hcs : spl cs off (cellsOf y) = cs1) (k : Bld P t pl r cs1 cs') : Bld P t pl ((i, x) :: r) cs cs'
theorem Bld.run {pl : Nat → Option (Nat × Nat)} {r : List (Nat × Operand)} {cs cs' : List A} (h : Bld P t pl r cs cs') {a : Act} {w : World} {arr : Array Value} (hx : ∀ q ∈ r, Rep w (zones bs) (a.eval q.2) (evA t q.2)) (hr : CellsRep w (zones bs) arr cs) :
    ∃ arr', Instr.fill pl arr (r.map fun q => (q.1, a.eval q.2)) = some arr' ∧ CellsRep w (zones bs) arr' cs' := by
  induction h generalizing arr with
  | nil => exact ⟨arr, rfl, hr⟩
  | @cons i off s x y r cs cs1 cs' hp h hc hl hb hcs k ih =>
    subst hcs
    obtain ⟨l, hcell⟩ := ((hx (i, x) (by simp)).wk h).cells hc
    simp only at l hcell
    have hf : (a.eval x).cells.zipIdx.foldl (fun cs (q : Value × Nat) => match q with | (c, j) => cs.setIfInBounds (off + j) c) arr = (spl arr.toList off (a.eval x).cells.toList).toArray := by
      have : (a.eval x).cells.zipIdx.foldl (fun cs q => cs.setIfInBounds (off + q.2) q.1) arr = (spl arr.toList off (a.eval x).cells.toList).toArray := by
        rw [← Array.foldl_toList, Array.toList_zipIdx, fill_listA _ off 0 arr, Nat.add_zero]
      exact this
    rw [List.map_cons, Instr.fill]
    simp only [hp]
    rw [if_neg (by simp [l, hl]; have := hr.1; omega), hf]
    refine ih (fun q hq => hx q (by simp [hq])) ⟨by simp [spl_len, hr.1], fun k q hk => ?_⟩
    rw [spl_get _ cs off k (by omega)] at hk
    have hget : (spl arr.toList off (a.eval x).cells.toList).toArray.getD k undef = if off ≤ k ∧ k < off + (cellsOf y).length then (a.eval x).cells.getD (k - off) undef else arr.getD k undef := by
      simp only [Array.getD_eq_getD_getElem?, List.getElem?_toArray]
      rw [spl_get _ arr.toList off k (by simp [l]; have := hr.1; omega)]
      simp only [Array.length_toList, l]
      split <;> simp
    rw [hget]
    split at hk
    · rename_i hin; rw [if_pos hin]; exact hcell _ q hk
    · rename_i hout; rw [if_neg hout]; exact hr.2 k q hk
theorem CellsRep.agg {w : World} {Z : Zones} {arr : Array Value} {cs : List A} (h : CellsRep w Z arr cs) : Rep w Z (.agg arr) (.agg cs) := .agg h.1 (fun k x hk => (h.2 k x hk).1) fun k x hk => (h.2 k x hk).2
def plS (P : Program) (fs : Array Field) (i : Nat) : Option (Nat × Nat) := (fs[i]?).map fun f => (f.offset, sizeN P f.type)
theorem run_places (fs : Array Field) (h : fs.all (fun f => (P.info? f.type).isSome) = true) (w : World) : (fs.mapM fun f => (do pure (f.offset, ← sizeOf f.type) : Sem (Nat × Nat))).run P w = .ok (fs.map fun f => (f.offset, sizeN P f.type)) w := by
  have key : ∀ l : List Field, (∀ f ∈ l, (P.info? f.type).isSome = true) → (l.mapM fun f => (do pure (f.offset, ← sizeOf f.type) : Sem (Nat × Nat))).run P w = .ok (l.map fun f => (f.offset, sizeN P f.type)) w := fun l => by
    induction l with
    | nil => intro _; simp
    | cons f r ih =>
      intro h
      obtain ⟨i, hi⟩ := Option.isSome_iff_exists.1 (h f (by simp))
      have h1 : (sizeOf f.type).run P w = .ok i.size w := by simp [sizeOf, typeInfo, hi]
      have h2 : sizeN P f.type = i.size := by simp [sizeN, hi]
      simp only [List.mapM_cons, Sem.run_bind, h1, Result.andThen_ok, Sem.run_pure, ih (fun q hq => h q (by simp [hq])), List.map_cons, h2]
  have hl : ∀ f ∈ fs.toList, (P.info? f.type).isSome = true := fun f hf => by
    have := Array.all_eq_true_iff_forall_mem.1 h f (by simpa using hf)
    exact this
  have := key fs.toList hl
  rw [Array.mapM_eq_mapM_toList]
  simp only [Sem.run_map, this, Result.andThen_ok]
  congr 1
  exact Array.toList_inj.1 (by simp)
/-- Where a struct's fields lie, and how long they are. -/
class TS (P : Program) (t : TypeId) (l : outParam (List (Nat × Nat))) : Prop where
  h : (P.underlying t).map (fun d => match d with | .struct fs => (fs.toList.map (fun f => (f.offset, sizeN P f.type)), fs.all (fun f => (P.info? f.type).isSome)) | _ => ([], false)) = some (l, true)
theorem TS.pl {l : List (Nat × Nat)} {fs : Array Field} (h : TS P ty l) (h1 : TI P ty (.struct fs) sz by_) : (∀ i, plS P fs i = l[i]?) ∧ fs.all (fun f => (P.info? f.type).isSome) = true := by
  have := h.h
  rw [h1.und] at this
  simp only [Option.map_some, Option.some.injEq, Prod.mk.injEq] at this
  refine ⟨fun i => ?_, this.2⟩
  rw [← this.1]; simp [plS]
theorem OpQ.build_struct {fs : Array Field} {parts : Array (Nat × Operand)} {l : List (Nat × Nat)} {zs : List Value} {cs cs' : List A} [h1 : TI P ty (.struct fs) sz by_] [hs : TS P ty l] [hz : TC P ty zs cs] (ho : o.op = .build ty parts) (hb : Bld P t (fun i => l[i]?) parts.toList cs cs') : OpQ P o t bs (.agg cs') := by
  have hall := (hs.pl h1).2
  have hb : Bld P t (plS P fs) parts.toList cs cs' := by rw [show plS P fs = fun i => l[i]? from funext (hs.pl h1).1]; exact hb
  refine .of_run fun a w h hbs => ?_
  obtain ⟨zv, hz1, hz2⟩ := hz.z.run
  obtain ⟨arr', hf, hr⟩ := hb.run (bs := bs) (a := a) (w := w) (fun q hq => h q.2 (by simp only [ho, Op.operands]; simp; exact ⟨q.1, by simpa using hq⟩)) (zero_rep hz w _)
  refine ⟨.agg arr', ?_, hr.agg⟩
  have hpl : (fun i => (fs.map fun f => (f.offset, sizeN P f.type))[i]?) = plS P fs := by funext i; simp [plS]
  simp only [execOp, ho, Instr.build, Sem.run_bind, hz1, Result.andThen_ok, h1.run_und, run_places fs hall, hz2]
  rw [hpl, show (parts.map fun (q : Nat × Operand) => (q.1, a.eval q.2)).toList = parts.toList.map fun q => (q.1, a.eval q.2) by simp]
  rw [hf]
  simp
theorem OpQ.build_arr {n : Nat} {e : TypeId} {d2 : TypeDesc} {s2 b2 : Nat} {parts : Array (Nat × Operand)} {zs : List Value} {cs cs' : List A} [h1 : TI P ty (.array n e) sz by_] [h2 : TI P e d2 s2 b2] [hz : TC P ty zs cs] (ho : o.op = .build ty parts) (hb : Bld P t (fun i => some (i * s2, s2)) parts.toList cs cs') : OpQ P o t bs (.agg cs') := by
  refine .of_run fun a w h hbs => ?_
  obtain ⟨zv, hz1, hz2⟩ := hz.z.run
  obtain ⟨arr', hf, hr⟩ := hb.run (bs := bs) (a := a) (w := w) (fun q hq => h q.2 (by simp only [ho, Op.operands]; simp; exact ⟨q.1, by simpa using hq⟩)) (zero_rep hz w _)
  refine ⟨.agg arr', ?_, hr.agg⟩
  simp only [execOp, ho, Instr.build, Sem.run_bind, hz1, Result.andThen_ok, h1.run_und, h2.sizeOf_, hz2]
  rw [show (parts.map fun (q : Nat × Operand) => (q.1, a.eval q.2)).toList = parts.toList.map fun q => (q.1, a.eval q.2) by simp]
  rw [hf]
  simp
end
/-! ### one's own becomes read only -/
/-- Block g is written no more: a slice of its cells is read from now on. -/
inductive Frz (g : Nat) (cs : List A) : A → A → Prop where
  | refl (a : A) : Frz g cs a a
  | ms {len cap : Nat} {rows : List (List A)} (sz : Nat) (hs : ∀ r ∈ rows, r.length = sz) (hl : rows.length = len) (hc : len ≤ cap) (hm : cap ≤ maxLen) (hr : cs.take (len * sz) = rows.flatten) : Frz g cs (.ms g 0 len cap) (.sl rows)
theorem Frz.rep {w : World} {bs bs' : BS} {g : Nat} {cs : List A} {b : Blk} {u : Value} {x y : A} (hb : BsOk w bs) (hm : (g, .cells cs) ∈ bs) (hsub : List.Sublist bs' bs) (hg : ∀ q ∈ bs', q.1 ≠ g) (h : Rep w (zones bs) u x) (k : Frz g cs x y) : Rep w (zones bs') u y := by
  obtain ⟨_, hz⟩ := hb.less hsub
  cases k with
  | refl => exact h.less hz
  | @ms len cap rows sz hs hl hc hm2 hr =>
    have e := h.ms_inv
    subst e
    obtain ⟨arr, t, h1, h2, h3⟩ := hb.get hm
    refine Rep.new_row h1 hl hc hm2 hs (fun k q hk => ?_) (fun k _ z hzz he => ?_)
    · have hlt : k < len * sz := by have := (List.getElem?_eq_some_iff.1 hk).1; rwa [flat_lenA hs, hl] at this
      rw [← hr, List.getElem?_take_of_lt hlt] at hk
      obtain ⟨q1, q2⟩ := h3 k q hk
      exact ⟨q1.less hz, q2, by rw [h2]; exact (List.getElem?_eq_some_iff.1 hk).1⟩
    · obtain ⟨xb, hxb, rfl⟩ := mem_zones.1 hzz
      exact absurd he (hg xb hxb)
end Go.Proofs.Ytnkkfmnpkgjabaa.X
