/- The same logic: rows that grow and may turn. -/
import Derived.Test.YtnkkfmnpkgjabaaA10
namespace Go.Proofs.Ytnkkfmnpkgjabaa.X
open Go.RowKit
set_option linter.unusedVariables false
set_option linter.unusedSimpArgs false

section
variable {P : Program} {o : Oper} {t : T} {bs : BS} {y : A} {x z : Operand} {ty ty2 : TypeId} {d : TypeDesc} {sz by_ : Nat}
theorem rows_blk {w : World} {Z : Zones} {g cap : Nat} {e : TypeId} {rs : List (List A)} (h : BlkOk w Z g (.rows rs cap sz e)) : ∃ arr : Array Value, (∀ k, w.cell? ⟨g, k, none⟩ = arr[k]?) ∧ (∀ k, w.frozen? ⟨g, k, none⟩ = false) ∧ rs.length ≤ cap ∧ cap ≤ maxLen ∧ arr.size = cap * sz ∧ (∀ r ∈ rs, r.length = sz) ∧ ∀ k x, rs.flatten[k]? = some x → k < arr.size ∧ Rep w Z (arr.getD k undef) x ∧ (arr.getD k undef).oneCell' = true := by
  obtain ⟨arr, h1, h2, h3, h4, h5, h6⟩ := h
  refine ⟨arr, fun k => cell_of_row w g k arr e (0, 0) h1, fun k => by simp [World.frozen?, h1], h2, h3, h4, h5, fun k x hk => ⟨?_, h6 k x hk⟩⟩
  have := (List.getElem?_eq_some_iff.1 hk).1
  rw [flat_lenA h5] at this
  rw [h4]
  exact Nat.lt_of_lt_of_le this (Nat.mul_le_mul_right _ h2)
theorem Rep.rp_inv {w : World} {Z : Zones} {u : Value} {g s i j : Nat} (h : Rep w Z u (.rp g s i j)) : u = .pointer (some ⟨g, i * s + j, none⟩) := by cases h; rfl
/-- 'indexAddr' of rows that may turn; a field of a row. -/
theorem OpQ.idx_rows {e : TypeId} {k : IntKind} {i : Int} {n g len cap : Nat} {s1 b1 : Nat} {d2 : TypeDesc} {s2 b2 : Nat} [h1 : TI P ty (.slice e) s1 b1] [h2 : TI P e d2 s2 b2] (ho : o.op = .indexAddr ty x z) (hx : Wk (evA t x) (.ms g 0 len cap)) (hz : Wk (evA t z) (.v (.int k i))) (h0 : 0 ≤ i ∧ i < len) (hn : i.toNat = n) : OpQ P o t bs (.rp g s2 n 0) :=
  .of_run fun a w h hb => by
    subst hn
    have e1 := (op_rep h (x := x) (by simp [ho, Op.operands]) hx).ms_inv
    have e2 := (op_rep h (x := z) (by simp [ho, Op.operands]) hz).val
    refine ⟨.pointer (some ⟨g, i.toNat * s2 + 0, none⟩), ?_, .rp⟩
    simp only [execOp, ho, e1, e2, Instr.indexAt, asIntOf, Sem.run_bind, Sem.run_pure, Result.andThen_ok, h1.run_und, h0, and_self, if_true, h2.sizeOf_, Addr.add_mid, Nat.zero_add, Nat.add_zero]
theorem OpQ.field_rp {fs : Array Field} {f g s i j q k : Nat} {fld : Field} [h1 : TI P ty (.struct fs) sz by_] (ho : o.op = .fieldAddr ty x f) (hx : Wk (evA t x) (.rp g s i j)) (hf : fs[f]? = some fld) (h2 : (sizeN P fld.type == 0) = false) (hk : fld.offset = k) (hq : j + k = q) : OpQ P o t bs (.rp g s i q) :=
  .of_run fun a w h hb => by
    have e := (op_rep h (x := x) (by simp [ho, Op.operands]) hx).rp_inv
    subst hk; subst hq
    exact ⟨.pointer (some ⟨g, i * s + (j + fld.offset), none⟩), by simp only [execOp, ho, e, Sem.run_bind, run_fieldAt h1 hf h2, Result.andThen_ok, Sem.run_pure, Nat.add_assoc], .rp⟩
/-- 'load' of a cell of a row. -/
theorem OpQ.load_row {g i j cap s : Nat} {e : TypeId} {rs : List (List A)} {row : List A} [h1 : TI P ty d sz by_] (ho : o.op = .load ty x) (hx : Wk (evA t x) (.rp g s i j)) (hm : (g, .rows rs cap s e) ∈ bs) (hr : rs[i]? = some row) (hd : d.isRow = false) (hy : row[j]? = some y) : OpQ P o t bs y :=
  .of_run fun a w h hb => by
    have e := (op_rep h (x := x) (by simp [ho, Op.operands]) hx).rp_inv
    obtain ⟨arr, hc, _, _, _, _, hs, hrep⟩ := rows_blk (hb.get hm)
    obtain ⟨q1, q2, q3⟩ := hrep _ y (flat_getA hs i j row y hr hy)
    have h0 : arr[i * s + j]? = some (arr.getD (i * s + j) undef) := by simp [q1]
    exact ⟨arr.getD (i * s + j) undef, by simp only [execOp, ho, e, Sem.run_bind, run_loadAt_one h1 hd ((hc _).trans h0), Result.andThen_ok, Sem.run_pure], q2⟩
/-- 'load' of a row. -/
theorem OpQ.loads_row {g i cap s : Nat} {e : TypeId} {rs : List (List A)} {row : List A} [h1 : TI P ty d sz by_] (ho : o.op = .load ty x) (hx : Wk (evA t x) (.rp g s i 0)) (hm : (g, .rows rs cap s e) ∈ bs) (hr : rs[i]? = some row) (hd : d.isRow = true) (hs2 : s = sz) : OpQ P o t bs (.agg row) :=
  .of_run fun a w h hb => by
    subst hs2
    have e := (op_rep h (x := x) (by simp [ho, Op.operands]) hx).rp_inv
    rw [Nat.add_zero] at e
    obtain ⟨arr, hc, _, _, _, _, hs, hrep⟩ := rows_blk (hb.get hm)
    have hlen := hs row (List.mem_of_getElem? hr)
    have hat : ∀ k q, row[k]? = some q → i * s + k < arr.size ∧ Rep w (zones bs) (arr.getD (i * s + k) undef) q ∧ (arr.getD (i * s + k) undef).oneCell' = true := fun k q hk => hrep _ q (flat_getA hs i k row q hr hk)
    refine ⟨.agg ((arr.toList.drop (i * s)).take s).toArray, ?_, ?_⟩
    · have hl : ((arr.toList.drop (i * s)).take s).length = s := by
        rcases Nat.eq_zero_or_pos s with h0 | h0
        · subst h0; simp
        · have := (hat (s - 1) _ (List.getElem?_eq_getElem (by omega))).1
          simp; omega
      have hr : w.rangeAt g (i * s) ((arr.toList.drop (i * s)).take s) := fun j v hj => by
        have hlt : j < s := by have := (List.getElem?_eq_some_iff.1 hj).1; omega
        rw [List.getElem?_take_of_lt hlt, List.getElem?_drop] at hj
        rw [hc]; simpa using hj
      simp only [execOp, ho, e, Sem.run_bind, run_loadAt_row h1 hd hl hr, Result.andThen_ok, Sem.run_pure]
    · have hget : ∀ k, k < s → ((arr.toList.drop (i * s)).take s).toArray.getD k undef = arr.getD (i * s + k) undef := fun k hk => by
        simp only [Array.getD_eq_getD_getElem?, List.getElem?_toArray, List.getElem?_take_of_lt hk, List.getElem?_drop, Array.getElem?_toList]
      refine .agg ?_ (fun k q hk => ?_) (fun k q hk => ?_)
      · rcases Nat.eq_zero_or_pos s with h0 | h0
        · subst h0; simp [hlen]
        · have := (hat (s - 1) _ (List.getElem?_eq_getElem (by omega))).1
          simp; omega
      all_goals
        have hlt := (List.getElem?_eq_some_iff.1 hk).1
        rw [hget k (by omega)]
      · exact (hat k q hk).2.1
      · exact (hat k q hk).2.2
theorem flat_set {rs : List (List A)} {s i j : Nat} {row ys : List A} (hs : ∀ r ∈ rs, r.length = s) (hr : rs[i]? = some row) (hj : j + ys.length ≤ s) : spl rs.flatten (i * s + j) ys = (rs.set i (spl row j ys)).flatten := by
  have hlen := hs row (List.mem_of_getElem? hr)
  have hi := (List.getElem?_eq_some_iff.1 hr).1
  have hs' : ∀ r ∈ rs.set i (spl row j ys), r.length = s := fun r hr' => by
    rcases List.mem_or_eq_of_mem_set hr' with h | h
    · exact hs r h
    · subst h; rw [spl_len]; exact hlen
  have hfit : i * s + j + ys.length ≤ rs.flatten.length := by
    rw [flat_lenA hs]
    have : (i + 1) * s ≤ rs.length * s := Nat.mul_le_mul_right _ hi
    rw [Nat.succ_mul] at this; omega
  apply List.ext_getElem?
  intro k
  rw [spl_get _ _ _ _ hfit]
  rcases Nat.eq_zero_or_pos s with h0 | h0
  · subst h0
    have : ys = [] := List.eq_nil_of_length_eq_zero (by omega)
    subst this
    have e1 := flat_lenA hs; have e2 := flat_lenA hs'
    rw [if_neg (by simp), List.getElem?_eq_none (by rw [e1]; simp), List.getElem?_eq_none (by rw [e2]; simp)]
  · by_cases hk : k < rs.length * s
    · have hq : k / s < rs.length := (Nat.div_lt_iff_lt_mul h0).2 hk
      have hm : k % s < s := Nat.mod_lt _ h0
      have hdm : k / s * s + k % s = k := by have := Nat.div_add_mod k s; rw [Nat.mul_comm] at this; exact this
      have hrow := hs _ (List.getElem_mem hq)
      have a1 := flat_getA hs (k / s) (k % s) rs[k / s] (rs[k / s][k % s]'(by omega)) (List.getElem?_eq_getElem hq) (List.getElem?_eq_getElem (by omega))
      rw [hdm] at a1
      by_cases hki : k / s = i
      · have hrw : rs[k / s] = row := by
          have h1 : rs[k / s]? = some row := by rw [hki]; exact hr
          rw [List.getElem?_eq_getElem hq] at h1
          simpa using h1
        have hin : k % s < (spl row j ys).length := by rw [spl_len, hlen]; exact hm
        have a2 := flat_getA hs' (k / s) (k % s) (spl row j ys) ((spl row j ys)[k % s]) (by rw [hki, List.getElem?_set]; simp [hi]) (List.getElem?_eq_getElem hin)
        rw [hdm] at a2
        rw [a2]
        have hget := spl_get ys row j (k % s) (by omega)
        rw [List.getElem?_eq_getElem hin] at hget
        rw [hget]
        have hk2 : k = i * s + k % s := by rw [← hki]; omega
        by_cases hc : j ≤ k % s ∧ k % s < j + ys.length
        · rw [if_pos hc, if_pos (by omega), show k - (i * s + j) = k % s - j by omega]
        · rw [if_neg hc, if_neg (by omega), a1, ← List.getElem?_eq_getElem (by omega), hrw]
      · have a2 := flat_getA hs' (k / s) (k % s) rs[k / s] (rs[k / s][k % s]'(by omega)) (by rw [List.getElem?_set_ne (Ne.symm hki)]; exact List.getElem?_eq_getElem hq) (List.getElem?_eq_getElem (by omega))
        rw [hdm] at a2
        rw [a2, ← a1]
        refine if_neg fun hc => hki ?_
        have h1 : i * s ≤ k := by omega
        have h2 : k < (i + 1) * s := by rw [Nat.succ_mul]; omega
        have h3 := (Nat.le_div_iff_mul_le h0).2 h1
        have h4 := (Nat.div_lt_iff_lt_mul h0).2 h2
        omega
    · have e1 := flat_lenA hs; have e2 := flat_lenA hs'
      simp only [List.length_set] at e2
      rw [if_neg (by omega), List.getElem?_eq_none (by omega), List.getElem?_eq_none (by omega)]
/-- 'store' into a row. -/
theorem OpW.store_row {g i j cap s : Nat} {e : TypeId} {rs rs' : List (List A)} {row : List A} {bs' : BS} [h1 : TI P ty d sz by_] (ho : o.op = .store ty x z) (hx : Wk (evA t x) (.rp g s i j)) (hz : Wk (evA t z) y) (hc : y.isCell = true ∨ ∃ xs, y = .agg xs) (hm : (g, .rows rs cap s e) ∈ bs) (hr : rs[i]? = some row) (hrs : rs.set i (spl row j (cellsOf y)) = rs') (hu : BUpd bs g (.rows rs cap s e) g (.rows rs' cap s e) bs') (hl : j + sz ≤ s) (hs : (cellsOf y).length = sz) :
    OpW P o t bs fun q b => q = .junk ∧ b = bs' := by
  subst hrs
  intro a w h hb K Q hK
  have e1 := (op_rep h (x := x) (by simp [ho, Op.operands]) hx).rp_inv
  have hrp := op_rep h (x := z) (by simp [ho, Op.operands]) hz
  obtain ⟨l, hcell⟩ := hrp.cells hc
  obtain ⟨arr, ha1, ha2, ha3, ha4, ha5, ha6⟩ := hb.get hm
  have hi := (List.getElem?_eq_some_iff.1 hr).1
  have hlen := ha5 row (List.mem_of_getElem? hr)
  have hfit : i * s + j + sz ≤ arr.size := by
    rw [ha4]
    have : (i + 1) * s ≤ cap * s := Nat.mul_le_mul_right _ (by omega)
    rw [Nat.succ_mul] at this; omega
  have hone : ∀ v ∈ (a.eval z).cells.toList, v.oneCell' = true := fun v hv => by
    obtain ⟨k, hk⟩ := List.mem_iff_getElem?.1 hv
    have hlt : k < (cellsOf y).length := by rw [← l]; simpa using (List.getElem?_eq_some_iff.1 hk).1
    have := (hcell k _ (List.getElem?_eq_getElem hlt)).2
    rwa [getD_toList hk] at this
  have hcl : ∀ k, w.cell? ⟨g, k, none⟩ = arr[k]? := fun k => cell_of_row w g k arr e (0, 0) ha1
  have hrun : (execOp a.eval o).run P w = .ok .skip (w.setCells g (i * s + j) (a.eval z).cells.toList) := by
    simp only [execOp, ho, e1, Sem.run_bind, run_storeAt h1 (u := a.eval z) (w := w) (g := g) (p := i * s + j) (by omega) (fun k hk => by rw [hcl, Array.getElem?_eq_getElem (by omega)]; rfl) (fun k _ => by simp [World.frozen?, ha1]) hone, Result.andThen_ok, Sem.run_pure]
  obtain ⟨q1, q2, q3, q4, q5⟩ := setCells_same g (a.eval z).cells.toList (i * s + j) w
  obtain ⟨b1, b2⟩ := hb.upd (w' := w.setCells g (i * s + j) (a.eval z).cells.toList) hu q1 q2 q3 (by omega) (.inl ⟨rfl, Nat.le_refl _⟩) (fun k _ hk => q5 k hk) (fun k hk => by simp [Blk.from_] at hk) fun he => by
    refine ⟨(spl arr.toList (i * s + j) (a.eval z).cells.toList).toArray, setCells_heap g e _ _ w arr ha1, by simpa using ha2, ha3, by simp [spl_len, ha4], fun r hr' => ?_, fun k q hk => ?_⟩
    · rcases List.mem_or_eq_of_mem_set hr' with h | h
      · exact ha5 r h
      · subst h; rw [spl_len]; exact hlen
    · rw [← flat_set ha5 hr (by omega), spl_get _ _ _ _ (by rw [flat_lenA ha5]; have : (i + 1) * s ≤ rs.length * s := Nat.mul_le_mul_right _ hi; rw [Nat.succ_mul] at this; omega)] at hk
      have hget : (spl arr.toList (i * s + j) (a.eval z).cells.toList).toArray.getD k undef = if i * s + j ≤ k ∧ k < i * s + j + (cellsOf y).length then (a.eval z).cells.getD (k - (i * s + j)) undef else arr.getD k undef := by
        simp only [Array.getD_eq_getD_getElem?, List.getElem?_toArray]
        rw [spl_get _ arr.toList _ k (by simp [l]; omega)]
        simp only [Array.length_toList, l]
        split <;> simp
      rw [hget]
      split at hk
      · rename_i hin; rw [if_pos hin]; exact ⟨(hcell _ q hk).1.ext he, (hcell _ q hk).2⟩
      · rename_i hout; rw [if_neg hout]; exact ⟨(ha6 k q hk).1.ext he, (ha6 k q hk).2⟩
  unfold Oper.wp
  rw [hrun]
  exact hK _ _ _ _ ⟨rfl, rfl⟩ .junk b1 b2
/-- 'append' onto nil, or a full slice: a new row that may turn. -/
theorem OpW.app_newr {e : TypeId} {s1 b1 s2 b2 : Nat} {d2 : TypeDesc} {zs : List Value} {cs : List A} {rows rows2 : List (List A)} {q : A} [h1 : TI P ty (.slice e) s1 b1] [h2 : TI P e d2 s2 b2] [hz : TC P e zs cs] (ho : o.op = .call { callee := .builtin .append, args := #[x, z], argTypes := #[ty, ty] })
    (hx : evA t x = q) (hf : Full q rows) (hy : Wk (evA t z) (.sl rows2)) (hzl : cs.length = s2) (hpos : 0 < s2) (hb2 : 0 < b2) (hs : ∀ r ∈ rows ++ rows2, r.length = s2) (hp : 0 < rows2.length) (hbd : (rows.length + rows2.length) * b2 ≤ 140737488355328) :
    OpW P o t bs fun y bs' => ∃ g c, y = .ms g 0 (rows ++ rows2).length c ∧ bs' = (g, .rows (rows ++ rows2) c s2 e) :: bs ∧ (rows ++ rows2).length ≤ c := by
  intro a w h hb K Q hK
  obtain ⟨hr1, hr2⟩ := append_ops ho h
  rw [hx] at hr1
  obtain ⟨v, w', us, us2, hrun, hown, hgr, hl, hone, r1, r2⟩ := run_app_new h1 h2 hz.z (by have := congrArg List.length hz.abs; simp at this; omega) hpos hb2 o.type hs (hr1.full hf) (hr2.wk hy) hp hbd
  obtain ⟨g, c, arr, rfl, hg, hh, hnc, hcm, hsz, hR⟩ := own_new hown hgr hb hs (by simp) hl hone r1 r2 (by omega)
  have hlen : (rows ++ rows2).length = rows.length + rows2.length := by simp
  obtain ⟨b1', e1'⟩ := BsOk.push hb (g := g) (b := .rows (rows ++ rows2) c s2 e) hg hgr.os hgr.tape hgr.output hgr.size (fun k hk => hgr.block k hk (by simp)) fun he => by
    exact ⟨arr, hh, by omega, hcm, hsz, hs, fun k x hk => ⟨(hR k x hk).1.ext he, (hR k x hk).2.1⟩⟩
  unfold Oper.wp
  rw [append_run ho rfl rfl hrun, ← hlen]
  exact hK _ _ _ _ ⟨g, c, rfl, rfl, by omega⟩ .ms b1' e1'
/-- 'append' onto rows that may turn. -/
theorem OpW.app_rows {e : TypeId} {s1 b1 s2 b2 g c n : Nat} {d2 : TypeDesc} {zs : List Value} {cs : List A} {rs rows rows2 : List (List A)} {B : Nat → Nat → BS} [h1 : TI P ty (.slice e) s1 b1] [h2 : TI P e d2 s2 b2] [hz : TC P e zs cs] (ho : o.op = .call { callee := .builtin .append, args := #[x, z], argTypes := #[ty, ty] })
    (hx : Wk (evA t x) (.ms g 0 n c)) (hy : Wk (evA t z) (.sl rows2)) (hrows : rs.take n = rows) (hu : ∀ g' c', BUpd bs g (.rows rs c s2 e) g' (.rows (rows ++ rows2) c' s2 e) (B g' c')) (hn : n ≤ rs.length) (hzl : cs.length = s2) (hpos : 0 < s2) (hb2 : 0 < b2) (hs2 : ∀ r ∈ rows2, r.length = s2) (hp : 0 < rows2.length) (hbd : (n + rows2.length) * b2 ≤ 140737488355328) :
    OpW P o t bs fun y bs' => ∃ g c, y = .ms g 0 (n + rows2.length) c ∧ bs' = B g c ∧ n + rows2.length ≤ c := by
  subst hrows
  intro a w h hb K Q hK
  obtain ⟨hr1, hr2⟩ := append_ops ho h
  have e1 := (hr1.wk hx).ms_inv
  have hr2 := hr2.wk hy
  obtain ⟨arr, ha1, ha2, ha3, ha4, ha5, ha6⟩ := hb.get (hu 0 0).mem
  have hln : (rs.take n).length = n := by simp; omega
  have hs : ∀ r ∈ rs.take n ++ rows2, r.length = s2 := fun r hr => by rcases List.mem_append.1 hr with h | h; exact ha5 r (List.mem_of_mem_take h); exact hs2 r h
  have hlen : (rs.take n ++ rows2).length = n + rows2.length := by simp; omega
  obtain ⟨i, hi1, hi2, hi3⟩ := h2.info
  obtain ⟨zv, hzq, hzc⟩ := hz.z.zero
  have hzv : i.zero = some zv := by rw [hi1] at hzq; simpa using hzq
  have hzs : zv.cells.size = s2 := by rw [hzc]; have := congrArg List.length hz.abs; simp at this ⊢; omega
  obtain ⟨Ad2, c2, us2, e2, l2, o2, a2, r2⟩ := hr2.sl_list (sz := s2) hs2
  obtain ⟨g2, p2, rfl, hc2⟩ := a2 hp
  have h63 : n + rows2.length ≤ maxLen := by
    have : n + rows2.length ≤ (n + rows2.length) * b2 := Nat.le_mul_of_pos_right _ hb2
    unfold maxLen; omega
  have hnews : ∀ j v, us2[j]? = some v → w.cell? ((⟨g2, p2, none⟩ : Addr).add j) = some v := fun j v hj => by rw [Addr.add_mid]; exact hc2 j v hj
  have hnle : n * s2 ≤ arr.size := by rw [ha4]; exact Nat.mul_le_mul_right _ (by omega)
  have hfl : (rs.take n).flatten = rs.flatten.take (n * s2) := flat_takeA ha5 n
  have r1 : ∀ k x, (rs.take n).flatten[k]? = some x → Rep w (zones bs) ((arr.toList.take (n * s2)).getD k undef) x ∧ ((arr.toList.take (n * s2)).getD k undef).oneCell' = true := fun k x hk => by
    rw [hfl, List.getElem?_take] at hk
    split at hk
    · rename_i hlt
      obtain ⟨q1, q2⟩ := ha6 k x hk
      have : (arr.toList.take (n * s2)).getD k undef = arr.getD k undef := by
        simp only [List.getD_eq_getElem?_getD, List.getElem?_take_of_lt hlt, Array.getD_eq_getD_getElem?, Array.getElem?_toList]
      rw [this]; exact ⟨q1, q2⟩
    · cases hk
  have l1 : (arr.toList.take (n * s2)).length = n * s2 := by simp; omega
  have hfin : ∀ k, k < n * s2 → ∃ x, (rs.take n).flatten[k]? = some x := fun k hk => ⟨_, List.getElem?_eq_getElem (by rw [flat_lenA (fun r hr => ha5 r (List.mem_of_mem_take hr)), hln]; exact hk)⟩
  have o1 : ∀ v ∈ arr.toList.take (n * s2), v.oneCell' = true := fun v hv => by
    obtain ⟨k, hk⟩ := List.mem_iff_getElem?.1 hv
    have hlt : k < n * s2 := by rw [← l1]; exact (List.getElem?_eq_some_iff.1 hk).1
    obtain ⟨x, hx⟩ := hfin k hlt
    have := (r1 k x hx).2
    rwa [List.getD_eq_getElem?_getD, hk] at this
  have hone : ∀ v ∈ arr.toList.take (n * s2) ++ us2, v.oneCell' = true := fun v hv => by rcases List.mem_append.1 hv with h | h; exact o1 v h; exact o2 v h
  have holds : ∀ j v, (arr.toList.take (n * s2))[j]? = some v → w.cell? ((⟨g, 0, none⟩ : Addr).add j) = some v := fun j v hj => by
    have hlt : j < n * s2 := by rw [← l1]; exact (List.getElem?_eq_some_iff.1 hj).1
    rw [List.getElem?_take_of_lt hlt] at hj
    rw [Addr.add_mid, Nat.zero_add, cell_of_row w g j arr e (0, 0) ha1]; simpa using hj
  unfold Oper.wp
  by_cases hroom : n + rows2.length ≤ c
  · have hrun := run_append_room_cells (P := P) w ty o.type e i h1.und hi1 g 0 n c ⟨g2, p2, none⟩ rows2.length c2 us2 (by rw [hi2]; exact l2) hnews o2 hroom
      (fun j hj => by
        have hin : 0 + n * i.size + j < arr.size := by
          rw [ha4, hi2, Nat.zero_add]
          have : (n + rows2.length) * s2 ≤ c * s2 := Nat.mul_le_mul_right _ hroom
          rw [Nat.add_mul] at this; omega
        rw [cell_of_row w g _ arr e (0, 0) ha1, Array.getElem?_eq_getElem hin]; rfl)
      (fun j hj => by simp [World.frozen?, ha1])
    rw [hi2, Nat.zero_add] at hrun
    rw [append_run ho e1 e2 hrun]
    obtain ⟨q1, q2, q3, q4, q5⟩ := setCells_same g us2 (n * s2) w
    have hheap := setCells_heap g e us2 (n * s2) w arr ha1
    have hfit : n * s2 + us2.length ≤ arr.size := by
      rw [ha4, l2, ← Nat.add_mul]; exact Nat.mul_le_mul_right _ hroom
    obtain ⟨b1', e1'⟩ := hb.upd (w' := w.setCells g (n * s2) us2) (hu g c) q1 q2 q3 (by omega) (.inl ⟨rfl, Nat.le_refl _⟩) (fun k _ hk => q5 k hk) (fun k hk => by simp [Blk.from_] at hk) fun he => by
      refine ⟨_, hheap, by omega, ha3, by simp [spl_len, ha4], hs, fun k x hk => ?_⟩
      have hlt : k < (n + rows2.length) * s2 := by have := (List.getElem?_eq_some_iff.1 hk).1; rwa [flat_lenA hs, hlen] at this
      have hfl2 : (rs.take n).flatten.length = n * s2 := by rw [flat_lenA (fun r hr => ha5 r (List.mem_of_mem_take hr)), hln]
      rw [List.flatten_append] at hk
      have hg : (spl arr.toList (n * s2) us2).toArray.getD k undef = (arr.toList.take (n * s2) ++ us2).getD k undef := by
        simp only [Array.getD_eq_getD_getElem?, List.getElem?_toArray, List.getD_eq_getElem?_getD]
        rw [spl_get us2 arr.toList _ k (by simpa using hfit)]
        by_cases hkk : k < n * s2
        · rw [if_neg (by omega), List.getElem?_append_left (by omega), List.getElem?_take_of_lt hkk]
        · rw [if_pos (by rw [l2, ← Nat.add_mul]; omega), List.getElem?_append_right (by omega), l1]
      rw [hg]
      by_cases hlt2 : k < n * s2
      · rw [List.getElem?_append_left (by omega)] at hk
        have e : (arr.toList.take (n * s2) ++ us2).getD k undef = (arr.toList.take (n * s2)).getD k undef := by simp only [List.getD_eq_getElem?_getD]; rw [List.getElem?_append_left (by omega)]
        rw [e]; exact ⟨(r1 k x hk).1.ext he, (r1 k x hk).2⟩
      · rw [List.getElem?_append_right (by omega), hfl2] at hk
        have e : (arr.toList.take (n * s2) ++ us2).getD k undef = us2.getD (k - n * s2) undef := by simp only [List.getD_eq_getElem?_getD]; rw [List.getElem?_append_right (by omega), l1]
        rw [e]
        have hin : us2[k - n * s2]? = some (us2.getD (k - n * s2) undef) := by
          rw [List.getD_eq_getElem?_getD, List.getElem?_eq_getElem (by rw [Nat.add_mul] at hlt; omega)]; rfl
        exact ⟨(r2 _ x hk).ext he, o2 _ (List.mem_of_getElem? hin)⟩
    exact hK _ _ _ _ ⟨g, c, rfl, rfl, hroom⟩ .ms b1' e1'
  · obtain ⟨v, w', hrun, hown, hgr⟩ := run_append_arg_grows (P := P) w ty o.type e i zv s2 b2 h1.und hi1 hzv hi2 hi3 hzs hpos ⟨g, 0, none⟩ n c _ l1 holds ⟨g2, p2, none⟩ rows2.length c2 us2 l2 hnews (by omega) h63 hbd
    obtain ⟨g', c', arr', rfl, hg', hh', hnc', hcm', hsz', hR⟩ := own_new (rows := rs.take n) hown hgr hb hs hlen (by rw [l1, hln]) hone (fun k x hk => (r1 k x hk).1) r2 (by omega)
    rw [append_run ho e1 e2 hrun]
    obtain ⟨b1', e1'⟩ := hb.upd (w' := w') (hu g' c') hgr.os hgr.tape hgr.output hgr.size (.inr hg') (fun k hk _ => hgr.block k hk (by simp)) (fun k hk => by simp [Blk.from_] at hk) (fun he => ⟨arr', hh', by omega, hcm', hsz', hs, fun k x hk => ⟨(hR k x hk).1.ext he, (hR k x hk).2.1⟩⟩)
    exact hK _ _ _ _ ⟨g', c', rfl, rfl, hnc'⟩ .ms b1' e1'
end
end Go.Proofs.Ytnkkfmnpkgjabaa.X
