/- The same logic: rows that may turn: parts of them, appends in place, copies, clears. -/
import Derived.Test.YtnkkfmnpkgjabaaA12
import Derived.Lib.AppendZerosOnto
import Derived.Lib.Overlaps
namespace Go.Proofs.Ytnkkfmnpkgjabaa.X
open Go.RowKit
set_option linter.unusedVariables false
set_option linter.unusedSimpArgs false

/-- Rows laid over others from i on. -/
def over {α : Type} (rs : List α) (i : Nat) (ys : List α) : List α := rs.take i ++ ys ++ rs.drop (i + ys.length)
theorem over_get {α : Type} (rs : List α) (i : Nat) (ys : List α) (h : i ≤ rs.length) (k : Nat) : (over rs i ys)[k]? = if i ≤ k ∧ k < i + ys.length then ys[k - i]? else rs[k]? := by
  unfold over
  rw [List.append_assoc]
  by_cases h1 : k < i
  · rw [List.getElem?_append_left (by simp; omega), if_neg (by omega), List.getElem?_take_of_lt h1]
  · rw [List.getElem?_append_right (by simp; omega), show (rs.take i).length = i by simp; omega]
    by_cases h2 : k < i + ys.length
    · rw [List.getElem?_append_left (by omega), if_pos (by omega)]
    · rw [List.getElem?_append_right (by omega), if_neg (by omega), List.getElem?_drop]
      congr 1; omega
theorem over_len {α : Type} (rs : List α) (i : Nat) (ys : List α) (h : i ≤ rs.length) : (over rs i ys).length = max rs.length (i + ys.length) := by
  unfold over; simp; omega
theorem over_flat {rs ys : List (List A)} {s i : Nat} (hs : ∀ r ∈ rs, r.length = s) (hy : ∀ r ∈ ys, r.length = s) (h : i ≤ rs.length) : (over rs i ys).flatten = over rs.flatten (i * s) ys.flatten := by
  unfold over
  rw [List.flatten_append, List.flatten_append, flat_takeA hs, flat_dropA hs, flat_lenA hy, Nat.add_mul]
/-- Rows are written over others of one's own. -/
theorem rows_put {P : Program} {w : World} {bs bs' : BS} {g cap s i : Nat} {e : TypeId} {rs ys : List (List A)} {us : List Value} (hb : BsOk w bs) (hu : BUpd bs g (.rows rs cap s e) g (.rows (over rs i ys) cap s e) bs') (hi : i ≤ rs.length) (hc : i + ys.length ≤ cap) (hs : ∀ r ∈ ys, r.length = s) (hl : us.length = ys.length * s) (hone : ∀ v ∈ us, v.oneCell' = true)
    (hr : ∀ k x, ys.flatten[k]? = some x → Rep w (zones bs) (us.getD k undef) x) :
    (∀ j, j < us.length → (w.cell? ⟨g, i * s + j, none⟩).isSome = true) ∧ (∀ j, j < us.length → w.frozen? ⟨g, i * s + j, none⟩ = false) ∧ (storeCells ⟨g, i * s, none⟩ us).run P w = .ok () (w.setCells g (i * s) us) ∧ BsOk (w.setCells g (i * s) us) bs' ∧ Ext w (zones bs) (w.setCells g (i * s) us) (zones bs') := by
  obtain ⟨arr, ha1, ha2, ha3, ha4, ha5, ha6⟩ := hb.get hu.mem
  have hfit : i * s + us.length ≤ arr.size := by rw [hl, ha4, ← Nat.add_mul]; exact Nat.mul_le_mul_right _ hc
  have hfl : rs.flatten.length = rs.length * s := flat_lenA ha5
  have hyl : ys.flatten.length = us.length := by rw [flat_lenA hs, hl]
  have c1 : ∀ j, j < us.length → (w.cell? ⟨g, i * s + j, none⟩).isSome = true := fun j hj => by
    rw [cell_of_row w g _ arr e (0, 0) ha1, Array.getElem?_eq_getElem (by omega)]; rfl
  have c2 : ∀ j, j < us.length → w.frozen? ⟨g, i * s + j, none⟩ = false := fun j hj => by simp [World.frozen?, ha1]
  refine ⟨c1, c2, ?_, ?_⟩
  · have := run_storeCells_cells (P := P) g (i * s) us 0 w (by simpa using c1) (by simpa using c2) hone
    simpa using this
  obtain ⟨q1, q2, q3, q4, q5⟩ := setCells_same g us (i * s) w
  have hheap := setCells_heap g e us (i * s) w arr ha1
  refine hb.upd (w' := w.setCells g (i * s) us) hu q1 q2 q3 (by omega) (.inl ⟨rfl, Nat.le_refl _⟩) (fun k _ hk => q5 k hk) (fun k hk => by simp [Blk.from_] at hk) fun he => ?_
  refine ⟨_, hheap, by rw [over_len _ _ _ hi]; omega, ha3, by simp [spl_len, ha4], fun r hr => ?_, fun k x hk => ?_⟩
  · unfold over at hr
    rcases List.mem_append.1 hr with h | h
    · rcases List.mem_append.1 h with h | h
      · exact ha5 r (List.mem_of_mem_take h)
      · exact hs r h
    · exact ha5 r (List.mem_of_mem_drop h)
  · have hle : i * s ≤ rs.flatten.length := by rw [hfl]; exact Nat.mul_le_mul_right _ hi
    rw [over_flat ha5 hs hi, over_get _ _ _ hle, hyl] at hk
    have hg : (spl arr.toList (i * s) us).toArray.getD k undef = if i * s ≤ k ∧ k < i * s + us.length then us.getD (k - i * s) undef else arr.getD k undef := by
      simp only [Array.getD_eq_getD_getElem?, List.getElem?_toArray]
      rw [spl_get us arr.toList _ k (by simpa using hfit)]
      split <;> simp [List.getD_eq_getElem?_getD]
    rw [hg]
    split at hk
    · rename_i hin
      rw [if_pos hin]
      have hin2 : us[k - i * s]? = some (us.getD (k - i * s) undef) := by
        rw [List.getD_eq_getElem?_getD, List.getElem?_eq_getElem (by omega)]; rfl
      exact ⟨(hr _ x hk).ext he, hone _ (List.mem_of_getElem? hin2)⟩
    · rename_i hout
      rw [if_neg hout]
      exact ⟨(ha6 k x hk).1.ext he, (ha6 k x hk).2⟩
section
variable {P : Program} {o : Oper} {t : T} {bs : BS} {y : A} {x z : Operand} {ty ty2 : TypeId} {d : TypeDesc} {sz by_ : Nat}
/-- What rows an operand tells: of a row that is read only, or of a part of one's own (of a slice of so many, the first ones). -/
inductive Src (t : T) (bs : BS) (s : Nat) (x : Operand) : Nat → List (List A) → Prop where
  | sl {ys : List (List A)} {n : Nat} (h : Wk (evA t x) (.sl ys)) (hn : ys.length = n) (hs : ∀ r ∈ ys, r.length = s) : Src t bs s x n ys
  | ms {g off j n c cap k : Nat} {e : TypeId} {rs ys : List (List A)} (h : Wk (evA t x) (.ms g off n c)) (ho : off = j * s) (hm : (g, .rows rs cap s e) ∈ bs) (hk : k ≤ n) (hj : j + k ≤ rs.length) (hy : (rs.drop j).take k = ys) : Src t bs s x n ys
theorem Src.all {s g off j n c cap : Nat} {e : TypeId} {rs ys : List (List A)} (h : Wk (evA t x) (.ms g off n c)) (ho : off = j * s) (hm : (g, .rows rs cap s e) ∈ bs) (hj : j + n ≤ rs.length) (hy : (rs.drop j).take n = ys) : Src t bs s x n ys := .ms h ho hm (Nat.le_refl _) hj hy
theorem Src.list {s m : Nat} {ys : List (List A)} (h : Src t bs s x m ys) {w : World} {u : Value} (hb : BsOk w bs) (hr : Rep w (zones bs) u (evA t x)) : ∃ Ad c, ∃ us : List Value, u = .slice Ad m c ∧ us.length = ys.length * s ∧ (∀ r ∈ ys, r.length = s) ∧ (∀ v ∈ us, v.oneCell' = true) ∧ (0 < ys.length → ∃ g o, Ad = some ⟨g, o, none⟩ ∧ ∀ j v, us[j]? = some v → w.cell? ⟨g, o + j, none⟩ = some v) ∧
    ∀ k q, ys.flatten[k]? = some q → Rep w (zones bs) (us.getD k undef) q := by
  cases h with
  | sl h hn hs =>
    subst hn
    obtain ⟨Ad, c, us, e, l, o1, a, r⟩ := (hr.wk h).sl_list hs
    exact ⟨Ad, c, us, e, l, hs, o1, a, r⟩
  | @ms g off j _ c cap n e rs _ h ho hm hk0 hj hy =>
    subst hy; subst ho
    have e1 := (hr.wk h).ms_inv
    obtain ⟨arr, ha1, ha2, ha3, ha4, ha5, ha6⟩ := hb.get hm
    have hs : ∀ r ∈ (rs.drop j).take n, r.length = s := fun r hr => ha5 r (List.mem_of_mem_drop (List.mem_of_mem_take hr))
    have hln : ((rs.drop j).take n).length = n := by simp; omega
    have hle : j * s + n * s ≤ rs.flatten.length := by rw [flat_lenA ha5, ← Nat.add_mul]; exact Nat.mul_le_mul_right _ hj
    have hin : ∀ k, k < n * s → ∃ q, rs.flatten[j * s + k]? = some q := fun k hk => ⟨_, List.getElem?_eq_getElem (by omega)⟩
    have hasz : j * s + n * s ≤ arr.size := by rw [ha4, ← Nat.add_mul]; exact Nat.mul_le_mul_right _ (by omega)
    have hget : ∀ k v, ((arr.toList.drop (j * s)).take (n * s))[k]? = some v → k < n * s ∧ arr[j * s + k]? = some v := fun k v hv => by
      rw [List.getElem?_take] at hv
      split at hv
      · rename_i hlt; rw [List.getElem?_drop] at hv; exact ⟨hlt, by simpa using hv⟩
      · cases hv
    refine ⟨some ⟨g, j * s, none⟩, c, (arr.toList.drop (j * s)).take (n * s), e1, by rw [hln]; simp; omega, hs, fun v hv => ?_, fun _ => ⟨g, j * s, rfl, fun k v hv => ?_⟩, fun k q hk => ?_⟩
    · obtain ⟨k, hk⟩ := List.mem_iff_getElem?.1 hv
      obtain ⟨h1, h2⟩ := hget k v hk
      obtain ⟨q, hq⟩ := hin k h1
      have := (ha6 _ q hq).2
      rwa [Array.getD_eq_getD_getElem?, h2] at this
    · rw [cell_of_row w g _ arr e (0, 0) ha1]; exact (hget k v hv).2
    · have hk2 : k < n * s ∧ rs.flatten[j * s + k]? = some q := by
        have hlt : k < n * s := by have := (List.getElem?_eq_some_iff.1 hk).1; rwa [flat_lenA hs, hln] at this
        rw [flat_takeA (fun r hr => ha5 r (List.mem_of_mem_drop hr)), List.getElem?_take_of_lt hlt, flat_dropA ha5, List.getElem?_drop] at hk
        exact ⟨hlt, hk⟩
      have : ((arr.toList.drop (j * s)).take (n * s)).getD k undef = arr.getD (j * s + k) undef := by
        rw [List.getD_eq_getElem?_getD, List.getElem?_take_of_lt hk2.1, List.getElem?_drop, Array.getD_eq_getD_getElem?]; simp
      rw [this]
      exact (ha6 _ q hk2.2).1
/-- Parts of one's own rows. -/
theorem OpQ.part_ms {e : TypeId} {lo hi mx : Option Operand} {g off n c l h m q s1 b1 s2 b2 : Nat} {d2 : TypeDesc} [h1 : TI P ty (.slice e) s1 b1] [h2 : TI P e d2 s2 b2] (ho : o.op = .slice ty x lo hi mx) (hx : Wk (evA t x) (.ms g off n c))
    (hlo : Bnd t lo 0 l) (hhi : Bnd t hi n h) (hmx : Bnd t mx c m) (hm : mx = none ∨ hi ≠ none) (hl : l ≤ h) (hh : h ≤ m) (hc : m ≤ c) (hlt : l < m ∨ l = 0) (hq : off + l * s2 = q) : OpQ P o t bs (.ms g q (h - l) (m - l)) :=
  .of_run fun a w hr hb => by
    obtain ⟨hrx, hrv⟩ := slice_ops ho hr
    have e1 := (hrx.wk hx).ms_inv
    have hB := run_bounds (P := P) (isS := true) (len := n) (cap := c) hrv hlo hhi hmx hm hl hh hc
    subst hq
    refine ⟨.slice (if m = l then some (⟨g, off, none⟩ : Addr) else (some (⟨g, off, none⟩ : Addr)).map (·.add (l * s2))) (h - l) (m - l), by simp only [execOp, ho, e1, Sem.run_bind, run_sliceAt h1 h2 hB, Result.andThen_ok, Sem.run_pure], ?_⟩
    have : (if m = l then some (⟨g, off, none⟩ : Addr) else (some (⟨g, off, none⟩ : Addr)).map (·.add (l * s2))) = some ⟨g, off + l * s2, none⟩ := by
      by_cases hml : m = l
      · rw [if_pos hml]
        have : l = 0 := by omega
        subst this; simp
      · rw [if_neg hml]; simp [Addr.add_mid]
    rw [this]; exact .ms
theorem OpQ.front_ms {e : TypeId} {hi mx : Option Operand} {g off n c h m s1 b1 s2 b2 : Nat} {d2 : TypeDesc} [h1 : TI P ty (.slice e) s1 b1] [h2 : TI P e d2 s2 b2] (ho : o.op = .slice ty x none hi mx) (hx : Wk (evA t x) (.ms g off n c))
    (hhi : Bnd t hi n h) (hmx : Bnd t mx c m) (hm : mx = none ∨ hi ≠ none) (hh : h ≤ m) (hc : m ≤ c) : OpQ P o t bs (.ms g off h m) := by
  have := OpQ.part_ms (P := P) (bs := bs) ho hx (.none _) hhi hmx hm (Nat.zero_le _) hh hc (.inr rfl) (q := off) (by omega)
  simpa using this
/-- A part with nothing in it. -/
theorem OpQ.part_nothing {e : TypeId} {lo hi : Option Operand} {g off n c l h' s1 b1 s2 b2 : Nat} {d2 : TypeDesc} [h1 : TI P ty (.slice e) s1 b1] [h2 : TI P e d2 s2 b2] (ho : o.op = .slice ty x lo hi none) (hx : Wk (evA t x) (.ms g off n c))
    (hlo : Bnd t lo 0 l) (hhi : Bnd t hi n h') (hhl : h' = l) {cap s : Nat} {e' : TypeId} {rs : List (List A)} (hm : (g, .rows rs cap s e') ∈ bs) (hc : l ≤ c) (hcm : c ≤ cap) : OpQ P o t bs (.sl []) :=
  .of_run fun a w hr hb => by
    obtain ⟨hrx, hrv⟩ := slice_ops ho hr
    have e1 := (hrx.wk hx).ms_inv
    subst hhl
    obtain ⟨arr, ha1, ha2, ha3, ha4, ha5, ha6⟩ := hb.get hm
    have hB := run_bounds (P := P) (isS := true) (len := n) (cap := c) (mx := none) hrv hlo hhi (.none _) (.inl rfl) (Nat.le_refl _) hc (Nat.le_refl _)
    simp only [Option.map_none] at hB
    refine ⟨.slice (if c = h' then some (⟨g, off, none⟩ : Addr) else (some (⟨g, off, none⟩ : Addr)).map (·.add (h' * s2))) (h' - h') (c - h'), by simp only [execOp, ho, e1, Option.map_none, Sem.run_bind, run_sliceAt h1 h2 hB, Result.andThen_ok, Sem.run_pure], ?_⟩
    exact .sl (by simp) (by omega) (by omega) 0 0 0 (fun _ => undef) (by simp) (by omega) (by simp) (by simp) (by simp) (by simp)
theorem OpQ.cap_ms {e : TypeId} {g off n c s1 b1 : Nat} [h1 : TI P ty (.slice e) s1 b1] (ho : o.op = .call { callee := .builtin .cap, args := #[x], argTypes := #[ty] }) (hx : Wk (evA t x) (.ms g off n c)) : OpQ P o t bs (.v (.int .i64 c)) :=
  .of_run fun a w h hb => by
    have e1 := ((h x (by simp [ho, Op.operands, Call.operands])).wk hx).ms_inv
    refine ⟨goInt c, ?_, .v rfl⟩
    simp only [execOp, ho, resolve, invoke, builtin, Builtin.cap_, Sem.run_bind, Sem.run_pure, Result.andThen_ok, List.map_toArray, List.map_cons, List.map_nil, List.getElem?_toArray, List.getElem?_cons_zero, h1.run_und, e1]
theorem run_firstCells_zero (size : Nat) (Ad : Option Addr) (n c : Nat) (w : World) : (Builtin.firstCells size 0 (.slice Ad n c)).run P w = .ok #[] w := by
  cases Ad with
  | none => simp [Builtin.firstCells]
  | some b => simpa using run_firstCells_some (P := P) w size 0 b n c [] (by simp) (by simp)
theorem run_append_zero {e : TypeId} {s1 b1 s2 b2 : Nat} {d2 : TypeDesc} (h1 : TI P ty (.slice e) s1 b1) (h2 : TI P e d2 s2 b2) (tyr : TypeId) (b : Option Addr) (n c : Nat) (hn : n ≤ c) (Ad : Option Addr) (c2 : Nat) (w : World) : (Builtin.append_ #[ty, ty] tyr #[.slice b n c, .slice Ad 0 c2]).run P w = .ok (.slice b n c) w := by
  obtain ⟨i, hi1, hi2, hi3⟩ := h2.info
  cases b with
  | none => simp [Builtin.append_, run_underlying h1.und, sizeOf, typeInfo, hi1, Builtin.lenOf, run_firstCells_zero, Sem.run_bind, hn]
  | some b =>
    have hst : (storeCells (b.add (n * i.size)) []).run P w = .ok () w := by simp [storeCells]
    simp [Builtin.append_, run_underlying h1.und, sizeOf, typeInfo, hi1, Builtin.lenOf, run_firstCells_zero, hst, Sem.run_bind, hn]
/-- 'append' in place. -/
theorem OpW.app_in {e : TypeId} {s1 b1 s2 b2 g off i n c cap : Nat} {d2 : TypeDesc} {rs ys rs' : List (List A)} {bs' : BS} [h1 : TI P ty (.slice e) s1 b1] [h2 : TI P e d2 s2 b2] (ho : o.op = .call { callee := .builtin .append, args := #[x, z], argTypes := #[ty, ty] })
    (hx : Wk (evA t x) (.ms g off n c)) (hoff : off = i * s2) (hy : Src t bs s2 z ys.length ys) (hrs : over rs (i + n) ys = rs') (hu : BUpd bs g (.rows rs cap s2 e) g (.rows rs' cap s2 e) bs') (hn : i + n ≤ rs.length) (hroom : n + ys.length ≤ c) (hcap : i + c ≤ cap) :
    OpW P o t bs fun y b' => y = .ms g off (n + ys.length) c ∧ b' = bs' := by
  subst hrs; subst hoff
  intro a w h hb K Q hK
  obtain ⟨hr1, hr2⟩ := append_ops ho h
  have e1 := (hr1.wk hx).ms_inv
  obtain ⟨Ad2, c2, us2, e2, l2, hs2, o2, a2, r2⟩ := hy.list hb hr2
  obtain ⟨ii, hi1, hi2, hi3⟩ := h2.info
  unfold Oper.wp
  obtain ⟨p1, p2, p3, p4, p5⟩ := rows_put (P := P) hb hu hn (by omega) hs2 l2 o2 r2
  have hrun : (Builtin.append_ #[ty, ty] o.type #[.slice (some ⟨g, i * s2, none⟩) n c, a.eval z]).run P w = .ok (.slice (some ⟨g, i * s2, none⟩) (n + ys.length) c) (w.setCells g ((i + n) * s2) us2) := by
    rw [e2]
    rcases Nat.eq_zero_or_pos ys.length with h0 | hp
    · have hus : us2 = [] := List.eq_nil_of_length_eq_zero (by rw [l2, h0]; omega)
      subst hus
      rw [h0]
      exact run_append_zero h1 h2 o.type _ n c (by omega) Ad2 c2 w
    · obtain ⟨g2, q2, rfl, hc2⟩ := a2 hp
      have hm : i * s2 + n * s2 = (i + n) * s2 := by rw [Nat.add_mul]
      have := run_append_room_cells (P := P) w ty o.type e ii h1.und hi1 g (i * s2) n c ⟨g2, q2, none⟩ ys.length c2 us2 (by rw [hi2]; exact l2) (fun j v hj => by rw [Addr.add_mid]; exact hc2 j v hj) o2 hroom
        (fun j hj => by rw [hi2, hm]; exact p1 j hj) (fun j hj => by rw [hi2, hm]; exact p2 j hj)
      rw [hi2, hm] at this
      exact this
  rw [append_run ho e1 rfl hrun]
  exact hK _ _ _ _ ⟨rfl, rfl⟩ .ms p4 p5
/-- 'copy' over rows of one's own. -/
theorem OpW.copy {e : TypeId} {s1 b1 s2 b2 g off i n c m n2 cap : Nat} {d2 : TypeDesc} {rs ys rs' : List (List A)} {bs' : BS} [h1 : TI P ty (.slice e) s1 b1] [h2 : TI P e d2 s2 b2] (ho : o.op = .call { callee := .builtin .copy, args := #[x, z], argTypes := #[ty, ty] })
    (hx : Wk (evA t x) (.ms g off n c)) (hoff : off = i * s2) (hy : Src t bs s2 z n2 ys) (hm : min n2 n = m) (hmy : m ≤ ys.length) (hrs : over rs i (ys.take m) = rs') (hu : BUpd bs g (.rows rs cap s2 e) g (.rows rs' cap s2 e) bs') (hi : i ≤ rs.length) (hcap : i + m ≤ cap) :
    OpW P o t bs fun y b' => y = .v (.int .i64 m) ∧ b' = bs' := by
  subst hrs; subst hoff; subst hm
  intro a w h hb K Q hK
  have hr1 := h x (by simp [ho, Op.operands, Call.operands])
  have hr2 := h z (by simp [ho, Op.operands, Call.operands])
  have e1 := (hr1.wk hx).ms_inv
  obtain ⟨Ad2, c2, us2, e2, l2, hs2, o2, a2, r2⟩ := hy.list hb hr2
  obtain ⟨ii, hi1, hi2, hi3⟩ := h2.info
  generalize hm : min n2 n = m at *
  have hfl : (ys.take m).flatten = ys.flatten.take (m * s2) := flat_takeA hs2 m
  have l3 : (us2.take (m * s2)).length = (ys.take m).length * s2 := by
    have : m * s2 ≤ ys.length * s2 := Nat.mul_le_mul_right _ hmy
    simp; rw [Nat.min_eq_left hmy]; omega
  obtain ⟨p1, p2, p3, p4, p5⟩ := rows_put (P := P) (us := us2.take (m * s2)) hb hu hi (by simp; omega) (fun r hr => hs2 r (List.mem_of_mem_take hr)) l3 (fun v hv => o2 v (List.mem_of_mem_take hv)) (fun k q hk => by
    rw [hfl, List.getElem?_take] at hk
    split at hk
    · rename_i hlt
      have : (us2.take (m * s2)).getD k undef = us2.getD k undef := by simp only [List.getD_eq_getElem?_getD, List.getElem?_take_of_lt hlt]
      rw [this]; exact r2 k q hk
    · cases hk)
  have hfc : (Builtin.firstCells ii.size m (a.eval z)).run P w = .ok (us2.take (m * s2)).toArray w := by
    rw [e2, hi2]
    rcases Nat.eq_zero_or_pos m with h0 | hp
    · subst h0; simpa using run_firstCells_zero (P := P) s2 Ad2 n2 c2 w
    · obtain ⟨g2, q2, rfl, hc2⟩ := a2 (by omega)
      refine run_firstCells_some (P := P) w s2 m ⟨g2, q2, none⟩ n2 c2 _ (by rw [l3]; simp; rw [Nat.min_eq_left hmy]) (fun j v hj => ?_)
      rw [List.getElem?_take] at hj
      split at hj
      · rw [Addr.add_mid]; exact hc2 j v hj
      · cases hj
  have hln : ∀ w, (Builtin.lenOf (a.eval z)).run P w = .ok n2 w := fun w => by rw [e2]; simp [Builtin.lenOf]
  have hrun : (Builtin.copy_ #[ty, ty] o.type #[.slice (some ⟨g, i * s2, none⟩) n c, a.eval z]).run P w = .ok (goInt m) (w.setCells g (i * s2) (us2.take (m * s2))) := by
    have hn' : Nat.min n2 n = m := hm
    simp [Builtin.copy_, run_underlying h1.und, hln, sizeOf, typeInfo, hi1, hn', hfc, p3, Sem.run_bind]
  unfold Oper.wp
  have hex : (execOp a.eval o).run P w = .ok (.value (goInt m)) (w.setCells g (i * s2) (us2.take (m * s2))) := by
    simp only [execOp, ho, resolve, invoke, builtin, Sem.run_bind, Sem.run_pure, Result.andThen_ok, List.map_toArray, List.map_cons, List.map_nil, e1, hrun]
  rw [hex]
  exact hK _ _ _ _ ⟨rfl, rfl⟩ (.v rfl) p4 p5
/-- 'clear' of rows of one's own. -/
theorem OpW.clear {e : TypeId} {s1 b1 s2 b2 g off i n c cap : Nat} {d2 : TypeDesc} {zs : List Value} {cs : List A} {rs rs' : List (List A)} {bs' : BS} [h1 : TI P ty (.slice e) s1 b1] [h2 : TI P e d2 s2 b2] [hz : TC P e zs cs] (ho : o.op = .call { callee := .builtin .clear, args := #[x], argTypes := #[ty] })
    (hx : Wk (evA t x) (.ms g off n c)) (hoff : off = i * s2) (hrs : over rs i (List.replicate n cs) = rs') (hu : BUpd bs g (.rows rs cap s2 e) g (.rows rs' cap s2 e) bs') (hi : i ≤ rs.length) (hcap : i + n ≤ cap) (hzl : cs.length = s2) (hpos : 0 < s2) :
    OpW P o t bs fun y b' => y = .tup [] ∧ b' = bs' := by
  subst hrs; subst hoff
  intro a w h hb K Q hK
  have hr1 := h x (by simp [ho, Op.operands, Call.operands])
  have e1 := (hr1.wk hx).ms_inv
  obtain ⟨zv, hz1, hz2⟩ := hz.z.run
  have hzs : zs.length = s2 := by have := congrArg List.length hz.abs; simp at this; omega
  have hzc : ∀ k, (Builtin.zeroCells zv.cells n).toList[k]? = if k < n * s2 then zs[k % s2]? else none := fun k => by
    rw [hz2]
    simp only [Builtin.zeroCells, Array.toList_map, Array.toList_range, List.getElem?_map, List.size_toArray, hzs]
    by_cases hk : k < n * s2
    · rw [List.getElem?_range hk, if_pos hk]
      have : k % s2 < zs.length := by rw [hzs]; exact Nat.mod_lt _ hpos
      simp [List.getElem?_eq_getElem this, getElem!_pos, this]
    · rw [if_neg hk, List.getElem?_eq_none (by simpa using hk)]; rfl
  have hlen : (Builtin.zeroCells zv.cells n).toList.length = n * s2 := by simp [Builtin.zeroCells, hz2, hzs]
  obtain ⟨p1, p2, p3, p4, p5⟩ := rows_put (P := P) (us := (Builtin.zeroCells zv.cells n).toList) hb hu hi (by simpa using hcap) (fun r hr => by rw [(List.mem_replicate.1 hr).2]; exact hzl) (by rw [hlen, List.length_replicate]) (fun v hv => by
    obtain ⟨k, hk⟩ := List.mem_iff_getElem?.1 hv
    rw [hzc] at hk
    split at hk
    · exact List.all_eq_true.1 hz.one v (List.mem_of_getElem? hk)
    · cases hk) (fun k q hk => by
    have hlt : k < n * s2 := by have := (List.getElem?_eq_some_iff.1 hk).1; rwa [rep_rows_len, hzl] at this
    rw [flat_rep cs n k (by omega) (by rw [hzl]; exact hlt), hzl] at hk
    have := ((zero_rep hz w (zones bs)).2 _ q hk).1
    rw [List.getD_eq_getElem?_getD, hzc, if_pos hlt]
    simpa [Array.getD_eq_getD_getElem?] using this)
  have hrun : (Builtin.clear_ #[ty] o.type #[.slice (some ⟨g, i * s2, none⟩) n c]).run P w = .ok (.tuple #[]) (w.setCells g (i * s2) (Builtin.zeroCells zv.cells n).toList) := by
    rcases Nat.eq_zero_or_pos n with h0 | hp
    · subst h0
      have : (Builtin.zeroCells zv.cells 0).toList = [] := by simp [Builtin.zeroCells]
      rw [this]
      simp [Builtin.clear_, run_underlying h1.und, Sem.run_bind, World.setCells]
    · obtain ⟨n', rfl⟩ : ∃ n', n = n' + 1 := ⟨n - 1, by omega⟩
      simp [Builtin.clear_, run_underlying h1.und, hz1, p3, Sem.run_bind]
  unfold Oper.wp
  have hex : (execOp a.eval o).run P w = .ok (.value (.tuple #[])) (w.setCells g (i * s2) (Builtin.zeroCells zv.cells n).toList) := by
    simp only [execOp, ho, resolve, invoke, builtin, Sem.run_bind, Sem.run_pure, Result.andThen_ok, List.map_toArray, List.map_cons, List.map_nil, e1, hrun]
  rw [hex]
  exact hK _ _ _ _ ⟨rfl, rfl⟩ (.tup rfl (by simp)) p4 p5
end
section
variable {P : Program} {o : Oper} {t : T} {bs : BS} {y : A} {x z : Operand} {ty ty2 : TypeId} {d : TypeDesc} {sz by_ : Nat}
/-- What is a slice, whatever else. -/
inductive AnySl : A → Prop where
  | nil : AnySl .nil
  | sl (r : List (List A)) : AnySl (.sl r)
  | clip (r : List (List A)) : AnySl (.clip r)
  | tip (g c : Nat) (r : List (List A)) : AnySl (.tip g c r)
theorem AnySl.inv {w : World} {Z : Zones} {u : Value} {q : A} (h : AnySl q) (hr : Rep w Z u q) : ∃ b n c, u = .slice b n c ∧ n ≤ c := by
  cases h with
  | nil => cases hr; exact ⟨none, 0, 0, rfl, Nat.le_refl _⟩
  | sl r => obtain ⟨Ad, c, e, hc⟩ := hr.slice_inv; exact ⟨_, _, _, e, hc⟩
  | clip r => obtain ⟨Ad, c, e, hc⟩ := (hr.wk (.clip _)).slice_inv; exact ⟨_, _, _, e, hc⟩
  | tip g c r => obtain ⟨Ad, c, e, hc⟩ := (hr.wk (.tip _ _ _)).slice_inv; exact ⟨_, _, _, e, hc⟩
/-- 'append' of nothing. -/
theorem OpQ.app_zeroR {e : TypeId} {s1 b1 s2 b2 : Nat} {d2 : TypeDesc} [h1 : TI P ty (.slice e) s1 b1] [h2 : TI P e d2 s2 b2] (ho : o.op = .call { callee := .builtin .append, args := #[x, z], argTypes := #[ty, ty] }) (hx : RLe (evA t x) y) (ha : AnySl y) (hz : Wk (evA t z) (.sl [])) : OpQ P o t bs y := by
  refine .of_run fun a w h hb => ?_
  obtain ⟨hr1, hr2⟩ := append_ops ho h
  have hr1 := hx _ _ _ hr1
  obtain ⟨b, n, c, e1, hc⟩ := ha.inv hr1
  obtain ⟨Ad2, c2, e2, _⟩ := (hr2.wk hz).slice_inv
  refine ⟨a.eval x, ?_, hr1⟩
  have := run_append_zero h1 h2 o.type b n c hc Ad2 c2 w
  exact append_run ho e1 e2 (by rw [e1]; exact this)
theorem flatMap_cells {s : Nat} : ∀ l : List Value, (∀ v ∈ l, v.cells.size = s) → (l.flatMap (·.cells.toList)).length = l.length * s
  | [], _ => by simp
  | v :: l, h => by
    rw [List.flatMap_cons, List.length_append, flatMap_cells l (fun q hq => h q (by simp [hq])), List.length_cons, Nat.succ_mul]
    have := h v (by simp)
    simp; omega
theorem OpQ.app_zero {e : TypeId} {s1 b1 s2 b2 : Nat} {d2 : TypeDesc} [h1 : TI P ty (.slice e) s1 b1] [h2 : TI P e d2 s2 b2] (ho : o.op = .call { callee := .builtin .append, args := #[x, z], argTypes := #[ty, ty] }) (hx : evA t x = y) (ha : AnySl y) (hz : Wk (evA t z) (.sl [])) : OpQ P o t bs y := OpQ.app_zeroR ho (fun _ _ _ h => hx ▸ h) ha hz
/-- '[]T{..}' that may turn. -/
theorem OpW.lits {e : TypeId} {s1 b1 s2 b2 n : Nat} {d2 : TypeDesc} {zs : List Value} {cs : List A} {parts : Array (Nat × Operand)} {r : List Operand} {ys : List A} {rows : List (List A)} [h1 : TI P ty (.slice e) s1 b1] [h2 : TI P e d2 s2 b2] [hz : TC P e zs cs] (ho : o.op = .buildSlice ty n parts) (hr0 : parts.toList.map (·.2) = r)
    (hp : parts = (r.zipIdx.map fun p => (p.2, p.1)).toArray) (hr : Rows_ t r ys) (hn : r.length = n) (hs : ys.all (fun y => (cellsOf y).length == s2) = true) (hrows : ys.map cellsOf = rows) (hlim : n * s2 ≤ 16777216) (hpos : 0 < s2) : OpW P o t bs fun q bs' => ∃ g, q = .ms g 0 n n ∧ bs' = (g, .rows rows n s2 e) :: bs := by
  subst hrows; subst hp; subst hn
  intro a w h hb K Q hK
  simp only [ho, Op.operands] at h
  have hs' : ∀ y ∈ ys, (cellsOf y).length = s2 := fun y hy => by simpa using List.all_eq_true.1 hs y hy
  obtain ⟨i1, i2, i3⟩ := hr.rep (a := a) (w := w) (fun x hx => h x (by simp [List.map_map, Function.comp_def, List.zipIdx_map_fst]; exact hx)) hs'
  have hrun := run_buildSlice (P := P) h1 h2 hz.z (r.map a.eval) i1 (by simpa using hlim) w
  have hrun2 : (execOp a.eval o).run P w = .ok (.value (.slice (some ⟨w.heap.size, 0, none⟩) r.length r.length)) (w.alloc (.cells ((r.map a.eval).flatMap (·.cells.toList)).toArray e)) := by
    simp only [List.length_map] at hrun
    simp only [execOp, ho, parts_seq r a.eval, Sem.run_bind, hrun, Result.andThen_ok, Sem.run_pure]
  have hm : r.length ≤ maxLen := by
    have : r.length ≤ r.length * s2 := Nat.le_mul_of_pos_right _ hpos
    unfold maxLen; omega
  obtain ⟨q1, q2⟩ := BsOk.push (w' := w.alloc (.cells ((r.map a.eval).flatMap (·.cells.toList)).toArray e)) hb (g := w.heap.size) (b := .rows (ys.map cellsOf) r.length s2 e) (Nat.le_refl _) rfl rfl rfl (by simp) (fun k hk => Below.heap_alloc w _ k hk) fun he => by
    refine ⟨_, heap_alloc_new w _, by simp [i2], hm, ?_, fun q hq => ?_, fun k q hk => ?_⟩
    · rw [List.size_toArray, flatMap_cells _ i1, List.length_map]
    · obtain ⟨y, hy, rfl⟩ := List.mem_map.1 hq; exact hs' y hy
    · obtain ⟨j1, j2, j3⟩ := i3 k q hk
      exact ⟨j1.ext he, j2⟩
  unfold Oper.wp
  rw [hrun2]
  exact hK _ _ _ _ ⟨_, rfl, rfl⟩ .ms q1 q2
end
section
variable {P : Program} {o : Oper} {t : T} {bs : BS} {y : A} {x z : Operand} {ty ty2 : TypeId} {d : TypeDesc} {sz by_ : Nat}
/-- 'append(s, make(S, k)...)' where there is no room. -/
theorem OpW.app_zeros {tn e : TypeId} {kq kn : IntKind} {s1 b1 s2 b2 s3 b3 g i k c cap : Nat} {d2 : TypeDesc} {zs : List Value} {cs : List A} {rs rs' : List (List A)} [h1 : TI P ty (.slice e) s1 b1] [h2 : TI P e d2 s2 b2] [h3 : TI P tn (.int kn) s3 b3] [hz : TC P e zs cs] (ho : o.op = .call { callee := .builtin .append, args := #[x, z], argTypes := #[ty, tn] })
    (hx : Wk (evA t x) (.ms g 0 i c)) (hk : Wk (evA t z) (.v (.int kq (k : Nat)))) (hm : (g, .rows rs cap s2 e) ∈ bs) (hi : i ≤ rs.length) (hrs : rs.take i ++ List.replicate k cs = rs') (h0 : 0 < k) (hc : c < i + k) (hzl : cs.length = s2) (hpos : 0 < s2) (hb2 : 0 < b2) (hbd : (i + k) * b2 ≤ 140737488355328) :
    OpW P o t bs fun y b' => ∃ g' c', y = .ms g' 0 (i + k) c' ∧ b' = (g', .rows rs' c' s2 e) :: bs ∧ i + k ≤ c' := by
  subst hrs
  intro a w h hb K Q hK
  have hr1 := h x (by simp [ho, Op.operands, Call.operands])
  have hr2 := h z (by simp [ho, Op.operands, Call.operands])
  have e1 := (hr1.wk hx).ms_inv
  have e2 := (hr2.wk hk).val
  obtain ⟨ii, hi1, hi2, hi3⟩ := h2.info
  obtain ⟨zv, hzq, hzc⟩ := hz.z.zero
  have hzv : ii.zero = some zv := by rw [hi1] at hzq; simpa using hzq
  have hzs : zs.length = s2 := by have := congrArg List.length hz.abs; simp at this; omega
  obtain ⟨arr, ha1, ha2, ha3, ha4, ha5, ha6⟩ := hb.get hm
  have hle : i * s2 ≤ arr.size := by rw [ha4]; exact Nat.mul_le_mul_right _ (by omega)
  have l1 : (arr.toList.take (i * s2)).length = i * s2 := by simp; omega
  have h63 : i + k ≤ maxLen := by
    have : i + k ≤ (i + k) * b2 := Nat.le_mul_of_pos_right _ hb2
    unfold maxLen; omega
  have hkb : k * b2 ≤ (i + k) * b2 := Nat.mul_le_mul_right _ (by omega)
  have hold : (Builtin.firstCells ii.size i (.slice (some ⟨g, 0, none⟩) i c)).run P w.drew = .ok (arr.toList.take (i * s2)).toArray w.drew :=
    run_firstCells_some (P := P) w.drew ii.size i ⟨g, 0, none⟩ i c _ (by rw [hi2]; exact l1) (fun j v hv => by
      have hlt : j < i * s2 := by rw [← l1]; exact (List.getElem?_eq_some_iff.1 hv).1
      rw [List.getElem?_take_of_lt hlt] at hv
      rw [Addr.add_mid, Nat.zero_add, show w.drew.cell? ⟨g, j, none⟩ = w.cell? ⟨g, j, none⟩ from rfl, cell_of_row w g _ arr e (0, 0) ha1]; simpa using hv)
  have hge := grownCap_ge w (i + k) c e
  have hlem := grownCap_le_maxLen w (i + k) c e h63
  have hrun := Lib.run_append_grow_zeros (P := P) w ty tn o.type e ii zv kq kn h1.und h3.und hi1 hzv (some ⟨g, 0, none⟩) i c _ hold k h0 (by omega) hc (by unfold maxLen at h63; omega) (by rw [hi3]; omega) (by rw [hi3]; exact growslice_fits hc hbd)
  generalize hG : grownCap w (i + k) c e = c' at *
  have hzsz : ∀ m, (Builtin.zeroCells zv.cells m).size = m * s2 := fun m => by simp [Builtin.zeroCells, hzc, hzs]
  have hzget : ∀ m k, k < m * s2 → (Builtin.zeroCells zv.cells m).getD k undef = zs.toArray.getD (k % s2) undef := fun m k hlt => by
    rw [hzc]
    have : k % s2 < zs.length := by rw [hzs]; exact Nat.mod_lt _ hpos
    simp [Builtin.zeroCells, hzs, hlt, this, getElem!_pos, List.getElem?_eq_getElem this]
  have hln : (rs.take i ++ List.replicate k cs).length = i + k := by simp; omega
  obtain ⟨q1, q2⟩ := BsOk.push (w' := w.drew.alloc (.cells ((arr.toList.take (i * s2)).toArray ++ Builtin.zeroCells zv.cells k ++ Builtin.zeroCells zv.cells (c' - (i + k))) e)) hb (g := w.heap.size) (b := .rows (rs.take i ++ List.replicate k cs) c' s2 e) (Nat.le_refl _) rfl rfl rfl (by show w.heap.size ≤ (w.heap.push _).size; simp) (fun k hk => Below.heap_alloc w.drew _ k hk) fun he => by
    refine ⟨_, heap_alloc_new w.drew _, by omega, hlem, ?_, fun r hr => ?_, fun q x hq => ?_⟩
    · simp only [Array.size_append, List.size_toArray, l1, hzsz]
      rw [← Nat.add_mul, ← Nat.add_mul]; congr 1; omega
    · rcases List.mem_append.1 hr with h | h
      · exact ha5 r (List.mem_of_mem_take h)
      · rw [(List.mem_replicate.1 h).2]; exact hzl
    · rw [List.flatten_append, flat_takeA ha5] at hq
      have hfl : (rs.flatten.take (i * s2)).length = i * s2 := by
        have : i * s2 ≤ rs.length * s2 := Nat.mul_le_mul_right _ hi
        simp only [List.length_take, flat_lenA ha5]; omega
      by_cases hlt : q < i * s2
      · rw [List.getElem?_append_left (by omega), List.getElem?_take_of_lt hlt] at hq
        have : ((arr.toList.take (i * s2)).toArray ++ Builtin.zeroCells zv.cells k ++ Builtin.zeroCells zv.cells (c' - (i + k))).getD q undef = arr.getD q undef := by
          simp only [Array.getD_eq_getD_getElem?]
          rw [Array.getElem?_append_left (by simp [l1, hzsz]; omega), Array.getElem?_append_left (by simp [l1]; omega)]
          simp [List.getElem?_take_of_lt hlt]
        rw [this]
        exact ⟨(ha6 q x hq).1.ext he, (ha6 q x hq).2⟩
      · rw [List.getElem?_append_right (by omega), hfl] at hq
        have hlt2 : q - i * s2 < k * s2 := by have := (List.getElem?_eq_some_iff.1 hq).1; rwa [rep_rows_len, hzl] at this
        rw [flat_rep cs k _ (by omega) (by rw [hzl]; exact hlt2), hzl] at hq
        have : ((arr.toList.take (i * s2)).toArray ++ Builtin.zeroCells zv.cells k ++ Builtin.zeroCells zv.cells (c' - (i + k))).getD q undef = zs.toArray.getD ((q - i * s2) % s2) undef := by
          rw [← hzget k _ hlt2]
          simp only [Array.getD_eq_getD_getElem?]
          rw [Array.getElem?_append_left (by simp only [Array.size_append, List.size_toArray, l1, hzsz]; omega), Array.getElem?_append_right (by simp [l1]; omega)]
          simp [l1]
        rw [this]
        exact (zero_rep hz _ _).2 _ x hq
  have hex : (execOp a.eval o).run P w = .ok (.value (.slice (some ⟨w.heap.size, 0, none⟩) (i + k) c')) (w.drew.alloc (.cells ((arr.toList.take (i * s2)).toArray ++ Builtin.zeroCells zv.cells k ++ Builtin.zeroCells zv.cells (c' - (i + k))) e)) := by
    simp only [execOp, ho, resolve, invoke, builtin, Sem.run_bind, Sem.run_pure, Result.andThen_ok, List.map_toArray, List.map_cons, List.map_nil, e1, e2, hrun]
  unfold Oper.wp
  rw [hex]
  exact hK _ _ _ _ ⟨_, _, rfl, rfl, hge⟩ .ms q1 q2
/-- slices.overlaps, which has no body. -/
class OV (P : Program) (K : Nat) (tS : outParam TypeId) : Prop where
  run : ∃ tR, ∀ args w, (callFunc K args).run P w = ((Extern.SlicesOverlaps.overlaps #[tS, tS] #[tR] args).run P w).andThen fun v w' => .ok (.value v) w'
theorem OpQ.overlaps {K : Nat} {tS e : TypeId} {s1 b1 s2 b2 g1 o1 n1 c1 cap1 g2 o2 n2 c2 cap2 : Nat} {d2 : TypeDesc} {e1 e2 : TypeId} {rs1 rs2 : List (List A)} {tys : Array TypeId} [hv : OV P K tS] [h1 : TI P tS (.slice e) s1 b1] [h2 : TI P e d2 s2 b2] (ho : o.op = .call { callee := .value (.func K), args := #[x, z], argTypes := tys })
    (hx : Wk (evA t x) (.ms g1 o1 n1 c1)) (hz : Wk (evA t z) (.ms g2 o2 n2 c2)) (hm1 : (g1, .rows rs1 cap1 s2 e1) ∈ bs) (hm2 : (g2, .rows rs2 cap2 s2 e2) ∈ bs) (hne : g1 ≠ g2) (hc : 0 < cap2) (hpos : 0 < s2) : OpQ P o t bs (.v (.bool false)) := by
  refine .of_run fun a w h hb => ?_
  have hr1 := h x (by simp [ho, Op.operands, Call.operands])
  have hr2 := h z (by simp [ho, Op.operands, Call.operands])
  have e1' := (hr1.wk hx).ms_inv
  have e2' := (hr2.wk hz).ms_inv
  obtain ⟨arr, ha1, ha2, ha3, ha4, ha5, ha6⟩ := hb.get hm1
  obtain ⟨arr2, hb1, hb2, hb3, hb4, hb5, hb6⟩ := hb.get hm2
  obtain ⟨tR, hR⟩ := hv.run
  refine ⟨.bool false, ?_, .v rfl⟩
  have hp : cap2 * s2 ≠ 0 := Nat.mul_ne_zero (by omega) (by omega)
  have hov := Lib.run_overlaps_apart (P := P) w tS tR e h1.und s2 (fun w => h2.sizeOf_ w) ⟨g1, o1, none⟩ ⟨g2, o2, none⟩ n1 c1 n2 c2 hne e1 e2 arr.size arr2.size (by simp [World.shape?, ha1]) (by simp [World.shape?, hb1]) (by omega) (by simp [World.frozen?, ha1]) (by simp [World.frozen?, ha1])
  have hrf : (callFunc K #[a.eval x, a.eval z]).run P w = .ok (.value (.bool false)) w := by rw [e1', e2', hR, hov]; rfl
  have hargs : (#[x, z] : Array Operand).map a.eval = #[a.eval x, a.eval z] := by simp
  simp only [execOp, ho, resolve, Deferred.ofValue, Act.eval, invoke, Sem.run_bind, Sem.run_pure, Result.andThen_ok, Array.append_empty, Array.empty_append]
  rw [hargs]; exact hrf
end
/-- Rows that turned turn no more: a slice of them is read from now on. -/
inductive FrzV (g : Nat) (rs : List (List A)) (cap : Nat) : A → A → Prop where
  | refl (a : A) : FrzV g rs cap a a
  | ms {n c : Nat} {ys : List (List A)} (hn : n ≤ rs.length) (hc : n ≤ c) (hcap : c ≤ cap) (hy : rs.take n = ys) : FrzV g rs cap (.ms g 0 n c) (.sl ys)
  | agg (xs ys : List A) (l : xs.length = ys.length) (h : ∀ (k : Nat) (a b : A), xs[k]? = some a → ys[k]? = some b → FrzV g rs cap a b) : FrzV g rs cap (.agg xs) (.agg ys)
  | tup (xs ys : List A) (l : xs.length = ys.length) (h : ∀ (k : Nat) (a b : A), xs[k]? = some a → ys[k]? = some b → FrzV g rs cap a b) : FrzV g rs cap (.tup xs) (.tup ys)
inductive FrzL (g : Nat) (rs : List (List A)) (cap : Nat) : List A → List A → Prop where
  | nil : FrzL g rs cap [] []
  | cons {a b : A} {r s : List A} (h : FrzV g rs cap a b) (k : FrzL g rs cap r s) : FrzL g rs cap (a :: r) (b :: s)
theorem FrzL.get {g cap : Nat} {rs : List (List A)} {xs ys : List A} (h : FrzL g rs cap xs ys) : xs.length = ys.length ∧ ∀ (k : Nat) (a b : A), xs[k]? = some a → ys[k]? = some b → FrzV g rs cap a b := by
  induction h with
  | nil => exact ⟨rfl, by simp⟩
  | cons h _ ih =>
    refine ⟨by simp [ih.1], fun k a b ha hb => ?_⟩
    cases k with
    | zero => simp at ha hb; subst ha; subst hb; exact h
    | succ k => exact ih.2 k a b (by simpa using ha) (by simpa using hb)
theorem FrzV.aggs {g cap : Nat} {rs : List (List A)} {xs ys : List A} (h : FrzL g rs cap xs ys) : FrzV g rs cap (.agg xs) (.agg ys) := .agg _ _ h.get.1 h.get.2
theorem FrzV.tups {g cap : Nat} {rs : List (List A)} {xs ys : List A} (h : FrzL g rs cap xs ys) : FrzV g rs cap (.tup xs) (.tup ys) := .tup _ _ h.get.1 h.get.2
theorem FrzV.rep {w : World} {bs bs' : BS} {g cap s : Nat} {e : TypeId} {rs : List (List A)} {u : Value} {x y : A} (hb : BsOk w bs) (hm : (g, .rows rs cap s e) ∈ bs) (hsub : List.Sublist bs' bs) (hg : ∀ q ∈ bs', q.1 ≠ g) (h : Rep w (zones bs) u x) (k : FrzV g rs cap x y) : Rep w (zones bs') u y := by
  obtain ⟨_, hz⟩ := hb.less hsub
  induction k generalizing u with
  | refl => exact h.less hz
  | @ms n c ys hn hc hcap hy =>
    subst hy
    have e := h.ms_inv
    subst e
    obtain ⟨arr, ha1, ha2, ha3, ha4, ha5, ha6⟩ := hb.get hm
    refine Rep.new_row ha1 (by simp; omega) hc (by omega) (fun r hr => ha5 r (List.mem_of_mem_take hr)) (fun k q hk => ?_) (fun k _ z hzz he => ?_)
    · have hlt : k < n * s := by have := (List.getElem?_eq_some_iff.1 hk).1; rw [flat_lenA (fun r hr => ha5 r (List.mem_of_mem_take hr))] at this; simp at this; rwa [Nat.min_eq_left hn] at this
      rw [flat_takeA ha5, List.getElem?_take_of_lt hlt] at hk
      obtain ⟨q1, q2⟩ := ha6 k q hk
      refine ⟨q1.less hz, q2, ?_⟩
      rw [ha4]; exact Nat.lt_of_lt_of_le hlt (Nat.mul_le_mul_right _ (by omega))
    · obtain ⟨xb, hxb, rfl⟩ := mem_zones.1 hzz
      exact absurd he (hg xb hxb)
  | agg xs ys l hh ih =>
    cases h with
    | agg l2 hr h1 =>
      refine .agg (l2.trans l) (fun k q hq => ?_) (fun k q hq => ?_)
      all_goals
        obtain ⟨p, hp⟩ : ∃ p, xs[k]? = some p := ⟨_, List.getElem?_eq_getElem (by rw [l]; exact (List.getElem?_eq_some_iff.1 hq).1)⟩
      · exact ih k p q hp hq (hr k p hp)
      · exact h1 k p hp
  | tup xs ys l hh ih =>
    cases h with
    | tup l2 hr =>
      refine .tup (l2.trans l) (fun k q hq => ?_)
      obtain ⟨p, hp⟩ : ∃ p, xs[k]? = some p := ⟨_, List.getElem?_eq_getElem (by rw [l]; exact (List.getElem?_eq_some_iff.1 hq).1)⟩
      exact ih k p q hp hq (hr k p hp)
/-- What a call leaves is told anew: less of it, or rows that turn no more. -/
inductive Leave (bs : BS) (y : A) : BS → A → Prop where
  | less {bs' : BS} {y' : A} (h : List.Sublist bs' bs) (k : Wk y y') : Leave bs y bs' y'
  | frz {g cap s : Nat} {e : TypeId} {rs : List (List A)} {bs' : BS} {y' : A} (hm : (g, .rows rs cap s e) ∈ bs) (hsub : List.Sublist bs' bs) (hg : (bs.map (·.1)).Nodup → g ∉ bs'.map (·.1)) (k : FrzV g rs cap y y') : Leave bs y bs' y'
theorem ACalls.leave {P : Program} {K : Nat} {args : List A} {bs : BS} {R R' : A → BS → Prop} (h : ACalls P K args bs R) (k : ∀ y b, R y b → ∃ b' y', Leave b y b' y' ∧ R' y' b') : ACalls P K args bs R' :=
  fun w us hs hu hb => (h w us hs hu hb).mono fun e w' ⟨u, r, bs', h1, h2, h3, h4, h5⟩ => by
    obtain ⟨b', y', hl, hR⟩ := k _ _ h2
    cases hl with
    | less hsub hk =>
      obtain ⟨q1, q2⟩ := h4.less hsub
      exact ⟨u, y', b', h1, hR, (h3.wk hk).less q2, q1, h5.less q2⟩
    | frz hm hsub hg hk =>
      obtain ⟨q1, q2⟩ := h4.less hsub
      exact ⟨u, y', b', h1, hR, FrzV.rep h4 hm hsub (fun q hq e => hg h4.nodup (List.mem_map.2 ⟨q, hq, e⟩)) h3 hk, q1, h5.less q2⟩
end Go.Proofs.Ytnkkfmnpkgjabaa.X
