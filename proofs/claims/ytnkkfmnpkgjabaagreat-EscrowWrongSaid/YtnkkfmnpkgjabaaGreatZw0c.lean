/- The same logic: rows that may turn: parts of them, appends in place, copies, clears. -/
import Derived.Test.YtnkkfmnpkgjabaaGreatZw0b
import Derived.Lib.AppendZerosOnto
import Derived.Lib.Overlaps
import Derived.Scope
import Derived.LoopN
import Derived.Laws.MakeOwn
import Derived.Lib.AppendStr
import Derived.Lib.UnsafeStr
import Derived.Lib.Builder
import Derived.Laws.Externs
import Derived.WideKeyRuns
import Derived.Carry
namespace Go.Proofs.YtnkkfmnpkgjabaaGreat.X
open Go.RowKit
set_option linter.unusedVariables false
set_option linter.unusedSimpArgs false

/-- Rows laid over others from i on. -/
def over {α : Type} (rs : List α) (i : Nat) (ys : List α) : List α := rs.take i ++ ys ++ rs.drop (i + ys.length)
theorem over_get {α : Type} (rs : List α) (i : Nat) (ys : List α) (h : i ≤ rs.length) (k : Nat) : (over rs i ys)[k]? = if i ≤ k ∧ k < i + ys.length then ys[k - i]? else rs[k]? := by
  unfold over
  rw [List.append_assoc]
  by_cases h1 : k < i
  · rw [List.getElem?_append_left (by simp; omega), if_neg (by omega), List.getElem?_take_of_lt h1]
  · rw [List.getElem?_append_right (by simp; omega), show (rs.take i).length = i by simp; omega]
    by_cases h2 : k < i + ys.length
    · rw [List.getElem?_append_left (by omega), if_pos (by omega)]
    · rw [List.getElem?_append_right (by omega), if_neg (by omega), List.getElem?_drop]
      congr 1; omega
theorem over_len {α : Type} (rs : List α) (i : Nat) (ys : List α) (h : i ≤ rs.length) : (over rs i ys).length = max rs.length (i + ys.length) := by
  unfold over; simp; omega
theorem over_flat {rs ys : List (List A)} {s i : Nat} (hs : ∀ r ∈ rs, r.length = s) (hy : ∀ r ∈ ys, r.length = s) (h : i ≤ rs.length) : (over rs i ys).flatten = over rs.flatten (i * s) ys.flatten := by
  unfold over
  rw [List.flatten_append, List.flatten_append, flat_takeA hs, flat_dropA hs, flat_lenA hy, Nat.add_mul]
/-- Rows are written over others of one's own. -/
theorem rows_put {P : Program} {w : World} {bs bs' : BS} {g cap s i : Nat} {e : TypeId} {rs ys : List (List A)} {us : List Value} (hb : BsOk w bs) (hu : BUpd bs g (.rows rs cap s e) g (.rows (over rs i ys) cap s e) bs') (hi : i ≤ rs.length) (hc : i + ys.length ≤ cap) (hs : ∀ r ∈ ys, r.length = s) (hl : us.length = ys.length * s) (hone : ∀ v ∈ us, v.oneCell' = true)
    (hr : ∀ k x, ys.flatten[k]? = some x → Rep w (zones bs) (us.getD k undef) x) :
    (∀ j, j < us.length → (w.cell? ⟨g, i * s + j, none⟩).isSome = true) ∧ (∀ j, j < us.length → w.frozen? ⟨g, i * s + j, none⟩ = false) ∧ (storeCells ⟨g, i * s, none⟩ us).run P w = .ok () (w.setCells g (i * s) us) ∧ BsOk (w.setCells g (i * s) us) bs' ∧ Ext w (zones bs) (w.setCells g (i * s) us) (zones bs') := by
  obtain ⟨arr, ha1, ha2, ha3, ha4, ha5, ha6⟩ := hb.get hu.mem
  have hfit : i * s + us.length ≤ arr.size := by rw [hl, ha4, ← Nat.add_mul]; exact Nat.mul_le_mul_right _ hc
  have hfl : rs.flatten.length = rs.length * s := flat_lenA ha5
  have hyl : ys.flatten.length = us.length := by rw [flat_lenA hs, hl]
  have c1 : ∀ j, j < us.length → (w.cell? ⟨g, i * s + j, none⟩).isSome = true := fun j hj => by
    rw [cell_of_row w g _ arr e (0, 0) ha1, Array.getElem?_eq_getElem (by omega)]; rfl
  have c2 : ∀ j, j < us.length → w.frozen? ⟨g, i * s + j, none⟩ = false := fun j hj => by simp [World.frozen?, ha1]
  refine ⟨c1, c2, ?_, ?_⟩
  · have := run_storeCells_cells (P := P) g (i * s) us 0 w (by simpa using c1) (by simpa using c2) hone
    simpa using this
  obtain ⟨q1, q2, q3, q4, q5⟩ := setCells_same g us (i * s) w
  have hheap := setCells_heap g e us (i * s) w arr ha1
  refine hb.upd (w' := w.setCells g (i * s) us) hu q1 q2 q3 (by omega) (.inl ⟨rfl, Nat.le_refl _⟩) (fun k _ hk => q5 k hk) (fun k hk => by simp [Blk.from_] at hk) fun he => ?_
  refine ⟨_, hheap, by rw [over_len _ _ _ hi]; omega, ha3, by simp [spl_len, ha4], fun r hr => ?_, fun k x hk => ?_⟩
  · unfold over at hr
    rcases List.mem_append.1 hr with h | h
    · rcases List.mem_append.1 h with h | h
      · exact ha5 r (List.mem_of_mem_take h)
      · exact hs r h
    · exact ha5 r (List.mem_of_mem_drop h)
  · have hle : i * s ≤ rs.flatten.length := by rw [hfl]; exact Nat.mul_le_mul_right _ hi
    rw [over_flat ha5 hs hi, over_get _ _ _ hle, hyl] at hk
    have hg : (spl arr.toList (i * s) us).toArray.getD k undef = if i * s ≤ k ∧ k < i * s + us.length then us.getD (k - i * s) undef else arr.getD k undef := by
      simp only [Array.getD_eq_getD_getElem?, List.getElem?_toArray]
      rw [spl_get us arr.toList _ k (by simpa using hfit)]
      split <;> simp [List.getD_eq_getElem?_getD]
    rw [hg]
    split at hk
    · rename_i hin
      rw [if_pos hin]
      have hin2 : us[k - i * s]? = some (us.getD (k - i * s) undef) := by
        rw [List.getD_eq_getElem?_getD, List.getElem?_eq_getElem (by omega)]; rfl
      exact ⟨(hr _ x hk).ext he, hone _ (List.mem_of_getElem? hin2)⟩
    · rename_i hout
      rw [if_neg hout]
      exact ⟨(ha6 k x hk).1.ext he, (ha6 k x hk).2⟩
section
variable {P : Program} {o : Oper} {t : T} {bs : BS} {y : A} {x z : Operand} {ty ty2 : TypeId} {d : TypeDesc} {sz by_ : Nat}
/-- What rows an operand tells: of a row that is read only, or of a part of one's own (of a slice of so many, the first ones). -/
inductive Src (t : T) (bs : BS) (s : Nat) (x : Operand) : Nat → List (List A) → Prop where
  | sl {ys : List (List A)} {n : Nat} (h : Wk (evA t x) (.sl ys)) (hn : ys.length = n) (hs : ∀ r ∈ ys, r.length = s) : Src t bs s x n ys
  | ms {g off j n c cap k : Nat} {e : TypeId} {rs ys : List (List A)} (h : Wk (evA t x) (.ms g off n c)) (ho : off = j * s) (hm : (g, .rows rs cap s e) ∈ bs) (hk : k ≤ n) (hj : j + k ≤ rs.length) (hy : (rs.drop j).take k = ys) : Src t bs s x n ys
theorem Src.all {s g off j n c cap : Nat} {e : TypeId} {rs ys : List (List A)} (h : Wk (evA t x) (.ms g off n c)) (ho : off = j * s) (hm : (g, .rows rs cap s e) ∈ bs) (hj : j + n ≤ rs.length) (hy : (rs.drop j).take n = ys) : Src t bs s x n ys := .ms h ho hm (Nat.le_refl _) hj hy
theorem Src.list {s m : Nat} {ys : List (List A)} (h : Src t bs s x m ys) {w : World} {u : Value} (hb : BsOk w bs) (hr : Rep w (zones bs) u (evA t x)) : ∃ Ad c, ∃ us : List Value, u = .slice Ad m c ∧ us.length = ys.length * s ∧ (∀ r ∈ ys, r.length = s) ∧ (∀ v ∈ us, v.oneCell' = true) ∧ (0 < ys.length → ∃ g o, Ad = some ⟨g, o, none⟩ ∧ ∀ j v, us[j]? = some v → w.cell? ⟨g, o + j, none⟩ = some v) ∧
    ∀ k q, ys.flatten[k]? = some q → Rep w (zones bs) (us.getD k undef) q := by
  cases h with
  | sl h hn hs =>
    subst hn
    obtain ⟨Ad, c, us, e, l, o1, a, r⟩ := (hr.wk h).sl_list hs
    exact ⟨Ad, c, us, e, l, hs, o1, a, r⟩
  | @ms g off j _ c cap n e rs _ h ho hm hk0 hj hy =>
    subst hy; subst ho
    have e1 := (hr.wk h).ms_inv
    obtain ⟨arr, ha1, ha2, ha3, ha4, ha5, ha6⟩ := hb.get hm
    have hs : ∀ r ∈ (rs.drop j).take n, r.length = s := fun r hr => ha5 r (List.mem_of_mem_drop (List.mem_of_mem_take hr))
    have hln : ((rs.drop j).take n).length = n := by simp; omega
    have hle : j * s + n * s ≤ rs.flatten.length := by rw [flat_lenA ha5, ← Nat.add_mul]; exact Nat.mul_le_mul_right _ hj
    have hin : ∀ k, k < n * s → ∃ q, rs.flatten[j * s + k]? = some q := fun k hk => ⟨_, List.getElem?_eq_getElem (by omega)⟩
    have hasz : j * s + n * s ≤ arr.size := by rw [ha4, ← Nat.add_mul]; exact Nat.mul_le_mul_right _ (by omega)
    have hget : ∀ k v, ((arr.toList.drop (j * s)).take (n * s))[k]? = some v → k < n * s ∧ arr[j * s + k]? = some v := fun k v hv => by
      rw [List.getElem?_take] at hv
      split at hv
      · rename_i hlt; rw [List.getElem?_drop] at hv; exact ⟨hlt, by simpa using hv⟩
      · cases hv
    refine ⟨some ⟨g, j * s, none⟩, c, (arr.toList.drop (j * s)).take (n * s), e1, by rw [hln]; simp; omega, hs, fun v hv => ?_, fun _ => ⟨g, j * s, rfl, fun k v hv => ?_⟩, fun k q hk => ?_⟩
    · obtain ⟨k, hk⟩ := List.mem_iff_getElem?.1 hv
      obtain ⟨h1, h2⟩ := hget k v hk
      obtain ⟨q, hq⟩ := hin k h1
      have := (ha6 _ q hq).2
      rwa [Array.getD_eq_getD_getElem?, h2] at this
    · rw [cell_of_row w g _ arr e (0, 0) ha1]; exact (hget k v hv).2
    · have hk2 : k < n * s ∧ rs.flatten[j * s + k]? = some q := by
        have hlt : k < n * s := by have := (List.getElem?_eq_some_iff.1 hk).1; rwa [flat_lenA hs, hln] at this
        rw [flat_takeA (fun r hr => ha5 r (List.mem_of_mem_drop hr)), List.getElem?_take_of_lt hlt, flat_dropA ha5, List.getElem?_drop] at hk
        exact ⟨hlt, hk⟩
      have : ((arr.toList.drop (j * s)).take (n * s)).getD k undef = arr.getD (j * s + k) undef := by
        rw [List.getD_eq_getElem?_getD, List.getElem?_take_of_lt hk2.1, List.getElem?_drop, Array.getD_eq_getD_getElem?]; simp
      rw [this]
      exact (ha6 _ q hk2.2).1
/-- Parts of one's own rows. -/
theorem OpQ.part_ms {e : TypeId} {lo hi mx : Option Operand} {g off n c l h m q s1 b1 s2 b2 : Nat} {d2 : TypeDesc} [h1 : TI P ty (.slice e) s1 b1] [h2 : TI P e d2 s2 b2] (ho : o.op = .slice ty x lo hi mx) (hx : Wk (evA t x) (.ms g off n c))
    (hlo : Bnd t lo 0 l) (hhi : Bnd t hi n h) (hmx : Bnd t mx c m) (hm : mx = none ∨ hi ≠ none) (hl : l ≤ h) (hh : h ≤ m) (hc : m ≤ c) (hlt : l < m ∨ l = 0) (hq : off + l * s2 = q) : OpQ P o t bs (.ms g q (h - l) (m - l)) :=
  .of_run fun a w hr hb => by
    obtain ⟨hrx, hrv⟩ := slice_ops ho hr
    have e1 := (hrx.wk hx).ms_inv
    have hB := run_bounds (P := P) (isS := true) (len := n) (cap := c) hrv hlo hhi hmx hm hl hh hc
    subst hq
    refine ⟨.slice (if m = l then some (⟨g, off, none⟩ : Addr) else (some (⟨g, off, none⟩ : Addr)).map (·.add (l * s2))) (h - l) (m - l), by simp only [execOp, ho, e1, Sem.run_bind, run_sliceAt h1 h2 hB, Result.andThen_ok, Sem.run_pure], ?_⟩
    have : (if m = l then some (⟨g, off, none⟩ : Addr) else (some (⟨g, off, none⟩ : Addr)).map (·.add (l * s2))) = some ⟨g, off + l * s2, none⟩ := by
      by_cases hml : m = l
      · rw [if_pos hml]
        have : l = 0 := by omega
        subst this; simp
      · rw [if_neg hml]; simp [Addr.add_mid]
    rw [this]; exact .ms
theorem OpQ.front_ms {e : TypeId} {hi mx : Option Operand} {g off n c h m s1 b1 s2 b2 : Nat} {d2 : TypeDesc} [h1 : TI P ty (.slice e) s1 b1] [h2 : TI P e d2 s2 b2] (ho : o.op = .slice ty x none hi mx) (hx : Wk (evA t x) (.ms g off n c))
    (hhi : Bnd t hi n h) (hmx : Bnd t mx c m) (hm : mx = none ∨ hi ≠ none) (hh : h ≤ m) (hc : m ≤ c) : OpQ P o t bs (.ms g off h m) := by
  have := OpQ.part_ms (P := P) (bs := bs) ho hx (.none _) hhi hmx hm (Nat.zero_le _) hh hc (.inr rfl) (q := off) (by omega)
  simpa using this
/-- A part with nothing in it. -/
theorem OpQ.part_nothing {e : TypeId} {lo hi : Option Operand} {g off n c l h' s1 b1 s2 b2 : Nat} {d2 : TypeDesc} [h1 : TI P ty (.slice e) s1 b1] [h2 : TI P e d2 s2 b2] (ho : o.op = .slice ty x lo hi none) (hx : Wk (evA t x) (.ms g off n c))
    (hlo : Bnd t lo 0 l) (hhi : Bnd t hi n h') (hhl : h' = l) {cap s : Nat} {e' : TypeId} {rs : List (List A)} (hm : (g, .rows rs cap s e') ∈ bs) (hc : l ≤ c) (hcm : c ≤ cap) : OpQ P o t bs (.sl []) :=
  .of_run fun a w hr hb => by
    obtain ⟨hrx, hrv⟩ := slice_ops ho hr
    have e1 := (hrx.wk hx).ms_inv
    subst hhl
    obtain ⟨arr, ha1, ha2, ha3, ha4, ha5, ha6⟩ := hb.get hm
    have hB := run_bounds (P := P) (isS := true) (len := n) (cap := c) (mx := none) hrv hlo hhi (.none _) (.inl rfl) (Nat.le_refl _) hc (Nat.le_refl _)
    simp only [Option.map_none] at hB
    refine ⟨.slice (if c = h' then some (⟨g, off, none⟩ : Addr) else (some (⟨g, off, none⟩ : Addr)).map (·.add (h' * s2))) (h' - h') (c - h'), by simp only [execOp, ho, e1, Option.map_none, Sem.run_bind, run_sliceAt h1 h2 hB, Result.andThen_ok, Sem.run_pure], ?_⟩
    exact .sl (by simp) (by omega) (by omega) 0 0 0 (fun _ => undef) (by simp) (by omega) (by simp) (by simp) (by simp) (by simp)
theorem OpQ.cap_ms {e : TypeId} {g off n c s1 b1 : Nat} [h1 : TI P ty (.slice e) s1 b1] (ho : o.op = .call { callee := .builtin .cap, args := #[x], argTypes := #[ty] }) (hx : Wk (evA t x) (.ms g off n c)) : OpQ P o t bs (.v (.int .i64 c)) :=
  .of_run fun a w h hb => by
    have e1 := ((h x (by simp [ho, Op.operands, Call.operands])).wk hx).ms_inv
    refine ⟨goInt c, ?_, .v rfl⟩
    simp only [execOp, ho, resolve, invoke, builtin, Builtin.cap_, Sem.run_bind, Sem.run_pure, Result.andThen_ok, List.map_toArray, List.map_cons, List.map_nil, List.getElem?_toArray, List.getElem?_cons_zero, h1.run_und, e1]
theorem run_firstCells_zero (size : Nat) (Ad : Option Addr) (n c : Nat) (w : World) : (Builtin.firstCells size 0 (.slice Ad n c)).run P w = .ok #[] w := by
  cases Ad with
  | none => simp [Builtin.firstCells]
  | some b => simpa using run_firstCells_some (P := P) w size 0 b n c [] (by simp) (by simp)
theorem run_append_zero {e : TypeId} {s1 b1 s2 b2 : Nat} {d2 : TypeDesc} (h1 : TI P ty (.slice e) s1 b1) (h2 : TI P e d2 s2 b2) (tyr : TypeId) (b : Option Addr) (n c : Nat) (hn : n ≤ c) (Ad : Option Addr) (c2 : Nat) (w : World) : (Builtin.append_ #[ty, ty] tyr #[.slice b n c, .slice Ad 0 c2]).run P w = .ok (.slice b n c) w := by
  obtain ⟨i, hi1, hi2, hi3⟩ := h2.info
  cases b with
  | none => simp [Builtin.append_, run_underlying h1.und, sizeOf, typeInfo, hi1, Builtin.lenOf, run_firstCells_zero, Sem.run_bind, hn]
  | some b =>
    have hst : (storeCells (b.add (n * i.size)) []).run P w = .ok () w := by simp [storeCells]
    simp [Builtin.append_, run_underlying h1.und, sizeOf, typeInfo, hi1, Builtin.lenOf, run_firstCells_zero, hst, Sem.run_bind, hn]
/-- 'append' in place. -/
theorem OpW.app_in {e : TypeId} {s1 b1 s2 b2 g off i n c cap : Nat} {d2 : TypeDesc} {rs ys rs' : List (List A)} {bs' : BS} [h1 : TI P ty (.slice e) s1 b1] [h2 : TI P e d2 s2 b2] (ho : o.op = .call { callee := .builtin .append, args := #[x, z], argTypes := #[ty, ty] })
    (hx : Wk (evA t x) (.ms g off n c)) (hoff : off = i * s2) (hy : Src t bs s2 z ys.length ys) (hrs : over rs (i + n) ys = rs') (hu : BUpd bs g (.rows rs cap s2 e) g (.rows rs' cap s2 e) bs') (hn : i + n ≤ rs.length) (hroom : n + ys.length ≤ c) (hcap : i + c ≤ cap) :
    OpW P o t bs fun y b' => y = .ms g off (n + ys.length) c ∧ b' = bs' := by
  subst hrs; subst hoff
  intro a w h hb K Q hK
  obtain ⟨hr1, hr2⟩ := append_ops ho h
  have e1 := (hr1.wk hx).ms_inv
  obtain ⟨Ad2, c2, us2, e2, l2, hs2, o2, a2, r2⟩ := hy.list hb hr2
  obtain ⟨ii, hi1, hi2, hi3⟩ := h2.info
  unfold Oper.wp
  obtain ⟨p1, p2, p3, p4, p5⟩ := rows_put (P := P) hb hu hn (by omega) hs2 l2 o2 r2
  have hrun : (Builtin.append_ #[ty, ty] o.type #[.slice (some ⟨g, i * s2, none⟩) n c, a.eval z]).run P w = .ok (.slice (some ⟨g, i * s2, none⟩) (n + ys.length) c) (w.setCells g ((i + n) * s2) us2) := by
    rw [e2]
    rcases Nat.eq_zero_or_pos ys.length with h0 | hp
    · have hus : us2 = [] := List.eq_nil_of_length_eq_zero (by rw [l2, h0]; omega)
      subst hus
      rw [h0]
      exact run_append_zero h1 h2 o.type _ n c (by omega) Ad2 c2 w
    · obtain ⟨g2, q2, rfl, hc2⟩ := a2 hp
      have hm : i * s2 + n * s2 = (i + n) * s2 := by rw [Nat.add_mul]
      have := run_append_room_cells (P := P) w ty o.type e ii h1.und hi1 g (i * s2) n c ⟨g2, q2, none⟩ ys.length c2 us2 (by rw [hi2]; exact l2) (fun j v hj => by rw [Addr.add_mid]; exact hc2 j v hj) o2 hroom
        (fun j hj => by rw [hi2, hm]; exact p1 j hj) (fun j hj => by rw [hi2, hm]; exact p2 j hj)
      rw [hi2, hm] at this
      exact this
  rw [append_run ho e1 rfl hrun]
  exact hK _ _ _ _ ⟨rfl, rfl⟩ .ms p4 p5
/-- 'copy' over rows of one's own. -/
theorem OpW.copy {e : TypeId} {s1 b1 s2 b2 g off i n c m n2 cap : Nat} {d2 : TypeDesc} {rs ys rs' : List (List A)} {bs' : BS} [h1 : TI P ty (.slice e) s1 b1] [h2 : TI P e d2 s2 b2] (ho : o.op = .call { callee := .builtin .copy, args := #[x, z], argTypes := #[ty, ty] })
    (hx : Wk (evA t x) (.ms g off n c)) (hoff : off = i * s2) (hy : Src t bs s2 z n2 ys) (hm : min n2 n = m) (hmy : m ≤ ys.length) (hrs : over rs i (ys.take m) = rs') (hu : BUpd bs g (.rows rs cap s2 e) g (.rows rs' cap s2 e) bs') (hi : i ≤ rs.length) (hcap : i + m ≤ cap) :
    OpW P o t bs fun y b' => y = .v (.int .i64 m) ∧ b' = bs' := by
  subst hrs; subst hoff; subst hm
  intro a w h hb K Q hK
  have hr1 := h x (by simp [ho, Op.operands, Call.operands])
  have hr2 := h z (by simp [ho, Op.operands, Call.operands])
  have e1 := (hr1.wk hx).ms_inv
  obtain ⟨Ad2, c2, us2, e2, l2, hs2, o2, a2, r2⟩ := hy.list hb hr2
  obtain ⟨ii, hi1, hi2, hi3⟩ := h2.info
  generalize hm : min n2 n = m at *
  have hfl : (ys.take m).flatten = ys.flatten.take (m * s2) := flat_takeA hs2 m
  have l3 : (us2.take (m * s2)).length = (ys.take m).length * s2 := by
    have : m * s2 ≤ ys.length * s2 := Nat.mul_le_mul_right _ hmy
    simp; rw [Nat.min_eq_left hmy]; omega
  obtain ⟨p1, p2, p3, p4, p5⟩ := rows_put (P := P) (us := us2.take (m * s2)) hb hu hi (by simp; omega) (fun r hr => hs2 r (List.mem_of_mem_take hr)) l3 (fun v hv => o2 v (List.mem_of_mem_take hv)) (fun k q hk => by
    rw [hfl, List.getElem?_take] at hk
    split at hk
    · rename_i hlt
      have : (us2.take (m * s2)).getD k undef = us2.getD k undef := by simp only [List.getD_eq_getElem?_getD, List.getElem?_take_of_lt hlt]
      rw [this]; exact r2 k q hk
    · cases hk)
  have hfc : (Builtin.firstCells ii.size m (a.eval z)).run P w = .ok (us2.take (m * s2)).toArray w := by
    rw [e2, hi2]
    rcases Nat.eq_zero_or_pos m with h0 | hp
    · subst h0; simpa using run_firstCells_zero (P := P) s2 Ad2 n2 c2 w
    · obtain ⟨g2, q2, rfl, hc2⟩ := a2 (by omega)
      refine run_firstCells_some (P := P) w s2 m ⟨g2, q2, none⟩ n2 c2 _ (by rw [l3]; simp; rw [Nat.min_eq_left hmy]) (fun j v hj => ?_)
      rw [List.getElem?_take] at hj
      split at hj
      · rw [Addr.add_mid]; exact hc2 j v hj
      · cases hj
  have hln : ∀ w, (Builtin.lenOf (a.eval z)).run P w = .ok n2 w := fun w => by rw [e2]; simp [Builtin.lenOf]
  have hrun : (Builtin.copy_ #[ty, ty] o.type #[.slice (some ⟨g, i * s2, none⟩) n c, a.eval z]).run P w = .ok (goInt m) (w.setCells g (i * s2) (us2.take (m * s2))) := by
    have hn' : Nat.min n2 n = m := hm
    simp [Builtin.copy_, run_underlying h1.und, hln, sizeOf, typeInfo, hi1, hn', hfc, p3, Sem.run_bind]
  unfold Oper.wp
  have hex : (execOp a.eval o).run P w = .ok (.value (goInt m)) (w.setCells g (i * s2) (us2.take (m * s2))) := by
    simp only [execOp, ho, resolve, invoke, builtin, Sem.run_bind, Sem.run_pure, Result.andThen_ok, List.map_toArray, List.map_cons, List.map_nil, e1, hrun]
  rw [hex]
  exact hK _ _ _ _ ⟨rfl, rfl⟩ (.v rfl) p4 p5
/-- 'clear' of rows of one's own. -/
theorem OpW.clear {e : TypeId} {s1 b1 s2 b2 g off i n c cap : Nat} {d2 : TypeDesc} {zs : List Value} {cs : List A} {rs rs' : List (List A)} {bs' : BS} [h1 : TI P ty (.slice e) s1 b1] [h2 : TI P e d2 s2 b2] [hz : TC P e zs cs] (ho : o.op = .call { callee := .builtin .clear, args := #[x], argTypes := #[ty] })
    (hx : Wk (evA t x) (.ms g off n c)) (hoff : off = i * s2) (hrs : over rs i (List.replicate n cs) = rs') (hu : BUpd bs g (.rows rs cap s2 e) g (.rows rs' cap s2 e) bs') (hi : i ≤ rs.length) (hcap : i + n ≤ cap) (hzl : cs.length = s2) (hpos : 0 < s2) :
    OpW P o t bs fun y b' => y = .tup [] ∧ b' = bs' := by
  subst hrs; subst hoff
  intro a w h hb K Q hK
  have hr1 := h x (by simp [ho, Op.operands, Call.operands])
  have e1 := (hr1.wk hx).ms_inv
  obtain ⟨zv, hz1, hz2⟩ := hz.z.run
  have hzs : zs.length = s2 := by have := congrArg List.length hz.abs; simp at this; omega
  have hzc : ∀ k, (Builtin.zeroCells zv.cells n).toList[k]? = if k < n * s2 then zs[k % s2]? else none := fun k => by
    rw [hz2]
    simp only [Builtin.zeroCells, Array.toList_map, Array.toList_range, List.getElem?_map, List.size_toArray, hzs]
    by_cases hk : k < n * s2
    · rw [List.getElem?_range hk, if_pos hk]
      have : k % s2 < zs.length := by rw [hzs]; exact Nat.mod_lt _ hpos
      simp [List.getElem?_eq_getElem this, getElem!_pos, this]
    · rw [if_neg hk, List.getElem?_eq_none (by simpa using hk)]; rfl
  have hlen : (Builtin.zeroCells zv.cells n).toList.length = n * s2 := by simp [Builtin.zeroCells, hz2, hzs]
  obtain ⟨p1, p2, p3, p4, p5⟩ := rows_put (P := P) (us := (Builtin.zeroCells zv.cells n).toList) hb hu hi (by simpa using hcap) (fun r hr => by rw [(List.mem_replicate.1 hr).2]; exact hzl) (by rw [hlen, List.length_replicate]) (fun v hv => by
    obtain ⟨k, hk⟩ := List.mem_iff_getElem?.1 hv
    rw [hzc] at hk
    split at hk
    · exact List.all_eq_true.1 hz.one v (List.mem_of_getElem? hk)
    · cases hk) (fun k q hk => by
    have hlt : k < n * s2 := by have := (List.getElem?_eq_some_iff.1 hk).1; rwa [rep_rows_len, hzl] at this
    rw [flat_rep cs n k (by omega) (by rw [hzl]; exact hlt), hzl] at hk
    have := ((zero_rep hz w (zones bs)).2 _ q hk).1
    rw [List.getD_eq_getElem?_getD, hzc, if_pos hlt]
    simpa [Array.getD_eq_getD_getElem?] using this)
  have hrun : (Builtin.clear_ #[ty] o.type #[.slice (some ⟨g, i * s2, none⟩) n c]).run P w = .ok (.tuple #[]) (w.setCells g (i * s2) (Builtin.zeroCells zv.cells n).toList) := by
    rcases Nat.eq_zero_or_pos n with h0 | hp
    · subst h0
      have : (Builtin.zeroCells zv.cells 0).toList = [] := by simp [Builtin.zeroCells]
      rw [this]
      simp [Builtin.clear_, run_underlying h1.und, Sem.run_bind, World.setCells]
    · obtain ⟨n', rfl⟩ : ∃ n', n = n' + 1 := ⟨n - 1, by omega⟩
      simp [Builtin.clear_, run_underlying h1.und, hz1, p3, Sem.run_bind]
  unfold Oper.wp
  have hex : (execOp a.eval o).run P w = .ok (.value (.tuple #[])) (w.setCells g (i * s2) (Builtin.zeroCells zv.cells n).toList) := by
    simp only [execOp, ho, resolve, invoke, builtin, Sem.run_bind, Sem.run_pure, Result.andThen_ok, List.map_toArray, List.map_cons, List.map_nil, e1, hrun]
  rw [hex]
  exact hK _ _ _ _ ⟨rfl, rfl⟩ (.tup rfl (by simp)) p4 p5
end
section
variable {P : Program} {o : Oper} {t : T} {bs : BS} {y : A} {x z : Operand} {ty ty2 : TypeId} {d : TypeDesc} {sz by_ : Nat}
/-- What is a slice, whatever else. -/
inductive AnySl : A → Prop where
  | nil : AnySl .nil
  | sl (r : List (List A)) : AnySl (.sl r)
  | clip (r : List (List A)) : AnySl (.clip r)
  | tip (g c : Nat) (r : List (List A)) : AnySl (.tip g c r)
theorem AnySl.inv {w : World} {Z : Zones} {u : Value} {q : A} (h : AnySl q) (hr : Rep w Z u q) : ∃ b n c, u = .slice b n c ∧ n ≤ c := by
  cases h with
  | nil => cases hr; exact ⟨none, 0, 0, rfl, Nat.le_refl _⟩
  | sl r => obtain ⟨Ad, c, e, hc⟩ := hr.slice_inv; exact ⟨_, _, _, e, hc⟩
  | clip r => obtain ⟨Ad, c, e, hc⟩ := (hr.wk (.clip _)).slice_inv; exact ⟨_, _, _, e, hc⟩
  | tip g c r => obtain ⟨Ad, c, e, hc⟩ := (hr.wk (.tip _ _ _)).slice_inv; exact ⟨_, _, _, e, hc⟩
/-- 'append' of nothing. -/
theorem OpQ.app_zeroR {e : TypeId} {s1 b1 s2 b2 : Nat} {d2 : TypeDesc} [h1 : TI P ty (.slice e) s1 b1] [h2 : TI P e d2 s2 b2] (ho : o.op = .call { callee := .builtin .append, args := #[x, z], argTypes := #[ty, ty] }) (hx : RLe (evA t x) y) (ha : AnySl y) (hz : Wk (evA t z) (.sl [])) : OpQ P o t bs y := by
  refine .of_run fun a w h hb => ?_
  obtain ⟨hr1, hr2⟩ := append_ops ho h
  have hr1 := hx _ _ _ hr1
  obtain ⟨b, n, c, e1, hc⟩ := ha.inv hr1
  obtain ⟨Ad2, c2, e2, _⟩ := (hr2.wk hz).slice_inv
  refine ⟨a.eval x, ?_, hr1⟩
  have := run_append_zero h1 h2 o.type b n c hc Ad2 c2 w
  exact append_run ho e1 e2 (by rw [e1]; exact this)
theorem flatMap_cells {s : Nat} : ∀ l : List Value, (∀ v ∈ l, v.cells.size = s) → (l.flatMap (·.cells.toList)).length = l.length * s
  | [], _ => by simp
  | v :: l, h => by
    rw [List.flatMap_cons, List.length_append, flatMap_cells l (fun q hq => h q (by simp [hq])), List.length_cons, Nat.succ_mul]
    have := h v (by simp)
    simp; omega
theorem OpQ.app_zero {e : TypeId} {s1 b1 s2 b2 : Nat} {d2 : TypeDesc} [h1 : TI P ty (.slice e) s1 b1] [h2 : TI P e d2 s2 b2] (ho : o.op = .call { callee := .builtin .append, args := #[x, z], argTypes := #[ty, ty] }) (hx : evA t x = y) (ha : AnySl y) (hz : Wk (evA t z) (.sl [])) : OpQ P o t bs y := OpQ.app_zeroR ho (fun _ _ _ h => hx ▸ h) ha hz
/-- '[]T{..}' that may turn. -/
theorem OpW.lits {e : TypeId} {s1 b1 s2 b2 n : Nat} {d2 : TypeDesc} {zs : List Value} {cs : List A} {parts : Array (Nat × Operand)} {r : List Operand} {ys : List A} {rows : List (List A)} [h1 : TI P ty (.slice e) s1 b1] [h2 : TI P e d2 s2 b2] [hz : TC P e zs cs] (ho : o.op = .buildSlice ty n parts) (hr0 : parts.toList.map (·.2) = r)
    (hp : parts = (r.zipIdx.map fun p => (p.2, p.1)).toArray) (hr : Rows_ t r ys) (hn : r.length = n) (hs : ys.all (fun y => (cellsOf y).length == s2) = true) (hrows : ys.map cellsOf = rows) (hlim : n * s2 ≤ 16777216) (hpos : 0 < s2) : OpW P o t bs fun q bs' => ∃ g, q = .ms g 0 n n ∧ bs' = (g, .rows rows n s2 e) :: bs := by
  subst hrows; subst hp; subst hn
  intro a w h hb K Q hK
  simp only [ho, Op.operands] at h
  have hs' : ∀ y ∈ ys, (cellsOf y).length = s2 := fun y hy => by simpa using List.all_eq_true.1 hs y hy
  obtain ⟨i1, i2, i3⟩ := hr.rep (a := a) (w := w) (fun x hx => h x (by simp [List.map_map, Function.comp_def, List.zipIdx_map_fst]; exact hx)) hs'
  have hrun := run_buildSlice (P := P) h1 h2 hz.z (r.map a.eval) i1 (by simpa using hlim) w
  have hrun2 : (execOp a.eval o).run P w = .ok (.value (.slice (some ⟨w.heap.size, 0, none⟩) r.length r.length)) (w.alloc (.cells ((r.map a.eval).flatMap (·.cells.toList)).toArray e)) := by
    simp only [List.length_map] at hrun
    simp only [execOp, ho, parts_seq r a.eval, Sem.run_bind, hrun, Result.andThen_ok, Sem.run_pure]
  have hm : r.length ≤ maxLen := by
    have : r.length ≤ r.length * s2 := Nat.le_mul_of_pos_right _ hpos
    unfold maxLen; omega
  obtain ⟨q1, q2⟩ := BsOk.push (w' := w.alloc (.cells ((r.map a.eval).flatMap (·.cells.toList)).toArray e)) hb (g := w.heap.size) (b := .rows (ys.map cellsOf) r.length s2 e) (Nat.le_refl _) rfl rfl rfl (by simp) (fun k hk => Below.heap_alloc w _ k hk) fun he => by
    refine ⟨_, heap_alloc_new w _, by simp [i2], hm, ?_, fun q hq => ?_, fun k q hk => ?_⟩
    · rw [List.size_toArray, flatMap_cells _ i1, List.length_map]
    · obtain ⟨y, hy, rfl⟩ := List.mem_map.1 hq; exact hs' y hy
    · obtain ⟨j1, j2, j3⟩ := i3 k q hk
      exact ⟨j1.ext he, j2⟩
  unfold Oper.wp
  rw [hrun2]
  exact hK _ _ _ _ ⟨_, rfl, rfl⟩ .ms q1 q2
end
section
variable {P : Program} {o : Oper} {t : T} {bs : BS} {y : A} {x z : Operand} {ty ty2 : TypeId} {d : TypeDesc} {sz by_ : Nat}
/-- 'append(s, make(S, k)...)' where there is no room. -/
theorem OpW.app_zeros {tn e : TypeId} {kq kn : IntKind} {s1 b1 s2 b2 s3 b3 g i k c cap : Nat} {d2 : TypeDesc} {zs : List Value} {cs : List A} {rs rs' : List (List A)} [h1 : TI P ty (.slice e) s1 b1] [h2 : TI P e d2 s2 b2] [h3 : TI P tn (.int kn) s3 b3] [hz : TC P e zs cs] (ho : o.op = .call { callee := .builtin .append, args := #[x, z], argTypes := #[ty, tn] })
    (hx : Wk (evA t x) (.ms g 0 i c)) (hk : Wk (evA t z) (.v (.int kq (k : Nat)))) (hm : (g, .rows rs cap s2 e) ∈ bs) (hi : i ≤ rs.length) (hrs : rs.take i ++ List.replicate k cs = rs') (h0 : 0 < k) (hc : c < i + k) (hzl : cs.length = s2) (hpos : 0 < s2) (hb2 : 0 < b2) (hbd : (i + k) * b2 ≤ 140737488355328) :
    OpW P o t bs fun y b' => ∃ g' c', y = .ms g' 0 (i + k) c' ∧ b' = (g', .rows rs' c' s2 e) :: bs ∧ i + k ≤ c' := by
  subst hrs
  intro a w h hb K Q hK
  have hr1 := h x (by simp [ho, Op.operands, Call.operands])
  have hr2 := h z (by simp [ho, Op.operands, Call.operands])
  have e1 := (hr1.wk hx).ms_inv
  have e2 := (hr2.wk hk).val
  obtain ⟨ii, hi1, hi2, hi3⟩ := h2.info
  obtain ⟨zv, hzq, hzc⟩ := hz.z.zero
  have hzv : ii.zero = some zv := by rw [hi1] at hzq; simpa using hzq
  have hzs : zs.length = s2 := by have := congrArg List.length hz.abs; simp at this; omega
  obtain ⟨arr, ha1, ha2, ha3, ha4, ha5, ha6⟩ := hb.get hm
  have hle : i * s2 ≤ arr.size := by rw [ha4]; exact Nat.mul_le_mul_right _ (by omega)
  have l1 : (arr.toList.take (i * s2)).length = i * s2 := by simp; omega
  have h63 : i + k ≤ maxLen := by
    have : i + k ≤ (i + k) * b2 := Nat.le_mul_of_pos_right _ hb2
    unfold maxLen; omega
  have hkb : k * b2 ≤ (i + k) * b2 := Nat.mul_le_mul_right _ (by omega)
  have hold : (Builtin.firstCells ii.size i (.slice (some ⟨g, 0, none⟩) i c)).run P w.drew = .ok (arr.toList.take (i * s2)).toArray w.drew :=
    run_firstCells_some (P := P) w.drew ii.size i ⟨g, 0, none⟩ i c _ (by rw [hi2]; exact l1) (fun j v hv => by
      have hlt : j < i * s2 := by rw [← l1]; exact (List.getElem?_eq_some_iff.1 hv).1
      rw [List.getElem?_take_of_lt hlt] at hv
      rw [Addr.add_mid, Nat.zero_add, show w.drew.cell? ⟨g, j, none⟩ = w.cell? ⟨g, j, none⟩ from rfl, cell_of_row w g _ arr e (0, 0) ha1]; simpa using hv)
  have hge := grownCap_ge w (i + k) c e
  have hlem := grownCap_le_maxLen w (i + k) c e h63
  have hrun := Lib.run_append_grow_zeros (P := P) w ty tn o.type e ii zv kq kn h1.und h3.und hi1 hzv (some ⟨g, 0, none⟩) i c _ hold k h0 (by omega) hc (by unfold maxLen at h63; omega) (by rw [hi3]; omega) (by rw [hi3]; exact growslice_fits hc hbd)
  generalize hG : grownCap w (i + k) c e = c' at *
  have hzsz : ∀ m, (Builtin.zeroCells zv.cells m).size = m * s2 := fun m => by simp [Builtin.zeroCells, hzc, hzs]
  have hzget : ∀ m k, k < m * s2 → (Builtin.zeroCells zv.cells m).getD k undef = zs.toArray.getD (k % s2) undef := fun m k hlt => by
    rw [hzc]
    have : k % s2 < zs.length := by rw [hzs]; exact Nat.mod_lt _ hpos
    simp [Builtin.zeroCells, hzs, hlt, this, getElem!_pos, List.getElem?_eq_getElem this]
  have hln : (rs.take i ++ List.replicate k cs).length = i + k := by simp; omega
  obtain ⟨q1, q2⟩ := BsOk.push (w' := w.drew.alloc (.cells ((arr.toList.take (i * s2)).toArray ++ Builtin.zeroCells zv.cells k ++ Builtin.zeroCells zv.cells (c' - (i + k))) e)) hb (g := w.heap.size) (b := .rows (rs.take i ++ List.replicate k cs) c' s2 e) (Nat.le_refl _) rfl rfl rfl (by show w.heap.size ≤ (w.heap.push _).size; simp) (fun k hk => Below.heap_alloc w.drew _ k hk) fun he => by
    refine ⟨_, heap_alloc_new w.drew _, by omega, hlem, ?_, fun r hr => ?_, fun q x hq => ?_⟩
    · simp only [Array.size_append, List.size_toArray, l1, hzsz]
      rw [← Nat.add_mul, ← Nat.add_mul]; congr 1; omega
    · rcases List.mem_append.1 hr with h | h
      · exact ha5 r (List.mem_of_mem_take h)
      · rw [(List.mem_replicate.1 h).2]; exact hzl
    · rw [List.flatten_append, flat_takeA ha5] at hq
      have hfl : (rs.flatten.take (i * s2)).length = i * s2 := by
        have : i * s2 ≤ rs.length * s2 := Nat.mul_le_mul_right _ hi
        simp only [List.length_take, flat_lenA ha5]; omega
      by_cases hlt : q < i * s2
      · rw [List.getElem?_append_left (by omega), List.getElem?_take_of_lt hlt] at hq
        have : ((arr.toList.take (i * s2)).toArray ++ Builtin.zeroCells zv.cells k ++ Builtin.zeroCells zv.cells (c' - (i + k))).getD q undef = arr.getD q undef := by
          simp only [Array.getD_eq_getD_getElem?]
          rw [Array.getElem?_append_left (by simp [l1, hzsz]; omega), Array.getElem?_append_left (by simp [l1]; omega)]
          simp [List.getElem?_take_of_lt hlt]
        rw [this]
        exact ⟨(ha6 q x hq).1.ext he, (ha6 q x hq).2⟩
      · rw [List.getElem?_append_right (by omega), hfl] at hq
        have hlt2 : q - i * s2 < k * s2 := by have := (List.getElem?_eq_some_iff.1 hq).1; rwa [rep_rows_len, hzl] at this
        rw [flat_rep cs k _ (by omega) (by rw [hzl]; exact hlt2), hzl] at hq
        have : ((arr.toList.take (i * s2)).toArray ++ Builtin.zeroCells zv.cells k ++ Builtin.zeroCells zv.cells (c' - (i + k))).getD q undef = zs.toArray.getD ((q - i * s2) % s2) undef := by
          rw [← hzget k _ hlt2]
          simp only [Array.getD_eq_getD_getElem?]
          rw [Array.getElem?_append_left (by simp only [Array.size_append, List.size_toArray, l1, hzsz]; omega), Array.getElem?_append_right (by simp [l1]; omega)]
          simp [l1]
        rw [this]
        exact (zero_rep hz _ _).2 _ x hq
  have hex : (execOp a.eval o).run P w = .ok (.value (.slice (some ⟨w.heap.size, 0, none⟩) (i + k) c')) (w.drew.alloc (.cells ((arr.toList.take (i * s2)).toArray ++ Builtin.zeroCells zv.cells k ++ Builtin.zeroCells zv.cells (c' - (i + k))) e)) := by
    simp only [execOp, ho, resolve, invoke, builtin, Sem.run_bind, Sem.run_pure, Result.andThen_ok, List.map_toArray, List.map_cons, List.map_nil, e1, e2, hrun]
  unfold Oper.wp
  rw [hex]
  exact hK _ _ _ _ ⟨_, _, rfl, rfl, hge⟩ .ms q1 q2
/-- slices.overlaps, which has no body. -/
class OV (P : Program) (K : Nat) (tS : outParam TypeId) : Prop where
  run : ∃ tR, ∀ args w, (callFunc K args).run P w = ((Extern.SlicesOverlaps.overlaps #[tS, tS] #[tR] args).run P w).andThen fun v w' => .ok (.value v) w'
theorem OpQ.overlaps {K : Nat} {tS e : TypeId} {s1 b1 s2 b2 g1 o1 n1 c1 cap1 g2 o2 n2 c2 cap2 : Nat} {d2 : TypeDesc} {e1 e2 : TypeId} {rs1 rs2 : List (List A)} {tys : Array TypeId} [hv : OV P K tS] [h1 : TI P tS (.slice e) s1 b1] [h2 : TI P e d2 s2 b2] (ho : o.op = .call { callee := .value (.func K), args := #[x, z], argTypes := tys })
    (hx : Wk (evA t x) (.ms g1 o1 n1 c1)) (hz : Wk (evA t z) (.ms g2 o2 n2 c2)) (hm1 : (g1, .rows rs1 cap1 s2 e1) ∈ bs) (hm2 : (g2, .rows rs2 cap2 s2 e2) ∈ bs) (hne : g1 ≠ g2) (hc : 0 < cap2) (hpos : 0 < s2) : OpQ P o t bs (.v (.bool false)) := by
  refine .of_run fun a w h hb => ?_
  have hr1 := h x (by simp [ho, Op.operands, Call.operands])
  have hr2 := h z (by simp [ho, Op.operands, Call.operands])
  have e1' := (hr1.wk hx).ms_inv
  have e2' := (hr2.wk hz).ms_inv
  obtain ⟨arr, ha1, ha2, ha3, ha4, ha5, ha6⟩ := hb.get hm1
  obtain ⟨arr2, hb1, hb2, hb3, hb4, hb5, hb6⟩ := hb.get hm2
  obtain ⟨tR, hR⟩ := hv.run
  refine ⟨.bool false, ?_, .v rfl⟩
  have hp : cap2 * s2 ≠ 0 := Nat.mul_ne_zero (by omega) (by omega)
  have hov := Lib.run_overlaps_apart (P := P) w tS tR e h1.und s2 (fun w => h2.sizeOf_ w) ⟨g1, o1, none⟩ ⟨g2, o2, none⟩ n1 c1 n2 c2 hne e1 e2 arr.size arr2.size (by simp [World.shape?, ha1]) (by simp [World.shape?, hb1]) (by omega) (by simp [World.frozen?, ha1]) (by simp [World.frozen?, ha1])
  have hrf : (callFunc K #[a.eval x, a.eval z]).run P w = .ok (.value (.bool false)) w := by rw [e1', e2', hR, hov]; rfl
  have hargs : (#[x, z] : Array Operand).map a.eval = #[a.eval x, a.eval z] := by simp
  simp only [execOp, ho, resolve, Deferred.ofValue, Act.eval, invoke, Sem.run_bind, Sem.run_pure, Result.andThen_ok, Array.append_empty, Array.empty_append]
  rw [hargs]; exact hrf
end
/-- Rows that turned turn no more: a slice of them is read from now on. -/
inductive FrzV (g : Nat) (rs : List (List A)) (cap : Nat) : A → A → Prop where
  | refl (a : A) : FrzV g rs cap a a
  | ms {n c : Nat} {ys : List (List A)} (hn : n ≤ rs.length) (hc : n ≤ c) (hcap : c ≤ cap) (hy : rs.take n = ys) : FrzV g rs cap (.ms g 0 n c) (.sl ys)
  | agg (xs ys : List A) (l : xs.length = ys.length) (h : ∀ (k : Nat) (a b : A), xs[k]? = some a → ys[k]? = some b → FrzV g rs cap a b) : FrzV g rs cap (.agg xs) (.agg ys)
  | tup (xs ys : List A) (l : xs.length = ys.length) (h : ∀ (k : Nat) (a b : A), xs[k]? = some a → ys[k]? = some b → FrzV g rs cap a b) : FrzV g rs cap (.tup xs) (.tup ys)
inductive FrzL (g : Nat) (rs : List (List A)) (cap : Nat) : List A → List A → Prop where
  | nil : FrzL g rs cap [] []
  | cons {a b : A} {r s : List A} (h : FrzV g rs cap a b) (k : FrzL g rs cap r s) : FrzL g rs cap (a :: r) (b :: s)
theorem FrzL.get {g cap : Nat} {rs : List (List A)} {xs ys : List A} (h : FrzL g rs cap xs ys) : xs.length = ys.length ∧ ∀ (k : Nat) (a b : A), xs[k]? = some a → ys[k]? = some b → FrzV g rs cap a b := by
  induction h with
  | nil => exact ⟨rfl, by simp⟩
  | cons h _ ih =>
    refine ⟨by simp [ih.1], fun k a b ha hb => ?_⟩
    cases k with
    | zero => simp at ha hb; subst ha; subst hb; exact h
    | succ k => exact ih.2 k a b (by simpa using ha) (by simpa using hb)
theorem FrzV.aggs {g cap : Nat} {rs : List (List A)} {xs ys : List A} (h : FrzL g rs cap xs ys) : FrzV g rs cap (.agg xs) (.agg ys) := .agg _ _ h.get.1 h.get.2
theorem FrzV.tups {g cap : Nat} {rs : List (List A)} {xs ys : List A} (h : FrzL g rs cap xs ys) : FrzV g rs cap (.tup xs) (.tup ys) := .tup _ _ h.get.1 h.get.2
theorem FrzV.rep {w : World} {bs bs' : BS} {g cap s : Nat} {e : TypeId} {rs : List (List A)} {u : Value} {x y : A} (hb : BsOk w bs) (hm : (g, .rows rs cap s e) ∈ bs) (hsub : List.Sublist bs' bs) (hg : ∀ q ∈ bs', q.1 ≠ g) (h : Rep w (zones bs) u x) (k : FrzV g rs cap x y) : Rep w (zones bs') u y := by
  obtain ⟨_, hz⟩ := hb.less hsub
  induction k generalizing u with
  | refl => exact h.less hz
  | @ms n c ys hn hc hcap hy =>
    subst hy
    have e := h.ms_inv
    subst e
    obtain ⟨arr, ha1, ha2, ha3, ha4, ha5, ha6⟩ := hb.get hm
    refine Rep.new_row ha1 (by simp; omega) hc (by omega) (fun r hr => ha5 r (List.mem_of_mem_take hr)) (fun k q hk => ?_) (fun k _ z hzz he => ?_)
    · have hlt : k < n * s := by have := (List.getElem?_eq_some_iff.1 hk).1; rw [flat_lenA (fun r hr => ha5 r (List.mem_of_mem_take hr))] at this; simp at this; rwa [Nat.min_eq_left hn] at this
      rw [flat_takeA ha5, List.getElem?_take_of_lt hlt] at hk
      obtain ⟨q1, q2⟩ := ha6 k q hk
      refine ⟨q1.less hz, q2, ?_⟩
      rw [ha4]; exact Nat.lt_of_lt_of_le hlt (Nat.mul_le_mul_right _ (by omega))
    · obtain ⟨xb, hxb, rfl⟩ := mem_zones.1 hzz
      exact absurd he (hg xb hxb)
  | agg xs ys l hh ih =>
    cases h with
    | agg l2 hr h1 =>
      refine .agg (l2.trans l) (fun k q hq => ?_) (fun k q hq => ?_)
      all_goals
        obtain ⟨p, hp⟩ : ∃ p, xs[k]? = some p := ⟨_, List.getElem?_eq_getElem (by rw [l]; exact (List.getElem?_eq_some_iff.1 hq).1)⟩
      · exact ih k p q hp hq (hr k p hp)
      · exact h1 k p hp
  | tup xs ys l hh ih =>
    cases h with
    | tup l2 hr =>
      refine .tup (l2.trans l) (fun k q hq => ?_)
      obtain ⟨p, hp⟩ : ∃ p, xs[k]? = some p := ⟨_, List.getElem?_eq_getElem (by rw [l]; exact (List.getElem?_eq_some_iff.1 hq).1)⟩
      exact ih k p q hp hq (hr k p hp)
/-- What a call leaves is told anew: less of it, or rows that turn no more. -/
inductive Leave (bs : BS) (y : A) : BS → A → Prop where
  | less {bs' : BS} {y' : A} (h : List.Sublist bs' bs) (k : Wk y y') : Leave bs y bs' y'
  | frz {g cap s : Nat} {e : TypeId} {rs : List (List A)} {bs' : BS} {y' : A} (hm : (g, .rows rs cap s e) ∈ bs) (hsub : List.Sublist bs' bs) (hg : (bs.map (·.1)).Nodup → g ∉ bs'.map (·.1)) (k : FrzV g rs cap y y') : Leave bs y bs' y'
theorem ACalls.leave {P : Program} {K : Nat} {args : List A} {bs : BS} {R R' : A → BS → Prop} (h : ACalls P K args bs R) (k : ∀ y b, R y b → ∃ b' y', Leave b y b' y' ∧ R' y' b') : ACalls P K args bs R' :=
  fun w us hs hu hb => (h w us hs hu hb).mono fun e w' ⟨u, r, bs', h1, h2, h3, h4, h5⟩ => by
    obtain ⟨b', y', hl, hR⟩ := k _ _ h2
    cases hl with
    | less hsub hk =>
      obtain ⟨q1, q2⟩ := h4.less hsub
      exact ⟨u, y', b', h1, hR, (h3.wk hk).less q2, q1, h5.less q2⟩
    | frz hm hsub hg hk =>
      obtain ⟨q1, q2⟩ := h4.less hsub
      exact ⟨u, y', b', h1, hR, FrzV.rep h4 hm hsub (fun q hq e => hg h4.nodup (List.mem_map.2 ⟨q, hq, e⟩)) h3 hk, q1, h5.less q2⟩
end Go.Proofs.YtnkkfmnpkgjabaaGreat.X

/- The runner: 'append' of rows. -/
namespace Go.Proofs.YtnkkfmnpkgjabaaGreat.Y
open Go.RowKit
set_option linter.unusedVariables false
set_option linter.unusedSimpArgs false
section
variable {P : Program} {ξ : Nat → Int} {o : Oper} {S : St} {k : Kt} {ty ty2 : TypeId} {x z y : Operand}
/-- The cells of a slice's elements; its block's number is handed on. -/
noncomputable def slCells (w : Nat) (v : V) (S : St) (k : Nat → V → Bool) : Bool := vSl v (fun q => Bool.casesOn (NK.eqb q .slice) false (k 0 .nl)) fun id off w' n _ _ => Bool.casesOn (Nat.beq w w') false (Nat.casesOn n (k 0 .nl) fun m => leN (Nat.succ id) 32768 (hget id S fun b => vBlk b fun l => vdrop off l fun r => vtake (Nat.mul (Nat.succ m) w) r fun q => k (Nat.succ m) q))
theorem slCells_ok {w : Nat} {v : V} {k : Nat → V → Bool} (h : slCells w v S k = true) : ∃ n q, k n q = true ∧ ∀ ρ W u, Ok ρ ξ (hp S) W → Tv ρ ξ v u →
    ((n = 0 ∧ q = .nl ∧ ∃ b c, u = .slice b 0 c) ∨ ∃ g p c us, 0 < n ∧ u = .slice (some ⟨g, p, none⟩) n c ∧ us.length = n * w ∧ TvL ρ ξ q us ∧ (∀ c ∈ us, c.oneCell' = true) ∧ ∀ j x, us[j]? = some x → W.cell? ⟨g, p + j, none⟩ = some x) := by
  unfold slCells at h
  rcases vSl_ok h with ⟨q, h1, h2⟩ | ⟨id, off, w', n, full, whole, h1, h2⟩
  · cases hq : NK.eqb q .slice with
    | false => rw [hq] at h2; cases h2
    | true =>
      rw [hq] at h2
      have := NK.eqb_eq hq
      subst this; subst h1
      exact ⟨0, .nl, h2, fun ρ W u _ hu => .inl ⟨rfl, rfl, none, 0, hu⟩⟩
  · subst h1
    cases hw : Nat.beq w w' with
    | false => rw [hw] at h2; cases h2
    | true =>
      rw [hw] at h2
      have := Nat.eq_of_beq_eq_true hw
      subst this
      cases n with
      | zero =>
        refine ⟨0, .nl, h2, fun ρ W u _ hu => .inl ⟨rfl, rfl, ?_⟩⟩
        obtain ⟨g, q, cap, e, _⟩ := Tv_sl hu
        exact ⟨_, _, e⟩
      | succ m =>
        obtain ⟨hid, h3⟩ := leN_ok h2
        have hid : id < 32768 := hid
        rw [hget_eq] at h3
        obtain ⟨l, h4, h5⟩ := vBlk_ok h3
        obtain ⟨h6, h7⟩ := vdrop_ok h5
        obtain ⟨h8, h9⟩ := vtake_ok h7
        refine ⟨m + 1, _, h9, fun ρ W u hok hu => .inr ?_⟩
        obtain ⟨g, q, cap, e, hq, _, _, _, _, hp', _⟩ := Tv_sl hu
        obtain ⟨g2, c, arr, t, fz, us, rest, hr, e2, hw2, _, ha, hl, hc, _⟩ := hok.cells (off := 0) (hp' 0) (l := l) (by rw [hp_of hid]; exact h4)
        injection e2 with e2; injection e2 with e2; injection e2 with e2 _
        subst e2
        have hqo := hq (by omega)
        subst hqo
        have hul : us.length = (toL l).length := TvL_len hl
        rw [toL_drop, List.length_drop] at h8
        have h8 : (m + 1) * w ≤ (toL l).length - q := h8
        refine ⟨g, q, cap, (us.drop q).take ((m + 1) * w), by omega, e, by simp; omega, TvL_take (TvL_drop hl), fun c h => hc c (List.mem_of_mem_drop (List.mem_of_mem_take h)), fun j x hj => ?_⟩
        have hlt : j < (m + 1) * w := by have := (List.getElem?_eq_some_iff.1 hj).1; simp at this; omega
        rw [List.getElem?_take_of_lt hlt, List.getElem?_drop] at hj
        exact cell_us hw2 ha hj
/-- A row is new: of these cells, so many elements. -/
noncomputable def appNew (e : TypeId) (w : Nat) (n : Nat) (l : V) (S : St) (k : Kt) : Bool := hnew (.ifc e l) S fun i S' => k .any (.sl i 0 w n false true) S'
noncomputable def appKill (e : TypeId) (w : Nat) (id : Nat) (n : Nat) (l : V) (S : St) (k : Kt) : Bool := leN (Nat.succ id) 32768 (hput id .nl S fun S1 => hnew (.ifc e l) S1 fun i S' => k .any (.sl i 0 w n false true) S')
/-- 'append': by what it is asked onto. -/
noncomputable def app1 (e : TypeId) (w lim : Nat) (S : St) (k : Kt) (va : V) (m : Nat) (lb : V) : Bool := Nat.casesOn m (vSl va (fun q => Bool.casesOn (NK.eqb q .slice) false (k .any va S)) fun _ _ _ _ _ _ => k .any va S) fun _ =>
  vSl va (fun q => Bool.casesOn (NK.eqb q .slice) false (leN m lim (appNew e w m lb S k)))
    fun id off _ n full whole => fNat (Nat.add n m) fun nm => leN nm lim (slCells w va S fun _ la => vcat la lb fun l =>
      Bool.casesOn full (Bool.casesOn whole false (leN (Nat.succ id) 32768 (hget id S fun b => vRow b fun e' _ => Bool.casesOn (Nat.beq e e') false (appKill e w id nm l S k)))) (appNew e w nm l S k))
noncomputable def oApp (e : TypeId) (w lim : Nat) (x z : St → K1 → Bool) (S : St) (k : Kt) : Bool := x S fun va => z S fun vb => slCells w vb S fun m lb => app1 e w lim S k va m lb
/-- What an append has made. -/
theorem Step.new_any {G : Nat → V} {i : Nat} {pv v : V} (hG : G i = .undef) (hs : i < 32768) (hpv : pv ≠ .undef)
    (h : ∀ ρ a w, Ok ρ ξ G w → Reads ρ ξ (slots S) a o → ∃ u w' g c, (execOp a.eval o).run P w = .ok (.value u) w' ∧ w'.os = w.os ∧ w'.tape = w.tape ∧ w'.output = w.output ∧ w.heap.size ≤ w'.heap.size ∧
      (∀ k, k < w.heap.size → w'.heap[k]? = w.heap[k]?) ∧ w.heap.size ≤ g ∧ g < w'.heap.size ∧ (∀ ρ', RLe ρ ρ' → BlkR ρ' ξ w' g c pv) ∧ ∀ ρ', ρ' i = .at g c → Tv ρ' ξ v u) :
    Step P ξ o (slots S) G (upd G i pv) v := by
  refine ⟨fun j hj => ?_, fun ρ a w hok hr j hj hn => ?_, fun ρ a w hok hr => ?_⟩
  · unfold upd; split
    · exact hpv
    · exact hj
  · unfold upd
    by_cases e : j = i
    · subst e; exact absurd hG hj
    · rw [if_neg e]
  · obtain ⟨u, w', g, c, h1, h5, h6, h7, h8, h9, h10, h11, h12, h13⟩ := h ρ a w hok hr
    obtain ⟨q1, q2⟩ := hok.alloc hG hs hpv h5 h6 h7 h8 h9 h10 h11 h12
    exact OpWp.of_run h1 ⟨_, q2, q1, h13 _ (if_pos rfl)⟩
/-- A block is given up, its place may be taken. -/
theorem Ok.kill {ρ : Rho} {H : Nat → V} {w : World} (h : Ok ρ ξ H w) {id g c : Nat} (hi : ρ id = .at g c) : Ok (fun j => if j = id then .dead else ρ j) ξ (upd H id .nl) w ∧ RLe ρ (fun j => if j = id then .dead else ρ j) := by
  have hle : RLe ρ (fun j => if j = id then .dead else ρ j) := fun j => by
    by_cases e : j = id
    · exact .inr (.inr (if_pos e))
    · exact .inr (.inl (if_neg e))
  refine ⟨⟨fun i j q c d h1 h2 => ?_, fun i q c h1 => ?_, fun i h1 => ?_, fun i h1 => ?_, fun i h1 => ?_, fun i q c h1 => ?_⟩, hle⟩
  · by_cases e1 : i = id
    · rw [if_pos e1] at h1; cases h1
    · by_cases e2 : j = id
      · rw [if_pos e2] at h2; cases h2
      · rw [if_neg e1] at h1; rw [if_neg e2] at h2; exact h.inj i j q c d h1 h2
  · by_cases e1 : i = id
    · rw [if_pos e1] at h1; cases h1
    · rw [if_neg e1] at h1; exact h.lt i q c h1
  · unfold upd at h1
    by_cases e1 : i = id
    · rw [if_pos e1] at h1; cases h1
    · rw [if_neg e1] at h1; simp only [if_neg e1]; exact h.unb i h1
  · by_cases e1 : i = id
    · subst e1; exact h.small i (by rw [hi]; intro e; cases e)
    · rw [if_neg e1] at h1; exact h.small i h1
  · unfold upd
    by_cases e1 : i = id
    · rw [if_pos e1]
    · rw [if_neg e1] at h1 ⊢; exact h.dead i h1
  · unfold upd
    by_cases e1 : i = id
    · rw [if_pos e1] at h1; cases h1
    · rw [if_neg e1] at h1 ⊢; exact (h.blk i q c h1).stay hle rfl
theorem own_cells {w : World} {base n size : Nat} {e : TypeId} {v : Value} {us : List Value} (h : w.ownsRow base e size v n us) (hn : 0 < n) : ∃ g cap cur rest, v = .slice (some ⟨g, 0, none⟩) n cap ∧ base ≤ g ∧ w.heap[g]? = some (.cells cur e (0, 0)) ∧ n ≤ cap ∧ cap ≤ maxLen ∧ cur.size = cap * size ∧ cur.toList = us ++ rest ∧ us.length = n * size := by
  obtain ⟨hl, ⟨_, h0⟩ | ⟨g, cap, cur, h1, h2, h3, h4, h5, h6, h7⟩⟩ := h
  · omega
  · exact ⟨g, cap, cur, cur.toList.drop (n * size), h1, h2, h3, h4, h5, h6, by rw [← h7, List.take_append_drop], hl⟩
theorem app_run {ty : TypeId} {a : Act} {w w' : World} {u1 u2 v : Value} (ho : o.op = .call { callee := .builtin .append, args := #[x, z], argTypes := #[ty, ty] }) (e1 : a.eval x = u1) (e2 : a.eval z = u2) (hr : ∀ tyr, (Builtin.append_ #[ty, ty] tyr #[u1, u2]).run P w = .ok v w' ∨ tyr ≠ o.type) : (execOp a.eval o).run P w = .ok (.value v) w' := by
  have hr := (hr o.type).resolve_right (fun h => h rfl)
  simp [execOp, ho, e1, e2, resolve, invoke, builtin, Sem.run_bind, hr]
end
end Go.Proofs.YtnkkfmnpkgjabaaGreat.Y

/- The runner: 'append' of rows: it does as it says. -/
namespace Go.Proofs.YtnkkfmnpkgjabaaGreat.Y
open Go.RowKit
set_option linter.unusedVariables false
set_option linter.unusedSimpArgs false
/-- A block is given up; a new number lies there, or elsewhere. -/
theorem Ok.renew {ρ : Rho} {ξ : Nat → Int} {H : Nat → V} {w : World} (h : Ok ρ ξ H w) {id g0 c0 : Nat} (h0 : ρ id = .at g0 c0) {i : Nat} (hi : H i = .undef) (hs : i < 32768) {pv : V} (hpv : pv ≠ .undef)
    {w' : World} (hos : w'.os = w.os) (htape : w'.tape = w.tape) (hout : w'.output = w.output) (hsz : w.heap.size ≤ w'.heap.size) (hk : ∀ k, k < w.heap.size → k ≠ g0 → w'.heap[k]? = w.heap[k]?) {g c : Nat} (hg : g = g0 ∨ w.heap.size ≤ g) (hgl : g < w'.heap.size)
    (hb : ∀ ρ', RLe ρ ρ' → BlkR ρ' ξ w' g c pv) :
    ∃ ρ', ρ' i = .at g c ∧ Ok ρ' ξ (upd (upd H id .nl) i pv) w' ∧ Ev ρ w H ρ' w' := by
  have hno := h.unb i hi
  have hne : id ≠ i := fun e => by rw [e, hno] at h0; cases h0
  have hle : RLe ρ (fun j => if j = i then Pl.at g c else if j = id then .dead else ρ j) := fun j => by
    by_cases e : j = i
    · subst e; exact .inl hno
    · by_cases e2 : j = id
      · exact .inr (.inr (by simp only [if_neg e, if_pos e2]))
      · exact .inr (.inl (by simp only [if_neg e, if_neg e2]))
  have apart : ∀ j q d, j ≠ id → ρ j = .at q d → q ≠ g0 ∧ q < w.heap.size := fun j q d hj hq => ⟨fun e => hj (h.inj j id q d c0 hq (e ▸ h0)), h.lt j q d hq⟩
  refine ⟨fun j => if j = i then .at g c else if j = id then .dead else ρ j, if_pos rfl, ⟨?_, ?_, ?_, ?_, ?_, ?_⟩, ⟨?_, ?_, ?_, hos, htape, hout, hsz⟩⟩
  · intro j k q c1 d h2 h3
    by_cases e1 : j = i
    · by_cases e2 : k = i
      · rw [e1, e2]
      · simp only [if_pos e1] at h2
        simp only [if_neg e2] at h3
        by_cases e3 : k = id
        · rw [if_pos e3] at h3; cases h3
        · rw [if_neg e3] at h3
          have := apart k q d e3 h3
          injection h2 with h2; subst h2
          rcases hg with hg | hg
          · exact absurd hg this.1
          · omega
    · simp only [if_neg e1] at h2
      by_cases e4 : j = id
      · rw [if_pos e4] at h2; cases h2
      · rw [if_neg e4] at h2
        by_cases e2 : k = i
        · simp only [if_pos e2] at h3
          have := apart j q c1 e4 h2
          injection h3 with h3; subst h3
          rcases hg with hg | hg
          · exact absurd hg this.1
          · omega
        · simp only [if_neg e2] at h3
          by_cases e3 : k = id
          · rw [if_pos e3] at h3; cases h3
          · rw [if_neg e3] at h3; exact h.inj j k q c1 d h2 h3
  · intro j q c1 h2
    by_cases e : j = i
    · simp only [if_pos e] at h2; injection h2 with h2; omega
    · simp only [if_neg e] at h2
      by_cases e2 : j = id
      · rw [if_pos e2] at h2; cases h2
      · rw [if_neg e2] at h2; have := h.lt j q c1 h2; omega
  · intro j h2
    unfold upd at h2
    by_cases e : j = i
    · rw [if_pos e] at h2; exact absurd h2 hpv
    · rw [if_neg e] at h2
      simp only [if_neg e]
      by_cases e2 : j = id
      · rw [if_pos e2] at h2; cases h2
      · rw [if_neg e2] at h2 ⊢; exact h.unb j h2
  · intro j h2
    by_cases e : j = i
    · omega
    · simp only [if_neg e] at h2
      by_cases e2 : j = id
      · subst e2; exact h.small j (by rw [h0]; intro e; cases e)
      · rw [if_neg e2] at h2; exact h.small j h2
  · intro j h2
    unfold upd
    by_cases e : j = i
    · simp only [if_pos e] at h2; cases h2
    · simp only [if_neg e] at h2
      rw [if_neg e]
      by_cases e2 : j = id
      · rw [if_pos e2]
      · rw [if_neg e2] at h2 ⊢; exact h.dead j h2
  · intro j q c1 h2
    unfold upd
    by_cases e : j = i
    · simp only [if_pos e] at h2 ⊢; injection h2 with h2 h3; subst h2; subst h3
      exact hb _ hle
    · simp only [if_neg e] at h2 ⊢
      by_cases e2 : j = id
      · rw [if_pos e2] at h2; cases h2
      · rw [if_neg e2] at h2 ⊢
        have := apart j q c1 e2 h2
        exact (h.blk j q c1 h2).stay hle (hk q this.2 this.1)
  · intro j h2
    by_cases e : j = i
    · subst e; exact absurd hi h2
    · by_cases e2 : j = id
      · exact .inr ⟨by simp only [if_neg e, if_pos e2], g0, c0, by rw [e2]; exact h0⟩
      · exact .inl (by simp only [if_neg e, if_neg e2])
  · intro j q c1 h2
    by_cases e : j = i
    · simp only [if_pos e] at h2
      injection h2 with h2
      rcases hg with hg | hg
      · exact .inl ⟨id, c0, by rw [← h2, hg]; exact h0⟩
      · exact .inr (by omega)
    · simp only [if_neg e] at h2
      by_cases e2 : j = id
      · rw [if_pos e2] at h2; cases h2
      · rw [if_neg e2] at h2; exact .inl ⟨j, c1, h2⟩
  · intro q hq hn
    exact hk q hq fun e => hn id c0 (e ▸ h0)
section
variable {P : Program} {ξ : Nat → Int} {o : Oper} {S : St} {k : Kt} {ty ty2 : TypeId} {x z y : Operand}
/-- What 'append' is asked for. -/
structure AppK (P : Program) (ty e : TypeId) (w lim : Nat) : Prop where
  und : P.underlying ty = some (.slice e)
  get : ∃ i zv, P.info? e = some i ∧ i.zero = some zv ∧ i.size = w ∧ zv.cells.size = w ∧ 0 < w ∧ 0 < i.bytes ∧ lim ≤ maxLen ∧ lim * i.bytes ≤ 140737488355328
theorem appNew_ok {e : TypeId} {w n : Nat} {l : V} (hI : Inv S) (h : appNew e w n l S k = true)
    (hr : ∀ ρ a W, Ok ρ ξ (hp S) W → Reads ρ ξ (slots S) a o → ∃ v W' us, (execOp a.eval o).run P W = .ok (.value v) W' ∧ W'.ownsRow W.heap.size e w v n us ∧ W.grownBy W' none ∧ TvL ρ ξ l us ∧ (∀ c ∈ us, c.oneCell' = true)) (hn : 0 < n) :
    ∃ cl v S', k cl v S' = true ∧ S'.e = S.e ∧ S'.tk = S.tk ∧ Inv S' ∧ CStep P ξ o (slots S) (hp S) (hp S') v cl := by
  obtain ⟨hs, S', hk, he, htk, hI', hH, hu⟩ := hnew_ok hI h
  refine ⟨_, _, S', hk, he, htk, hI', ?_⟩
  rw [hH]
  refine Step.new_any hu hs (by intro e; cases e) fun ρ a W hok hr2 => ?_
  obtain ⟨v, W', us, h1, h2, h3, h4, h5⟩ := hr ρ a W hok hr2
  obtain ⟨g, cap, cur, rest, rfl, hg, hh, hnc, hcm, hsz, hcur, hul⟩ := own_cells h2 hn
  refine ⟨_, W', g, cap * w, h1, h3.os, h3.tape, h3.output, h3.size, fun j hj => h3.block j hj (by simp), hg, ?_, fun ρ' hle => ⟨cur, hh, hsz, us, rest, hcur, TvL_mono hle h4, h5⟩, fun ρ' h => Tv_slAt h (fun _ => rfl) hnc hcm (fun h => by cases h) (by omega) (fun _ => ⟨rfl, rfl⟩)⟩
  exact (Array.getElem?_eq_some_iff.1 hh).1
theorem appKill_ok {e : TypeId} {w id n : Nat} {l l0 : V} (hI : Inv S) (h : appKill e w id n l S k = true) (hn : 0 < n) (hl0 : hp S id = .ifc e l0)
    (hr : ∀ ρ a W, Ok ρ ξ (hp S) W → Reads ρ ξ (slots S) a o → ∃ v W' us g0 c0, ρ id = .at g0 c0 ∧ (execOp a.eval o).run P W = .ok (.value v) W' ∧ W'.ownsRow 0 e w v n us ∧ W.grownBy W' (some g0) ∧ (v.ownBlock = some g0 ∨ v.ownBlock = some W.heap.size) ∧ TvL ρ ξ l us ∧ (∀ c ∈ us, c.oneCell' = true)) :
    ∃ cl v S', k cl v S' = true ∧ S'.e = S.e ∧ S'.tk = S.tk ∧ Inv S' ∧ CStep P ξ o (slots S) (hp S) (hp S') v cl := by
  obtain ⟨hid, h1⟩ := leN_ok h
  have hid : id < 32768 := hid
  rw [hput_eq] at h1
  have hI1 : Inv (S.put id .nl) := inv_put hI hid (by rw [hl0]; intro e; cases e)
  obtain ⟨hs, S', hk, he, htk, hI', hH, hu⟩ := hnew_ok hI1 h1
  have hu : hp (S.put id .nl) S.nx = .undef := hu
  have hH : hp S' = upd (hp (S.put id .nl)) S.nx (.ifc e l) := hH
  refine ⟨_, _, S', hk, he, htk, hI', ?_⟩
  have hne : id ≠ S.nx := fun e => by
    have := hI S.nx (Nat.le_refl _)
    rw [← e, hl0] at this; cases this
  rw [hH, hp_put hid]
  have hu2 : hp S S.nx = .undef := hI _ (Nat.le_refl _)
  refine ⟨fun j hj => ?_, fun ρ a W hok hr2 j hj hn2 => ?_, fun ρ a W hok hr2 => ?_⟩
  · unfold upd; split
    · intro e; cases e
    · split
      · intro e; cases e
      · exact hj
  · obtain ⟨v, W', us, g0, c0, q0, _⟩ := hr ρ a W hok hr2
    unfold upd
    rw [if_neg (fun e => hj (by rw [e]; exact hu2)), if_neg (fun e => by rw [e, q0] at hn2; cases hn2)]
  · obtain ⟨v, W', us, g0, c0, q0, q1, q2, q3, q4, q5, q6⟩ := hr ρ a W hok hr2
    obtain ⟨g, cap, cur, rest, rfl, _, hh, hnc, hcm, hsz, hcur, hul⟩ := own_cells q2 hn
    obtain ⟨ρ', r1, r2, r3⟩ := hok.renew q0 hu2 hs (pv := .ifc e l) (by intro e; cases e) q3.os q3.tape q3.output q3.size (fun j hj hne => q3.block j hj (fun e => hne (by cases e; rfl))) (g := g) (c := cap * w)
      (by
        rcases q4 with q4 | q4
        · simp only [Value.ownBlock] at q4; injection q4 with q4; exact .inl q4
        · simp only [Value.ownBlock] at q4; injection q4 with q4; exact .inr (by omega))
      (Array.getElem?_eq_some_iff.1 hh).1 fun ρ' hle => ⟨cur, hh, hsz, us, rest, hcur, TvL_mono hle q5, q6⟩
    exact OpWp.of_run q1 ⟨ρ', r3, r2, Tv_slAt r1 (fun _ => rfl) hnc hcm (fun h => by cases h) (by omega) (fun _ => ⟨rfl, rfl⟩)⟩
theorem oApp_ok {e : TypeId} {w lim : Nat} (hA : AppK P ty e w lim) (ho : o.op = .call { callee := .builtin .append, args := #[x, z], argTypes := #[ty, ty] }) : Sound1 P ξ o (oApp e w lim (opd x).get (opd z).get) := fun S k hI h => by
  obtain ⟨und, i, zv, hi, hz, hw, hzs, hpos, hbp, hlm, hlb⟩ := hA
  have lb : ∀ n, n ≤ lim → n ≤ maxLen ∧ n * i.bytes ≤ 140737488355328 := fun n hn => ⟨by omega, Nat.le_trans (Nat.mul_le_mul_right _ hn) hlb⟩
  obtain ⟨m, lbv, h1, hb⟩ := slCells_ok (ξ := ξ) (opd_ok (opd_ok h))
  have ex : ∀ (ρ : Rho) (a : Act), Reads ρ ξ (slots S) a o → Tv ρ ξ (opS (slots S) x) (a.eval x) ∧ Tv ρ ξ (opS (slots S) z) (a.eval z) := fun ρ a hr => ⟨hr.op (by simp [ho, Op.operands, Call.operands]), hr.op (by simp [ho, Op.operands, Call.operands])⟩
  have done : ∀ (a : Act) (W W' : World) (v : Value), (∀ tyr, (Builtin.append_ #[ty, ty] tyr #[a.eval x, a.eval z]).run P W = .ok v W') → (execOp a.eval o).run P W = .ok (.value v) W' := fun a W W' v h => app_run ho rfl rfl fun t => .inl (h t)
  cases m with
  | zero =>
    have h1 : (vSl (opS (slots S) x) (fun q => Bool.casesOn (NK.eqb q .slice) false (k .any (opS (slots S) x) S)) fun _ _ _ _ _ _ => k .any (opS (slots S) x) S) = true := h1
    have hk : k .any (opS (slots S) x) S = true ∧ ∀ ρ u, Tv ρ ξ (opS (slots S) x) u → ∃ b n c, u = .slice b n c ∧ n ≤ c := by
      rcases vSl_ok h1 with ⟨q, h2, h3⟩ | ⟨_, _, _, _, _, _, h2, h3⟩
      · cases hq : NK.eqb q .slice with
        | false => rw [hq] at h3; cases h3
        | true =>
          rw [hq] at h3
          refine ⟨h3, fun ρ u hu => ?_⟩
          have := NK.eqb_eq hq
          rw [h2, this] at hu
          exact ⟨none, 0, 0, hu, Nat.le_refl _⟩
      · refine ⟨h3, fun ρ u hu => ?_⟩
        rw [h2] at hu
        obtain ⟨g, q, cap, e, _, hc, _⟩ := Tv_sl hu
        exact ⟨_, _, _, e, hc⟩
    refine ⟨.any, _, S, hk.1, rfl, rfl, hI, .quiet fun ρ a W hok hr => ⟨a.eval x, done a W W _ fun tyr => ?_, (ex ρ a hr).1⟩⟩
    obtain ⟨b, n, c, e1, hnc⟩ := hk.2 ρ _ (ex ρ a hr).1
    rcases hb ρ W _ hok (ex ρ a hr).2 with ⟨_, _, b2, c2, e2⟩ | ⟨_, _, _, _, hm, _⟩
    · rw [e1, e2]
      have : X.TI P e (.int .i64) i.size i.bytes ∨ True := .inr trivial
      simp [Builtin.append_, run_underlying und, sizeOf, typeInfo, hi, Builtin.lenOf, X.run_firstCells_zero, Sem.run_bind, hnc]
      cases b with
      | none => simp
      | some b =>
        have hst : (storeCells (b.add (n * i.size)) []).run P W = .ok () W := by simp [storeCells]
        simp [hst, Sem.run_bind]
    · omega
  | succ m =>
    have hbs : ∀ ρ a W, Ok ρ ξ (hp S) W → Reads ρ ξ (slots S) a o → ∃ g p c us, a.eval z = .slice (some ⟨g, p, none⟩) (m + 1) c ∧ us.length = (m + 1) * w ∧ TvL ρ ξ lbv us ∧ (∀ c ∈ us, c.oneCell' = true) ∧ ∀ j x, us[j]? = some x → W.cell? ((⟨g, p, none⟩ : Addr).add j) = some x := fun ρ a W hok hr => by
      rcases hb ρ W _ hok (ex ρ a hr).2 with ⟨h0, _⟩ | ⟨g, p, c, us, _, e2, l2, t2, o2, c2⟩
      · cases h0
      · exact ⟨g, p, c, us, e2, l2, t2, o2, fun j x hj => by rw [Addr.add_lit]; exact c2 j x hj⟩
    rcases vSl_ok (show vSl (opS (slots S) x) (fun q => Bool.casesOn (NK.eqb q .slice) false (leN (m + 1) lim (appNew e w (m + 1) lbv S k)))
        (fun id off _ n full whole => fNat (Nat.add n (m + 1)) fun nm => leN nm lim (slCells w (opS (slots S) x) S fun _ la => vcat la lbv fun l =>
          Bool.casesOn full (Bool.casesOn whole false (leN (Nat.succ id) 32768 (hget id S fun b => vRow b fun e' _ => Bool.casesOn (Nat.beq e e') false (appKill e w id nm l S k)))) (appNew e w nm l S k))) = true from h1) with ⟨q, h2, h3⟩ | ⟨id, off, w', n, full, whole, h2, h3⟩
    · cases hq : NK.eqb q .slice with
      | false => rw [hq] at h3; cases h3
      | true =>
        rw [hq] at h3
        have := NK.eqb_eq hq
        subst this
        obtain ⟨hl, h4⟩ := leN_ok h3
        refine appNew_ok hI h4 (fun ρ a W hok hr => ?_) (by omega)
        obtain ⟨g, p, c, us, e2, l2, t2, o2, c2⟩ := hbs ρ a W hok hr
        have e1 := (ex ρ a hr).1
        rw [h2] at e1
        have e1 : a.eval x = .slice none 0 0 := e1
        have key : ∀ tyr, ∃ v W', (Builtin.append_ #[ty, ty] tyr #[.slice none 0 0, .slice (some ⟨g, p, none⟩) (m + 1) c]).run P W = .ok v W' ∧ W'.ownsRow W.heap.size e w v (m + 1) us ∧ W.grownBy W' none := fun tyr => by
          obtain ⟨v, W', r1, r2, r3, _, _⟩ := run_append_own_at (P := P) W W.heap.size ty tyr e i zv w i.bytes und hi hz hw rfl hzs hpos (.slice none 0 0) 0 [] ⟨by simp, .inl ⟨rfl, rfl⟩⟩ ⟨g, p, none⟩ (m + 1) c us l2 c2 o2 (by have := (lb _ hl).1; omega) (by rw [Nat.zero_add]; exact (lb _ hl).2) (Nat.le_refl _)
          exact ⟨v, W', r1, by simpa using r2, by simpa [Value.ownBlock] using r3⟩
        obtain ⟨v, W', r1, r2, r3⟩ := key o.type
        exact ⟨v, W', us, app_run (w' := W') (v := v) ho e1 e2 fun t => by
          by_cases ht : t = o.type
          · subst ht; exact .inl r1
          · exact .inr ht, r2, r3, t2, o2⟩
    · rw [fNat_eq] at h3
      obtain ⟨hl, h4⟩ := leN_ok h3
      obtain ⟨n', la, h5, ha⟩ := slCells_ok (ξ := ξ) h4
      rw [vcat_eq] at h5
      have has : ∀ ρ a W, Ok ρ ξ (hp S) W → Reads ρ ξ (slots S) a o → ∃ g p c us, a.eval x = .slice (some ⟨g, p, none⟩) n c ∧ us.length = n * w ∧ TvL ρ ξ la us ∧ (∀ c ∈ us, c.oneCell' = true) ∧ (∀ j x, us[j]? = some x → W.cell? ((⟨g, p, none⟩ : Addr).add j) = some x) ∧ n ≤ c ∧ c ≤ maxLen ∧ (full = true → c = n) ∧ ∀ q d, ρ id = .at q d → q = g ∧ (whole = true → p = 0 ∧ c * w' = d) := fun ρ a W hok hr => by
        have e1 := (ex ρ a hr).1
        have e0 := e1
        rw [h2] at e0
        obtain ⟨g, q, cap, e3, _, s1, s2, s3, _, _, s4⟩ := Tv_sl e0
        rcases ha ρ W _ hok e1 with ⟨h0, hq, b, c, e4⟩ | ⟨g', p, c, us, hn, e4, l2, t2, o2, c2⟩
        · rw [e3] at e4
          injection e4 with e5 e6 e7
          subst e6
          exact ⟨g, q, cap, [], e3, by simp, by rw [hq]; exact rfl, by simp, by simp, s1, s2, s3, fun p d hp => ⟨(s4 p d hp).1, (s4 p d hp).2.2⟩⟩
        · rw [e3] at e4
          injection e4 with e5 e6 e7
          injection e5 with e5; injection e5 with e5 e8
          subst e5; subst e6; subst e7; subst e8
          exact ⟨g, q, cap, us, e3, l2, t2, o2, fun j x hj => by rw [Addr.add_lit]; exact c2 j x hj, s1, s2, s3, fun p d hp => ⟨(s4 p d hp).1, (s4 p d hp).2.2⟩⟩
      have hl : n + (m + 1) ≤ lim := hl
      cases full with
      | true =>
        refine appNew_ok hI h5 (fun ρ a W hok hr => ?_) (by show 0 < n + (m + 1); omega)
        obtain ⟨g, p, c, us, e2, l2, t2, o2, c2⟩ := hbs ρ a W hok hr
        obtain ⟨g1, p1, cc, us1, e1, l1, t1, o1, c1, s1, s2, s3, _⟩ := has ρ a W hok hr
        have := s3 rfl
        subst this
        obtain ⟨v, W', r1, r2, r3⟩ := run_append_arg_grows (P := P) W ty o.type e i zv w i.bytes und hi hz hw rfl hzs hpos ⟨g1, p1, none⟩ cc cc us1 l1 c1 ⟨g, p, none⟩ (m + 1) c us l2 c2 (by omega) (lb _ hl).1 (lb _ hl).2
        exact ⟨v, W', us1 ++ us, app_run (w' := W') (v := v) ho e1 e2 fun t => by
          by_cases ht : t = o.type
          · subst ht; exact .inl r1
          · exact .inr ht, r2, r3, TvL_cat t1 t2, fun c hc => (List.mem_append.1 hc).elim (o1 c) (o2 c)⟩
      | false =>
        cases whole with
        | false => cases h5
        | true =>
          obtain ⟨hid, h6⟩ := leN_ok h5
          have hid : id < 32768 := hid
          rw [hget_eq] at h6
          obtain ⟨e', l0, h7, h8⟩ := vRow_ok h6
          cases he : Nat.beq e e' with
          | false => rw [he] at h8; cases h8
          | true =>
            rw [he] at h8
            have := Nat.eq_of_beq_eq_true he
            subst this
            have hH0 : hp S id = .ifc e l0 := by rw [hp_of hid]; exact h7
            refine appKill_ok hI h8 (by show 0 < n + (m + 1); omega) hH0 (fun ρ a W hok hr => ?_)
            obtain ⟨g, p, c, us, e2, l2, t2, o2, c2⟩ := hbs ρ a W hok hr
            obtain ⟨g1, p1, cc, us1, e1, l1, t1, o1, c1, s1, s2, s3, s4⟩ := has ρ a W hok hr
            have e0 := (ex ρ a hr).1
            rw [h2] at e0
            obtain ⟨_, _, _, _, _, _, _, _, _, hp', _⟩ := Tv_sl e0
            obtain ⟨g2, d, arr, t, fz, us3, rest, hr3, e3, hw3, hsz3, ha3, hl3, hc3, _, hf3⟩ := hok.cells (off := 0) (hp' 0) (l := l0) (.inr (.inl ⟨e, hH0⟩))
            obtain ⟨hfz, hte⟩ := hf3 e hH0
            rw [hfz, hte] at hw3
            obtain ⟨hg, hwh⟩ := s4 _ _ hr3
            subst hg
            obtain ⟨rfl, hcw⟩ := hwh rfl
            have hwd : w' = w := by
              have : Nat.beq w w' = true := by
                have h4' : slCells w (opS (slots S) x) S _ = true := h4
                rw [h2] at h4'
                cases hb : Nat.beq w w' with
                | true => rfl
                | false =>
                  have h4' : (Bool.casesOn (Nat.beq w w') false _ : Bool) = true := h4'
                  rw [hb] at h4'; cases h4'
              exact (Nat.eq_of_beq_eq_true this).symm
            subst hwd
            have hown : W.ownsRow 0 e w' (.slice (some ⟨g2, 0, none⟩) n cc) n us1 := by
              refine ⟨l1, .inr ⟨g2, cc, arr, rfl, Nat.zero_le _, hw3, s1, s2, by rw [hsz3, hcw], ?_⟩⟩
              apply List.ext_getElem?
              intro j
              by_cases hj : j < n * w'
              · rw [List.getElem?_take_of_lt hj]
                have hju : j < us1.length := by rw [l1]; exact hj
                have h9 := c1 j _ (List.getElem?_eq_getElem hju)
                rw [Addr.add_lit] at h9
                rw [cell_of_row W g2 _ arr _ _ hw3, Nat.zero_add] at h9
                rw [Array.getElem?_toList, h9, List.getElem?_eq_getElem hju]
              · rw [List.getElem?_eq_none (by simp; omega), List.getElem?_eq_none (by rw [l1]; omega)]
            obtain ⟨v, W', r1, r2, r3, _, r5⟩ := run_append_own_at (P := P) W 0 ty o.type e i zv w' i.bytes und hi hz hw rfl hzs hpos _ n us1 hown ⟨g, p, none⟩ (m + 1) c us l2 c2 o2 (lb _ hl).1 (lb _ hl).2 (Nat.zero_le _)
            exact ⟨v, W', us1 ++ us, g2, d, hr3, app_run (w' := W') (v := v) ho e1 e2 fun t => by
              by_cases ht : t = o.type
              · subst ht; exact .inl r1
              · exact .inr ht, r2, r3, by simpa [Value.ownBlock] using r5, TvL_cat t1 t2, fun c hc => (List.mem_append.1 hc).elim (o1 c) (o2 c)⟩
end
end Go.Proofs.YtnkkfmnpkgjabaaGreat.Y

/- The runner: regions: whatever order is drawn, the end is the same. -/
namespace Go.Proofs.YtnkkfmnpkgjabaaGreat.Y
open Go.RowKit
set_option linter.unusedVariables false
set_option linter.unusedSimpArgs false
/-! ### what a run has come to -/
structure Rel (ρ : Rho) (ξ : Nat → Int) (E H : Nat → V) (N : Nat) (a : Act) (w : World) : Prop where
  defers : a.defers = []
  size : a.tmps.size = N
  tmps : ∀ i, Tv ρ ξ (E i) (a.tmps.getD i undef)
  ok : Ok ρ ξ H w
def putE (E : Nat → V) : Option Tmp → V → Nat → V
  | some d, v => fun i => if i = d then v else E i
  | none, _ => E
theorem Rel.put {ρ ρ' : Rho} {ξ : Nat → Int} {E H H' : Nat → V} {N : Nat} {a : Act} {w w' : World} (h : Rel ρ ξ E H N a w) (ev : Ev ρ w H ρ' w') (hok : Ok ρ' ξ H' w') {d : Option Tmp} (hd : X.okD N d = true) {u : Value} {v : V} (hu : Tv ρ' ξ v u) : Rel ρ' ξ (putE E d v) H' N (a.put d u) w' := by
  have hle := ev.le h.ok
  cases d with
  | none => exact ⟨h.defers, h.size, fun i => Tv_mono hle (h.tmps i), hok⟩
  | some d =>
    have hlt : d < N := by simpa [X.okD, Nat.blt_eq] using hd
    refine ⟨h.defers, by simp [Act.put, h.size], fun i => ?_, hok⟩
    rw [X.getD_put i (by rw [h.size]; exact hlt)]
    show Tv ρ' ξ (if i = d then v else E i) _
    by_cases hi : i = d
    · rw [if_pos hi, if_pos hi]; exact hu
    · rw [if_neg hi, if_neg hi]; exact Tv_mono hle (h.tmps i)
def Born (H H' : Nat → V) : Prop := ∀ i, H i ≠ .undef → H' i ≠ .undef
structure Reach (ρ : Rho) (w : World) (H : Nat → V) (ρ' : Rho) (w' : World) (H' : Nat → V) : Prop where
  born : Born H H'
  ev : Ev ρ w H ρ' w'
  stay : ∀ i, H i ≠ .undef → ρ i = .no → H' i = H i
theorem Reach.refl (ρ : Rho) (w : World) (H : Nat → V) : Reach ρ w H ρ w H := ⟨fun _ h => h, .refl _ _ _, fun _ _ _ => rfl⟩
theorem Ev.no {ρ ρ' : Rho} {w w' : World} {H : Nat → V} (h : Ev ρ w H ρ' w') {i : Nat} (hi : H i ≠ .undef) (hn : ρ i = .no) : ρ' i = .no := by
  rcases h.keep i hi with e | ⟨_, g, c, e⟩
  · exact e.trans hn
  · rw [hn] at e; cases e
theorem Reach.trans {ρ ρ' ρ'' : Rho} {w w' w'' : World} {H H' H'' : Nat → V} (h : Reach ρ w H ρ' w' H') (k : Reach ρ' w' H' ρ'' w'' H'') : Reach ρ w H ρ'' w'' H'' :=
  ⟨fun i hi => k.born i (h.born i hi), h.ev.trans h.born k.ev, fun i hi hn => (k.stay i (h.born i hi) (h.ev.no hi hn)).trans (h.stay i hi hn)⟩
theorem Step.reach {P : Program} {ξ : Nat → Int} {o : Oper} {E H H' : Nat → V} {v : V} (h : Step P ξ o E H H' v) {ρ : Rho} {a : Act} {w : World} (hok : Ok ρ ξ H w) (hr : Reads ρ ξ E a o) : OpWp P o a w fun u w' => ∃ ρ', Reach ρ w H ρ' w' H' ∧ Ok ρ' ξ H' w' ∧ Tv ρ' ξ v u :=
  (h.run ρ a w hok hr).mono fun u w' ⟨ρ', h1, h2, h3⟩ => ⟨ρ', ⟨h.born, h1, h.stay ρ a w hok hr⟩, h2, h3⟩
/-! ### steps of a region -/
section
variable {P : Program} {ξ : Nat → Int} {N : Nat} {ops : Array Oper} {o : Oper} {E E1 H H' H1 : Nat → V} {v : V} {cl : Cls}
/-- It runs; it does not. -/
def Gd (ops : Array Oper) (N : Nat) (E : Nat → V) (o : Oper) (b : Bool) : Prop := match o.guard with
  | none => b = true
  | some (j, want) => ∃ oj d, ops[j]? = some oj ∧ oj.dst = some d ∧ d < N ∧ ((∃ c, E d = .bool c ∧ b = (c == want)) ∨ (E d = .tup .nl ∧ b = false))
theorem Gd.wanted {b : Bool} (h : Gd ops N E o b) {ρ : Rho} {a : Act} (hs : a.tmps.size = N) (ht : ∀ i, i ∈ X.readsOf ops o → Tv ρ ξ (E i) (a.tmps.getD i undef)) : Region.wanted o (yielded ops a.tmps) = b := by
  unfold Gd at h
  unfold Region.wanted
  split at h
  · rename_i hg; rw [hg]; exact h.symm
  · rename_i j want hg
    rw [hg]
    show (yielded ops a.tmps j == some want) = b
    obtain ⟨oj, d, h1, h2, h3, h4⟩ := h
    have hd : d ∈ X.readsOf ops o := by
      unfold X.readsOf Oper.looksAt
      refine List.mem_append_right _ ?_
      simp [hg, h1, h2]
    have ht := ht d hd
    have hlt : d < a.tmps.size := by rw [hs]; exact h3
    have hgd : a.tmps.getD d undef = a.tmps[d] := by simp [Array.getD, hlt]
    rw [hgd] at ht
    have hy : ∀ u, a.tmps[d] = u → yielded ops a.tmps j = match u with | .bool b => some b | _ => none := fun u hu => by
      unfold yielded
      rw [h1]
      simp only [Option.bind_some, h2]
      rw [Array.getElem?_eq_getElem hlt, hu]
      cases u <;> rfl
    rcases h4 with ⟨c, h5, rfl⟩ | ⟨h5, rfl⟩
    · rw [h5, Tv_bool] at ht
      rw [hy _ ht]
      show (some c == some want) = (c == want)
      cases c <;> cases want <;> rfl
    · rw [h5] at ht
      obtain ⟨us, e, h6⟩ := ht
      rw [hy _ e]
      rfl
theorem Gd.congr {b : Bool} (h : Gd ops N E o b) (he : ∀ i, i ∈ X.readsOf ops o → E1 i = E i) : Gd ops N E1 o b := by
  unfold Gd at h ⊢
  cases hg : o.guard with
  | none => rw [hg] at h; exact h
  | some p =>
    obtain ⟨j, want⟩ := p
    rw [hg] at h
    obtain ⟨oj, d, h1, h2, h3, h4⟩ := h
    have hd : d ∈ X.readsOf ops o := by
      unfold X.readsOf Oper.looksAt
      refine List.mem_append_right _ ?_
      simp [hg, h1, h2]
    exact ⟨oj, d, h1, h2, h3, by rw [he d hd]; exact h4⟩
theorem mem_reads {i : Nat} (h : Operand.tmp i ∈ o.op.operands) : i ∈ X.readsOf ops o := X.reads_op h
theorem Step.congr (h : Step P ξ o E H H' v) (he : ∀ i, i ∈ X.readsOf ops o → E1 i = E i) : Step P ξ o E1 H H' v := by
  have hr : ∀ {ρ a}, Reads ρ ξ E1 a o → Reads ρ ξ E a o := fun hr i hi => by have := hr i hi; rwa [he i (mem_reads hi)] at this
  exact ⟨h.born, fun ρ a w h1 h2 => h.stay ρ a w h1 (hr h2), fun ρ a w h1 h2 => h.run ρ a w h1 (hr h2)⟩
theorem CStep.congr (h : CStep P ξ o E H H' v cl) (he : ∀ i, i ∈ X.readsOf ops o → E1 i = E i) : CStep P ξ o E1 H H' v cl := by
  cases cl with
  | pure => exact ⟨h.1, fun G => (h.2 G).congr he⟩
  | read i => exact ⟨h.1, h.2.1, fun G hG => (h.2.2 G hG).congr he⟩
  | new i c => exact ⟨h.1, h.2.1, h.2.2.1, fun G hG => (h.2.2.2 G hG).congr he⟩
  | any => exact Step.congr h he
/-- Blocks that are not there yet may be told of. -/
theorem Ok.more {ρ : Rho} {w : World} (h : Ok ρ ξ H w) {i : Nat} {c : V} (hi : H i = .undef) (hc : c ≠ .undef) : Ok ρ ξ (upd H i c) w := by
  have hn := h.unb i hi
  refine ⟨h.inj, h.lt, fun j hj => ?_, h.small, fun j hj => ?_, fun j g d hj => ?_⟩
  · unfold upd at hj
    by_cases e : j = i
    · rw [if_pos e] at hj; exact absurd hj hc
    · rw [if_neg e] at hj; exact h.unb j hj
  · have : j ≠ i := fun e => by rw [e, hn] at hj; cases hj
    unfold upd; rw [if_neg this]; exact h.dead j hj
  · have : j ≠ i := fun e => by rw [e, hn] at hj; cases hj
    unfold upd; rw [if_neg this]; exact h.blk j g d hj
theorem Ok.fewer {ρ : Rho} {w : World} (h : Ok ρ ξ H w) {i : Nat} (hn : ρ i = .no) : Ok ρ ξ (upd H i .undef) w := by
  refine ⟨h.inj, h.lt, fun j hj => ?_, h.small, fun j hj => ?_, fun j g d hj => ?_⟩
  · unfold upd at hj
    by_cases e : j = i
    · rw [e]; exact hn
    · rw [if_neg e] at hj; exact h.unb j hj
  · have : j ≠ i := fun e => by rw [e, hn] at hj; cases hj
    unfold upd; rw [if_neg this]; exact h.dead j hj
  · have : j ≠ i := fun e => by rw [e, hn] at hj; cases hj
    unfold upd; rw [if_neg this]; exact h.blk j g d hj
theorem Step.fewer {i : Nat} {c : V} (h : Step P ξ o E (upd H i c) H' v) (hi : H i = .undef) (hc : c ≠ .undef) : Step P ξ o E H (upd H' i .undef) v := by
  have hu : ∀ j, H j ≠ .undef → j ≠ i ∧ upd H i c j = H j := fun j hj => by
    have : j ≠ i := fun e => hj (e ▸ hi)
    exact ⟨this, by unfold upd; rw [if_neg this]⟩
  refine ⟨fun j hj => ?_, fun ρ a w hok hr j hj hn => ?_, fun ρ a w hok hr => ?_⟩
  · obtain ⟨h1, h2⟩ := hu j hj
    unfold upd; rw [if_neg h1]
    exact h.born j (by rw [h2]; exact hj)
  · obtain ⟨h1, h2⟩ := hu j hj
    have := h.stay ρ a w (hok.more hi hc) hr j (by rw [h2]; exact hj) hn
    show upd H' i .undef j = _
    unfold upd; rw [if_neg h1, this, h2]
  · refine (h.run ρ a w (hok.more hi hc) hr).mono fun u w' ⟨ρ', h1, h2, h3⟩ => ⟨ρ', ⟨fun j hj => ?_, h1.new, h1.frame, h1.os, h1.tape, h1.output, h1.size⟩, ?_, h3⟩
    · exact h1.keep j (by rw [(hu j hj).2]; exact hj)
    · exact h2.fewer (h1.no (by unfold upd; rw [if_pos rfl]; exact hc) (hok.unb i hi))
structure El where
  i : Nat
  o : Oper
  cl : Cls
  v : V
  ks : List Nat
end
inductive Ch (P : Program) (ξ : Nat → Int) (N : Nat) (ops : Array Oper) : List El → (Nat → V) → (Nat → V) → (Nat → V) → (Nat → V) → Prop where
  | nil {E H} : Ch P ξ N ops [] E H E H
  | cons {x l E H H1 E' H'} (hd : X.okD N x.o.dst = true) (h : (Gd ops N E x.o true ∧ CStep P ξ x.o E H H1 x.v x.cl) ∨ (Gd ops N E x.o false ∧ x.cl = .pure ∧ x.v = .tup .nl ∧ H1 = H)) (hk : ∀ i ∈ x.ks, H1 i = H i) (k : Ch P ξ N ops l (putE E x.o.dst x.v) H1 E' H') : Ch P ξ N ops (x :: l) E H E' H'
section
variable {P : Program} {ξ : Nat → Int} {N : Nat} {ops : Array Oper} {o : Oper} {E E1 H H' H1 : Nat → V} {v : V} {cl : Cls}
/-- The same of whichever comes first. -/
def FStep (P : Program) (ξ : Nat → Int) (N : Nat) (ops : Array Oper) (o : Oper) (E H H' : Nat → V) (v : V) : Prop := (Gd ops N E o true ∧ Step P ξ o E H H' v) ∨ (Gd ops N E o false ∧ v = .tup .nl ∧ H' = H)
structure Ind (ops : Array Oper) (x y : El) : Prop where
  a : ∀ d, x.o.dst = some d → d ∉ X.readsOf ops y.o ∧ y.o.dst ≠ some d
  b : ∀ d, y.o.dst = some d → d ∉ X.readsOf ops x.o
  c : x.cl ≠ .any
  k : ∀ i, x.cl = .read i → i ∈ y.ks
theorem putE_other {d : Option Tmp} {i : Nat} (h : d ≠ some i) : putE E d v i = E i := by
  cases d with
  | none => rfl
  | some d => show (if i = d then v else E i) = _; rw [if_neg (fun e => h (by rw [e]))]
theorem putE_comm {d1 d2 : Option Tmp} {v1 v2 : V} (h : ∀ d, d1 = some d → d2 ≠ some d) : putE (putE E d1 v1) d2 v2 = putE (putE E d2 v2) d1 v1 := by
  cases d1 with
  | none => rfl
  | some d1 =>
    cases d2 with
    | none => rfl
    | some d2 =>
      have hne : d2 ≠ d1 := fun e => h d1 rfl (by rw [e])
      funext i
      show (if i = d2 then v2 else if i = d1 then v1 else E i) = (if i = d1 then v1 else if i = d2 then v2 else E i)
      by_cases h1 : i = d1
      · subst h1; rw [if_neg (Ne.symm hne), if_pos rfl, if_pos rfl]
      · rw [if_neg h1, if_neg h1]
theorem upd_back {i : Nat} {c : V} (h : H i = c) : upd (upd H i .undef) i c = H := by
  funext j
  unfold upd
  by_cases e : j = i
  · subst e; rw [if_pos rfl]; exact h.symm
  · rw [if_neg e, if_neg e]
theorem Ch.bubble {ρ : Rho} {a : Act} {w : World} : ∀ {l1 : List El} {y : El} {l2 : List El} {E H E' H' : Nat → V}, Ch P ξ N ops (l1 ++ y :: l2) E H E' H' → (∀ x ∈ l1, Ind ops x y) → Ok ρ ξ H w → (∀ i, i ∈ X.readsOf ops y.o → Tv ρ ξ (E i) (a.tmps.getD i undef)) →
    ∃ Hy, X.okD N y.o.dst = true ∧ FStep P ξ N ops y.o E H Hy y.v ∧ (∀ i ∈ y.ks, Hy i = H i) ∧ Ch P ξ N ops (l1 ++ l2) (putE E y.o.dst y.v) Hy E' H'
  | [], y, l2, E, H, E', H', h, hi, hok, hr => by
    cases h with
    | cons hd h hk k =>
      refine ⟨_, hd, ?_, hk, k⟩
      rcases h with ⟨h1, h2⟩ | ⟨h1, _, h2, h3⟩
      · exact .inl ⟨h1, h2.step⟩
      · exact .inr ⟨h1, h2, h3⟩
  | x :: l1, y, l2, E, H, E', H', h, hi, hok, hr => by
    cases h with
    | @cons _ _ _ _ H1 _ _ hd h hk k =>
      have hxy := hi x (List.mem_cons_self)
      have hry : ∀ i, i ∈ X.readsOf ops y.o → E i = putE E x.o.dst x.v i := fun i hi2 => (putE_other fun e => (hxy.a i e).1 hi2).symm
      have hrx : ∀ i, i ∈ X.readsOf ops x.o → putE E y.o.dst y.v i = E i := fun i hi2 => putE_other fun e => hxy.b i e hi2
      have hcomm : putE (putE E x.o.dst x.v) y.o.dst y.v = putE (putE E y.o.dst y.v) x.o.dst x.v := putE_comm fun d hd2 => (hxy.a d hd2).2
      have hr1 : ∀ i, i ∈ X.readsOf ops y.o → Tv ρ ξ (putE E x.o.dst x.v i) (a.tmps.getD i undef) := fun i hi2 => by rw [← hry i hi2]; exact hr i hi2
      have front : ∀ {Hy}, FStep P ξ N ops y.o (putE E x.o.dst x.v) H1 Hy y.v → FStep P ξ N ops y.o E H1 Hy y.v := fun hf => by
        rcases hf with ⟨f1, f2⟩ | ⟨f1, f2, f3⟩
        · exact .inl ⟨f1.congr hry, f2.congr hry⟩
        · exact .inr ⟨f1.congr hry, f2, f3⟩
      have same : H1 = H → (∀ Hy : Nat → V, (∀ i ∈ y.ks, Hy i = H i) → (Gd ops N (putE E y.o.dst y.v) x.o true ∧ CStep P ξ x.o (putE E y.o.dst y.v) Hy Hy x.v x.cl) ∨ (Gd ops N (putE E y.o.dst y.v) x.o false ∧ x.cl = .pure ∧ x.v = .tup .nl ∧ Hy = Hy)) →
          ∃ Hy, X.okD N y.o.dst = true ∧ FStep P ξ N ops y.o E H Hy y.v ∧ (∀ i ∈ y.ks, Hy i = H i) ∧ Ch P ξ N ops (x :: l1 ++ l2) (putE E y.o.dst y.v) Hy E' H' := fun e hx => by
        subst e
        obtain ⟨Hy, d1, f1, f2, f3⟩ := k.bubble (fun q hq => hi q (List.mem_cons_of_mem _ hq)) hok hr1
        exact ⟨Hy, d1, front f1, f2, .cons hd (hx Hy f2) (fun _ _ => rfl) (by rw [← hcomm]; exact f3)⟩
      rcases h with ⟨hg, hc⟩ | ⟨hg, hc, hv, hH⟩
      · cases hcl : x.cl with
        | any => exact absurd hcl hxy.c
        | pure =>
          rw [hcl] at hc
          exact same hc.1 fun Hy hy => .inl ⟨hg.congr hrx, by rw [hcl]; exact ⟨rfl, fun G => (hc.2 G).congr hrx⟩⟩
        | read i =>
          rw [hcl] at hc
          have hiy := hxy.k i hcl
          exact same hc.1 fun Hy hy => .inl ⟨hg.congr hrx, by rw [hcl]; exact ⟨rfl, by rw [hy i hiy]; exact hc.2.1, fun G hG => (hc.2.2 G (hG.trans (hy i hiy))).congr hrx⟩⟩
        | new i c =>
          rw [hcl] at hc
          obtain ⟨rfl, hu, hcu, hst⟩ := hc
          obtain ⟨Hy, d1, f1, f2, f3⟩ := k.bubble (fun q hq => hi q (List.mem_cons_of_mem _ hq)) (hok.more hu hcu) hr1
          have hyc : Hy i = c := by
            rcases f1 with ⟨_, g2⟩ | ⟨_, _, g3⟩
            · have := g2.stay ρ a w (hok.more hu hcu) (fun j hj => hr1 j (mem_reads hj)) i (by unfold upd; rw [if_pos rfl]; exact hcu) (hok.unb i hu)
              rw [this]; unfold upd; rw [if_pos rfl]
            · rw [g3]; unfold upd; rw [if_pos rfl]
          refine ⟨upd Hy i .undef, d1, ?_, fun j hj => ?_, .cons hd (.inl ⟨hg.congr hrx, ?_⟩) (H1 := Hy) (fun j hj => ?_) (by rw [← hcomm]; exact f3)⟩
          · rcases front f1 with ⟨g1, g2⟩ | ⟨g1, g2, g3⟩
            · exact .inl ⟨g1, g2.fewer hu hcu⟩
            · refine .inr ⟨g1, g2, ?_⟩
              rw [g3]
              funext j
              unfold upd
              by_cases e : j = i
              · subst e; rw [if_pos rfl]; exact hu.symm
              · rw [if_neg e, if_neg e]
          · have := f2 j hj
            unfold upd at this ⊢
            by_cases e : j = i
            · subst e; rw [if_pos rfl]; exact hu.symm
            · rw [if_neg e] at this ⊢; exact this
          · rw [hcl]
            exact ⟨(upd_back hyc).symm, by unfold upd; rw [if_pos rfl], hcu, fun G hG => (hst G hG).congr hrx⟩
          · have := hk j hj
            unfold upd at this ⊢
            by_cases e : j = i
            · subst e; rw [if_pos rfl, hu] at this; exact absurd this hcu
            · rw [if_neg e]
      · exact same hH fun Hy hy => .inr ⟨hg.congr hrx, hc, hv, rfl⟩
/-- One of them runs. -/
theorem FStep.any {y : Oper} {Hy : Nat → V} (h : FStep P ξ N ops y E H Hy v) (hd : X.okD N y.dst = true) {ρ : Rho} {a : Act} {w : World} (hR : Rel ρ ξ E H N a w) {K : Act → World → Prop} {Q' : Exit → Act → World → Prop}
    (k : ∀ ρ' a' w', Reach ρ w H ρ' w' Hy → Rel ρ' ξ (putE E y.dst v) Hy N a' w' → K a' w') : if Region.wanted y (yielded ops a.tmps) then y.wp P a w K Q' else K (a.put y.dst undef) w := by
  rcases h with ⟨h1, h2⟩ | ⟨h1, h2, h3⟩
  · rw [h1.wanted hR.size fun i _ => hR.tmps i, if_pos rfl]
    exact (h2.reach hR.ok fun i _ => hR.tmps i) K Q' fun u w' ⟨ρ', r1, r2, r3⟩ => k ρ' _ w' r1 (hR.put r1.ev r2 hd r3)
  · rw [h1.wanted hR.size fun i _ => hR.tmps i, if_neg (by simp)]
    subst h2; subst h3
    exact k ρ _ w (.refl _ _ _) (hR.put (.refl _ _ _) hR.ok hd ⟨[], rfl, rfl⟩)
theorem Ch.any_go {Q : Exit → Act → World → Prop} (hA : ∀ i, i < ops.size → ∀ e ∈ X.edgesOf ops i, e < i) {ρ0 : Rho} {w0 : World} {H0 : Nat → V} {E' H' : Nat → V} (hend : ∀ ρ a w, Reach ρ0 w0 H0 ρ w H' → Rel ρ ξ E' H' N a w → Q .normal a w) :
    ∀ (fuel : Nat) (L : List El) (E H : Nat → V) (ρ : Rho) (listed : Array Bool) (a : Act) (w : World), X.unl listed ≤ fuel → listed.size = ops.size → X.Closed ops (fun i => listed.getD i false = true) →
      (∀ i, i ∈ L.map (·.i) ↔ i < ops.size ∧ listed.getD i false = false) → (L.map (·.i)).Nodup → (∀ x ∈ L, ops[x.i]? = some x.o) →
      L.Pairwise (fun x y => (∀ S : Nat → Prop, X.Closed ops S → (∀ e ∈ X.edgesOf ops y.i, S e) → S x.i) ∨ Ind ops x y) →
      Ch P ξ N ops L E H E' H' → Reach ρ0 w0 H0 ρ w H → Rel ρ ξ E H N a w → wpAny P .any ops Q fuel listed a w := by
  have fin : ∀ (L : List El) (E H : Nat → V) (ρ : Rho) (listed : Array Bool) (a : Act) (w : World), listed.size = ops.size → (∀ i, i ∈ L.map (·.i) ↔ i < ops.size ∧ listed.getD i false = false) →
      Ch P ξ N ops L E H E' H' → Reach ρ0 w0 H0 ρ w H → Rel ρ ξ E H N a w → Region.ready .any ops listed = [] → Q .normal a w := by
    intro L E H ρ listed a w hs hL hC hq hG hr
    have hall : ∀ i, i < ops.size → listed.getD i false = true := by
      intro i
      induction i using Nat.strongRecOn with
      | _ i ih =>
        intro hi
        cases hl : listed.getD i false with
        | true => rfl
        | false =>
          have : i ∈ Region.ready .any ops listed := (X.mem_ready_iff hs).2 ⟨hi, hl, fun e he => ih e (hA i hi e he) (Nat.lt_trans (hA i hi e he) hi)⟩
          rw [hr] at this; cases this
    have hnil : L = [] := by
      cases L with
      | nil => rfl
      | cons x r =>
        obtain ⟨h1, h2⟩ := (hL x.i).1 (by simp)
        rw [hall _ h1] at h2; cases h2
    subst hnil
    cases hC with
    | nil => exact hend ρ a w hq hG
  intro fuel
  induction fuel with
  | zero =>
    intro L E H ρ listed a w hu hs hcl hL hnd hx hpw hC hq hG
    have hr : Region.ready .any ops listed = [] := by
      apply List.eq_nil_iff_forall_not_mem.2
      intro i hi
      obtain ⟨h1, h2, _⟩ := (X.mem_ready_iff hs).1 hi
      have := X.unl_set (i := i) (by rw [hs]; exact h1) h2
      omega
    exact ⟨hr, fin L E H ρ listed a w hs hL hC hq hG hr⟩
  | succ fuel ih =>
    intro L E H ρ listed a w hu hs hcl hL hnd hx hpw hC hq hG
    refine ⟨fin L E H ρ listed a w hs hL hC hq hG, fun i hi => ?_⟩
    obtain ⟨h1, h2, h3⟩ := (X.mem_ready_iff hs).1 hi
    have hu' : X.unl (listed.setIfInBounds i true) ≤ fuel := by
      have := X.unl_set (i := i) (by rw [hs]; exact h1) h2
      omega
    have hli : i < listed.size := by rw [hs]; exact h1
    obtain ⟨x, hxm, hxi⟩ := List.mem_map.1 ((hL i).2 ⟨h1, h2⟩)
    subst hxi
    obtain ⟨l1, l2, rfl⟩ := List.append_of_mem hxm
    have hoi := hx x hxm
    have hind : ∀ p ∈ l1, Ind ops p x := fun p hp => by
      rcases (List.pairwise_append.1 hpw).2.2 p hp x (List.mem_cons_self) with h | h
      · have h4 : listed.getD p.i false = true := h _ hcl h3
        have := ((hL p.i).1 (List.mem_map_of_mem (List.mem_append_left _ hp))).2
        rw [h4] at this; cases this
      · exact h
    obtain ⟨Hy, hd, hst, _, hC3⟩ := hC.bubble (a := a) hind hG.ok fun i _ => hG.tmps i
    have hsub : (l1 ++ l2).Sublist (l1 ++ x :: l2) := (List.Sublist.refl l1).append (List.sublist_cons_self _ _)
    have hnd2 : x.i ∉ (l1 ++ l2).map (·.i) := by
      rw [List.map_append, List.map_cons, List.nodup_append] at hnd
      obtain ⟨n1, n2, n3⟩ := hnd
      rw [List.map_append, List.mem_append]
      rintro (h | h)
      · exact n3 _ h x.i (List.mem_cons_self) rfl
      · exact (List.nodup_cons.1 n2).1 h
    unfold wpOp
    rw [hoi]
    simp only
    have key := hst.any hd hG (K := wpAny P .any ops Q fuel (listed.setIfInBounds x.i true)) (Q' := Q) fun ρ' a' w' r1 r2 => by
      refine ih (l1 ++ l2) _ _ ρ' _ a' w' hu' (by simp [hs]) ?_ ?_ (hnd.sublist (hsub.map _)) (fun y hy => hx y (hsub.subset hy)) (hpw.sublist hsub) hC3 (hq.trans r1) r2
      · intro q hq e he
        rw [X.getD_set hli] at hq ⊢
        by_cases e1 : e = x.i
        · rw [if_pos e1]
        · rw [if_neg e1]
          by_cases e2 : q = x.i
          · subst e2; exact h3 e he
          · rw [if_neg e2] at hq; exact hcl q hq e he
      · intro j
        rw [X.getD_set hli]
        by_cases e1 : j = x.i
        · rw [if_pos e1]
          refine ⟨fun hj => absurd (e1 ▸ hj) hnd2, fun hj => ?_⟩
          cases hj.2
        · rw [if_neg e1, ← hL j]
          rw [List.map_append, List.map_append, List.map_cons, List.mem_append, List.mem_append, List.mem_cons]
          exact ⟨fun h => h.elim .inl fun h => .inr (.inr h), fun h => h.elim .inl fun h => h.elim (fun h => absurd h e1) .inr⟩
    split
    · rename_i hw; rw [if_pos hw] at key; exact .inl key
    · rename_i hw; rw [if_neg hw] at key; exact key
theorem Rel.drawn {ρ : Rho} {a : Act} {w : World} (h : Rel ρ ξ E H N a w) (n : Nat) : Rel ρ ξ E H N a { w with drawn := n } ∧ Reach ρ w H ρ { w with drawn := n } H :=
  ⟨⟨h.defers, h.size, h.tmps, ⟨h.ok.inj, h.ok.lt, h.ok.unb, h.ok.small, h.ok.dead, fun i g c hi => (h.ok.blk i g c hi).stay (.refl _) rfl⟩⟩, ⟨fun _ h => h, ⟨fun _ _ => .inl rfl, fun i g c h => .inl ⟨i, c, h⟩, fun _ _ _ => rfl, rfl, rfl, rfl, Nat.le_refl _⟩, fun _ _ _ => rfl⟩⟩
/-! ### code -/
inductive Kx where
  | norm
  | exit (i : Nat)
  | ret
def Kx.ex : Kx → Exit
  | .norm => .normal
  | .exit i => .exit i
  | .ret => .ret
def CodeOk (P : Program) (ξ : Nat → Int) (N : Nat) (c : Code) (E H : Nat → V) (x : Kx) (E' H' : Nat → V) : Prop :=
  ∀ ρ a w, Rel ρ ξ E H N a w → c.wp P (fun e a' w' => e = x.ex ∧ ∃ ρ', Reach ρ w H ρ' w' H' ∧ Rel ρ' ξ E' H' N a' w') a w
/-- A region that draws its order. -/
theorem Ch.draw {id : Nat} {L : List El} {E' : Nat → V} (hm : P.follows .mixedOrders = true) (hA : ∀ i, i < ops.size → ∀ e ∈ X.edgesOf ops i, e < i) (hL : ∀ i, i ∈ L.map (·.i) ↔ i < ops.size) (hnd : (L.map (·.i)).Nodup) (hx : ∀ x ∈ L, ops[x.i]? = some x.o)
    (hpw : L.Pairwise (fun x y => (∀ S : Nat → Prop, X.Closed ops S → (∀ e ∈ X.edgesOf ops y.i, S e) → S x.i) ∨ Ind ops x y)) (hC : Ch P ξ N ops L E H E' H') : CodeOk P ξ N (.region id ops true) E H .norm E' H' := fun ρ a w hR => by
  refine wp_region_any hm ?_
  obtain ⟨d1, d2⟩ := hR.drawn (w.drawn + 1)
  refine Ch.any_go hA (ρ0 := ρ) (w0 := w) (H0 := H) (fun ρ' a' w' h1 h2 => ⟨rfl, ρ', h1, h2⟩) _ L E H ρ _ a _ ?_ (by simp) ?_ ?_ hnd hx hpw hC d2 d1
  · unfold X.unl; exact Nat.le_trans List.countP_le_length (by simp)
  · intro i hi
    exfalso
    simp only [Array.getD_eq_getD_getElem?, Array.getElem?_replicate] at hi
    split at hi <;> simp at hi
  · intro i
    rw [hL]
    constructor
    · intro hi
      refine ⟨hi, ?_⟩
      simp only [Array.getD_eq_getD_getElem?, Array.getElem?_replicate]
      rw [if_pos hi]; rfl
    · rintro ⟨hi, _⟩
      exact hi
/-- A region in its own order. -/
theorem Ch.list {Q : Exit → Act → World → Prop} : ∀ {L : List El} {E H E' H' : Nat → V} {ρ0 ρ : Rho} {w0 w : World} {H0 : Nat → V} {a : Act}, Ch P ξ N ops L E H E' H' → Reach ρ0 w0 H0 ρ w H → Rel ρ ξ E H N a w → (∀ ρ a w, Reach ρ0 w0 H0 ρ w H' → Rel ρ ξ E' H' N a w → Q .normal a w) → wpList P ops Q (L.map (·.o)) a w
  | [], E, H, E', H', ρ0, ρ, w0, w, H0, a, h, hq, hR, hend => by
    cases h with
    | nil => exact hend ρ a w hq hR
  | x :: L, E, H, E', H', ρ0, ρ, w0, w, H0, a, h, hq, hR, hend => by
    cases h with
    | @cons _ _ _ _ H1 _ _ hd h hk k =>
      have hf : FStep P ξ N ops x.o E H H1 x.v := by
        rcases h with ⟨h1, h2⟩ | ⟨h1, _, h2, h3⟩
        · exact .inl ⟨h1, h2.step⟩
        · exact .inr ⟨h1, h2, h3⟩
      have key := hf.any hd hR (K := wpList P ops Q (L.map (·.o))) (Q' := Q) fun ρ' a' w' r1 r2 => k.list (hq.trans r1) r2 hend
      show if Region.wanted x.o (yielded ops a.tmps) then x.o.wp P a w (wpList P ops Q (L.map (·.o))) Q ∨ (x.o.asks P a w ∧ LetsOut Q) else wpList P ops Q (L.map (·.o)) (a.put x.o.dst undef) w
      split
      · rename_i hw; rw [if_pos hw] at key; exact .inl key
      · rename_i hw; rw [if_neg hw] at key; exact key
theorem Ch.straight {id : Nat} {L : List El} {l : List Oper} {E' : Nat → V} (hl : L.map (·.o) = l) (hC : Ch P ξ N l.toArray L E H E' H') : CodeOk P ξ N (.region id l.toArray false) E H .norm E' H' := fun ρ a w hR => by
  refine wp_region_lit ?_
  rw [← hl] at hC ⊢
  exact hC.list (.refl _ _ _) hR fun ρ' a' w' h1 h2 => ⟨rfl, ρ', h1, h2⟩
end
end Go.Proofs.YtnkkfmnpkgjabaaGreat.Y

/- The runner: regions: how they are run. -/
namespace Go.Proofs.YtnkkfmnpkgjabaaGreat.Y
open Go.RowKit
set_option linter.unusedVariables false
set_option linter.unusedSimpArgs false
/-! ### alike -/
noncomputable def veqB (a : V) : V → Bool := V.rec (motive := fun _ => V → Bool)
  (fun b => V.casesOn b true (fun _ _ => false) false (fun _ _ => false) (fun _ => false) (fun _ _ => false) (fun _ => false) (fun _ _ => false) (fun _ _ _ _ _ _ => false) (fun _ _ _ => false) (fun _ _ => false) (fun _ => false) (fun _ => false) (fun _ => false) (fun _ => false))
  (fun _ _ ih1 ih2 b => V.casesOn b false (fun x y => Bool.casesOn (ih1 x) false (ih2 y)) false (fun _ _ => false) (fun _ => false) (fun _ _ => false) (fun _ => false) (fun _ _ => false) (fun _ _ _ _ _ _ => false) (fun _ _ _ => false) (fun _ _ => false) (fun _ => false) (fun _ => false) (fun _ => false) (fun _ => false))
  (fun b => V.casesOn b false (fun _ _ => false) true (fun _ _ => false) (fun _ => false) (fun _ _ => false) (fun _ => false) (fun _ _ => false) (fun _ _ _ _ _ _ => false) (fun _ _ _ => false) (fun _ _ => false) (fun _ => false) (fun _ => false) (fun _ => false) (fun _ => false))
  (fun k n b => vInt b fun k' n' => Bool.casesOn (sameK k k') false (eqI n n'))
  (fun x b => vBool b fun y => eqB x y)
  (fun l n b => vStr b fun l' n' => Bool.casesOn (Nat.beq l l') false (Nat.beq n n'))
  (fun k b => V.casesOn b false (fun _ _ => false) false (fun _ _ => false) (fun _ => false) (fun _ _ => false) (fun j => NK.eqb k j) (fun _ _ => false) (fun _ _ _ _ _ _ => false) (fun _ _ _ => false) (fun _ _ => false) (fun _ => false) (fun _ => false) (fun _ => false) (fun _ => false))
  (fun l n b => vPtr b fun l' n' => Bool.casesOn (Nat.beq l l') false (Nat.beq n n'))
  (fun i o w n f h b => vSl b (fun _ => false) fun i' o' w' n' f' h' => Bool.casesOn (Nat.beq i i') false (Bool.casesOn (Nat.beq o o') false (Bool.casesOn (Nat.beq w w') false (Bool.casesOn (Nat.beq n n') false (Bool.casesOn (eqB f f') false (eqB h h'))))))
  (fun f _ _ ih1 ih2 b => vFn b fun f' x y => Bool.casesOn (Nat.beq f f') false (Bool.casesOn (ih1 x) false (ih2 y)))
  (fun t _ ih b => vRow b fun t' x => Bool.casesOn (Nat.beq t t') false (ih x))
  (fun i b => V.casesOn b false (fun _ _ => false) false (fun _ _ => false) (fun _ => false) (fun _ _ => false) (fun _ => false) (fun _ _ => false) (fun _ _ _ _ _ _ => false) (fun _ _ _ => false) (fun _ _ => false) (fun j => Nat.beq i j) (fun _ => false) (fun _ => false) (fun _ => false))
  (fun _ ih b => vAgg b ih)
  (fun _ ih b => vTup b ih)
  (fun i b => V.casesOn b false (fun _ _ => false) false (fun _ _ => false) (fun _ => false) (fun _ _ => false) (fun _ => false) (fun _ _ => false) (fun _ _ _ _ _ _ => false) (fun _ _ _ => false) (fun _ _ => false) (fun _ => false) (fun _ => false) (fun _ => false) (fun j => Nat.beq i j)) a
theorem andB {a b : Bool} (h : (Bool.casesOn a false b : Bool) = true) : a = true ∧ b = true := by cases a <;> first | exact ⟨rfl, h⟩ | cases h
theorem veqB_eq : ∀ {a b : V}, veqB a b = true → a = b := by
  intro a
  induction a with
  | nl => intro b h; cases b <;> first | rfl | cases h
  | cs x y ih1 ih2 => intro b h; cases b <;> first | cases h | (obtain ⟨h1, h2⟩ := andB h; rw [ih1 h1, ih2 h2])
  | undef => intro b h; cases b <;> first | rfl | cases h
  | int k n =>
    intro b h
    obtain ⟨k', n', rfl, h⟩ := vInt_ok h
    obtain ⟨h1, h2⟩ := andB h
    rw [sameK_eq h1]; rw [eqI_eq] at h2; rw [eq_of_beq h2]
  | bool x =>
    intro b h
    obtain ⟨y, rfl, h2⟩ := vBool_ok h
    rw [eqB_eq] at h2; rw [eq_of_beq h2]
  | str l n =>
    intro b h
    obtain ⟨l', n', rfl, h⟩ := vStr_ok h
    obtain ⟨h1, h2⟩ := andB h
    rw [Nat.eq_of_beq_eq_true h1, Nat.eq_of_beq_eq_true h2]
  | nil k => intro b h; cases b <;> first | cases h | rw [NK.eqb_eq h]
  | ptr l n =>
    intro b h
    obtain ⟨l', n', rfl, h⟩ := vPtr_ok h
    obtain ⟨h1, h2⟩ := andB h
    rw [Nat.eq_of_beq_eq_true h1, Nat.eq_of_beq_eq_true h2]
  | sl i o w n f q =>
    intro b h
    rcases vSl_ok h with ⟨_, _, h⟩ | ⟨i', o', w', n', f', q', rfl, h⟩
    · cases h
    · obtain ⟨h1, h⟩ := andB h
      obtain ⟨h2, h⟩ := andB h
      obtain ⟨h3, h⟩ := andB h
      obtain ⟨h4, h⟩ := andB h
      obtain ⟨h5, h⟩ := andB h
      rw [eqB_eq] at h5 h
      rw [Nat.eq_of_beq_eq_true h1, Nat.eq_of_beq_eq_true h2, Nat.eq_of_beq_eq_true h3, Nat.eq_of_beq_eq_true h4, eq_of_beq h5, eq_of_beq h]
  | fn f x y ih1 ih2 =>
    intro b h
    obtain ⟨f', x', y', rfl, h⟩ := vFn_ok h
    obtain ⟨h1, h⟩ := andB h
    obtain ⟨h2, h⟩ := andB h
    rw [Nat.eq_of_beq_eq_true h1, ih1 h2, ih2 h]
  | ifc t x ih =>
    intro b h
    obtain ⟨t', x', rfl, h⟩ := vRow_ok h
    obtain ⟨h1, h⟩ := andB h
    rw [Nat.eq_of_beq_eq_true h1, ih h]
  | mp i => intro b h; cases b <;> first | cases h | rw [Nat.eq_of_beq_eq_true h]
  | agg x ih => intro b h; obtain ⟨y, rfl, h⟩ := vAgg_ok h; rw [ih h]
  | tup x ih => intro b h; obtain ⟨y, rfl, h⟩ := vTup_ok h; rw [ih h]
  | arg i => intro b h; cases b <;> first | cases h | rw [Nat.eq_of_beq_eq_true h]
/-! ### calls, tokens -/
abbrev KV := V → St → Bool
/-- How functions are called. -/
abbrev X0 := FuncId → V → St → KV → Bool
/-- What was chosen for an argument: its number, of how many, which. -/
def TkOk (ξ : Nat → Int) (tk : V) : Prop := ∀ x ∈ toL tk, ∀ i m r : Nat, x = .ptr i (m * 4294967296 + r) → 0 < m → m < 4294967296 → r < 4294967296 → (let k := Int.tmod (ξ i) m; if k < 0 then k + m else k) = (r : Int)
def InvX (ξ : Nat → Int) (S : St) : Prop := Inv S ∧ TkOk ξ S.tk
section
variable {P : Program} {ξ : Nat → Int} {N : Nat} {ops : Array Oper} {o : Oper}
def CallOk (P : Program) (ξ : Nat → Int) (K : FuncId) (args : V) (H H' : Nat → V) (v : V) : Prop :=
  X.FI P K ∧ ∀ ρ w us, Ok ρ ξ H w → TvL ρ ξ args us → Calls P K us.toArray w fun e w' => ∃ u, e = .returned u ∧ ∃ ρ', Reach ρ w H ρ' w' H' ∧ Ok ρ' ξ H' w' ∧ Tv ρ' ξ v u
def FunOk (P : Program) (ξ : Nat → Int) (K : FuncId) (f : V → St → KV → Bool) : Prop := ∀ args S k, InvX ξ S → f args S k = true → ∃ v S', k v S' = true ∧ S'.e = S.e ∧ InvX ξ S' ∧ Born (hp S) (hp S') ∧ CallOk P ξ K args (hp S) (hp S') v
def XOk (P : Program) (ξ : Nat → Int) (x : X0) : Prop := ∀ K, FunOk P ξ K (x K)
/-- What an operation's run is held to. -/
def SoundO (P : Program) (ξ : Nat → Int) (o : Oper) (f : St → Kt → Bool) : Prop := ∀ S k, InvX ξ S → f S k = true → ∃ cl v S', k cl v S' = true ∧ S'.e = S.e ∧ InvX ξ S' ∧ CStep P ξ o (slots S) (hp S) (hp S') v cl
theorem Sound1.toO {f : St → Kt → Bool} (h : Sound1 P ξ o f) : SoundO P ξ o f := fun S k hi hf => by
  obtain ⟨cl, v, S', h1, h2, h3, h4, h5⟩ := h S k hi.1 hf
  exact ⟨cl, v, S', h1, h2, ⟨h4, by rw [h3]; exact hi.2⟩, h5⟩
abbrev CO := F (X0 → St → Kt → Bool)
def COok (P : Program) (ξ : Nat → Int) (o : Oper) (c : CO) : Prop := ∀ x, XOk P ξ x → SoundO P ξ o (c.get x)
noncomputable def ofC1 (c : C1) : CO := F.casesOn c fun f => .mk fun _ => f
theorem ofC1_ok {c : C1} (h : Sound1 P ξ o c.get) : COok P ξ o (ofC1 c) := fun x hx => by
  have : (ofC1 c).get x = c.get := by cases c; rfl
  rw [this]; exact Sound1.toO h
noncomputable def noO : CO := .mk fun _ _ _ => false
theorem noO_ok : COok P ξ o noO := fun x hx S k hi h => by cases h
/-! ### one operation of a region -/
noncomputable def sput (N : Nat) (d : Option Tmp) : F (V → St → (St → Bool) → Bool) := match d with
  | none => .mk fun _ S k => k S
  | some d => Bool.casesOn (Nat.ble (Nat.succ d) 512) (.mk fun _ _ _ => false) (Bool.casesOn (Nat.ble (Nat.succ d) N) (.mk fun _ _ _ => false) (F.casesOn (Tr.cput (pT d)) fun p => .mk fun v S k => St.casesOn S fun e h nx tk => p v e fun e' => k ⟨e', h, nx, tk⟩))
theorem slots_set {S : St} {d : Nat} {v : V} (h : d < 512) : slots ⟨Tr.set (pT d) v S.e, S.h, S.nx, S.tk⟩ = putE (slots S) (some d) v := by
  funext i
  show (if i < 512 then Tr.look (pT i) (Tr.set (pT d) v S.e) else .undef) = (if i = d then v else if i < 512 then Tr.look (pT i) S.e else .undef)
  by_cases hi : i < 512
  · rw [if_pos hi, if_pos hi, Tr.look_set _ _ _ _ (by rw [show pT d = pathN 3 d from rfl, pathN_len]; exact (pathN_len 3 i).symm)]
    by_cases e : i = d
    · subst e; rw [if_pos rfl, if_pos rfl]
    · rw [if_neg e, if_neg (c := pT i = pT d) (fun h2 => e (pathN_inj 3 hi h h2))]
  · rw [if_neg hi, if_neg (by omega), if_neg hi]
theorem sput_ok {d : Option Tmp} {v : V} {S : St} {k : St → Bool} (h : (sput N d).get v S k = true) : ∃ S', k S' = true ∧ X.okD N d = true ∧ slots S' = putE (slots S) d v ∧ S'.h = S.h ∧ S'.nx = S.nx ∧ S'.tk = S.tk := by
  cases d with
  | none => exact ⟨S, h, rfl, rfl, rfl, rfl, rfl⟩
  | some d =>
    have h : (Bool.casesOn (Nat.ble (Nat.succ d) 512) (.mk fun _ _ _ => false) (Bool.casesOn (Nat.ble (Nat.succ d) N) (.mk fun _ _ _ => false) (F.casesOn (Tr.cput (pT d)) fun p => .mk fun v S k => St.casesOn S fun e h nx tk => p v e fun e' => k ⟨e', h, nx, tk⟩)) : F (V → St → (St → Bool) → Bool)).get v S k = true := h
    cases h1 : Nat.ble (Nat.succ d) 512 with
    | false => rw [h1] at h; cases h
    | true =>
      cases h2 : Nat.ble (Nat.succ d) N with
      | false => rw [h1, h2] at h; cases h
      | true =>
        rw [h1, h2] at h
        have hp := Tr.cput_eq (pT d) v S.e (fun e' => k ⟨e', S.h, S.nx, S.tk⟩)
        have h : (F.casesOn (Tr.cput (pT d)) fun p => F.mk fun v S k => St.casesOn S fun e h nx tk => p v e fun e' => k ⟨e', h, nx, tk⟩ : F (V → St → (St → Bool) → Bool)).get v S k = true := h
        revert hp h
        generalize Tr.cput (pT d) = c
        intro hp h
        cases c with
        | mk p =>
          have h : p v S.e (fun e' => k ⟨e', S.h, S.nx, S.tk⟩) = true := by cases S; exact h
          have hp : p v S.e (fun e' => k ⟨e', S.h, S.nx, S.tk⟩) = k ⟨Tr.set (pT d) v S.e, S.h, S.nx, S.tk⟩ := hp
          rw [hp] at h
          refine ⟨_, h, ?_, slots_set (Nat.le_of_ble_eq_true h1), rfl, rfl, rfl⟩
          exact h2
noncomputable def gdV (want : Bool) (v : V) (k : Bool → Bool) : Bool := V.casesOn v false (fun _ _ => false) false (fun _ _ => false) (fun c => k (eqB c want)) (fun _ _ => false) (fun _ => false) (fun _ _ => false) (fun _ _ _ _ _ _ => false) (fun _ _ _ => false) (fun _ _ => false) (fun _ => false) (fun _ => false) (fun l => V.casesOn l (k false) (fun _ _ => false) false (fun _ _ => false) (fun _ => false) (fun _ _ => false) (fun _ => false) (fun _ _ => false) (fun _ _ _ _ _ _ => false) (fun _ _ _ => false) (fun _ _ => false) (fun _ => false) (fun _ => false) (fun _ => false) (fun _ => false)) (fun _ => false)
theorem gdV_ok {want : Bool} {v : V} {k : Bool → Bool} (h : gdV want v k = true) : ∃ b, k b = true ∧ ((∃ c, v = .bool c ∧ b = (c == want)) ∨ (v = .tup .nl ∧ b = false)) := by
  cases v with
  | bool c =>
    have h : k (eqB c want) = true := h
    exact ⟨_, h, .inl ⟨c, rfl, eqB_eq c want⟩⟩
  | tup l =>
    cases l with
    | nl => exact ⟨false, h, .inr ⟨rfl, rfl⟩⟩
    | _ => cases h
  | _ => cases h
abbrev R1 := F (X0 → St → (Cls → St → Bool) → Bool)
/-- What a region's operation is: it may not run. -/
noncomputable def one (N : Nat) (l : List Oper) (op1 : Oper → CO) (o : Oper) : R1 := F.casesOn (op1 o) fun f => F.casesOn (sput N o.dst) fun p => match o.guard with
  | none => .mk fun x S k => f x S fun cl v S1 => p v S1 fun S2 => k cl S2
  | some (j, want) => match (l[j]?).bind (·.dst) with
    | none => .mk fun _ _ _ => false
    | some d => Bool.casesOn (Nat.ble (Nat.succ d) N) (.mk fun _ _ _ => false) (F.casesOn (opd (.tmp d)) fun g => .mk fun x S k => g S fun q => gdV want q fun b => Bool.casesOn b (p (.tup .nl) S fun S2 => k .pure S2) (f x S fun cl v S1 => p v S1 fun S2 => k cl S2))
structure SoundG (P : Program) (ξ : Nat → Int) (N : Nat) (ops : Array Oper) (o : Oper) (S : St) (v : V) (cl : Cls) (S' : St) : Prop where
  i : InvX ξ S'
  b : Born (hp S) (hp S')
  d : X.okD N o.dst = true
  e : slots S' = putE (slots S) o.dst v
  s : (Gd ops N (slots S) o true ∧ CStep P ξ o (slots S) (hp S) (hp S') v cl) ∨ (Gd ops N (slots S) o false ∧ cl = .pure ∧ v = .tup .nl ∧ hp S' = hp S)
theorem inv_same {S S' : St} (h1 : S'.h = S.h) (h2 : S'.nx = S.nx) (h3 : S'.tk = S.tk) : hp S' = hp S ∧ (InvX ξ S → InvX ξ S') := by
  have : hp S' = hp S := by funext i; unfold hp; rw [h1]
  refine ⟨this, fun h => ⟨fun i hi => ?_, by rw [h3]; exact h.2⟩⟩
  rw [this]; exact h.1 i (by rw [← h2]; exact hi)
theorem slots_e {S S' : St} (h : S'.e = S.e) : slots S' = slots S := by funext i; unfold slots; rw [h]
theorem one_ok {l : List Oper} {op1 : Oper → CO} {o : Oper} (hop : COok P ξ o (op1 o)) {x : X0} (hx : XOk P ξ x) {S : St} {k : Cls → St → Bool} (hi : InvX ξ S) (h : (one N l op1 o).get x S k = true) :
    ∃ cl v S', k cl S' = true ∧ SoundG P ξ N l.toArray o S v cl S' := by
  unfold one at h
  have hf : ∀ {f : X0 → St → Kt → Bool} {p : V → St → (St → Bool) → Bool}, op1 o = .mk f → sput N o.dst = .mk p → Gd l.toArray N (slots S) o true → f x S (fun cl v S1 => p v S1 fun S2 => k cl S2) = true → ∃ cl v S', k cl S' = true ∧ SoundG P ξ N l.toArray o S v cl S' := fun {f p} e1 e2 hg h => by
    have hs := hop x hx
    rw [e1] at hs
    obtain ⟨cl, v, S1, h1, h2, h3, h4⟩ := hs S _ hi h
    have hpp : (sput N o.dst).get v S1 (fun S2 => k cl S2) = true := by rw [e2]; exact h1
    obtain ⟨S2, q1, q2, q3, q4, q5, q6⟩ := sput_ok hpp
    obtain ⟨r1, r2⟩ := inv_same (ξ := ξ) q4 q5 q6
    exact ⟨cl, v, S2, q1, r2 h3, by rw [r1]; exact h4.step.born, q2, by rw [q3, slots_e h2], .inl ⟨hg, by rw [r1]; exact h4⟩⟩
  cases e1 : op1 o with
  | mk f =>
    cases e2 : sput N o.dst with
    | mk p =>
      rw [e1, e2] at h
      simp only at h
      split at h
      · rename_i hg
        exact hf e1 e2 (by unfold Gd; rw [hg]) h
      · rename_i j want hg
        split at h
        · cases h
        · rename_i d hd
          cases hdN : Nat.ble (Nat.succ d) N with
          | false => rw [hdN] at h; cases h
          | true =>
            rw [hdN] at h
            have hdN : d < N := Nat.le_of_ble_eq_true hdN
            cases e3 : opd (.tmp d) with
            | mk g =>
              rw [e3] at h
              have h : g S (fun q => gdV want q fun b => Bool.casesOn b (p (.tup .nl) S fun S2 => k .pure S2) (f x S fun cl v S1 => p v S1 fun S2 => k cl S2)) = true := h
              have h2 : (opd (.tmp d)).get S (fun q => gdV want q fun b => Bool.casesOn b (p (.tup .nl) S fun S2 => k .pure S2) (f x S fun cl v S1 => p v S1 fun S2 => k cl S2)) = true := by rw [e3]; exact h
              obtain ⟨b, h3, h4⟩ := gdV_ok (opd_ok h2)
              have hgd : Gd l.toArray N (slots S) o b := by
                unfold Gd
                rw [hg]
                obtain ⟨oj, hj1, hj2⟩ := Option.bind_eq_some_iff.1 hd
                exact ⟨oj, d, by simpa using hj1, hj2, hdN, h4⟩
              cases b with
              | true => exact hf e1 e2 hgd h3
              | false =>
                have hpp : (sput N o.dst).get (.tup .nl) S (fun S2 => k .pure S2) = true := by rw [e2]; exact h3
                obtain ⟨S2, q1, q2, q3, q4, q5, q6⟩ := sput_ok hpp
                obtain ⟨r1, r2⟩ := inv_same (ξ := ξ) q4 q5 q6
                exact ⟨.pure, .tup .nl, S2, q1, r2 hi, by rw [r1]; exact fun _ h => h, q2, q3, .inr ⟨hgd, rfl, rfl, r1⟩⟩
/-! ### in their own order -/
noncomputable def seqL (N : Nat) (l0 : List Oper) (op1 : Oper → CO) (l : List Oper) : F (X0 → St → (St → Bool) → Bool) := List.rec (motive := fun _ => F (X0 → St → (St → Bool) → Bool)) (.mk fun _ S k => k S) (fun o _ ih => F.casesOn (one N l0 op1 o) fun f => F.casesOn ih fun g => .mk fun x S k => f x S fun _ S' => g x S' k) l
theorem seqL_ok {l0 : List Oper} {op1 : Oper → CO} (hop : ∀ o, COok P ξ o (op1 o)) {x : X0} (hx : XOk P ξ x) {k : St → Bool} : ∀ {l : List Oper} {S : St}, InvX ξ S → (seqL N l0 op1 l).get x S k = true →
    ∃ (L : List El) (S' : St), k S' = true ∧ InvX ξ S' ∧ Born (hp S) (hp S') ∧ L.map (·.o) = l ∧ Ch P ξ N l0.toArray L (slots S) (hp S) (slots S') (hp S')
  | [], S, hi, h => ⟨[], S, h, hi, fun _ h => h, rfl, .nil⟩
  | o :: l, S, hi, h => by
    have h : (one N l0 op1 o).get x S (fun _ S' => (seqL N l0 op1 l).get x S' k) = true := by
      revert h
      show (F.casesOn (one N l0 op1 o) fun f => F.casesOn (seqL N l0 op1 l) fun g => F.mk fun x S k => f x S fun _ S' => g x S' k : F (X0 → St → (St → Bool) → Bool)).get x S k = true → _
      cases one N l0 op1 o; cases seqL N l0 op1 l; exact id
    obtain ⟨cl, v, S1, h1, h2⟩ := one_ok (hop o) hx hi h
    obtain ⟨L, S', k1, k2, k3, k4, k5⟩ := seqL_ok hop hx h2.i h1
    exact ⟨⟨0, o, cl, v, []⟩ :: L, S', k1, k2, fun i hi => k3 i (h2.b i hi), by rw [List.map_cons, k4], .cons h2.d h2.s (fun i hi => by cases hi) (by rw [← h2.e]; exact k5)⟩
/-! ### in any order -/
structure It where
  i : Nat
  o : Oper
  fr : Bool
  m : List Bool
noncomputable def chk (m : List Bool) : F (V → St → St → Bool → Bool) := List.rec (motive := fun _ => F (V → St → St → Bool → Bool)) (.mk fun _ _ _ b => b)
  (fun t _ ih => F.casesOn ih fun g => Bool.casesOn t
    (.mk fun rl S S1 b => V.casesOn rl false (fun _ r => g r S S1 b) false (fun _ _ => false) (fun _ => false) (fun _ _ => false) (fun _ => false) (fun _ _ => false) (fun _ _ _ _ _ _ => false) (fun _ _ _ => false) (fun _ _ => false) (fun _ => false) (fun _ => false) (fun _ => false) (fun _ => false))
    (.mk fun rl S S1 b => V.casesOn rl false (fun a r => V.casesOn a (g r S S1 b) (fun _ _ => false) false (fun _ _ => false) (fun _ => false) (fun _ _ => false) (fun _ => false) (fun _ _ => false) (fun _ _ _ _ _ _ => false) (fun _ _ _ => false) (fun _ _ => false)
        (fun i => hget i S fun b0 => hget i S1 fun b1 => Bool.casesOn (veqB b0 b1) false (g r S S1 b)) (fun _ => false) (fun _ => false) (fun _ => false))
      false (fun _ _ => false) (fun _ => false) (fun _ _ => false) (fun _ => false) (fun _ _ => false) (fun _ _ _ _ _ _ => false) (fun _ _ _ => false) (fun _ _ => false) (fun _ => false) (fun _ => false) (fun _ => false) (fun _ => false))) m
/-- What is kept of those that stand ahead. -/
def encF : List Cls → V
  | [] => .nl
  | .read i :: r => .cs (.mp i) (encF r)
  | _ :: r => .cs .nl (encF r)
def MaskOk (H H1 : Nat → V) : List Bool → List Cls → Prop
  | true :: m, .read i :: fl => H1 i = H i ∧ MaskOk H H1 m fl
  | _ :: m, _ :: fl => MaskOk H H1 m fl
  | _, _ => True
theorem chk_cons (t : Bool) (m : List Bool) (rl : V) (S S1 : St) (b : Bool) : (chk (t :: m)).get rl S S1 b = (Bool.casesOn t
    (V.casesOn rl false (fun _ r => (chk m).get r S S1 b) false (fun _ _ => false) (fun _ => false) (fun _ _ => false) (fun _ => false) (fun _ _ => false) (fun _ _ _ _ _ _ => false) (fun _ _ _ => false) (fun _ _ => false) (fun _ => false) (fun _ => false) (fun _ => false) (fun _ => false))
    (V.casesOn rl false (fun a r => V.casesOn a ((chk m).get r S S1 b) (fun _ _ => false) false (fun _ _ => false) (fun _ => false) (fun _ _ => false) (fun _ => false) (fun _ _ => false) (fun _ _ _ _ _ _ => false) (fun _ _ _ => false) (fun _ _ => false)
        (fun i => hget i S fun b0 => hget i S1 fun b1 => Bool.casesOn (veqB b0 b1) false ((chk m).get r S S1 b)) (fun _ => false) (fun _ => false) (fun _ => false))
      false (fun _ _ => false) (fun _ => false) (fun _ _ => false) (fun _ => false) (fun _ _ => false) (fun _ _ _ _ _ _ => false) (fun _ _ _ => false) (fun _ _ => false) (fun _ => false) (fun _ => false) (fun _ => false) (fun _ => false)) : Bool) := by
  show (F.casesOn (chk m) fun g => Bool.casesOn t
    (.mk fun rl S S1 b => V.casesOn rl false (fun _ r => g r S S1 b) false (fun _ _ => false) (fun _ => false) (fun _ _ => false) (fun _ => false) (fun _ _ => false) (fun _ _ _ _ _ _ => false) (fun _ _ _ => false) (fun _ _ => false) (fun _ => false) (fun _ => false) (fun _ => false) (fun _ => false))
    (.mk fun rl S S1 b => V.casesOn rl false (fun a r => V.casesOn a (g r S S1 b) (fun _ _ => false) false (fun _ _ => false) (fun _ => false) (fun _ _ => false) (fun _ => false) (fun _ _ => false) (fun _ _ _ _ _ _ => false) (fun _ _ _ => false) (fun _ _ => false)
        (fun i => hget i S fun b0 => hget i S1 fun b1 => Bool.casesOn (veqB b0 b1) false (g r S S1 b)) (fun _ => false) (fun _ => false) (fun _ => false))
      false (fun _ _ => false) (fun _ => false) (fun _ _ => false) (fun _ => false) (fun _ _ => false) (fun _ _ _ _ _ _ => false) (fun _ _ _ => false) (fun _ _ => false) (fun _ => false) (fun _ => false) (fun _ => false) (fun _ => false)) : F (V → St → St → Bool → Bool)).get rl S S1 b = _
  cases chk m; cases t <;> rfl
theorem hp_eq {S S1 : St} {i : Nat} (h : Tr.look (pB i) S1.h = Tr.look (pB i) S.h) : hp S1 i = hp S i := by unfold hp; split <;> simp [h]
theorem chk_ok : ∀ {m : List Bool} {fl : List Cls} {S S1 : St} {b : Bool}, (∀ c ∈ fl, c ≠ .any) → (chk m).get (encF fl) S S1 b = true → b = true ∧ MaskOk (hp S) (hp S1) m fl
  | [], fl, S, S1, b, _, h => ⟨h, by cases fl <;> exact trivial⟩
  | t :: m, [], S, S1, b, _, h => by rw [chk_cons] at h; cases t <;> cases h
  | t :: m, c :: fl, S, S1, b, hf, h => by
    rw [chk_cons] at h
    have hf2 : ∀ c ∈ fl, c ≠ .any := fun c hc => hf c (List.mem_cons_of_mem _ hc)
    cases t with
    | false =>
      have h : (chk m).get (encF fl) S S1 b = true := by cases c <;> exact h
      obtain ⟨h1, h2⟩ := chk_ok hf2 h
      exact ⟨h1, by cases c <;> exact h2⟩
    | true =>
      cases c with
      | read i =>
        have h : (hget i S fun b0 => hget i S1 fun b1 => Bool.casesOn (veqB b0 b1) false ((chk m).get (encF fl) S S1 b)) = true := h
        rw [hget_eq, hget_eq] at h
        obtain ⟨h1, h2⟩ := andB h
        obtain ⟨h3, h4⟩ := chk_ok hf2 h2
        exact ⟨h3, hp_eq (veqB_eq h1).symm, h4⟩
      | pure => obtain ⟨h3, h4⟩ := chk_ok (m := m) (fl := fl) (S := S) (S1 := S1) (b := b) hf2 h; exact ⟨h3, h4⟩
      | new i c => obtain ⟨h3, h4⟩ := chk_ok (m := m) (fl := fl) (S := S) (S1 := S1) (b := b) hf2 h; exact ⟨h3, h4⟩
      | any => exact absurd rfl (hf .any (List.mem_cons_self))
theorem MaskOk_same {H H1 : Nat → V} (h : H1 = H) : ∀ (m : List Bool) (fl : List Cls), MaskOk H H1 m fl
  | [], fl => by cases fl <;> exact trivial
  | true :: m, [] => trivial
  | false :: m, [] => trivial
  | true :: m, .read i :: fl => ⟨by rw [h], MaskOk_same h m fl⟩
  | true :: m, .pure :: fl => MaskOk_same h m fl
  | true :: m, .any :: fl => MaskOk_same h m fl
  | true :: m, .new _ _ :: fl => MaskOk_same h m fl
  | false :: m, .read i :: fl => MaskOk_same h m fl
  | false :: m, .pure :: fl => MaskOk_same h m fl
  | false :: m, .any :: fl => MaskOk_same h m fl
  | false :: m, .new _ _ :: fl => MaskOk_same h m fl
/-- What turns nothing need not be looked at. -/
noncomputable def chq (c : V → St → St → Bool → Bool) (cl : Cls) (rl : V) (S S1 : St) (b : Bool) : Bool := Cls.casesOn cl b (fun _ => b) (fun _ _ => c rl S S1 b) (c rl S S1 b)
theorem chq_ok {o : Oper} {v : V} {cl : Cls} {m : List Bool} {fl : List Cls} {S S1 : St} {b : Bool} (hf : ∀ c ∈ fl, c ≠ .any) (h2 : SoundG P ξ N ops o S v cl S1) (h : chq (chk m).get cl (encF fl) S S1 b = true) : b = true ∧ MaskOk (hp S) (hp S1) m fl := by
  cases cl with
  | pure =>
    have hs : hp S1 = hp S := by
      rcases h2.s with ⟨_, h3⟩ | ⟨_, _, _, h3⟩
      · exact h3.1
      · exact h3
    exact ⟨h, MaskOk_same hs m fl⟩
  | read i =>
    have hs : hp S1 = hp S := by
      rcases h2.s with ⟨_, h3⟩ | ⟨_, h3, _⟩
      · exact h3.1
      · cases h3
    exact ⟨h, MaskOk_same hs m fl⟩
  | new i c => exact chk_ok hf h
  | any => exact chk_ok hf h
/-- What must be kept by an operation. -/
def keepL : List Bool → List Cls → List Nat
  | true :: m, .read i :: fl => i :: keepL m fl
  | _ :: m, _ :: fl => keepL m fl
  | _, _ => []
theorem keepL_ok {H H1 : Nat → V} : ∀ {m : List Bool} {fl : List Cls}, MaskOk H H1 m fl → ∀ i ∈ keepL m fl, H1 i = H i
  | [], _, _, i, hi => by simp [keepL] at hi
  | true :: m, [], _, i, hi => by simp [keepL] at hi
  | false :: m, [], _, i, hi => by simp [keepL] at hi
  | false :: m, c :: fl, h, i, hi => keepL_ok (m := m) (fl := fl) (by cases c <;> exact h) i (by cases c <;> exact hi)
  | true :: m, .pure :: fl, h, i, hi => keepL_ok (m := m) (fl := fl) h i hi
  | true :: m, .any :: fl, h, i, hi => keepL_ok (m := m) (fl := fl) h i hi
  | true :: m, .new _ _ :: fl, h, i, hi => keepL_ok (m := m) (fl := fl) h i hi
  | true :: m, .read j :: fl, h, i, hi => by
    rcases List.mem_cons.1 hi with rfl | hi
    · exact h.1
    · exact keepL_ok (m := m) (fl := fl) h.2 i hi
noncomputable def seqD (N : Nat) (l0 : List Oper) (op1 : Oper → CO) (l : List It) : F (X0 → St → V → (St → Bool) → Bool) := List.rec (motive := fun _ => F (X0 → St → V → (St → Bool) → Bool)) (.mk fun _ S _ k => k S)
  (fun t _ ih => F.casesOn (one N l0 op1 t.o) fun f => F.casesOn (chk t.m) fun c => F.casesOn ih fun g => Bool.casesOn t.fr
    (.mk fun x S rl k => f x S fun cl S1 => chq c cl rl S S1 (g x S1 rl k))
    (.mk fun x S rl k => f x S fun cl S1 => chq c cl rl S S1 (Cls.casesOn cl (g x S1 (.cs .nl rl) k) (fun i => g x S1 (.cs (.mp i) rl) k) (fun _ _ => g x S1 (.cs .nl rl) k) false))) l
/-- What the run has shown of what it has run. -/
def Good : List It → List Cls → List El → Prop
  | [], _, [] => True
  | t :: r, fl, x :: l => x.i = t.i ∧ x.o = t.o ∧ (t.fr = true → x.cl ≠ .any) ∧ x.ks = keepL t.m fl ∧ Good r (if t.fr then x.cl :: fl else fl) l
  | _, _, _ => False
theorem seqD_ok {l0 : List Oper} {op1 : Oper → CO} (hop : ∀ o, COok P ξ o (op1 o)) {x : X0} (hx : XOk P ξ x) {k : St → Bool} : ∀ {l : List It} {fl : List Cls} {S : St}, (∀ c ∈ fl, c ≠ .any) → InvX ξ S → (seqD N l0 op1 l).get x S (encF fl) k = true →
    ∃ (L : List El) (S' : St), k S' = true ∧ InvX ξ S' ∧ Born (hp S) (hp S') ∧ Good l fl L ∧ Ch P ξ N l0.toArray L (slots S) (hp S) (slots S') (hp S')
  | [], fl, S, _, hi, h => ⟨[], S, h, hi, fun _ h => h, trivial, .nil⟩
  | t :: l, fl, S, hfl, hi, h => by
    have hstep : ∀ {fl' : List Cls} {b : Bool} {cl v S1}, (∀ c ∈ fl', c ≠ .any) → SoundG P ξ N l0.toArray t.o S v cl S1 → chq (chk t.m).get cl (encF fl) S S1 b = true → (b = true → (seqD N l0 op1 l).get x S1 (encF fl') k = true) → (t.fr = true → cl ≠ .any) → fl' = (if t.fr then cl :: fl else fl) →
        ∃ (L : List El) (S' : St), k S' = true ∧ InvX ξ S' ∧ Born (hp S) (hp S') ∧ Good (t :: l) fl L ∧ Ch P ξ N l0.toArray L (slots S) (hp S) (slots S') (hp S') := fun {fl' b cl v S1} hfl' h2 h1 hb hfr hfe => by
      obtain ⟨h3, h4⟩ := chq_ok hfl h2 h1
      obtain ⟨L, S', k1, k2, k3, k4, k5⟩ := seqD_ok hop hx hfl' h2.i (hb h3)
      exact ⟨⟨t.i, t.o, cl, v, keepL t.m fl⟩ :: L, S', k1, k2, fun i hi => k3 i (h2.b i hi), ⟨rfl, rfl, hfr, rfl, by rw [← hfe]; exact k4⟩, .cons h2.d h2.s (keepL_ok h4) (by rw [← h2.e]; exact k5)⟩
    have hu : seqD N l0 op1 (t :: l) = (F.casesOn (one N l0 op1 t.o) fun f => F.casesOn (chk t.m) fun c => F.casesOn (seqD N l0 op1 l) fun g => Bool.casesOn t.fr
      (.mk fun x S rl k => f x S fun cl S1 => chq c cl rl S S1 (g x S1 rl k))
      (.mk fun x S rl k => f x S fun cl S1 => chq c cl rl S S1 (Cls.casesOn cl (g x S1 (.cs .nl rl) k) (fun i => g x S1 (.cs (.mp i) rl) k) (fun _ _ => g x S1 (.cs .nl rl) k) false)) : F (X0 → St → V → (St → Bool) → Bool)) := rfl
    rw [hu] at h
    cases hfr : t.fr with
    | false =>
      have h : (one N l0 op1 t.o).get x S (fun cl S1 => chq (chk t.m).get cl (encF fl) S S1 ((seqD N l0 op1 l).get x S1 (encF fl) k)) = true := by
        revert h
        rw [hfr]
        cases one N l0 op1 t.o; cases chk t.m; cases seqD N l0 op1 l; exact id
      obtain ⟨cl, v, S1, h1, h2⟩ := one_ok (hop t.o) hx hi h
      exact hstep hfl h2 h1 id (fun e => by rw [hfr] at e; cases e) (by rw [hfr]; rfl)
    | true =>
      have h : (one N l0 op1 t.o).get x S (fun cl S1 => chq (chk t.m).get cl (encF fl) S S1 (Cls.casesOn cl ((seqD N l0 op1 l).get x S1 (.cs .nl (encF fl)) k) (fun i => (seqD N l0 op1 l).get x S1 (.cs (.mp i) (encF fl)) k) (fun _ _ => (seqD N l0 op1 l).get x S1 (.cs .nl (encF fl)) k) false)) = true := by
        revert h
        rw [hfr]
        cases one N l0 op1 t.o; cases chk t.m; cases seqD N l0 op1 l; exact id
      obtain ⟨cl, v, S1, h1, h2⟩ := one_ok (hop t.o) hx hi h
      have hcl : cl ≠ .any := fun e => by
        subst e
        obtain ⟨h3, _⟩ := chq_ok hfl h2 h1
        cases h3
      refine hstep (fl' := cl :: fl) (fun c hc => ?_) h2 h1 (fun hb => ?_) (fun _ => hcl) (by rw [hfr]; rfl)
      · rcases List.mem_cons.1 hc with rfl | hc
        · exact hcl
        · exact hfl c hc
      · cases cl with
        | any => exact absurd rfl hcl
        | _ => exact hb
end
end Go.Proofs.YtnkkfmnpkgjabaaGreat.Y

/- The runner: code. -/
namespace Go.Proofs.YtnkkfmnpkgjabaaGreat.Y
open Go.RowKit
set_option linter.unusedVariables false
set_option linter.unusedSimpArgs false
/-! ### what must stand ahead -/
def mskE (ms : List Nat) (k : Nat) (es : List Nat) : Nat := es.foldr (fun e m => (1 <<< e) ||| (ms.getD (k - 1 - e) 0 ||| m)) 0
/-- For each operation, the last one first, the set of those that must stand ahead. -/
def mks (ops : Array Oper) : Nat → List Nat
  | 0 => []
  | k + 1 => mskE (mks ops k) k (X.edgesOf ops k) :: mks ops k
def edgB (ops : Array Oper) : Bool := (List.range ops.size).all fun i => (X.edgesOf ops i).all fun e => Nat.blt e i
theorem edgB_lt {ops : Array Oper} (h : edgB ops = true) {i e : Nat} (hi : i < ops.size) (he : e ∈ X.edgesOf ops i) : e < i := by
  have := List.all_eq_true.1 h i (by simpa using hi)
  have := List.all_eq_true.1 this e he
  simpa [Nat.blt_eq] using this
/-- Wherever all that must stand ahead of i is listed, j is. -/
def Dep (ops : Array Oper) (i j : Nat) : Prop := ∀ S : Nat → Prop, X.Closed ops S → (∀ e ∈ X.edgesOf ops i, S e) → S j
theorem mskE_in {ops : Array Oper} {ms : List Nat} {k : Nat} (hm : ∀ i, i < k → ∀ j, (ms.getD (k - 1 - i) 0).testBit j = true → Dep ops i j) {S : Nat → Prop} (hS : X.Closed ops S) {j : Nat} :
    ∀ {es : List Nat}, (∀ e ∈ es, e < k) → (∀ e ∈ es, S e) → (mskE ms k es).testBit j = true → S j
  | [], _, _, h => by simp [mskE] at h
  | e :: r, h1, h2, h => by
    have hu : mskE ms k (e :: r) = (1 <<< e) ||| (ms.getD (k - 1 - e) 0 ||| mskE ms k r) := rfl
    rw [hu, Nat.testBit_or, Nat.testBit_or, Nat.one_shiftLeft, Nat.testBit_two_pow] at h
    simp only [Bool.or_eq_true, decide_eq_true_eq] at h
    have he : S e := h2 e (List.mem_cons_self)
    rcases h with h | h | h
    · subst h; exact he
    · exact hm e (h1 e (List.mem_cons_self)) j h S hS fun q hq => hS e he q hq
    · exact mskE_in hm hS (fun q hq => h1 q (List.mem_cons_of_mem _ hq)) (fun q hq => h2 q (List.mem_cons_of_mem _ hq)) h
theorem mks_in {ops : Array Oper} (hE : edgB ops = true) : ∀ (k : Nat), k ≤ ops.size → ∀ i, i < k → ∀ j, ((mks ops k).getD (k - 1 - i) 0).testBit j = true → Dep ops i j
  | 0, _, i, hi, _, _ => absurd hi (Nat.not_lt_zero _)
  | k + 1, hk, i, hi, j, h => by
    by_cases hik : i = k
    · subst hik
      have : i + 1 - 1 - i = 0 := by omega
      rw [this] at h
      exact fun S hS hed => mskE_in (mks_in hE i (by omega)) hS (fun e he => edgB_lt hE (by omega) he) hed h
    · have h2 : k + 1 - 1 - i = (k - 1 - i) + 1 := by omega
      rw [h2] at h
      exact mks_in hE k (by omega) i (by omega) j h
def pairsB {α : Type} (p : α → α → Bool) : List α → Bool
  | [] => true
  | x :: r => r.all (p x) && pairsB p r
theorem pairsB_ok {α : Type} {p : α → α → Bool} : ∀ {l : List α}, pairsB p l = true → l.Pairwise fun x y => p x y = true
  | [], _ => .nil
  | x :: r, h => by
    simp only [pairsB, Bool.and_eq_true] at h
    exact .cons (fun y hy => List.all_eq_true.1 h.1 y hy) (pairsB_ok h.2)
/-! ### the plan -/
def dB (ms : List Nat) (n i j : Nat) : Bool := (ms.getD (n - 1 - i) 0).testBit j
def sInd (ops : Array Oper) (i j : Nat) : Bool := match ops[i]?, ops[j]? with
  | some x, some y => (match x.dst with | some d => !(X.readsOf ops y).contains d && y.dst != some d | none => true) && (match y.dst with | some d => !(X.readsOf ops x).contains d | none => true)
  | _, _ => false
def planL (ops : Array Oper) (ms : List Nat) (n : Nat) : List Nat → List Nat → List It
  | [], _ => []
  | i :: r, fi => match ops[i]? with
    | some o => ⟨i, o, r.any fun j => !dB ms n j i, fi.map fun q => !dB ms n i q⟩ :: planL ops ms n r (if r.any fun j => !dB ms n j i then i :: fi else fi)
    | none => []
theorem keepL_mem {g : Nat → Bool} {j : Nat} : ∀ {fi : List Nat} {fl : List Cls} {k q : Nat}, fi[k]? = some q → fl[k]? = some (.read j) → g q = true → j ∈ keepL (fi.map g) fl
  | [], _, k, q, h, _, _ => by simp at h
  | _ :: _, [], k, q, _, h, _ => by simp at h
  | a :: fi, c :: fl, 0, q, h1, h2, h3 => by
    simp at h1 h2
    subst h1; subst h2
    show j ∈ keepL (g a :: fi.map g) (.read j :: fl)
    rw [h3]; exact List.mem_cons_self
  | a :: fi, c :: fl, k + 1, q, h1, h2, h3 => by
    have := keepL_mem (fi := fi) (fl := fl) (k := k) (by simpa using h1) (by simpa using h2) h3
    show j ∈ keepL (g a :: fi.map g) (c :: fl)
    cases g a <;> cases c <;> first | exact this | exact List.mem_cons_of_mem _ this
theorem plan_ok {ops : Array Oper} {ms : List Nat} {n : Nat} : ∀ {is fi : List Nat} {fl : List Cls} {L : List El}, fi.length = fl.length → (∀ i ∈ is, i < ops.size) → is.Pairwise (fun i j => (dB ms n j i || sInd ops i j) = true) → Good (planL ops ms n is fi) fl L →
    L.map (·.i) = is ∧ (∀ x ∈ L, ops[x.i]? = some x.o) ∧ (∀ (k q : Nat) (c : Cls), fi[k]? = some q → fl[k]? = some c → ∀ y ∈ L, dB ms n y.i q = true ∨ ∀ i, c = Cls.read i → i ∈ y.ks) ∧
      L.Pairwise (fun x y => dB ms n y.i x.i = true ∨ (sInd ops x.i y.i = true ∧ x.cl ≠ .any ∧ ∀ i, x.cl = .read i → i ∈ y.ks))
  | [], fi, fl, L, _, _, _, h => by
    cases L with
    | nil => exact ⟨rfl, by simp, by simp, .nil⟩
    | cons x L => exact h.elim
  | i :: r, fi, fl, L, hlen, hlt, hpw, h => by
    have hi := hlt i (List.mem_cons_self)
    obtain ⟨o, ho⟩ : ∃ o, ops[i]? = some o := ⟨_, Array.getElem?_eq_getElem hi⟩
    unfold planL at h
    rw [ho] at h
    cases L with
    | nil => exact h.elim
    | cons x L =>
      obtain ⟨h1, h2, h3, h4, h5⟩ := h
      simp only at h1 h2 h3 h4 h5
      have hlen' : (if r.any fun j => !dB ms n j i then i :: fi else fi).length = (if (r.any fun j => !dB ms n j i) = true then x.cl :: fl else fl).length := by
        split <;> simp [hlen]
      obtain ⟨p1, p2⟩ := List.pairwise_cons.1 hpw
      obtain ⟨k1, k2, k3, k4⟩ := plan_ok hlen' (fun j hj => hlt j (List.mem_cons_of_mem _ hj)) p2 h5
      refine ⟨by rw [List.map_cons, h1, k1], fun y hy => ?_, fun k q c hk hc y hy => ?_, .cons (fun y hy => ?_) k4⟩
      · rcases List.mem_cons.1 hy with rfl | hy
        · rw [h1, h2]; exact ho
        · exact k2 y hy
      · rcases List.mem_cons.1 hy with rfl | hy
        · rw [h1]
          cases hd : dB ms n i q with
          | true => exact .inl rfl
          | false =>
            refine .inr fun j hj => ?_
            subst hj
            rw [h4]
            exact keepL_mem hk hc (by rw [hd]; rfl)
        · cases hfr : (r.any fun j => !dB ms n j i) with
          | true =>
            refine k3 (k + 1) q c ?_ ?_ y hy
            · rw [if_pos hfr]; simpa using hk
            · rw [if_pos hfr]; simpa using hc
          | false =>
            refine k3 k q c ?_ ?_ y hy
            · rw [if_neg (by rw [hfr]; simp)]; exact hk
            · rw [if_neg (by rw [hfr]; simp)]; exact hc
      · have hyr : y.i ∈ r := by rw [← k1]; exact List.mem_map_of_mem hy
        have hp := p1 _ hyr
        rw [Bool.or_eq_true] at hp
        rw [h1]
        cases hfr : (r.any fun j => !dB ms n j i) with
        | true =>
          rcases k3 0 i x.cl (by rw [if_pos hfr]; rfl) (by rw [if_pos hfr]; rfl) y hy with h | h
          · exact .inl h
          · rcases hp with hp | hp
            · exact .inl hp
            · exact .inr ⟨hp, h3 hfr, h⟩
        | false =>
          left
          have := List.any_eq_false.1 hfr y.i hyr
          simpa using this
theorem sInd_ok {ops : Array Oper} {x y : El} (hx : ops[x.i]? = some x.o) (hy : ops[y.i]? = some y.o) (h : sInd ops x.i y.i = true) (hc : x.cl ≠ .any) (hk : ∀ i, x.cl = .read i → i ∈ y.ks) : Ind ops x y := by
  unfold sInd at h
  rw [hx, hy] at h
  simp only [Bool.and_eq_true] at h
  obtain ⟨h1, h2⟩ := h
  have cf : ∀ {l : List Nat} {i : Nat}, l.contains i = false → i ∉ l := fun h hm => by rw [List.contains_iff_mem.2 hm] at h; cases h
  refine ⟨fun d hd => ?_, fun d hd => ?_, hc, hk⟩
  · rw [hd] at h1
    simp only [Bool.and_eq_true, Bool.not_eq_true', bne_iff_ne] at h1
    exact ⟨cf h1.1, h1.2⟩
  · rw [hd] at h2
    simp only [Bool.not_eq_true'] at h2
    exact cf h2
/-- Does it turn nothing that there is? (The order alone hangs on it.) -/
def quietO (o : Oper) : Bool := match o.op with
  | .store .. | .mapUpdate .. | .insert .. | .entryStore .. => false
  | .call { callee := .builtin .len, .. } | .call { callee := .builtin .cap, .. } | .call { callee := .builtin .min, .. } | .call { callee := .builtin .max, .. } => true
  | .call _ => false
  | _ => true
def ordL : Nat → List (Nat × Bool × Nat) → Nat → List Nat
  | 0, _, _ => []
  | f + 1, l, pm => match l.find? fun x => x.2.1 && Nat.beq (Nat.land x.2.2 pm) 0 with
    | some x => x.1 :: ordL f (l.filter fun y => !Nat.beq y.1 x.1) (pm - 2 ^ x.1)
    | none => match l.find? fun x => Nat.beq (Nat.land x.2.2 pm) 0 with
      | some x => x.1 :: ordL f (l.filter fun y => !Nat.beq y.1 x.1) (pm - 2 ^ x.1)
      | none => []
def ordO (ops : Array Oper) : List Nat := ordL ops.size ((List.range ops.size).map fun i => (i, (match ops[i]? with | some o => quietO o | none => true), (X.edgesOf ops i).foldl (fun m e => m ||| 2 ^ e) 0)) (2 ^ ops.size - 1)
def planOk (ops : Array Oper) (ms : List Nat) (is : List Nat) : Bool :=
  edgB ops && (List.range ops.size).all (fun i => is.contains i) && is.all (fun i => Nat.blt i ops.size) && pairsB (fun i j => !Nat.beq i j) is && pairsB (fun i j => dB ms ops.size j i || sInd ops i j) is
section
variable {P : Program} {ξ : Nat → Int} {N : Nat}
/-! ### regions -/
noncomputable def cReg (N : Nat) (op1 : Oper → CO) (ops : Array Oper) (draw : Bool) : F (X0 → St → (St → Bool) → Bool) := Bool.casesOn draw (seqL N ops.toList op1 ops.toList)
  (Bool.casesOn (planOk ops (mks ops ops.size) (ordO ops)) (.mk fun _ _ _ => false) (F.casesOn (seqD N ops.toList op1 (planL ops (mks ops ops.size) ops.size (ordO ops) [])) fun f => .mk fun x S k => f x S .nl k))
structure CodeS (P : Program) (ξ : Nat → Int) (N : Nat) (c : Code) (S : St) (kx : Kx) (S' : St) : Prop where
  i : InvX ξ S'
  b : Born (hp S) (hp S')
  c : CodeOk P ξ N c (slots S) (hp S) kx (slots S') (hp S')
theorem cReg_ok {op1 : Oper → CO} (hm : P.follows .mixedOrders = true) (hop : ∀ o, COok P ξ o (op1 o)) {x : X0} (hx : XOk P ξ x) {id : Nat} {ops : Array Oper} {draw : Bool} {S : St} {k : St → Bool} (hi : InvX ξ S) (h : (cReg N op1 ops draw).get x S k = true) :
    ∃ S', k S' = true ∧ CodeS P ξ N (.region id ops draw) S .norm S' := by
  obtain ⟨l⟩ := ops
  cases draw with
  | false =>
    have h : (seqL N l op1 l).get x S k = true := h
    obtain ⟨L, S', k1, k2, k3, k4, k5⟩ := seqL_ok hop hx hi h
    exact ⟨S', k1, k2, k3, Ch.straight k4 k5⟩
  | true =>
    have h : (Bool.casesOn (planOk l.toArray (mks l.toArray l.toArray.size) (ordO l.toArray)) (.mk fun _ _ _ => false) (F.casesOn (seqD N l op1 (planL l.toArray (mks l.toArray l.toArray.size) l.toArray.size (ordO l.toArray) [])) fun f => .mk fun x S k => f x S .nl k) : F (X0 → St → (St → Bool) → Bool)).get x S k = true := h
    cases hpo : planOk l.toArray (mks l.toArray l.toArray.size) (ordO l.toArray) with
    | false => rw [hpo] at h; cases h
    | true =>
      rw [hpo] at h
      have h : (seqD N l op1 (planL l.toArray (mks l.toArray l.toArray.size) l.toArray.size (ordO l.toArray) [])).get x S (encF []) k = true := by
        revert h
        cases seqD N l op1 (planL l.toArray (mks l.toArray l.toArray.size) l.toArray.size (ordO l.toArray) []); exact fun h => h
      obtain ⟨L, S', k1, k2, k3, k4, k5⟩ := seqD_ok hop hx (by simp) hi h
      unfold planOk at hpo
      simp only [Bool.and_eq_true] at hpo
      obtain ⟨⟨⟨⟨e1, e2⟩, e3⟩, e4⟩, e5⟩ := hpo
      have hlt : ∀ i ∈ ordO l.toArray, i < l.toArray.size := fun i hi => by have := List.all_eq_true.1 e3 i hi; simpa [Nat.blt_eq] using this
      obtain ⟨q1, q2, _, q4⟩ := plan_ok rfl hlt (pairsB_ok e5) k4
      refine ⟨S', k1, k2, k3, Ch.draw hm (fun i hi e he => edgB_lt e1 hi he) (L := L) (fun i => ?_) ?_ q2 ?_ k5⟩
      · rw [q1]
        refine ⟨fun h => hlt i h, fun h => ?_⟩
        have := List.all_eq_true.1 e2 i (by simpa using h)
        simpa using this
      · rw [q1]
        exact (pairsB_ok e4).imp fun {a b} h e => by subst e; simp at h
      · refine q4.imp_of_mem fun {a b} ha hb h => ?_
        rcases h with h | ⟨h1, h2, h3⟩
        · left
          have hb2 := q2 b hb
          have hlt2 : b.i < l.toArray.size := (Array.getElem?_eq_some_iff.1 hb2).1
          exact mks_in e1 _ (Nat.le_refl _) _ hlt2 _ h
        · exact .inr (sInd_ok (q2 a ha) (q2 b hb) h1 h2 h3)
/-! ### code -/
abbrev KC := Kx → St → Bool
abbrev CC := F (X0 → St → KC → Bool)
noncomputable def kxN (kx : Kx) (a : Bool) (b : Bool) : Bool := Kx.casesOn kx a (fun _ => b) b
noncomputable def cSeq (a b : CC) : CC := F.casesOn a fun f => F.casesOn b fun g => .mk fun x S k => f x S fun kx S' => Kx.casesOn kx (g x S' k) (fun i => k (.exit i) S') (k .ret S')
noncomputable def cCond (c : O1) (a b : CC) : CC := F.casesOn c fun c => F.casesOn a fun f => F.casesOn b fun g => .mk fun x S k => c S fun v => vBool v fun t => Bool.casesOn t (g x S k) (f x S k)
noncomputable def cBlock (id : Nat) (a : CC) : CC := F.casesOn a fun f => .mk fun x S k => f x S fun kx S' => Kx.casesOn kx (k .norm S') (fun i => Bool.casesOn (Nat.beq i id) (k (.exit i) S') (k .norm S')) (k .ret S')
noncomputable def loopN (f : X0 → St → KC → Bool) (x : X0) (k : KC) (n : Nat) : St → Bool := Nat.rec (motive := fun _ => St → Bool) (fun _ => false) (fun _ ih S => f x S fun kx S' => Kx.casesOn kx (ih S') (fun i => k (.exit i) S') (k .ret S')) n
noncomputable def cLoop (n : Nat) (a : CC) : CC := F.casesOn a fun f => .mk fun x S k => loopN f x k n S
noncomputable def cReg1 (r : F (X0 → St → (St → Bool) → Bool)) : CC := F.casesOn r fun f => .mk fun x S k => f x S fun S' => k .norm S'
noncomputable def cNo : CC := .mk fun _ _ _ => false
noncomputable def cc (N : Nat) (op1 : Oper → CO) (c : Code) : CC := Code.rec (motive := fun _ => CC)
  (.mk fun _ S k => k .norm S)
  (fun _ ops draw => cReg1 (cReg N op1 ops draw))
  (fun _ _ a b => cSeq a b)
  (fun c _ _ a b => cCond (opd c) a b)
  (fun id _ a => cBlock id a)
  (fun _ a => cLoop 100000 a)
  (fun _ _ _ _ _ _ => cNo)
  (fun i => .mk fun _ S k => k (.exit i) S)
  (fun _ a => a)
  (fun _ => .mk fun _ S k => k .norm S)
  (fun _ => cNo)
  (.mk fun _ S k => k .ret S)
  (fun _ => cNo) c
theorem CodeOk.pass {c : Code} {E H : Nat → V} {kx : Kx} (h : ∀ (Q : Exit → Act → World → Prop) a w, Q kx.ex a w → c.wp P Q a w) : CodeOk P ξ N c E H kx E H := fun ρ a w hR => h _ a w ⟨rfl, ρ, .refl _ _ _, hR⟩
theorem CodeOk.seq {a b : Code} {E H E1 H1 E2 H2 : Nat → V} {kx : Kx} (h : CodeOk P ξ N a E H .norm E1 H1) (g : CodeOk P ξ N b E1 H1 kx E2 H2) : CodeOk P ξ N (.seq a b) E H kx E2 H2 := fun ρ ac w hR => by
  refine wp_seq (wp_mono (h ρ ac w hR) fun e a' w' ⟨he, ρ1, r1, r2⟩ => ?_)
  subst he
  exact wp_mono (g ρ1 a' w' r2) fun e a2 w2 ⟨he, ρ2, q1, q2⟩ => ⟨he, ρ2, r1.trans q1, q2⟩
theorem CodeOk.seq_out {a b : Code} {E H E1 H1 : Nat → V} {kx : Kx} (h : CodeOk P ξ N a E H kx E1 H1) (hk : kx ≠ .norm) : CodeOk P ξ N (.seq a b) E H kx E1 H1 := fun ρ ac w hR => by
  refine wp_seq (wp_mono (h ρ ac w hR) fun e a' w' ⟨he, q⟩ => ?_)
  subst he
  cases kx with
  | norm => exact absurd rfl hk
  | exit i => exact ⟨rfl, q⟩
  | ret => exact ⟨rfl, q⟩
theorem CodeOk.block {id : Nat} {a : Code} {E H E1 H1 : Nat → V} {kx : Kx} (h : CodeOk P ξ N a E H kx E1 H1) : CodeOk P ξ N (.block id a) E H (match kx with | .exit i => if i = id then .norm else .exit i | k => k) E1 H1 := fun ρ ac w hR => by
  refine wp_block (wp_mono (h ρ ac w hR) fun e a' w' ⟨he, q⟩ => ?_)
  subst he
  cases kx with
  | norm => exact ⟨rfl, q⟩
  | ret => exact ⟨rfl, q⟩
  | exit i =>
    show if i = id then _ else _
    by_cases hi : i = id
    · rw [if_pos hi]; exact ⟨by simp only [if_pos hi]; rfl, q⟩
    · rw [if_neg hi]; exact ⟨by simp only [if_neg hi]; rfl, q⟩
theorem CodeOk.scope {a : Code} {E H E1 H1 : Nat → V} {kx : Kx} (h : CodeOk P ξ N a E H kx E1 H1) : CodeOk P ξ N (.scope a) E H kx E1 H1 := fun ρ ac w hR => by
  refine wp_scope_straight (wp_mono (h ρ ac w hR) fun e a' w' ⟨he, q⟩ => ?_)
  subst he
  cases kx <;> exact ⟨rfl, q⟩
theorem CodeOk.cond {c : Operand} {a b : Code} {S : St} {t : Bool} {E1 H1 : Nat → V} {kx : Kx} (hc : opS (slots S) c = .bool t) (h : CodeOk P ξ N (if t then a else b) (slots S) (hp S) kx E1 H1) : CodeOk P ξ N (.cond c a b) (slots S) (hp S) kx E1 H1 := fun ρ ac w hR => by
  have h1 : Tv ρ ξ (opS (slots S) c) (ac.eval c) := opS_ok fun i _ => hR.tmps i
  rw [hc, Tv_bool] at h1
  exact wp_cond h1 (h ρ ac w hR)
/-- So many rounds. -/
def Rounds (P : Program) (ξ : Nat → Int) (N : Nat) (c : Code) (n : Nat) (E H : Nat → V) (kx : Kx) (E' H' : Nat → V) : Prop :=
  ∀ ρ a w, Rel ρ ξ E H N a w → Code.rounds P c (fun e a' w' => e = kx.ex ∧ ∃ ρ', Reach ρ w H ρ' w' H' ∧ Rel ρ' ξ E' H' N a' w') n a w
theorem rounds_mono {c : Code} {Q Q' : Exit → Act → World → Prop} (h : ∀ e a w, Q e a w → Q' e a w) : ∀ {n : Nat} {a : Act} {w : World}, Code.rounds P c Q n a w → Code.rounds P c Q' n a w
  | 0, _, _, hr => hr
  | n + 1, a, w, hr => by
    rw [rounds_succ] at hr ⊢
    refine wp_mono hr fun e a' w' hq => ?_
    cases e with
    | normal => exact rounds_mono h hq
    | _ => exact h _ _ _ hq
theorem Rounds.last {c : Code} {E H E1 H1 : Nat → V} {kx : Kx} (h : CodeOk P ξ N c E H kx E1 H1) (hk : kx ≠ .norm) : Rounds P ξ N c 1 E H kx E1 H1 := fun ρ a w hR => by
  rw [rounds_succ]
  refine wp_mono (h ρ a w hR) fun e a' w' ⟨he, q⟩ => ?_
  subst he
  cases kx with
  | norm => exact absurd rfl hk
  | exit i => exact ⟨rfl, q⟩
  | ret => exact ⟨rfl, q⟩
theorem Rounds.more {c : Code} {n : Nat} {E H E1 H1 E2 H2 : Nat → V} {kx : Kx} (h : CodeOk P ξ N c E H .norm E1 H1) (g : Rounds P ξ N c n E1 H1 kx E2 H2) : Rounds P ξ N c (n + 1) E H kx E2 H2 := fun ρ a w hR => by
  rw [rounds_succ]
  refine wp_mono (h ρ a w hR) fun e a' w' ⟨he, ρ1, r1, r2⟩ => ?_
  subst he
  exact rounds_mono (fun e a2 w2 ⟨he, ρ2, q1, q2⟩ => ⟨he, ρ2, r1.trans q1, q2⟩) (g ρ1 a' w' r2)
theorem Rounds.loop {c : Code} {n : Nat} {E H E1 H1 : Nat → V} {kx : Kx} (h : Rounds P ξ N c n E H kx E1 H1) : CodeOk P ξ N (.loop c) E H kx E1 H1 := fun ρ a w hR => wp_loop_rounds n (h ρ a w hR)
/-- What code is run as, it does. -/
def CCok (P : Program) (ξ : Nat → Int) (N : Nat) (c : Code) (f : CC) : Prop := ∀ x, XOk P ξ x → ∀ S k, InvX ξ S → f.get x S k = true → ∃ kx S', k kx S' = true ∧ CodeS P ξ N c S kx S'
theorem CodeS.refl {c : Code} {S : St} {kx : Kx} (hi : InvX ξ S) (h : ∀ (Q : Exit → Act → World → Prop) a w, Q kx.ex a w → c.wp P Q a w) : CodeS P ξ N c S kx S := ⟨hi, fun _ h => h, .pass h⟩
theorem cSeq_ok {a b : Code} {f g : CC} (hf : CCok P ξ N a f) (hg : CCok P ξ N b g) : CCok P ξ N (.seq a b) (cSeq f g) := fun x hx S k hi h => by
  have h : f.get x S (fun kx S' => Kx.casesOn kx (g.get x S' k) (fun i => k (.exit i) S') (k .ret S')) = true := by cases f; cases g; exact h
  obtain ⟨kx, S1, h1, h2⟩ := hf x hx S _ hi h
  cases kx with
  | norm =>
    obtain ⟨kx, S2, h3, h4⟩ := hg x hx S1 _ h2.i h1
    exact ⟨kx, S2, h3, h4.i, fun i hi => h4.b i (h2.b i hi), h2.c.seq h4.c⟩
  | exit i => exact ⟨_, S1, h1, h2.i, h2.b, h2.c.seq_out (by intro e; cases e)⟩
  | ret => exact ⟨_, S1, h1, h2.i, h2.b, h2.c.seq_out (by intro e; cases e)⟩
theorem cCond_ok {c : Operand} {a b : Code} {f g : CC} (hf : CCok P ξ N a f) (hg : CCok P ξ N b g) : CCok P ξ N (.cond c a b) (cCond (opd c) f g) := fun x hx S k hi h => by
  have h : (opd c).get S (fun v => vBool v fun t => Bool.casesOn t (g.get x S k) (f.get x S k)) = true := by
    revert h
    unfold cCond
    cases opd c; cases f; cases g; exact id
  obtain ⟨t, h1, h2⟩ := vBool_ok (opd_ok h)
  cases t with
  | true =>
    obtain ⟨kx, S1, h3, h4⟩ := hf x hx S _ hi h2
    exact ⟨kx, S1, h3, h4.i, h4.b, .cond h1 (by rw [if_pos rfl]; exact h4.c)⟩
  | false =>
    obtain ⟨kx, S1, h3, h4⟩ := hg x hx S _ hi h2
    exact ⟨kx, S1, h3, h4.i, h4.b, .cond h1 (by rw [if_neg (by simp)]; exact h4.c)⟩
theorem cBlock_ok {id : Nat} {a : Code} {f : CC} (hf : CCok P ξ N a f) : CCok P ξ N (.block id a) (cBlock id f) := fun x hx S k hi h => by
  have h : f.get x S (fun kx S' => Kx.casesOn kx (k .norm S') (fun i => Bool.casesOn (Nat.beq i id) (k (.exit i) S') (k .norm S')) (k .ret S')) = true := by cases f; exact h
  obtain ⟨kx, S1, h1, h2⟩ := hf x hx S _ hi h
  cases kx with
  | norm => exact ⟨_, S1, h1, h2.i, h2.b, h2.c.block⟩
  | ret => exact ⟨_, S1, h1, h2.i, h2.b, h2.c.block⟩
  | exit i =>
    have hb := h2.c.block (id := id)
    have h1 : (Bool.casesOn (Nat.beq i id) (k (.exit i) S1) (k .norm S1) : Bool) = true := h1
    cases hq : Nat.beq i id with
    | true =>
      rw [hq] at h1
      simp only [if_pos (Nat.eq_of_beq_eq_true hq)] at hb
      exact ⟨_, S1, h1, h2.i, h2.b, hb⟩
    | false =>
      rw [hq] at h1
      simp only [if_neg (fun e : i = id => by subst e; simp at hq)] at hb
      exact ⟨_, S1, h1, h2.i, h2.b, hb⟩
theorem cLoop_ok {n : Nat} {a : Code} {f : CC} (hf : CCok P ξ N a f) : CCok P ξ N (.loop a) (cLoop n f) := fun x hx S k hi h => by
  have h : loopN f.get x k n S = true := by cases f; exact h
  have key : ∀ (n : Nat) (S : St), InvX ξ S → loopN f.get x k n S = true → ∃ kx S' m, k kx S' = true ∧ InvX ξ S' ∧ Born (hp S) (hp S') ∧ Rounds P ξ N a m (slots S) (hp S) kx (slots S') (hp S') := by
    intro n
    induction n with
    | zero => intro S _ h; cases h
    | succ n ih =>
      intro S hi h
      have h : f.get x S (fun kx S' => Kx.casesOn kx (loopN f.get x k n S') (fun i => k (.exit i) S') (k .ret S')) = true := h
      obtain ⟨kx, S1, h1, h2⟩ := hf x hx S _ hi h
      cases kx with
      | norm =>
        obtain ⟨kx, S2, m, h3, h4, h5, h6⟩ := ih S1 h2.i h1
        exact ⟨kx, S2, m + 1, h3, h4, fun i hi => h5 i (h2.b i hi), .more h2.c h6⟩
      | exit i => exact ⟨_, S1, 1, h1, h2.i, h2.b, .last h2.c (by intro e; cases e)⟩
      | ret => exact ⟨_, S1, 1, h1, h2.i, h2.b, .last h2.c (by intro e; cases e)⟩
  obtain ⟨kx, S', m, h1, h2, h3, h4⟩ := key _ S hi h
  exact ⟨kx, S', h1, h2, h3, h4.loop⟩
theorem cNo_ok {c : Code} : CCok P ξ N c cNo := fun x hx S k hi h => by cases h
theorem cc_ok {op1 : Oper → CO} (hm : P.follows .mixedOrders = true) (hop : ∀ o, COok P ξ o (op1 o)) : ∀ c : Code, CCok P ξ N c (cc N op1 c)
  | .skip => fun x hx S k hi h => ⟨_, S, h, .refl hi fun Q a w hq => wp_skip hq⟩
  | .region id ops draw => fun x hx S k hi h => by
    have h : (cReg N op1 ops draw).get x S (fun S' => k .norm S') = true := by
      revert h
      show (cReg1 (cReg N op1 ops draw)).get x S k = true → _
      unfold cReg1
      cases cReg N op1 ops draw; exact fun h => h
    obtain ⟨S', h1, h2⟩ := cReg_ok hm hop hx hi h
    exact ⟨_, S', h1, h2⟩
  | .seq a b => cSeq_ok (cc_ok hm hop a) (cc_ok hm hop b)
  | .cond c a b => cCond_ok (cc_ok hm hop a) (cc_ok hm hop b)
  | .block id a => cBlock_ok (cc_ok hm hop a)
  | .loop a => cLoop_ok (cc_ok hm hop a)
  | .rangeFunc .. => cNo_ok
  | .exit i => fun x hx S k hi h => ⟨_, S, h, .refl hi fun Q a w hq => wp_exit hq⟩
  | .scope a => fun x hx S k hi h => by
    obtain ⟨kx, S1, h1, h2⟩ := cc_ok hm hop a x hx S k hi h
    exact ⟨kx, S1, h1, h2.i, h2.b, h2.c.scope⟩
  | .label l => fun x hx S k hi h => ⟨_, S, h, .refl hi fun Q a w hq => wp_label hq⟩
  | .goto _ => cNo_ok
  | .ret => fun x hx S k hi h => ⟨_, S, h, .refl hi fun Q a w hq => wp_ret hq⟩
  | .refuse _ => cNo_ok
end
end Go.Proofs.YtnkkfmnpkgjabaaGreat.Y

/- The runner: functions, calls. -/
namespace Go.Proofs.YtnkkfmnpkgjabaaGreat.Y
open Go.RowKit
set_option linter.unusedVariables false
set_option linter.unusedSimpArgs false
/-! ### arguments -/
noncomputable def isNl (v : V) (k : Bool) : Bool := V.casesOn v k (fun _ _ => false) false (fun _ _ => false) (fun _ => false) (fun _ _ => false) (fun _ => false) (fun _ _ => false) (fun _ _ _ _ _ _ => false) (fun _ _ _ => false) (fun _ _ => false) (fun _ => false) (fun _ => false) (fun _ => false) (fun _ => false)
noncomputable def vCs (v : V) (k : V → V → Bool) : Bool := V.casesOn v false k false (fun _ _ => false) (fun _ => false) (fun _ _ => false) (fun _ => false) (fun _ _ => false) (fun _ _ _ _ _ _ => false) (fun _ _ _ => false) (fun _ _ => false) (fun _ => false) (fun _ => false) (fun _ => false) (fun _ => false)
theorem isNl_ok {v : V} {k : Bool} (h : isNl v k = true) : v = .nl ∧ k = true := by cases v <;> first | exact ⟨rfl, h⟩ | cases h
theorem vCs_ok {v : V} {k : V → V → Bool} (h : vCs v k = true) : ∃ a r, v = .cs a r ∧ k a r = true := by cases v <;> first | exact ⟨_, _, rfl, h⟩ | cases h
noncomputable def bindN (n : Nat) : Nat → F (V → Tr → (Tr → Bool) → Bool) := Nat.rec (motive := fun _ => Nat → F (V → Tr → (Tr → Bool) → Bool)) (fun _ => .mk fun l t k => isNl l (k t)) (fun _ ih i => F.casesOn (Tr.cput (pT i)) fun p => F.casesOn (ih (Nat.succ i)) fun g => .mk fun l t k => vCs l fun a r => p a t fun t' => g r t' k) n
theorem bindN_ok : ∀ {n i : Nat} {l : V} {t : Tr} {k : Tr → Bool}, (bindN n i).get l t k = true → i + n ≤ 512 → ∃ t', k t' = true ∧ (toL l).length = n ∧ ∀ j, j < 512 → Tr.look (pT j) t' = if i ≤ j ∧ j < i + n then ((toL l)[j - i]?).getD .undef else Tr.look (pT j) t
  | 0, i, l, t, k, h, _ => by
    obtain ⟨rfl, h2⟩ := isNl_ok h
    exact ⟨t, h2, rfl, fun j hj => by rw [if_neg (by omega)]⟩
  | n + 1, i, l, t, k, h, hn => by
    have h : vCs l (fun a r => (Tr.cput (pT i)).get a t fun t' => (bindN n (i + 1)).get r t' k) = true := by
      revert h
      show (F.casesOn (Tr.cput (pT i)) fun p => F.casesOn (bindN n (i + 1)) fun g => F.mk fun l t k => vCs l fun a r => p a t fun t' => g r t' k : F (V → Tr → (Tr → Bool) → Bool)).get l t k = true → _
      cases Tr.cput (pT i); cases bindN n (i + 1); exact fun h => h
    obtain ⟨a, r, rfl, h0⟩ := vCs_ok h
    rw [Tr.cput_eq] at h0
    obtain ⟨t', h1, h2, h3⟩ := bindN_ok (n := n) (i := i + 1) h0 (by omega)
    refine ⟨t', h1, by simp [toL, h2], fun j hj => ?_⟩
    rw [h3 j hj]
    by_cases hji : j = i
    · subst hji
      rw [if_neg (by omega), if_pos (by omega), Tr.look_set _ _ _ _ rfl, if_pos rfl, Nat.sub_self]; rfl
    · have hset : Tr.look (pT j) (Tr.set (pT i) a t) = Tr.look (pT j) t := by
        rw [Tr.look_set _ _ _ _ (by rw [show pT i = pathN 3 i from rfl, pathN_len]; exact (pathN_len 3 j).symm), if_neg (c := pT j = pT i) (fun h2 => hji (pathN_inj 3 hj (show i < 8 ^ 3 by omega) h2))]
      by_cases hc : i + 1 ≤ j ∧ j < i + 1 + n
      · rw [if_pos hc, if_pos (by omega), show j - i = (j - (i + 1)) + 1 by omega]; rfl
      · rw [if_neg hc, if_neg (by omega), hset]
section
variable {P : Program} {ξ : Nat → Int} {N : Nat} {S : St}
/-! ### results -/
noncomputable def r1 (P : Program) : ResultVar → O1
  | .tmp t => opd (.tmp t)
  | .cell a ty => match P.underlying ty, P.info? ty with
    | some d, some i => F.casesOn (opd (.tmp a)) fun g => .mk fun S k => g S fun p => vPtr p fun id off => leN (Nat.succ id) 32768 (hget id S fun b => vBlk b fun l => getP d.isRow i.size l off k)
    | _, _ => .mk fun _ _ => false
def rRun (tmps : Array Value) : ResultVar → Sem Value
  | .tmp t => pure (tmps.getD t undef)
  | .cell a ty => do loadVar ty (← asAddr (tmps.getD a undef))
theorem r1_ok {rv : ResultVar} {k : K1} (h : (r1 P rv).get S k = true) : ∃ v, k v = true ∧ ∀ ρ a w, Rel ρ ξ (slots S) (hp S) N a w → ∃ u, (rRun a.tmps rv).run P w = .ok u w ∧ Tv ρ ξ v u := by
  cases rv with
  | tmp t =>
    have h : (opd (.tmp t)).get S k = true := h
    exact ⟨opS (slots S) (.tmp t), opd_ok h, fun ρ a w hR => ⟨_, rfl, hR.tmps t⟩⟩
  | cell a ty =>
    unfold r1 at h
    simp only at h
    split at h
    case h_2 => cases h
    rename_i d i hd hi
    have h : (opd (.tmp a)).get S (fun p => vPtr p fun id off => leN (Nat.succ id) 32768 (hget id S fun b => vBlk b fun l => getP d.isRow i.size l off k)) = true := by
      revert h; cases opd (.tmp a); exact fun h => h
    obtain ⟨id, off, h1, h2⟩ := vPtr_ok (opd_ok h)
    obtain ⟨hid, h2⟩ := leN_ok h2
    have hid : id < 32768 := hid
    rw [hget_eq] at h2
    obtain ⟨l, h3, h4⟩ := vBlk_ok h2
    have hread : ∀ v, (∀ (us : List Value) ρ, TvL ρ ξ l us → (∀ c ∈ us, c.oneCell' = true) → ∃ u, Tv ρ ξ v u ∧ ∀ (w : World) g, (∀ j q, us[j]? = some q → w.cell? ⟨g, j, none⟩ = some q) → (loadVar ty ⟨g, off, none⟩).run P w = .ok u w) →
        k v = true → ∃ v, k v = true ∧ ∀ ρ ac w, Rel ρ ξ (slots S) (hp S) N ac w → ∃ u, (rRun ac.tmps (.cell a ty)).run P w = .ok u w ∧ Tv ρ ξ v u := fun v hv hk => by
      refine ⟨v, hk, fun ρ ac w hR => ?_⟩
      have e := hR.tmps a
      have h1 : slots S a = .ptr id off := h1
      rw [h1] at e
      obtain ⟨g, c, arr, t, fz, us, rest, _, e2, hw, _, ha, hl, hc, _, _⟩ := hR.ok.cells e (l := l) (by rw [hp_of hid]; exact h3)
      obtain ⟨u, hu, hrun⟩ := hv us ρ hl hc
      refine ⟨u, ?_, hu⟩
      have := hrun w g fun j q hj => cell_us hw ha hj
      show (do loadVar ty (← asAddr (ac.tmps.getD a undef)) : Sem Value).run P w = _
      rw [e2]
      simp only [asAddr, Sem.run_bind, Sem.run_pure, Result.andThen_ok, this]
    cases hrow : d.isRow with
    | false =>
      rw [hrow] at h4
      obtain ⟨v, h5, h6⟩ := vnth_ok h4
      refine hread v (fun us ρ hl hc => ?_) h6
      obtain ⟨u, h7, h8⟩ := TvL_get hl h5
      refine ⟨u, h8, fun w g hg => ?_⟩
      have hc0 := hg off u h7
      simp only [loadVar, Sem.run_bind, isAgg, run_underlying hd, Result.andThen_ok]
      cases d <;> first | (simp [Sem.run_bind, load, Sem.run, hc0]; done) | cases hrow
    | true =>
      rw [hrow] at h4
      obtain ⟨h5, h6⟩ := vdrop_ok h4
      obtain ⟨h7, h8⟩ := vtake_ok h6
      refine hread _ (fun us ρ hl hc => ?_) h8
      refine ⟨.agg ((us.drop off).take i.size).toArray, ⟨_, rfl, TvL_take (TvL_drop hl), fun c h => hc c (List.mem_of_mem_drop (List.mem_of_mem_take h))⟩, fun w g hg => ?_⟩
      refine run_loadVar_mid (P := P) w g off ty _ d (fun j q hj => ?_) hd hrow ?_
      · have hlt : j < i.size := by have := (List.getElem?_eq_some_iff.1 hj).1; simp at this; omega
        rw [List.getElem?_take_of_lt hlt, List.getElem?_drop] at hj
        exact hg (off + j) q hj
      · rw [hi]
        rw [toL_drop, List.length_drop] at h7
        have := TvL_len hl
        simp only [List.length_take, List.length_drop, Option.map_some, Option.some.injEq]
        omega
noncomputable def resL (P : Program) (l : List ResultVar) : O1 := List.rec (motive := fun _ => O1) (.mk fun _ k => k .nl) (fun x _ ih => F.casesOn (r1 P x) fun f => F.casesOn ih fun g => .mk fun S k => f S fun v => g S fun r => k (.cs v r)) l
theorem resL_ok : ∀ {l : List ResultVar} {k : K1}, (resL P l).get S k = true → ∃ v, k v = true ∧ ∀ ρ a w, Rel ρ ξ (slots S) (hp S) N a w → ∃ us, (l.mapM (rRun a.tmps)).run P w = .ok us w ∧ TvL ρ ξ v us ∧ us.length = l.length
  | [], k, h => ⟨.nl, h, fun ρ a w hR => ⟨[], rfl, rfl, rfl⟩⟩
  | x :: l, k, h => by
    have h : (r1 P x).get S (fun v => (resL P l).get S fun r => k (.cs v r)) = true := by
      revert h
      show (F.casesOn (r1 P x) fun f => F.casesOn (resL P l) fun g => F.mk fun S k => f S fun v => g S fun r => k (.cs v r) : O1).get S k = true → _
      cases r1 P x; cases resL P l; exact fun h => h
    obtain ⟨v, h1, h2⟩ := r1_ok (ξ := ξ) (N := N) h
    obtain ⟨r, h3, h4⟩ := resL_ok (l := l) h1
    refine ⟨_, h3, fun ρ a w hR => ?_⟩
    obtain ⟨u, k1, k2⟩ := h2 ρ a w hR
    obtain ⟨us, k3, k4, k5⟩ := h4 ρ a w hR
    refine ⟨u :: us, ?_, ⟨u, us, rfl, k2, k4⟩, by rw [List.length_cons, k5]; rfl⟩
    rw [List.mapM_cons]
    simp only [Sem.run_bind, k1, k3, Result.andThen_ok, Sem.run_pure]
noncomputable def resV (P : Program) (l : List ResultVar) : O1 := match l with
  | [x] => r1 P x
  | l => F.casesOn (resL P l) fun f => .mk fun S k => f S fun v => k (.tup v)
theorem resV_ok (ξ : Nat → Int) (N : Nat) {fn : Func} {k : K1} (h : (resV P fn.results.toList).get S k = true) : ∃ v, k v = true ∧ ∀ ρ a w, Rel ρ ξ (slots S) (hp S) N a w → ∃ u, (results fn a.tmps).run P w = .ok u w ∧ Tv ρ ξ v u := by
  have hre : ∀ tmps, results fn tmps = (do let vs ← fn.results.mapM (rRun tmps); pure (if h : vs.size = 1 then vs[0] else .tuple vs)) := fun tmps => rfl
  obtain ⟨l, hl⟩ : ∃ l, fn.results = l.toArray := ⟨fn.results.toList, by simp⟩
  have hl' : fn.results.toList = l := by rw [hl]
  rw [hl'] at h
  have many : ∀ k, l.length ≠ 1 → (resL P l).get S k = true → ∃ v, k v = true ∧ ∀ ρ a w, Rel ρ ξ (slots S) (hp S) N a w → ∃ u, (results fn a.tmps).run P w = .ok u w ∧ Tv ρ ξ (.tup v) u := fun k hn h => by
    obtain ⟨v, h1, h2⟩ := resL_ok (ξ := ξ) (N := N) h
    refine ⟨v, h1, fun ρ a w hR => ?_⟩
    obtain ⟨us, k1, k2, hlen⟩ := h2 ρ a w hR
    refine ⟨.tuple us.toArray, ?_, us, rfl, k2⟩
    rw [hre, hl]
    simp only [List.mapM_toArray, Sem.run_bind, Sem.run_map, k1, Result.andThen_ok, Sem.run_pure]
    rw [dif_neg (by simp; omega)]
  match l, h, many, hl with
  | [x], h, _, hl =>
    obtain ⟨v, h1, h2⟩ := r1_ok (ξ := ξ) (N := N) h
    refine ⟨v, h1, fun ρ a w hR => ?_⟩
    obtain ⟨u, k1, k2⟩ := h2 ρ a w hR
    refine ⟨u, ?_, k2⟩
    rw [hre, hl]
    simp only [List.mapM_toArray, List.mapM_cons, List.mapM_nil, Sem.run_bind, Sem.run_map, k1, Result.andThen_ok, Sem.run_pure]
    simp
  | [], h, many, hl =>
    obtain ⟨v, h1, h2⟩ := many (fun v => k (.tup v)) (by simp) (by revert h; show (F.casesOn (resL P []) fun f => F.mk fun S k => f S fun v => k (.tup v) : O1).get S k = true → _; cases resL P []; exact fun h => h)
    exact ⟨_, h1, h2⟩
  | x :: y :: l, h, many, hl =>
    obtain ⟨v, h1, h2⟩ := many (fun v => k (.tup v)) (by simp) (by revert h; show (F.casesOn (resL P (x :: y :: l)) fun f => F.mk fun S k => f S fun v => k (.tup v) : O1).get S k = true → _; cases resL P (x :: y :: l); exact fun h => h)
    exact ⟨_, h1, h2⟩
end
end Go.Proofs.YtnkkfmnpkgjabaaGreat.Y

/- The runner: functions, calls: they do as they are run. -/
namespace Go.Proofs.YtnkkfmnpkgjabaaGreat.Y
open Go.RowKit
set_option linter.unusedVariables false
set_option linter.unusedSimpArgs false
section
variable {P : Program} {ξ : Nat → Int} {N : Nat} {S : St}
abbrev FF := F (X0 → V → St → KV → Bool)
noncomputable def noF : FF := .mk fun _ _ _ _ => false
noncomputable def fin (r : St → K1 → Bool) (e : Tr) (k : KV) (S1 : St) : Bool := r S1 fun v => St.casesOn S1 fun _ h1 nx1 tk1 => k v ⟨e, h1, nx1, tk1⟩
noncomputable def cFn (P : Program) (op1 : Oper → CO) (K : FuncId) : FF := match P.funcs[K]? with
  | none => noF
  | some fn => Bool.casesOn (fn.name == "runtime.NumGoroutine") (match fn.body with
    | none => noF
    | some c => Bool.casesOn (Nat.ble (fn.params.size + fn.nfree) fn.ntmps) noF (Bool.casesOn (Nat.ble (fn.params.size + fn.nfree) 512) noF (F.casesOn (bindN (fn.params.size + fn.nfree) 0) fun b => F.casesOn (cc fn.ntmps op1 c) fun f => F.casesOn (resV P fn.results.toList) fun r =>
      .mk fun x args S k => St.casesOn S fun e h nx tk => b args .E fun e0 => f x ⟨e0, h, nx, tk⟩ fun kx S1 => Kx.casesOn kx (fin r e k S1) (fun _ => false) (fin r e k S1)))) noF
theorem cFn_ok {op1 : Oper → CO} (hm : P.follows .mixedOrders = true) (hop : ∀ o, COok P ξ o (op1 o)) {x : X0} (hx : XOk P ξ x) (K : FuncId) : FunOk P ξ K ((cFn P op1 K).get x) := fun args S k hi h => by
  unfold cFn at h
  split at h
  · cases h
  rename_i fn hfn
  cases hname : (fn.name == "runtime.NumGoroutine") with
  | true => rw [hname] at h; cases h
  | false =>
    rw [hname] at h
    cases hbody : fn.body with
    | none => rw [hbody] at h; cases h
    | some c =>
      rw [hbody] at h
      cases hn1 : Nat.ble (fn.params.size + fn.nfree) fn.ntmps with
      | false => rw [hn1] at h; cases h
      | true =>
        cases hn2 : Nat.ble (fn.params.size + fn.nfree) 512 with
        | false => rw [hn1, hn2] at h; cases h
        | true =>
          rw [hn1, hn2] at h
          have hn1 := Nat.le_of_ble_eq_true hn1
          have hn2 := Nat.le_of_ble_eq_true hn2
          have h : (bindN (fn.params.size + fn.nfree) 0).get args .E (fun e0 => (cc fn.ntmps op1 c).get x ⟨e0, S.h, S.nx, S.tk⟩ fun kx S1 => Kx.casesOn kx (fin (resV P fn.results.toList).get S.e k S1) (fun _ => false) (fin (resV P fn.results.toList).get S.e k S1)) = true := by
            revert h
            show (F.casesOn (bindN (fn.params.size + fn.nfree) 0) fun b => F.casesOn (cc fn.ntmps op1 c) fun f => F.casesOn (resV P fn.results.toList) fun r =>
              F.mk fun x args S k => St.casesOn S fun e h nx tk => b args .E fun e0 => f x ⟨e0, h, nx, tk⟩ fun kx S1 => Kx.casesOn kx (fin r e k S1) (fun _ => false) (fin r e k S1) : FF).get x args S k = true → _
            cases S
            cases bindN (fn.params.size + fn.nfree) 0; cases cc fn.ntmps op1 c; cases resV P fn.results.toList; exact fun h => h
          obtain ⟨e0, h1, hlen, hsl⟩ := bindN_ok h (by omega)
          obtain ⟨i1, i2⟩ := inv_same (ξ := ξ) (S := S) (S' := ⟨e0, S.h, S.nx, S.tk⟩) rfl rfl rfl
          obtain ⟨kx, S1, h2, hcs⟩ := cc_ok (N := fn.ntmps) hm hop c x hx _ _ (i2 hi) h1
          have hend : kx = .norm ∨ kx = .ret := by cases kx <;> first | exact .inl rfl | exact .inr rfl | cases h2
          have h3 : fin (resV P fn.results.toList).get S.e k S1 = true := by cases kx <;> first | exact h2 | cases h2
          obtain ⟨v, h4, hres⟩ := resV_ok ξ fn.ntmps h3
          obtain ⟨j1, j2⟩ := inv_same (ξ := ξ) (S := S1) (S' := ⟨S.e, S1.h, S1.nx, S1.tk⟩) rfl rfl rfl
          have h4 : k v ⟨S.e, S1.h, S1.nx, S1.tk⟩ = true := by cases S1; exact h4
          refine ⟨v, _, h4, rfl, j2 hcs.i, by rw [j1, ← i1]; exact hcs.b, X.FI.of hfn hname (by rw [hbody]; rfl), fun ρ w us hok hus => ?_⟩
          have hul := TvL_len hus
          refine calls_of_wp hfn hbody ?_
          have hR : Rel ρ ξ (slots ⟨e0, S.h, S.nx, S.tk⟩) (hp ⟨e0, S.h, S.nx, S.tk⟩) fn.ntmps { tmps := us.toArray ++ Array.replicate (fn.ntmps - us.toArray.size) undef, defers := [] } w := by
            refine ⟨rfl, by simp; omega, fun i => ?_, by rw [i1]; exact hok⟩
            show Tv ρ ξ (if i < 512 then Tr.look (pT i) e0 else .undef) _
            by_cases hi2 : i < 512
            · rw [if_pos hi2, hsl i hi2]
              by_cases hi3 : 0 ≤ i ∧ i < 0 + (fn.params.size + fn.nfree)
              · rw [if_pos hi3, Nat.sub_zero]
                have hlt : i < (toL args).length := by omega
                rw [List.getElem?_eq_getElem hlt]
                obtain ⟨u, k1, k2⟩ := TvL_get hus (List.getElem?_eq_getElem hlt)
                have : (us.toArray ++ Array.replicate (fn.ntmps - us.toArray.size) undef).getD i undef = u := by
                  have hlt2 : i < us.toArray.size := by simp; omega
                  simp only [Array.getD_eq_getD_getElem?, Array.getElem?_append_left hlt2]
                  simp [k1]
                rw [this]; exact k2
              · rw [if_neg hi3, Tr.look_E]; trivial
            · rw [if_neg hi2]; trivial
          refine wp_mono (hcs.c ρ _ w hR) fun e a' w' ⟨he, ρ', r1, r2⟩ => ?_
          subst he
          obtain ⟨u, q1, q2⟩ := hres ρ' a' w' r2
          have hpost : a'.defers = [] ∧ ∃ v_1, (results fn a'.tmps).run P w' = .ok v_1 w' ∧ ∃ u, Ending.returned v_1 = .returned u ∧ ∃ ρ', Reach ρ w (hp S) ρ' w' (hp ⟨S.e, S1.h, S1.nx, S1.tk⟩) ∧ Ok ρ' ξ (hp ⟨S.e, S1.h, S1.nx, S1.tk⟩) w' ∧ Tv ρ' ξ v u :=
            ⟨r2.defers, u, q1, u, rfl, ρ', by rw [j1, ← i1]; exact r1, by rw [j1]; exact r2.ok, q2⟩
          rcases hend with rfl | rfl <;> exact hpost
/-! ### all functions, so many calls deep -/
noncomputable def fnT (P : Program) (op1 : Oper → CO) (ov : FuncId → Option FF) (K : FuncId) : FF := match ov K with
  | some f => f
  | none => cFn P op1 K
noncomputable def callF (P : Program) (op1 : Oper → CO) (ov : FuncId → Option FF) (n : Nat) : X0 := Nat.rec (motive := fun _ => X0) (fun _ _ _ _ => false) (fun _ ih K args S k => F.casesOn (fnT P op1 ov K) fun f => f ih args S k) n
def OvOk (P : Program) (ξ : Nat → Int) (ov : FuncId → Option FF) : Prop := ∀ K f, ov K = some f → ∀ x, XOk P ξ x → FunOk P ξ K (f.get x)
theorem callF_ok {op1 : Oper → CO} {ov : FuncId → Option FF} (hm : P.follows .mixedOrders = true) (hop : ∀ o, COok P ξ o (op1 o)) (hov : OvOk P ξ ov) : ∀ n, XOk P ξ (callF P op1 ov n)
  | 0 => fun K args S k hi h => by cases h
  | n + 1 => fun K args S k hi h => by
    have h : (fnT P op1 ov K).get (callF P op1 ov n) args S k = true := by
      revert h
      show (F.casesOn (fnT P op1 ov K) fun f => f (callF P op1 ov n) args S k : Bool) = true → _
      cases fnT P op1 ov K; exact fun h => h
    unfold fnT at h
    split at h
    · rename_i f hf
      exact hov K f hf _ (callF_ok hm hop hov n) args S k hi h
    · exact cFn_ok hm hop (callF_ok hm hop hov n) K args S k hi h
/-! ### the operation 'call' -/
variable {o : Oper} {x z y : Operand}
noncomputable def oCall (g al : St → K1 → Bool) (x : X0) (S : St) (k : Kt) : Bool := g S fun v => vFn v fun K first caps => al S fun l => vcat l caps fun l2 => vcat first l2 fun q => x K q S fun r S' => k .any r S'
theorem oCall_ok {args : Array Operand} {tys : Array TypeId} (ho : o.op = .call { callee := .value y, args, argTypes := tys }) {x : X0} (hx : XOk P ξ x) : SoundO P ξ o (oCall (opd y).get (opL args.toList).get x) := fun S k hi h => by
  have g1 := opd_ok h
  obtain ⟨K, first, caps, h1, h2⟩ := vFn_ok g1
  have h3 := opL_ok h2
  rw [vcat_eq, vcat_eq] at h3
  obtain ⟨v, S', k1, k2, k3, k4, k5, k6⟩ := hx K _ S _ hi h3
  refine ⟨.any, v, S', k1, k2, k3, ?_⟩
  have key : ∀ ρ a w, Ok ρ ξ (hp S) w → Reads ρ ξ (slots S) a o → ∃ us, (execOp a.eval o).run P w = .ok (.enter K us) w ∧ Calls P K us w fun e w' => ∃ u, e = .returned u ∧ ∃ ρ', Reach ρ w (hp S) ρ' w' (hp S') ∧ Ok ρ' ξ (hp S') w' ∧ Tv ρ' ξ v u := fun ρ a w hok hr => by
    have e1 := hr.op (x := y) (by simp [ho, Op.operands, Call.operands])
    rw [h1] at e1
    obtain ⟨us1, us2, e2, t1, t2⟩ := e1
    have t3 : TvL ρ ξ (ofL (args.toList.map (opS (slots S)))) (args.toList.map a.eval) := opL_tv hr fun q hq => by
      simp only [ho, Op.operands, Call.operands]
      exact Array.mem_append_right _ (by simpa using hq)
    have hc := k6 ρ w _ hok (TvL_cat t1 (TvL_cat t3 t2))
    refine ⟨us1.toArray ++ args.map a.eval ++ us2.toArray, ?_, ?_⟩
    · simp only [execOp, ho, resolve, e2, Deferred.ofValue, invoke, Sem.run_bind, Sem.run_pure, Result.andThen_ok, k5.run]
    · have : us1.toArray ++ args.map a.eval ++ us2.toArray = (us1 ++ (args.toList.map a.eval ++ us2)).toArray := by
        apply Array.ext'; simp
      rw [this]; exact hc
  refine ⟨k4, fun ρ a w hok hr i hi2 hn => ?_, fun ρ a w hok hr => ?_⟩
  · obtain ⟨us, _, hc⟩ := key ρ a w hok hr
    obtain ⟨e, w', fr, ⟨u, _, ρ', r1, _⟩, _⟩ := hc []
    exact r1.stay i hi2 hn
  · obtain ⟨us, hrun, hc⟩ := key ρ a w hok hr
    intro Kk Q hK
    unfold Oper.wp
    rw [hrun, Oper.upon_enter]
    refine hc.mono fun e w' ⟨u, he, ρ', r1, r2, r3⟩ => ?_
    subst he
    exact hK u w' ⟨ρ', r1.ev, r2, r3⟩
end
end Go.Proofs.YtnkkfmnpkgjabaaGreat.Y

/- The runner: rows that are made, cleared; a block's cells turned. -/
namespace Go.Proofs.YtnkkfmnpkgjabaaGreat.Y
open Go.RowKit
set_option linter.unusedVariables false
set_option linter.unusedSimpArgs false
/-! ### so many times -/
def repS (zl : V) : Nat → V
  | 0 => .nl
  | n + 1 => catS zl (repS zl n)
noncomputable def vrep (zl : V) (n : Nat) : K1 → Bool := Nat.rec (motive := fun _ => K1 → Bool) (fun k => k .nl) (fun _ ih k => ih fun r => vcat zl r k) n
theorem vrep_eq (zl : V) : ∀ (n : Nat) (k : K1), vrep zl n k = k (repS zl n)
  | 0, k => rfl
  | n + 1, k => by
    show vrep zl n (fun r => vcat zl r k) = _
    rw [vrep_eq zl n, vcat_eq]; rfl
theorem TvL_rep {ρ : Rho} {ξ : Nat → Int} {zl : V} {us : List Value} (h : TvL ρ ξ zl us) : ∀ n, TvL ρ ξ (repS zl n) (List.replicate n us).flatten
  | 0 => rfl
  | n + 1 => by
    rw [List.replicate_succ, List.flatten_cons]
    exact TvL_cat h (TvL_rep h n)
theorem flat_rep {α : Type} (cs : List α) : ∀ (n q : Nat), 0 < cs.length → q < n * cs.length → (List.replicate n cs).flatten[q]? = cs[q % cs.length]?
  | 0, q, _, h => by omega
  | n + 1, q, hp, h => by
    rw [List.replicate_succ, List.flatten_cons]
    by_cases hq : q < cs.length
    · rw [List.getElem?_append_left hq, Nat.mod_eq_of_lt hq]
    · rw [List.getElem?_append_right (by omega), flat_rep cs n (q - cs.length) hp (by rw [Nat.succ_mul] at h; omega)]
      congr 1
      conv => rhs; rw [show q = (q - cs.length) + cs.length by omega, Nat.add_mod_right]
theorem made_flat (z : Array Value) (n : Nat) (hz : 0 < z.size) : (madeCells z (n * z.size)).toList = (List.replicate n z.toList).flatten := by
  apply List.ext_getElem?
  intro q
  by_cases hq : q < n * z.size
  · rw [flat_rep z.toList n q (by simpa using hz) (by simpa using hq)]
    have hm : q % z.size < z.size := Nat.mod_lt _ hz
    simp [madeCells, hq, hm]
  · rw [List.getElem?_eq_none (by simp [madeCells]; omega), List.getElem?_eq_none]
    have : ∀ m, ((List.replicate m z.toList).flatten).length = m * z.size := fun m => by
      induction m with
      | zero => simp
      | succ m ih => rw [List.replicate_succ, List.flatten_cons, List.length_append, ih, Nat.succ_mul]; simp; omega
    rw [this]; omega
section
variable {P : Program} {ξ : Nat → Int} {o : Oper} {S : St} {k : Kt} {ty ty2 : TypeId} {x z y : Operand}
/-! ### make -/
noncomputable def oMake (e : TypeId) (w lim : Nat) (zl : V) (x z : St → K1 → Bool) (S : St) (k : Kt) : Bool := x S fun a => vIx a fun n => z S fun b => vIx b fun m => leN n m (leN m lim (vrep zl n fun l => hnew (.ifc e l) S fun i S' => k (.new i (.ifc e l)) (.sl i 0 w n (Nat.beq m n) true) S'))
theorem oMake_ok {e : TypeId} {lim : Nat} {i : TypeInfo} {zv : Value} (hu : P.underlying ty = some (.slice e)) (hi : P.info? e = some i) (hz : i.zero = some zv) (hsz : zv.cells.size = i.size) (hpos : 0 < i.size) (h1 : zeroOk zv = true) (hl1 : lim ≤ maxLen) (hl2 : lim * i.bytes ≤ 140737488355328) (ho : o.op = .makeSlice ty x z) :
    Sound1 P ξ o (oMake e i.size lim (zeroV zv) (opd x).get (opd z).get) := fun S k hI h => by
  obtain ⟨kk, n, hn, h2⟩ := vIx_ok (opd_ok h)
  obtain ⟨jj, m, hm, h3⟩ := vIx_ok (opd_ok h2)
  obtain ⟨hnm, h5⟩ := leN_ok h3
  obtain ⟨hl, h6⟩ := leN_ok h5
  rw [vrep_eq] at h6
  obtain ⟨hs, S', hk, he, htk, hI', hH, hu2⟩ := hnew_ok hI h6
  refine new_ok (by intro e; cases e) hk he htk hI' hH hu2 hs fun ρ a w hr => ?_
  have e1 := hr.op (x := x) (by simp [ho, Op.operands])
  have e2 := hr.op (x := z) (by simp [ho, Op.operands])
  rw [hn] at e1; rw [hm] at e2
  have e1 : a.eval x = .int kk (n : Int) := e1
  have e2 : a.eval z = .int jj (m : Int) := e2
  have hb : (i.bytes : Int) * (m : Int) ≤ 281474976710656 := by
    have h7 : m * i.bytes ≤ lim * i.bytes := Nat.mul_le_mul_right _ hl
    have h8 : ((i.bytes * m : Nat) : Int) ≤ 281474976710656 := by rw [Nat.mul_comm]; omega
    rwa [Int.natCast_mul] at h8
  have hrun := run_make (P := P) w ty e i zv hu hi hz kk jj (n : Int) (m : Int) (by omega) (by omega) hb (by unfold maxLen at hl1; omega)
  simp only [Int.toNat_natCast] at hrun
  rw [← hsz] at hrun hpos ⊢
  refine ⟨.slice (some ⟨w.heap.size, 0, none⟩) n m, w.alloc (.cells (madeCells zv.cells (m * zv.cells.size)) e), w.heap.size, m * zv.cells.size, by simp only [execOp, ho, e1, e2, Sem.run_bind, hrun, Result.andThen_ok, Sem.run_pure], rfl, rfl, rfl, by simp, fun k hk => Below.heap_alloc w _ k hk, Nat.le_refl _, by simp, fun ρ' hle => ⟨_, heap_alloc_new w _, size_madeCells _ _, (List.replicate n zv.cells.toList).flatten, (List.replicate (m - n) zv.cells.toList).flatten, ?_, ?_, ?_⟩, fun ρ' h => Tv_slAt h (fun _ => rfl) hnm (by omega) (fun e => Nat.eq_of_beq_eq_true e) (by omega) (fun _ => ⟨rfl, rfl⟩)⟩
  · rw [made_flat _ _ hpos, ← List.flatten_append, List.replicate_append_replicate, Nat.add_sub_cancel' hnm]
  · exact TvL_rep (cVl_ok ρ' ξ _) n
  · intro u hu
    obtain ⟨l, hl, hu⟩ := List.mem_flatten.1 hu
    rw [(List.mem_replicate.1 hl).2] at hu
    exact List.all_eq_true.1 h1 u hu
/-! ### a block's cells turn -/
theorem turn_cells {ρ : Rho} {w : World} {H : Nat → V} (hok : Ok ρ ξ H w) {id g c : Nat} {arr : Array Value} {t : TypeId} {us rest news : List Value} {l cl : V} {f : V → V} {off : Nat} (hf : (∃ t q, f = fun l => .fn t l q) ∨ ∃ e, f = .ifc e) (hH : H id = f l) (hr1 : ρ id = .at g c)
    (hw : w.heap[g]? = some (.cells arr t (0, 0))) (hsz : arr.size = c) (ha : arr.toList = us ++ rest) (hl : TvL ρ ξ l us) (hc : ∀ c ∈ us, c.oneCell' = true) (hfz : ∀ t' q, H id = .fn t' l q → t = t' ∧ c = (toL l).length) (hfe : ∀ e, H id = .ifc e l → t = e) (k1 : TvL ρ ξ cl news) (k2 : ∀ c ∈ news, c.oneCell' = true) (hin : off + news.length ≤ us.length) :
    Ok ρ ξ (upd H id (f (splS l off cl))) (w.setCells g off news) ∧ Ev ρ w H ρ (w.setCells g off news) := by
  have hfu : ∀ l, f l ≠ .undef := fun l => by rcases hf with ⟨t, q, rfl⟩ | ⟨e, rfl⟩ <;> intro e <;> cases e
  have hul : us.length = (toL l).length := TvL_len hl
  obtain ⟨s1, s2, s3, s4, s5⟩ := X.setCells_same g news off w
  have hheap := X.setCells_heap g t news off w arr hw
  have hspl : X.spl arr.toList off news = (us.take off ++ news ++ us.drop (off + news.length)) ++ rest := by
    rw [ha, spl_eq _ _ _ (by simp; omega), List.take_append_of_le_length (by omega), List.drop_append_of_le_length (by omega)]
    simp
  have hCs : Cs ρ ξ c (X.spl arr.toList off news).toArray (splS l off cl) := by
    refine ⟨by simp [X.spl_len, hsz], us.take off ++ news ++ us.drop (off + news.length), rest, by simpa using hspl, TvL_spl hl k1 hin, fun v hv => ?_⟩
    rw [List.mem_append, List.mem_append] at hv
    rcases hv with (hv | hv) | hv
    · exact hc v (List.mem_of_mem_take hv)
    · exact k2 v hv
    · exact hc v (List.mem_of_mem_drop hv)
  exact hok.turn hr1 (pv := f (splS l off cl)) (hfu _) (w' := w.setCells g off news) s1 s2 s3 (Nat.le_of_eq s4.symm) (fun q _ hq => s5 q hq) (by
    rcases hf with ⟨t', q, rfl⟩ | ⟨e, rfl⟩
    · obtain ⟨rfl, h0⟩ := hfz t' q hH
      refine ⟨_, hheap, hCs, ?_⟩
      have h9 := TvL_len (TvL_spl (n := off) hl k1 hin)
      rw [← h9, h0, ← hul]
      simp; omega
    · have := hfe e hH
      subst this
      exact ⟨_, hheap, hCs⟩)
/-! ### clear -/
noncomputable def oClear (w : Nat) (zl : V) (x : St → K1 → Bool) (S : St) (k : Kt) : Bool := x S fun v => vSl v (fun q => Bool.casesOn (NK.eqb q .slice) false (k .any (.tup .nl) S)) fun id off w' n _ _ => Nat.casesOn n (k .any (.tup .nl) S) fun m => Bool.casesOn (Nat.beq w w') false (leN (Nat.succ id) 32768 (hget id S fun b => vWr b fun f l => vrep zl (Nat.succ m) fun cl => vspl l cl off fun l' => hput id (f l') S fun S' => k .any (.tup .nl) S'))
theorem oClear_ok {e : TypeId} {i : TypeInfo} {zv : Value} (hu : P.underlying ty = some (.slice e)) (hi : P.info? e = some i) (hz : i.zero = some zv) (hsz : zv.cells.size = i.size) (hpos : 0 < i.size) (h1 : zeroOk zv = true) (ho : o.op = .call { callee := .builtin .clear, args := #[x], argTypes := #[ty] }) :
    Sound1 P ξ o (oClear i.size (zeroV zv) (opd x).get) := fun S k hI h => by
  have hx : ∀ {ρ : Rho} {a : Act}, Reads ρ ξ (slots S) a o → Tv ρ ξ (opS (slots S) x) (a.eval x) := fun hr => hr.op (by simp [ho, Op.operands, Call.operands])
  have done : ∀ (a : Act) (w w' : World), (Builtin.clear_ #[ty] o.type #[a.eval x]).run P w = .ok (.tuple #[]) w' → (execOp a.eval o).run P w = .ok (.value (.tuple #[])) w' := fun a w w' h => by simp [execOp, ho, resolve, invoke, builtin, Sem.run_bind, h]
  have none : k .any (.tup .nl) S = true → (∀ ρ u, Tv ρ ξ (opS (slots S) x) u → ∃ b c, u = .slice b 0 c) → ∃ cl v S', k cl v S' = true ∧ S'.e = S.e ∧ S'.tk = S.tk ∧ Inv S' ∧ CStep P ξ o (slots S) (hp S) (hp S') v cl := fun hk hv =>
    ⟨.any, _, S, hk, rfl, rfl, hI, .quiet fun ρ a w _ hr => by
      obtain ⟨b, c, e⟩ := hv ρ _ (hx hr)
      refine ⟨.tuple #[], done a w w ?_, [], rfl, rfl⟩
      rw [e]
      cases b <;> simp [Builtin.clear_, run_underlying hu]⟩
  rcases vSl_ok (opd_ok h) with ⟨q, h2, h3⟩ | ⟨id, off, w', n, full, whole, h2, h3⟩
  · obtain ⟨h4, h5⟩ := andB h3
    refine none h5 fun ρ u hu => ?_
    rw [h2, NK.eqb_eq h4] at hu
    exact ⟨_, _, hu⟩
  · cases n with
    | zero =>
      refine none h3 fun ρ u hu => ?_
      rw [h2] at hu
      obtain ⟨g, q, cap, e, _⟩ := Tv_sl hu
      exact ⟨_, _, e⟩
    | succ m =>
      obtain ⟨h4, h5⟩ := andB h3
      have := Nat.eq_of_beq_eq_true h4
      subst this
      obtain ⟨hid, h6⟩ := leN_ok h5
      have hid : id < 32768 := hid
      rw [hget_eq] at h6
      obtain ⟨f, l, h7, hf, h8⟩ := vWr_ok h6
      rw [vrep_eq] at h8
      obtain ⟨h9, h10⟩ := vspl_ok h8
      rw [hput_eq] at h10
      have hH : hp S id = f l := by rw [hp_of hid]; exact h7
      have hfu : ∀ l, f l ≠ .undef := fun l => by rcases hf with ⟨t, q, rfl⟩ | ⟨e, rfl⟩ <;> intro e <;> cases e
      refine ⟨_, _, _, h10, rfl, rfl, inv_put hI hid (by rw [hH]; exact hfu l), ?_⟩
      rw [hp_put hid]
      refine ⟨fun j hj => ?_, fun ρ a w hok hr j hj hn => ?_, fun ρ a w hok hr => ?_⟩
      · unfold upd; split
        · exact hfu _
        · exact hj
      · unfold upd
        by_cases e : j = id
        · subst e
          have e := hx hr
          rw [h2] at e
          have e' : (TvP ρ ξ (.sl j off i.size (m + 1) full whole)).1 (a.eval x) := e
          simp only [TvP] at e'
          rw [hn] at e'; exact e'.elim
        · rw [if_neg e]
      · have e1 := hx hr
        rw [h2] at e1
        obtain ⟨g, q, cap, e3, hq, _, _, _, _, hp', _⟩ := Tv_sl e1
        have hqo := hq (by omega)
        subst hqo
        obtain ⟨g2, c, arr, t, fz, us, rest, hr1, e4, hw, hsz2, ha, hl, hc, hfz, hfe⟩ := hok.cells (l := l) (hp' 0) (by rcases hf with ⟨t, q, rfl⟩ | ⟨e, rfl⟩; exact .inl ⟨t, q, hH⟩; exact .inr (.inl ⟨e, hH⟩))
        injection e4 with e4; injection e4 with e4; injection e4 with e4 _
        subst e4
        have : fz = (0, 0) := by
          rcases hf with ⟨t, q, rfl⟩ | ⟨e, rfl⟩
          · exact (hfz t q hH).1
          · exact (hfe e hH).1
        subst this
        have hul : us.length = (toL l).length := TvL_len hl
        have k1 : TvL ρ ξ (repS (zeroV zv) (m + 1)) (List.replicate (m + 1) zv.cells.toList).flatten := TvL_rep (cVl_ok ρ ξ _) (m + 1)
        have k2 : ∀ c ∈ (List.replicate (m + 1) zv.cells.toList).flatten, c.oneCell' = true := fun u hu => by
          obtain ⟨l, hl, hu⟩ := List.mem_flatten.1 hu
          rw [(List.mem_replicate.1 hl).2] at hu
          exact List.all_eq_true.1 h1 u hu
        have hlen := TvL_len k1
        have hin : q + (List.replicate (m + 1) zv.cells.toList).flatten.length ≤ us.length := by rw [hlen, hul]; exact h9
        have hasz : us.length ≤ arr.size := by rw [← Array.length_toList, ha]; simp
        obtain ⟨q1, q2⟩ := turn_cells hok (off := q) hf hH hr1 hw hsz2 ha hl hc (fun t' q h => (hfz t' q h).2) (fun e h => (hfe e h).2) k1 k2 hin
        refine OpWp.of_run (w' := w.setCells g q (List.replicate (m + 1) zv.cells.toList).flatten) (done a w _ ?_) ⟨ρ, q2, q1, [], rfl, rfl⟩
        rw [e3]
        have hzc : (Builtin.zeroCells zv.cells (m + 1)).toList = (List.replicate (m + 1) zv.cells.toList).flatten := made_flat zv.cells (m + 1) (by rw [hsz]; exact hpos)
        have hst := run_storeCells_cells (P := P) g q (List.replicate (m + 1) zv.cells.toList).flatten 0 w (fun j hj => by
            rw [cell_of_row w g _ arr t (0, 0) hw]
            have : q + j < arr.size := by omega
            simp [this]) (fun j hj => by simp [World.frozen?, hw]) k2
        simp only [Nat.add_zero] at hst
        obtain ⟨zz, hz1, hz2⟩ := run_zero hi hz w
        simp [Builtin.clear_, run_underlying hu, Sem.run_bind, hz1, hz2, hzc, hst]
end
end Go.Proofs.YtnkkfmnpkgjabaaGreat.Y

/- The runner: texts behind rows of bytes; builders. -/
namespace Go.Proofs.YtnkkfmnpkgjabaaGreat.Y
open Go.RowKit Go.Lib
set_option linter.unusedVariables false
set_option linter.unusedSimpArgs false
/-! ### bytes as values -/
def preL : List UInt8 → V → V
  | [], acc => acc
  | b :: r, acc => .cs (.int .u8 (.ofNat b.toNat)) (preL r acc)
noncomputable def vbytes (l : Nat) : Nat → V → K1 → Bool := Nat.rec (motive := fun _ => Nat → V → K1 → Bool) (fun _ acc k => k acc) (fun _ ih n acc k => fNat (Nat.mod n 256) fun b => fNat (Nat.div n 256) fun q => ih q (.cs (.int .u8 (.ofNat b)) acc) k) l
theorem preL_app : ∀ (a b : List UInt8) (acc : V), preL (a ++ b) acc = preL a (preL b acc)
  | [], _, _ => rfl
  | x :: a, b, acc => congrArg (V.cs _) (preL_app a b acc)
theorem vbytes_eq : ∀ (l n : Nat) (acc : V) (k : K1), vbytes l n acc k = k (preL (bl l n) acc)
  | 0, n, acc, k => rfl
  | l + 1, n, acc, k => by
    show (fNat (n % 256) fun b => fNat (n / 256) fun q => vbytes l q (.cs (.int .u8 (.ofNat b)) acc) k) = _
    rw [fNat_eq, fNat_eq, vbytes_eq l, bl_split l 1 n, preL_app, Nat.pow_one]
    have : bl 1 n = [UInt8.ofNat n] := by simp [bl]
    rw [this]
    congr 2
theorem TvL_preL {ρ : Rho} {ξ : Nat → Int} : ∀ (b : List UInt8) {acc : V} {us : List Value}, TvL ρ ξ acc us → TvL ρ ξ (preL b acc) (Go.Lib.byteCells b ++ us)
  | [], _, _, h => h
  | x :: b, acc, us, h => ⟨.int .u8 x.toNat, Go.Lib.byteCells b ++ us, rfl, rfl, TvL_preL b h⟩
theorem TvL_bytes {ρ : Rho} {ξ : Nat → Int} (l n : Nat) : TvL ρ ξ (preL (bl l n) .nl) (strCells (bs l n)) := by
  have h := TvL_preL (ρ := ρ) (ξ := ξ) (bl l n) (acc := .nl) (us := []) rfl
  rw [List.append_nil] at h
  rw [strCells_eq, bs_list]; exact h
noncomputable def vnum (n : Nat) : V → Nat → (Nat → Bool) → Bool := Nat.rec (motive := fun _ => V → Nat → (Nat → Bool) → Bool) (fun _ acc k => k acc) (fun _ ih l acc k => vCs l fun a r => vInt a fun kk b => Bool.casesOn (sameK kk .u8) false (Int.casesOn b (fun b => leN b 255 (fNat (Nat.add (Nat.mul 256 acc) b) fun q => ih r q k)) fun _ => false)) n
theorem vnum_ok : ∀ {n : Nat} {l : V} {acc : Nat} {k : Nat → Bool}, vnum n l acc k = true → ∃ b : List UInt8, b.length = n ∧ k (b.foldl (fun n c => 256 * n + c.toNat) acc) = true ∧ ∀ {ρ : Rho} {ξ : Nat → Int} {us : List Value}, TvL ρ ξ l us → us.take n = Go.Lib.byteCells b
  | 0, l, acc, k, h => ⟨[], rfl, h, fun _ => rfl⟩
  | n + 1, l, acc, k, h => by
    obtain ⟨a, r, e1, h1⟩ := vCs_ok (show vCs l (fun a r => vInt a fun kk b => Bool.casesOn (sameK kk .u8) false (Int.casesOn b (fun b => leN b 255 (fNat (256 * acc + b) fun q => vnum n r q k)) fun _ => false)) = true from h)
    obtain ⟨kk, b, e2, h2⟩ := vInt_ok h1
    obtain ⟨h3, h4⟩ := andB h2
    have hk := sameK_eq h3
    subst hk
    cases b with
    | negSucc _ => cases h4
    | ofNat b =>
      obtain ⟨hb, h5⟩ := leN_ok h4
      rw [fNat_eq] at h5
      obtain ⟨q, k1, k2, k3⟩ := vnum_ok h5
      have hbt : (UInt8.ofNat b).toNat = b := by simp; omega
      refine ⟨UInt8.ofNat b :: q, by simp [k1], by rw [List.foldl_cons, hbt]; exact k2, fun {ρ ξ us} hus => ?_⟩
      subst e1; subst e2
      obtain ⟨u, us', rfl, t1, t2⟩ := hus
      have t1 : u = .int .u8 (b : Int) := t1
      rw [List.take_succ_cons, k3 t2, t1]
      show _ = Value.int .u8 ((UInt8.ofNat b).toNat : Int) :: Go.Lib.byteCells q
      rw [hbt]
section
variable {P : Program} {ξ : Nat → Int} {o : Oper} {S : St} {k : Kt} {ty ty2 : TypeId} {x z y : Operand}
/-! ### append([]byte, text...) -/
theorem app_str_at {t u tyr e : TypeId} {i : TypeInfo} (ht : P.underlying t = some (.slice e)) (hu : P.underlying u = some .string) (hi : P.info? e = some i) (hz : i.zero = some (.int .u8 0)) (hs1 : i.size = 1) (hb1 : i.bytes = 1) {w : World} {g cap n : Nat} {cur : Array Value} {s : ByteArray}
    (hg : w.heap[g]? = some (.cells cur e (0, 0))) (hcs : cur.size = cap) (hn : n ≤ cap) (hcm : cap ≤ maxLen) (hl : n + s.size ≤ 16777216) :
    ∃ v' w', (Builtin.append_ #[t, u] tyr #[.slice (some ⟨g, 0, none⟩) n cap, .string s]).run P w = .ok v' w' ∧ w'.ownsRow 0 e 1 v' (n + s.size) (cur.toList.take n ++ strCells s) ∧ w.grownBy w' (some g) ∧ (v'.ownBlock = some g ∨ v'.ownBlock = some w.heap.size) := by
  have hlen : (cur.toList.take n ++ strCells s).length = (n + s.size) * 1 := by
    rw [List.length_append, strCells_length, List.length_take, Array.length_toList]; omega
  by_cases hr : n + s.size ≤ cap
  · have hrun := run_append_room_string (P := P) w t u tyr e i ht hu hi hs1 g n cap cur hg s hr (by omega)
    refine ⟨_, _, hrun, ⟨hlen, .inr ⟨g, cap, _, rfl, Nat.zero_le _, setRow_heap w g cur _ e _ hg, hr, hcm, ?_, ?_⟩⟩, ⟨rfl, rfl, rfl, by simp, fun k _ hk => setRow_other w g k _ (fun e => hk (by rw [e]))⟩, .inl rfl⟩
    · simp [strCells_length]; omega
    · rw [List.append_assoc, ← List.append_assoc, show (n + s.size) * 1 = (cur.toList.take n ++ strCells s).length from hlen.symm]
      exact List.take_left
  · have hge := grownCap_ge w (n + s.size) cap e
    have hcm2 : grownCap w (n + s.size) cap e ≤ maxLen := grownCap_le_maxLen w (n + s.size) cap e (by unfold maxLen; omega)
    have hrun := run_append_grow_string (P := P) w t u tyr e i (.int .u8 0) ht hu hi hz ⟨g, 0, none⟩ n cap (cur.toList.take n) (by rw [hs1]; simp; omega) (fun j v hj => by
      rw [Addr.add_lit, cell_of_row w g _ cur e (0, 0) hg, Nat.zero_add]
      have hlt : j < n := by have := (List.getElem?_eq_some_iff.1 hj).1; simp at this; omega
      rw [List.getElem?_take_of_lt hlt] at hj
      simpa using hj) s (by omega) (by omega) (growslice_fits (by omega) (by rw [hb1]; omega))
    refine ⟨_, _, hrun, ⟨hlen, .inr ⟨w.heap.size, _, _, rfl, Nat.zero_le _, heap_alloc_new w.drew _, hge, hcm2, ?_, ?_⟩⟩, ⟨rfl, rfl, rfl, by simp, fun k hk _ => Below.heap_alloc w.drew _ k hk⟩, .inr rfl⟩
    · have : (Value.int IntKind.u8 0).cells.size = 1 := rfl
      simp only [Array.size_append, List.size_toArray, size_zeroCells, this, List.length_take, strCells_length, Array.length_toList]
      omega
    · simp only [Array.toList_append, List.append_assoc]
      rw [← List.append_assoc, show (n + s.size) * 1 = (cur.toList.take n ++ strCells s).length from hlen.symm]
      exact List.take_left
noncomputable def oAppT (e : TypeId) (x z : St → K1 → Bool) (S : St) (k : Kt) : Bool := x S fun va => z S fun vb => vStr vb fun m c => Nat.casesOn m (vSl va (fun q => Bool.casesOn (NK.eqb q .slice) false (k .any va S)) fun _ _ _ _ _ _ => k .any va S) fun m' =>
  vbytes (Nat.succ m') c .nl fun lb => vSl va (fun q => Bool.casesOn (NK.eqb q .slice) false (leN (Nat.succ m') 16777216 (appNew e 1 (Nat.succ m') lb S k)))
    fun id off _ n full whole => fNat (Nat.add n (Nat.succ m')) fun nm => leN nm 16777216 (slCells 1 va S fun _ la => vcat la lb fun l =>
      Bool.casesOn whole false (leN (Nat.succ id) 32768 (hget id S fun b => vRow b fun e' _ => Bool.casesOn (Nat.beq e e') false (appKill e 1 id nm l S k))))
theorem oAppT_ok {e : TypeId} {i : TypeInfo} (ht : P.underlying ty = some (.slice e)) (hu : P.underlying ty2 = some .string) (hi : P.info? e = some i) (hz : i.zero = some (.int .u8 0)) (hs1 : i.size = 1) (hb1 : i.bytes = 1) (ho : o.op = .call { callee := .builtin .append, args := #[x, z], argTypes := #[ty, ty2] }) : Sound1 P ξ o (oAppT e (opd x).get (opd z).get) := fun S k hI h => by
  obtain ⟨m, c, hvb, h1⟩ := vStr_ok (opd_ok (opd_ok h))
  have ex : ∀ (ρ : Rho) (a : Act), Reads ρ ξ (slots S) a o → Tv ρ ξ (opS (slots S) x) (a.eval x) ∧ a.eval z = .string (bs m c) := fun ρ a hr => ⟨hr.op (by simp [ho, Op.operands, Call.operands]), by
    have := hr.op (x := z) (by simp [ho, Op.operands, Call.operands])
    rw [hvb] at this; exact this⟩
  have done : ∀ (a : Act) (w w' : World) (v : Value), (Builtin.append_ #[ty, ty2] o.type #[a.eval x, a.eval z]).run P w = .ok v w' → (execOp a.eval o).run P w = .ok (.value v) w' := fun a w w' v h => by
    simp [execOp, ho, resolve, invoke, builtin, Sem.run_bind, h]
  cases m with
  | zero =>
    have hk : k .any (opS (slots S) x) S = true ∧ ∀ ρ u, Tv ρ ξ (opS (slots S) x) u → ∃ b n c, u = .slice b n c ∧ n ≤ c := by
      rcases vSl_ok (show vSl (opS (slots S) x) (fun q => Bool.casesOn (NK.eqb q .slice) false (k .any (opS (slots S) x) S)) (fun _ _ _ _ _ _ => k .any (opS (slots S) x) S) = true from h1) with ⟨q, h2, h3⟩ | ⟨_, _, _, _, _, _, h2, h3⟩
      · obtain ⟨h4, h5⟩ := andB h3
        refine ⟨h5, fun ρ u hu => ?_⟩
        rw [h2, NK.eqb_eq h4] at hu
        exact ⟨none, 0, 0, hu, Nat.le_refl _⟩
      · refine ⟨h3, fun ρ u hu => ?_⟩
        rw [h2] at hu
        obtain ⟨g, q, cap, e, _, hc, _⟩ := Tv_sl hu
        exact ⟨_, _, _, e, hc⟩
    refine ⟨.any, _, S, hk.1, rfl, rfl, hI, .quiet fun ρ a W hok hr => ⟨a.eval x, done a W W _ ?_, (ex ρ a hr).1⟩⟩
    obtain ⟨b, n, cc, e1, hnc⟩ := hk.2 ρ _ (ex ρ a hr).1
    rw [e1, (ex ρ a hr).2]
    have hsz : (bs 0 c).size = 0 := bs_size 0 c
    have hfc := run_firstCells_string (P := P) W i.size (bs 0 c)
    rw [hsz] at hfc
    have hnil : strCells (bs 0 c) = [] := List.eq_nil_of_length_eq_zero (by rw [strCells_length, hsz])
    rw [hnil] at hfc
    simp [Builtin.append_, run_underlying ht, run_underlying hu, sizeOf, typeInfo, hi, Builtin.lenOf, Sem.run_bind, hnc, hsz, hfc]
    cases b with
    | none => simp
    | some b =>
      have hst : (storeCells (b.add (n * i.size)) []).run P W = .ok () W := by simp [storeCells]
      simp [hst, Sem.run_bind]
  | succ m =>
    change vbytes (m + 1) c .nl _ = true at h1
    rw [vbytes_eq] at h1
    have hone : ∀ u ∈ strCells (bs (m + 1) c), u.oneCell' = true := strCells_oneCell _
    have hsz : (bs (m + 1) c).size = m + 1 := bs_size _ _
    rcases vSl_ok h1 with ⟨q, h2, h3⟩ | ⟨id, off, w', n, full, whole, h2, h3⟩
    · obtain ⟨h4, h5⟩ := andB h3
      have := NK.eqb_eq h4
      subst this
      obtain ⟨hl, h6⟩ := leN_ok h5
      refine appNew_ok hI h6 (fun ρ a W hok hr => ?_) (by omega)
      have e1 := (ex ρ a hr).1
      rw [h2] at e1
      have e1 : a.eval x = .slice none 0 0 := e1
      obtain ⟨v, W', r1, r2, r3, _⟩ := run_append_own_string (P := P) W W.heap.size ty ty2 o.type e i ht hu hi hz hs1 hb1 (.slice none 0 0) 0 [] ⟨by simp, .inl ⟨rfl, rfl⟩⟩ (bs (m + 1) c) (by unfold maxLen; omega) (by omega) (Nat.le_refl _)
      rw [hsz] at r2
      exact ⟨v, W', strCells (bs (m + 1) c), done a W W' v (by rw [e1, (ex ρ a hr).2]; exact r1), by simpa using r2, by simpa [Value.ownBlock] using r3, TvL_bytes _ _, hone⟩
    · rw [fNat_eq] at h3
      obtain ⟨hl, h4⟩ := leN_ok h3
      have hl : n + (m + 1) ≤ 16777216 := hl
      obtain ⟨n', la, h5, ha⟩ := slCells_ok (ξ := ξ) h4
      rw [vcat_eq] at h5
      cases whole with
      | false => cases h5
      | true =>
        obtain ⟨hid, h6⟩ := leN_ok h5
        have hid : id < 32768 := hid
        rw [hget_eq] at h6
        obtain ⟨e', l0, h7, h8⟩ := vRow_ok h6
        obtain ⟨he, h9⟩ := andB h8
        have := Nat.eq_of_beq_eq_true he
        subst this
        have hH0 : hp S id = .ifc e l0 := by rw [hp_of hid]; exact h7
        refine appKill_ok hI h9 (by show 0 < n + (m + 1); omega) hH0 (fun ρ a W hok hr => ?_)
        have e0 := (ex ρ a hr).1
        have e1 := e0
        rw [h2] at e1
        obtain ⟨g, q, cap, e3, _, s1, s2, _, _, hp', s4⟩ := Tv_sl e1
        obtain ⟨g2, d, arr, t, fz, us3, rest, hr3, e4, hw3, hsz3, ha3, hl3, hc3, _, hf3⟩ := hok.cells (off := 0) (hp' 0) (l := l0) (.inr (.inl ⟨e, hH0⟩))
        obtain ⟨hfz, hte⟩ := hf3 e hH0
        rw [hfz, hte] at hw3
        obtain ⟨hg, _, hwh⟩ := s4 _ _ hr3
        subst hg
        obtain ⟨rfl, hcw⟩ := hwh rfl
        have hwd : w' = 1 := by
          have h4' : slCells 1 (opS (slots S) x) S _ = true := h4
          rw [h2] at h4'
          have h4' : (Bool.casesOn (Nat.beq 1 w') false _ : Bool) = true := h4'
          obtain ⟨q1, _⟩ := andB h4'
          exact (Nat.eq_of_beq_eq_true q1).symm
        subst hwd
        obtain ⟨v, W', r1, r2, r3, r4⟩ := app_str_at (P := P) (tyr := o.type) ht hu hi hz hs1 hb1 (w := W) (s := bs (m + 1) c) hw3 (by rw [hsz3]; omega : arr.size = cap) s1 s2 (by rw [hsz]; exact hl)
        rw [hsz] at r2
        refine ⟨v, W', arr.toList.take n ++ strCells (bs (m + 1) c), g2, d, hr3, done a W W' v (by rw [e3, (ex ρ a hr).2]; exact r1), r2, r3, r4, TvL_cat ?_ (TvL_bytes _ _), fun u hu => ?_⟩
        · rcases ha ρ W _ hok e0 with ⟨h0, hq, b, cc, e5⟩ | ⟨g', p, cc, us, hn0, e5, l2, t2, o2, c2⟩
          · rw [e3] at e5
            injection e5 with _ e6 _
            subst e6
            rw [hq, List.take_zero]; exact rfl
          · rw [e3] at e5
            injection e5 with e6 e7 e8
            injection e6 with e6; injection e6 with e6 e9
            subst e6; subst e7; subst e9
            have : arr.toList.take n = us := by
              apply List.ext_getElem?
              intro j
              by_cases hj : j < n
              · rw [List.getElem?_take_of_lt hj]
                have hju : j < us.length := by omega
                have h9 := c2 j _ (List.getElem?_eq_getElem hju)
                rw [cell_of_row W g2 _ arr _ _ hw3, Nat.zero_add] at h9
                rw [Array.getElem?_toList, h9, List.getElem?_eq_getElem hju]
              · rw [List.getElem?_eq_none (by simp; omega), List.getElem?_eq_none (by omega)]
            rw [this]; exact t2
        · rcases List.mem_append.1 hu with hu | hu
          · rcases ha ρ W _ hok e0 with ⟨h0, hq, b, cc, e5⟩ | ⟨g', p, cc, us, hn0, e5, l2, t2, o2, c2⟩
            · rw [e3] at e5
              injection e5 with _ e6 _
              subst e6
              simp at hu
            · rw [e3] at e5
              injection e5 with e6 e7 e8
              injection e6 with e6; injection e6 with e6 e9
              subst e6; subst e7; subst e9
              obtain ⟨j, hj⟩ := List.getElem?_of_mem hu
              have hjn : j < n := by have := (List.getElem?_eq_some_iff.1 hj).1; simp at this; omega
              rw [List.getElem?_take_of_lt hjn] at hj
              have hju : j < us.length := by omega
              have h9 := c2 j _ (List.getElem?_eq_getElem hju)
              rw [cell_of_row W g2 _ arr _ _ hw3, Nat.zero_add, ← Array.getElem?_toList, hj] at h9
              injection h9 with h9
              rw [h9]; exact o2 _ (List.getElem_mem hju)
          · exact hone u hu
end
end Go.Proofs.YtnkkfmnpkgjabaaGreat.Y

/- The runner: what a builder does with addresses. -/
namespace Go.Proofs.YtnkkfmnpkgjabaaGreat.Y
open Go.RowKit Go.Lib
set_option linter.unusedVariables false
set_option linter.unusedSimpArgs false
section
variable {P : Program} {ξ : Nat → Int} {o : Oper} {S : St} {k : Kt} {ty ty2 e : TypeId} {x z y : Operand}
/-! ### two pointers: the same -/
noncomputable def oPtrNe (x z : St → K1 → Bool) (S : St) (k : Kt) : Bool := x S fun a => vPtr a fun i p => z S fun b => vPtr b fun j q => Bool.casesOn (Nat.beq i j) false (Bool.casesOn (Nat.beq p q) false (leN (Nat.succ i) 32768 (hget i S fun b => vBlk b fun _ => k (.read i) (.bool false) S)))
theorem run_guard_ptr (op : BinOp) (ty : TypeId) (x z : Operand) (a b : Option Addr) (w : World) : (eqGuard op ty x z (.pointer a) (.pointer b)).run P w = .ok () w := by
  unfold eqGuard
  split <;> simp [Sem.run]
theorem oPtrNe_ok {j : TypeInfo} (hpt : P.underlying ty = some (.pointer e)) (he : P.info? e = some j) (ho : o.op = .binOp .neq ty x z ty2) : Sound1 P ξ o (oPtrNe (opd x).get (opd z).get) := fun S k hI h => by
  obtain ⟨i, p, h1, h2⟩ := vPtr_ok (opd_ok h)
  obtain ⟨i', p', h3, h4⟩ := vPtr_ok (opd_ok h2)
  obtain ⟨h5, h6⟩ := andB h4
  obtain ⟨h7, h8⟩ := andB h6
  have e1 := Nat.eq_of_beq_eq_true h5
  have e2 := Nat.eq_of_beq_eq_true h7
  subst e1; subst e2
  obtain ⟨hid, h9⟩ := leN_ok h8
  have hid : i < 32768 := hid
  rw [hget_eq] at h9
  obtain ⟨l, h10, h11⟩ := vBlk_ok h9
  have hud : hp S i ≠ .undef := by rw [hp_of hid]; rcases h10 with ⟨t, q, h3⟩ | ⟨e, h3⟩ | h3 <;> rw [h3] <;> intro e <;> cases e
  refine ⟨_, _, S, h11, rfl, rfl, hI, rfl, hud, fun G hG => .quiet fun ρ a w hok hr => ⟨.bool false, ?_, rfl⟩⟩
  have e1 := hr.op (x := x) (by simp [ho, Op.operands])
  have e2 := hr.op (x := z) (by simp [ho, Op.operands])
  rw [h1] at e1; rw [h3] at e2
  obtain ⟨g, c, _, _, _, _, _, hr1, e3, _⟩ := hok.cells e1 (l := l) (by rw [hG, hp_of hid]; exact h10)
  obtain ⟨g2, e4, _, e5⟩ := Tv_ptr e2
  have := e5 _ _ hr1
  subst this
  have hrun := Lib.run_neq_ptr_same (P := P) w ⟨g, p, none⟩ hpt he
  simp only [execOp, ho, e3, e4, Sem.run_bind, run_guard_ptr, Result.andThen_ok, hrun, Sem.run_pure]
/-! ### *T, unsafe.Pointer -/
theorem shape_of {w : World} {g : Nat} {arr : Array Value} {t : TypeId} {fz : Nat × Nat} (h : w.heap[g]? = some (.cells arr t fz)) : w.shape? g = some (t, arr.size) := by simp [World.shape?, h]
/-- An address of a variable of type t. -/
noncomputable def oAddr (t sz : Nat) (x : St → K1 → Bool) (S : St) (k : Kt) : Bool := x S fun a => vPtr a fun i p => Nat.casesOn p (leN (Nat.succ i) 32768 (hget i S fun b => vFn b fun t' l _ => Bool.casesOn (Nat.beq t t') false (Bool.casesOn (lenIs l sz) false (k (.read i) (.ptr i 0) S)))) fun _ => false
theorem oAddr_ok {t : TypeId} {j : TypeInfo} (hi : P.info? t = some j) (hj : j.size ≠ 0) (hd : (P.underlying ty = some (.pointer t) ∧ P.underlying ty2 = some .unsafePointer) ∨ (P.underlying ty = some .unsafePointer ∧ P.underlying ty2 = some (.pointer t) ∧ liesAt P P.depth t (j.size / P.cellsOf t) 0 t 1 = true)) (ho : o.op = .convert ty ty2 x) : Sound1 P ξ o (oAddr t j.size (opd x).get) := fun S k hI h => by
  obtain ⟨i, p, h1, h2⟩ := vPtr_ok (opd_ok h)
  cases p with
  | succ p => cases h2
  | zero =>
    obtain ⟨hid, h3⟩ := leN_ok h2
    have hid : i < 32768 := hid
    rw [hget_eq] at h3
    obtain ⟨t', l, q, h4, h5⟩ := vFn_ok h3
    obtain ⟨h6, h7⟩ := andB h5
    obtain ⟨h8, h9⟩ := andB h7
    have := Nat.eq_of_beq_eq_true h6
    subst this
    have hlen := lenIs_ok h8
    have hH : hp S i = .fn t l q := by rw [hp_of hid]; exact h4
    refine ⟨_, _, S, h9, rfl, rfl, hI, rfl, (by rw [hH]; intro e; cases e), fun G hG => .quiet fun ρ a w hok hr => ?_⟩
    have e1 := hr.op (x := x) (by simp [ho, Op.operands])
    rw [h1] at e1
    have hG2 : G i = .fn t l q := by rw [hG]; exact hH
    obtain ⟨g, c, arr, t2, fz, us, rest, hr1, e3, hw, hsz, _, _, _, hfz, _⟩ := hok.cells e1 (l := l) (.inl ⟨t, q, hG2⟩)
    obtain ⟨_, rfl, h0⟩ := hfz t q hG2
    have hsh : w.shape? g = some (t2, j.size) := by rw [shape_of hw, hsz, h0, hlen]
    refine ⟨.pointer (some ⟨g, 0, none⟩), ?_, by rw [← e3]; exact e1⟩
    rcases hd with ⟨d1, d2⟩ | ⟨d1, d2, d3⟩
    · have hrun := Lib.run_to_unsafe (P := P) w ⟨g, 0, none⟩ d1 d2 hi hj hsh (show 0 < j.size by omega)
      simp only [execOp, ho, e3, Sem.run_bind, hrun, Result.andThen_ok, Sem.run_pure]
    · have hrun := Lib.run_from_unsafe (P := P) w ⟨g, 0, none⟩ d1 d2 hi hsh d3
      simp only [execOp, ho, e3, Sem.run_bind, hrun, Result.andThen_ok, Sem.run_pure]
/-- The function that tells what it is given. -/
def NeOk (P : Program) (K : FuncId) : Prop := ∀ v w, (callFunc K #[v]).run P w = .ok (.value v) w
theorem NeOk.of {K : FuncId} {fn : Func} (hf : P.funcs[K]? = some fn) (hname : (fn.name == "runtime.NumGoroutine") = false) (hb : fn.body.isNone = true) (hn : Extern.findNext fn = none) (he : Extern.find fn = some Extern.AbiNoEscape.same) : NeOk P K := fun v w => by
  rw [run_callFunc_extern hf hname hb hn he, Lib.run_noEscape]; rfl
theorem oSame_ok {K : FuncId} {tys : Array TypeId} (hK : NeOk P K) (ho : o.op = .call { callee := .value (.func K), args := #[x], argTypes := tys }) : Sound1 P ξ o (oMove (opd x).get) := .pu fun S k h => by
  refine ⟨_, opd_ok h, fun ρ a w hr => ⟨a.eval x, ?_, hr.op (by simp [ho, Op.operands, Call.operands])⟩⟩
  have hf : a.eval (.func K) = .func (.func K) #[] #[] := rfl
  have := hK (a.eval x) w
  simp only [execOp, ho, resolve, hf, Deferred.ofValue, invoke, Sem.run_bind, Sem.run_pure, Result.andThen_ok, Array.append_empty, Array.empty_append, List.map_toArray, List.map_cons, List.map_nil, this]
/-! ### unsafe.SliceData, unsafe.String -/
noncomputable def oData (x : St → K1 → Bool) (S : St) (k : Kt) : Bool := x S fun v => vSl v (fun q => Bool.casesOn (NK.eqb q .slice) false (k .pure (.nil .ptr) S)) fun id off _ n _ _ => Nat.casesOn n false fun _ => k .pure (.ptr id off) S
theorem oData_ok {tys : Array TypeId} (ho : o.op = .call { callee := .builtin .unsafeSliceData, args := #[x], argTypes := tys }) : Sound1 P ξ o (oData (opd x).get) := .pu fun S k h => by
  rcases vSl_ok (opd_ok h) with ⟨q, h1, h2⟩ | ⟨id, off, w', n, full, whole, h1, h2⟩
  · obtain ⟨h3, h4⟩ := andB h2
    refine ⟨_, h4, fun ρ a w hr => ⟨.pointer none, ?_, rfl⟩⟩
    have e1 := hr.op (x := x) (by simp [ho, Op.operands, Call.operands])
    rw [h1, NK.eqb_eq h3] at e1
    have e1 : a.eval x = .slice none 0 0 := e1
    simp [execOp, ho, resolve, invoke, builtin, Sem.run_bind, e1, Lib.run_unsafeSliceData_nil]
  · cases n with
    | zero => cases h2
    | succ m =>
      refine ⟨_, h2, fun ρ a w hr => ?_⟩
      have e1 := hr.op (x := x) (by simp [ho, Op.operands, Call.operands])
      rw [h1] at e1
      obtain ⟨g, q, cap, e3, hq, hc, _, _, _, hp', _⟩ := Tv_sl e1
      have := hq (by omega)
      subst this
      refine ⟨.pointer (some ⟨g, q, none⟩), ?_, hp' q⟩
      simp [execOp, ho, resolve, invoke, builtin, Sem.run_bind, e3, Lib.run_unsafeSliceData_row (P := P) w _ _ _ _ cap (by omega)]
noncomputable def oUStr (e : TypeId) (x z : St → K1 → Bool) (S : St) (k : Kt) : Bool := z S fun b => vIx b fun n => Nat.casesOn n (x S fun a => isNil .ptr a fun _ => k .pure (.str 0 0) S) fun m => x S fun a => vPtr a fun id p => Nat.casesOn p (leN (Nat.succ m) 16777216 (leN (Nat.succ id) 32768 (hget id S fun b => vRow b fun e' l => Bool.casesOn (Nat.beq e e') false (vnum (Nat.succ m) l 0 fun c => hput id (.tup l) S fun S' => k .any (.str (Nat.succ m) c) S')))) fun _ => false
theorem freeze_heap {w : World} {g n : Nat} {arr : Array Value} {t : TypeId} {fz : Nat × Nat} (h : w.heap[g]? = some (.cells arr t fz)) : ∃ fz', (w.freeze ⟨g, 0, none⟩ n).heap[g]? = some (.cells arr t fz') := by
  unfold World.freeze
  split
  · exact ⟨fz, h⟩
  · obtain ⟨hlt, hv⟩ := Array.getElem?_eq_some_iff.1 h
    refine ⟨if fz.1 == fz.2 then (0, 0 + n) else (min fz.1 0, max fz.2 (0 + n)), ?_⟩
    simp [Array.getElem?_modify, h]
theorem freeze_same (w : World) (g n : Nat) : (w.freeze ⟨g, 0, none⟩ n).os = w.os ∧ (w.freeze ⟨g, 0, none⟩ n).tape = w.tape ∧ (w.freeze ⟨g, 0, none⟩ n).output = w.output ∧ w.heap.size ≤ (w.freeze ⟨g, 0, none⟩ n).heap.size ∧ ∀ k, k ≠ g → (w.freeze ⟨g, 0, none⟩ n).heap[k]? = w.heap[k]? := by
  unfold World.freeze
  split
  · exact ⟨rfl, rfl, rfl, Nat.le_refl _, fun _ _ => rfl⟩
  · refine ⟨rfl, rfl, rfl, by simp, fun k hk => ?_⟩
    simp only [Array.getElem?_modify]
    rw [if_neg (Ne.symm hk)]
theorem oUStr_ok {t2 : TypeId} (hpt : P.underlying ty = some (.pointer e)) (hc1 : P.cellsOf e = 1) (ho : o.op = .call { callee := .builtin .unsafeString, args := #[x, z], argTypes := #[ty, t2] }) : Sound1 P ξ o (oUStr e (opd x).get (opd z).get) := fun S k hI h => by
  obtain ⟨kk, n, h1, h2⟩ := vIx_ok (opd_ok h)
  have ez : ∀ {ρ : Rho} {a : Act}, Reads ρ ξ (slots S) a o → a.eval z = .int kk (n : Int) := fun {ρ a} hr => by
    have := hr.op (x := z) (by simp [ho, Op.operands, Call.operands])
    rw [h1] at this; exact this
  cases n with
  | zero =>
    have h0 := opd_ok h2
    obtain ⟨b, h3, h4⟩ := isNil_ok (ξ := ξ) h0
    refine ⟨.pure, _, S, h3, rfl, rfl, hI, Pu.c fun ρ a w hr => ⟨.string (bs 0 0), ?_, rfl⟩⟩
    have e1 := h4 ρ _ (hr.op (x := x) (by simp [ho, Op.operands, Call.operands]))
    have e2 := ez hr
    obtain ⟨p, e3⟩ : ∃ p, a.eval x = .pointer p := by
      cases b with
      | true => exact ⟨none, e1⟩
      | false => obtain ⟨q, e⟩ := e1; exact ⟨some q, e⟩
    have hrun : ∀ kk, (Builtin.unsafeString_ #[ty, t2] o.type #[.pointer p, .int kk 0]).run P w = .ok (.string .empty) w := fun kk => by
      have hmax : IntKind.i64.max = 9223372036854775807 := rfl
      cases p with
      | none =>
        have hdef : Builtin.unsafeString_ #[ty, t2] o.type #[.pointer none, .int kk 0] =
            (do
              let n ← asInt (.int kk 0)
              if n < 0 then runtimePanic (.error "unsafe.String: len out of range")
              if n > IntKind.i64.max then unsupported (.unsafePointer "String: a length above the largest int")
              if n = 0 then pure (.string .empty)
              else runtimePanic (.error "unsafe.String: ptr is nil and len is not zero")) := rfl
        rw [hdef]
        simp [asInt, asIntOf, hmax]
      | some a =>
        have hdef : Builtin.unsafeString_ #[ty, t2] o.type #[.pointer (some a), .int kk 0] =
            (do
              let n ← asInt (.int kk 0)
              if n < 0 then runtimePanic (.error "unsafe.String: len out of range")
              if n > IntKind.i64.max then unsupported (.unsafePointer "String: a length above the largest int")
              if n = 0 then pure (.string .empty)
              else if ← variablesAt a (← elemOf ty) n.toNat then do
                let s ← loadBytes a .empty n.toNat
                freeze a n.toNat
                pure (.string s)
              else unsupported (.unsafePointer "String: not so many bytes at ptr")) := rfl
        rw [hdef]
        simp [asInt, asIntOf, hmax]
    have e2 : a.eval z = .int kk 0 := e2
    have hE : (ByteArray.empty : ByteArray) = bs 0 0 := by rfl
    rw [hE] at hrun
    simp [execOp, ho, resolve, invoke, builtin, Sem.run_bind, e3, e2, hrun]
  | succ m =>
    obtain ⟨id, p, h3, h4⟩ := vPtr_ok (opd_ok h2)
    cases p with
    | succ p => cases h4
    | zero =>
      obtain ⟨hlim, h5⟩ := leN_ok h4
      obtain ⟨hid, h6⟩ := leN_ok h5
      have hid : id < 32768 := hid
      rw [hget_eq] at h6
      obtain ⟨e', l, h7, h8⟩ := vRow_ok h6
      obtain ⟨h9, h10⟩ := andB h8
      have := Nat.eq_of_beq_eq_true h9
      subst this
      obtain ⟨b, b1, b2, b3⟩ := vnum_ok h10
      rw [hput_eq] at b2
      have hH : hp S id = .ifc e l := by rw [hp_of hid]; exact h7
      refine ⟨_, _, _, b2, rfl, rfl, inv_put hI hid (by rw [hH]; intro e; cases e), ?_⟩
      rw [hp_put hid]
      have hx : ∀ {ρ : Rho} {a : Act}, Reads ρ ξ (slots S) a o → Tv ρ ξ (.ptr id 0) (a.eval x) := fun {ρ a} hr => by
        have := hr.op (x := x) (by simp [ho, Op.operands, Call.operands])
        rw [h3] at this; exact this
      refine ⟨fun j hj => ?_, fun ρ a w hok hr j hj hn => ?_, fun ρ a w hok hr => ?_⟩
      · unfold upd; split
        · intro e; cases e
        · exact hj
      · unfold upd
        by_cases e : j = id
        · subst e
          have e' : (TvP ρ ξ (.ptr j 0)).1 (a.eval x) := hx hr
          simp only [TvP] at e'
          rw [hn] at e'; exact e'.elim
        · rw [if_neg e]
      · obtain ⟨g, c, arr, t, fz, us, rest, hr1, e3, hw, hsz, ha, hl, hc, _, hfe⟩ := hok.cells (l := l) (hx hr) (.inr (.inl ⟨e, hH⟩))
        obtain ⟨_, rfl⟩ := hfe e hH
        have htk := b3 hl
        have hul : m + 1 ≤ us.length := by
          have := congrArg List.length htk
          simp [Go.Lib.byteCells, b1] at this; omega
        have hcell : ∀ j v, b[j]? = some v → w.cell? ((⟨g, 0, none⟩ : Addr).add j) = some (.int .u8 v.toNat) := fun j v hj => by
          rw [Addr.add_lit, Nat.zero_add]
          have hjl : j < m + 1 := by have := (List.getElem?_eq_some_iff.1 hj).1; omega
          refine cell_us hw ha ?_
          rw [← List.getElem?_take_of_lt hjl, htk]
          simp [Go.Lib.byteCells, hj]
        have hrun := Lib.run_unsafeString_row (P := P) w ty t2 o.type t hpt hc1 g arr.size (shape_of hw) b (by intro e; rw [e] at b1; simp at b1) (by rw [b1, ← Array.length_toList, ha]; simp; omega) (by rw [b1]; omega) hcell
        rw [b1] at hrun
        have ek : ∀ kk, (Builtin.unsafeString_ #[ty, t2] o.type #[.pointer (some ⟨g, 0, none⟩), .int kk ((m + 1 : Nat) : Int)]).run P w = .ok (.string ⟨b.toArray⟩) (w.freeze ⟨g, 0, none⟩ (m + 1)) := fun kk => by
          rw [← hrun]; rfl
        obtain ⟨f1, f2, f3, f4, f5⟩ := freeze_same w g (m + 1)
        obtain ⟨fz', f6⟩ := freeze_heap (n := m + 1) hw
        obtain ⟨q1, q2⟩ := hok.turn hr1 (pv := .tup l) (by intro e; cases e) (w' := w.freeze ⟨g, 0, none⟩ (m + 1)) f1 f2 f3 f4 (fun q _ hq => f5 q hq) ⟨arr, _, fz', f6, hsz, us, rest, ha, hl, hc⟩
        have hbs : (⟨b.toArray⟩ : ByteArray) = bs (m + 1) (b.foldl (fun n c => 256 * n + c.toNat) 0) := by
          have := bl_nb b
          rw [b1] at this
          show (⟨b.toArray⟩ : ByteArray) = ⟨(bl (m + 1) (nb b)).toArray⟩
          rw [this]
        have ek := ek kk
        rw [hbs] at ek
        refine OpWp.of_run (w' := w.freeze ⟨g, 0, none⟩ (m + 1)) ?_ ⟨ρ, q2, q1, rfl⟩
        have e2 := ez hr
        simp only [execOp, ho, resolve, invoke, builtin, Sem.run_bind, Sem.run_pure, List.map_toArray, List.map_cons, List.map_nil, e3, e2, ek, Result.andThen_ok]
end
end Go.Proofs.YtnkkfmnpkgjabaaGreat.Y

/- The runner: maps (what is put in once, and asked for). -/
namespace Go.Proofs.YtnkkfmnpkgjabaaGreat.Y
open Go.RowKit
set_option linter.unusedVariables false
set_option linter.unusedSimpArgs false
/-! ### keys -/
noncomputable def keqA (a b : V) (k : Bool → Bool) : Bool := V.casesOn a false (fun _ _ => false) false (fun kk m => vInt b fun jj n => Bool.casesOn (sameK kk jj) false (k (eqI m n))) (fun _ => false) (fun l m => vStr b fun p n => k (sEq l m p n)) (fun _ => false) (fun _ _ => false) (fun _ _ _ _ _ _ => false) (fun _ _ _ => false) (fun _ _ => false) (fun _ => false) (fun _ => false) (fun _ => false) (fun _ => false)
noncomputable def two (a : V) (k : IntKind → Int → IntKind → Int → Bool) : Bool := vAgg a fun l => vCs l fun x r => vCs r fun y s => isNl s (vInt x fun kk m => vInt y fun jj n => k kk m jj n)
noncomputable def keqP (a b : V) (k : Bool → Bool) : Bool := two a fun k1 m1 j1 n1 => two b fun k2 m2 j2 n2 => Bool.casesOn (sameK k1 k2) false (Bool.casesOn (sameK j1 j2) false (k (Bool.casesOn (eqI m1 m2) false (eqI n1 n2))))
def EqA (a b : V) (r : Bool) : Prop := ∀ (ρ : Rho) (ξ : Nat → Int) u v, Tv ρ ξ a u → Tv ρ ξ b v → (∃ k n n', u = .int k n ∧ v = .int k n' ∧ r = (n == n')) ∨ ∃ s s', u = .string s ∧ v = .string s' ∧ r = (s == s')
def EqP (P : Program) (kt : TypeId) (a b : V) (r : Bool) : Prop := ∀ (ρ : Rho) (ξ : Nat → Int) u v, Tv ρ ξ a u → Tv ρ ξ b v → ∀ w, (Op.equal kt u v).run P w = .ok r w
theorem ba_beq (s t : ByteArray) : (s == t) = decide (s = t) := by
  have h0 : (s == t) = (s.data == t.data) := rfl
  rw [h0]
  by_cases h : s = t
  · subst h; simp
  · rw [decide_eq_false h]
    have : s.data ≠ t.data := fun e => h (by cases s; cases t; simp at e; rw [e])
    simpa using this
theorem keqA_ok {a b : V} {k : Bool → Bool} (h : keqA a b k = true) : ∃ r, k r = true ∧ EqA a b r := by
  cases a with
  | int kk m =>
    obtain ⟨jj, n, h1, h2⟩ := vInt_ok (show vInt b (fun jj n => Bool.casesOn (sameK kk jj) false (k (eqI m n))) = true from h)
    obtain ⟨h3, h4⟩ := andB h2
    have := sameK_eq h3
    subst this
    rw [eqI_eq] at h4
    refine ⟨_, h4, fun ρ ξ u v hu hv => ?_⟩
    rw [h1] at hv
    exact .inl ⟨kk, m, n, hu, hv, rfl⟩
  | str l m =>
    obtain ⟨p, n, h1, h2⟩ := vStr_ok (show vStr b (fun p n => k (sEq l m p n)) = true from h)
    rw [sEq_eq] at h2
    refine ⟨_, h2, fun ρ ξ u v hu hv => ?_⟩
    rw [h1] at hv
    refine .inr ⟨bs l m, bs p n, hu, hv, ?_⟩
    exact (ba_beq _ _).symm
  | _ => cases h
theorem two_ok {a : V} {k : IntKind → Int → IntKind → Int → Bool} (h : two a k = true) : ∃ kk m jj n, k kk m jj n = true ∧ ∀ (ρ : Rho) (ξ : Nat → Int) u, Tv ρ ξ a u → u = .agg #[.int kk m, .int jj n] := by
  obtain ⟨l, e1, h1⟩ := vAgg_ok h
  obtain ⟨x, r, e2, h2⟩ := vCs_ok h1
  obtain ⟨y, s, e3, h3⟩ := vCs_ok h2
  obtain ⟨e4, h4⟩ := isNl_ok h3
  obtain ⟨kk, m, e5, h5⟩ := vInt_ok h4
  obtain ⟨jj, n, e6, h6⟩ := vInt_ok h5
  subst e1; subst e2; subst e3; subst e4; subst e5; subst e6
  refine ⟨kk, m, jj, n, h6, fun ρ ξ u hu => ?_⟩
  obtain ⟨us, rfl, h7, _⟩ := hu
  obtain ⟨u1, q1, rfl, t1, h8⟩ := h7
  obtain ⟨u2, q2, rfl, t2, h9⟩ := h8
  have h9 : q2 = [] := h9
  have t1 : u1 = .int kk m := t1
  have t2 : u2 = .int jj n := t2
  subst h9; subst t1; subst t2; rfl
theorem keqP_ok {P : Program} {kt e : TypeId} {q : IntKind} (hk : P.underlying kt = some (.array 2 e)) (he : P.underlying e = some (.int q)) (hs : X.sizeN P e = 1) {a b : V} {k : Bool → Bool} (h : keqP a b k = true) : ∃ r, k r = true ∧ EqP P kt a b r := by
  obtain ⟨k1, m1, j1, n1, h1, e1⟩ := two_ok h
  obtain ⟨k2, m2, j2, n2, h2, e2⟩ := two_ok h1
  obtain ⟨h3, h4⟩ := andB h2
  obtain ⟨h5, h6⟩ := andB h4
  have := sameK_eq h3
  subst this
  have := sameK_eq h5
  subst this
  have hr : (Bool.casesOn (eqI m1 m2) false (eqI n1 n2) : Bool) = ((m1 == m2) && (n1 == n2)) := by rw [eqI_eq, eqI_eq]; cases m1 == m2 <;> rfl
  rw [hr] at h6
  refine ⟨_, h6, fun ρ ξ u v hu hv w => ?_⟩
  rw [e1 ρ ξ u hu, e2 ρ ξ v hv]
  have hsz : (sizeOf e).run P w = .ok 1 w := by
    have := (X.sizeN_run (P := P) (t := e) (by rw [hs]; rfl)).2 w
    rw [hs] at this; exact this
  have hp : ∀ (x y : Value) (i : Nat) (z : Value), (#[x, y] : Array Value)[i]? = some z → (part e #[x, y] i).run P w = .ok z w := fun x y i z hz => by
    simp [part, isAgg, Sem.run_bind, run_underlying he, hz]
  have hq : ∀ d (kk : IntKind) (x y : Int), (Op.equalIn (d + 1) e (.int kk x) (.int kk y)).run P w = .ok (x == y) w := fun d kk x y => by
    simp [Op.equalIn, run_underlying he]
  show (Op.equalIn (9998 + 2) kt _ _).run P w = _
  rw [Op.equalIn]
  simp only [Sem.run_bind, run_underlying hk, Result.andThen_ok, hsz]
  simp only [Std.Legacy.Range.forIn_eq_forIn_range', Std.Legacy.Range.size]
  simp only [List.range', Nat.sub_zero, Nat.add_sub_cancel, Nat.div_one, List.forIn_cons, List.forIn_nil, Sem.run_bind, hp _ _ 0 _ rfl, hp _ _ 1 _ rfl, Nat.zero_mul, Nat.one_mul, Nat.zero_add, Result.andThen_ok, hq]
  have h1 := hp (.int k1 m1) (.int j1 n1) 1 _ rfl
  have h2 := hp (.int k1 m2) (.int j1 n2) 1 _ rfl
  have h3 : ∀ kk x y, (Op.equalIn 9999 e (.int kk x) (.int kk y)).run P w = .ok (x == y) w := hq 9998
  have h4 := h3 k1 m1 m2
  have h5 := h3 j1 n1 n2
  generalize (m1 == m2) = p1 at *
  generalize (n1 == n2) = p2 at *
  cases p1 <;> cases p2 <;> simp [Sem.run_bind, h1, h2, h4, h5]
/-! ### what is found -/
noncomputable def vfind (keq : V → V → (Bool → Bool) → Bool) (key keys : V) : V → (V → Bool) → Bool → Bool := vrec (fun _ _ kn => kn) (fun a _ ih vals kf kn => vCs vals fun v r => keq key a fun b => Bool.casesOn b (ih r kf kn) (kf v)) keys
def VF (E : V → V → Bool → Prop) (key : V) : V → V → Option V → Prop
  | .cs a ks, vals, r => ∃ v vs b, vals = .cs v vs ∧ E key a b ∧ (b = true → r = some v) ∧ (b = false → VF E key ks vs r)
  | _, _, r => r = none
theorem vfind_ok {keq : V → V → (Bool → Bool) → Bool} {E : V → V → Bool → Prop} (hE : ∀ {a b k}, keq a b k = true → ∃ r, k r = true ∧ E a b r) {key : V} : ∀ {keys vals : V} {kf : V → Bool} {kn : Bool}, vfind keq key keys vals kf kn = true → ∃ r, VF E key keys vals r ∧ (∀ v, r = some v → kf v = true) ∧ (r = none → kn = true) := by
  intro keys
  induction keys with
  | cs a ks _ ih =>
    intro vals kf kn h
    obtain ⟨v, vs, e1, h1⟩ := vCs_ok (show vCs vals (fun v r => keq key a fun b => Bool.casesOn b (vfind keq key ks r kf kn) (kf v)) = true from h)
    obtain ⟨b, h2, h3⟩ := hE h1
    cases b with
    | true => exact ⟨some v, ⟨v, vs, true, e1, h3, fun _ => rfl, (fun h => nomatch h)⟩, (fun w hw => by injection hw with hw; subst hw; exact h2), (fun h => nomatch h)⟩
    | false =>
      obtain ⟨r, k1, k2, k3⟩ := ih h2
      exact ⟨r, ⟨v, vs, false, e1, h3, (fun h => nomatch h), fun _ => k1⟩, k2, k3⟩
  | _ => intro vals kf kn h; exact ⟨none, rfl, fun v hv => (by cases hv), fun _ => h⟩
def FoundIs (ρ : Rho) (ξ : Nat → Int) (r : Option V) (a : Option (Nat × Value)) : Prop := match r with
  | none => a = none
  | some v => ∃ i u, a = some (i, u) ∧ Tv ρ ξ v u
theorem VF.now {key : V} {d : TypeDesc} (hd : (∃ q, d = .int q) ∨ d = .string) {ρ : Rho} {ξ : Nat → Int} {u : Value} (hu : Tv ρ ξ key u) (hdu : (∃ q, d = .int q) → ∃ k n, u = .int k n) (hds : d = .string → ∃ s, u = .string s) : ∀ {es : List MapEntry} {keys vals : V} {r : Option V} (j : Nat), VF EqA key keys vals r → TvL ρ ξ keys (es.map (·.key)) → TvL ρ ξ vals (es.map (·.val)) → ∃ a, Instr.findNow d u es j = some a ∧ FoundIs ρ ξ r a
  | [], keys, vals, r, j, h, hk, hv => by
    have hr : r = none := by
      cases keys with
      | cs a ks => obtain ⟨_, _, e, _⟩ := hk; cases e
      | _ => exact h
    subst hr
    exact ⟨none, rfl, rfl⟩
  | e :: es, keys, vals, r, j, h, hk, hv => by
    cases keys with
    | cs a ks =>
      obtain ⟨v, vs, b, rfl, h1, h2, h3⟩ := h
      obtain ⟨u1, q1, e1, t1, t2⟩ := hk
      injection e1 with e1 e2
      subst e1; subst e2
      obtain ⟨u2, q2, e3, t3, t4⟩ := hv
      injection e3 with e3 e4
      subst e3; subst e4
      have hs : Instr.sameNow d u e.key = some b := by
        rcases h1 ρ ξ u e.key hu t1 with ⟨k, n, n', e5, e6, e7⟩ | ⟨s, s', e5, e6, e7⟩
        · rcases hd with ⟨q, rfl⟩ | rfl
          · rw [e5, e6, e7]; simp [Instr.sameNow]
          · obtain ⟨s, e8⟩ := hds rfl; rw [e8] at e5; cases e5
        · rcases hd with ⟨q, rfl⟩ | rfl
          · obtain ⟨k, n, e8⟩ := hdu ⟨q, rfl⟩; rw [e8] at e5; cases e5
          · rw [e5, e6, e7]; rfl
      cases b with
      | true =>
        rw [h2 rfl]
        exact ⟨some (j, e.val), by simp [Instr.findNow, hs], j, e.val, rfl, t3⟩
      | false =>
        obtain ⟨a, k1, k2⟩ := VF.now hd hu hdu hds (j + 1) (h3 rfl) t2 t4
        exact ⟨a, by simp [Instr.findNow, hs, k1], k2⟩
    | nl => cases hk
    | _ => exact hk.elim
theorem VF.ask {P : Program} {kt : TypeId} {key : V} {ρ : Rho} {ξ : Nat → Int} {u : Value} (hu : Tv ρ ξ key u) (w : World) : ∀ {es : List MapEntry} {keys vals : V} {r : Option V} (j : Nat), VF (EqP P kt) key keys vals r → TvL ρ ξ keys (es.map (·.key)) → TvL ρ ξ vals (es.map (·.val)) → ∃ a, (Instr.findAsking kt u es j).run P w = .ok a w ∧ FoundIs ρ ξ r a
  | [], keys, vals, r, j, h, hk, hv => by
    have hr : r = none := by
      cases keys with
      | cs a ks => obtain ⟨_, _, e, _⟩ := hk; cases e
      | _ => exact h
    subst hr
    exact ⟨none, rfl, rfl⟩
  | e :: es, keys, vals, r, j, h, hk, hv => by
    cases keys with
    | cs a ks =>
      obtain ⟨v, vs, b, rfl, h1, h2, h3⟩ := h
      obtain ⟨u1, q1, e1, t1, t2⟩ := hk
      injection e1 with e1 e2
      subst e1; subst e2
      obtain ⟨u2, q2, e3, t3, t4⟩ := hv
      injection e3 with e3 e4
      subst e3; subst e4
      have hs := h1 ρ ξ u e.key hu t1 w
      cases b with
      | true =>
        rw [h2 rfl]
        exact ⟨some (j, e.val), by simp [Instr.findAsking, Sem.run_bind, hs], j, e.val, rfl, t3⟩
      | false =>
        obtain ⟨a, k1, k2⟩ := VF.ask hu w (j + 1) (h3 rfl) t2 t4
        exact ⟨a, by simp [Instr.findAsking, Sem.run_bind, hs, k1], k2⟩
    | nl => cases hk
    | _ => exact hk.elim
/-- How keys of a type are looked for. -/
structure KeyK (P : Program) (kt : TypeId) (pre : V → Bool → Bool) (keq : V → V → (Bool → Bool) → Bool) : Prop where
  find : ∀ {key keys vals : V} {kf : V → Bool} {kn : Bool}, pre key (vfind keq key keys vals kf kn) = true → ∃ r, (∀ v, r = some v → kf v = true) ∧ (r = none → kn = true) ∧
    ∀ (ρ : Rho) (ξ : Nat → Int) (u : Value) (es : Array MapEntry) (w : World), Tv ρ ξ key u → TvL ρ ξ keys (es.toList.map (·.key)) → TvL ρ ξ vals (es.toList.map (·.val)) → (∀ em, (Instr.checkKey em 10000 kt u).run P w = .ok () w) ∧ ∃ a, (Instr.findKey kt u es.toList).run P w = .ok a w ∧ FoundIs ρ ξ r a
theorem run_fk {P : Program} {w : World} {kt : TypeId} {d : TypeDesc} {k : Value} {l : List MapEntry} {a : Option (Nat × Value)} (hd : P.underlying kt = some d) (h : Instr.findNow d k l 0 = some a) : (Instr.findKey kt k l).run P w = .ok a w := by
  simp [Instr.findKey, run_underlying hd, Result.andThen, h]
theorem run_ck {P : Program} {w : World} {kt : TypeId} {d : TypeDesc} {u : Value} (hd : P.underlying kt = some d) (h : (∃ q, d = .int q) ∨ d = .string) (em : Bool) (n : Nat) : (Instr.checkKey em (n + 1) kt u).run P w = .ok () w := by
  unfold Instr.checkKey
  simp only [Sem.run_bind, run_underlying hd, Result.andThen]
  rcases h with ⟨q, rfl⟩ | rfl <;> rfl
noncomputable def preI (key : V) (b : Bool) : Bool := vInt key fun _ _ => b
noncomputable def preS (key : V) (b : Bool) : Bool := vStr key fun _ _ => b
noncomputable def preP (key : V) (b : Bool) : Bool := two key fun _ _ _ _ => b
theorem KeyK.int {P : Program} {kt : TypeId} {q : IntKind} (hk : P.underlying kt = some (.int q)) : KeyK P kt preI keqA := ⟨fun {key keys vals kf kn} h => by
  obtain ⟨kk, n, e, h0⟩ := vInt_ok h
  obtain ⟨r, h1, h2, h3⟩ := vfind_ok (E := EqA) keqA_ok h0
  refine ⟨r, h2, h3, fun ρ ξ u es w hu t1 t2 => ⟨fun em => run_ck hk (.inl ⟨q, rfl⟩) em 9999, ?_⟩⟩
  have hu2 : u = .int kk n := by rw [e] at hu; exact hu
  obtain ⟨a, a1, a2⟩ := VF.now (d := .int q) (.inl ⟨q, rfl⟩) hu (fun _ => ⟨kk, n, hu2⟩) (fun h => by cases h) 0 h1 t1 t2
  exact ⟨a, run_fk hk a1, a2⟩⟩
theorem KeyK.str {P : Program} {kt : TypeId} (hk : P.underlying kt = some .string) : KeyK P kt preS keqA := ⟨fun {key keys vals kf kn} h => by
  obtain ⟨kk, n, e, h0⟩ := vStr_ok h
  obtain ⟨r, h1, h2, h3⟩ := vfind_ok (E := EqA) keqA_ok h0
  refine ⟨r, h2, h3, fun ρ ξ u es w hu t1 t2 => ⟨fun em => run_ck hk (.inr rfl) em 9999, ?_⟩⟩
  have hu2 : u = .string (bs kk n) := by rw [e] at hu; exact hu
  obtain ⟨a, a1, a2⟩ := VF.now (d := .string) (.inr rfl) hu (fun ⟨_, h⟩ => by cases h) (fun _ => ⟨_, hu2⟩) 0 h1 t1 t2
  exact ⟨a, run_fk hk a1, a2⟩⟩
theorem KeyK.pair {P : Program} {kt e : TypeId} {q : IntKind} (hk : P.underlying kt = some (.array 2 e)) (he : P.underlying e = some (.int q)) (hs : X.sizeN P e = 1) : KeyK P kt preP keqP := ⟨fun {key keys vals kf kn} h => by
  obtain ⟨kk, m, jj, n, h0, e0⟩ := two_ok h
  obtain ⟨r, h1, h2, h3⟩ := vfind_ok (E := EqP P kt) (fun {a b k} h => keqP_ok hk he hs h) h0
  refine ⟨r, h2, h3, fun ρ ξ u es w hu t1 t2 => ⟨fun em => ?_, ?_⟩⟩
  · rw [e0 ρ ξ u hu]
    have hsz : (sizeOf e).run P w = .ok 1 w := by
      have := (X.sizeN_run (P := P) (t := e) (by rw [hs]; rfl)).2 w
      rw [hs] at this; exact this
    have hp : ∀ (x y : Value) (i : Nat) (z : Value), (#[x, y] : Array Value)[i]? = some z → (part e #[x, y] i).run P w = .ok z w := fun x y i z hz => by
      simp [part, isAgg, Sem.run_bind, run_underlying he, hz]
    have hq : ∀ u, (Instr.checkKey em 9999 e u).run P w = .ok () w := fun u => run_ck he (.inl ⟨q, rfl⟩) em 9998
    show (Instr.checkKey em (9999 + 1) kt _).run P w = _
    rw [Instr.checkKey]
    simp only [Sem.run_bind, run_underlying hk, Result.andThen_ok, hsz]
    simp only [Std.Legacy.Range.forIn_eq_forIn_range', Std.Legacy.Range.size]
    simp only [List.range', Nat.sub_zero, Nat.add_sub_cancel, Nat.div_one, List.forIn_cons, List.forIn_nil, Sem.run_bind, hsz, hp _ _ 0 _ rfl, hp _ _ 1 _ rfl, Nat.zero_mul, Nat.one_mul, Nat.zero_add, Nat.mul_one, Result.andThen_ok, hq, Sem.run_pure]
  · obtain ⟨a, a1, a2⟩ := VF.ask hu w 0 h1 t1 t2
    refine ⟨a, ?_, a2⟩
    rw [run_findKey_eq w (by rw [hk])]
    exact a1⟩
section
variable {P : Program} {ξ : Nat → Int} {o : Oper} {S : St} {k : Kt} {ty ty2 kt et : TypeId} {x z y : Operand} {pre : V → Bool → Bool} {keq : V → V → (Bool → Bool) → Bool}
/-! ### maps -/
noncomputable def vMp (v : V) (k : Nat → Bool) : Bool := V.casesOn v false (fun _ _ => false) false (fun _ _ => false) (fun _ => false) (fun _ _ => false) (fun _ => false) (fun _ _ => false) (fun _ _ _ _ _ _ => false) (fun _ _ _ => false) (fun _ _ => false) k (fun _ => false) (fun _ => false) (fun _ => false)
theorem vMp_ok {v : V} {k : Nat → Bool} (h : vMp v k = true) : ∃ i, v = .mp i ∧ k i = true := by cases v <;> first | exact ⟨_, rfl, h⟩ | cases h
noncomputable def oMkMap (S : St) (k : Kt) : Bool := hnew (.cs .nl .nl) S fun i S' => k (.new i (.cs .nl .nl)) (.mp i) S'
theorem oMkMap_ok (ho : o.op = .makeMap ty none) : Sound1 P ξ o oMkMap := fun S k hI h => by
  obtain ⟨hs, S', hk, he, htk, hI', hH, hu⟩ := hnew_ok hI h
  refine new_ok (by intro e; cases e) hk he htk hI' hH hu hs fun ρ a w hr => ?_
  refine ⟨.map (some w.heap.size), w.alloc (.map #[] 0), w.heap.size, 0, ?_, rfl, rfl, rfl, by simp, fun k hk => Below.heap_alloc w _ k hk, Nat.le_refl _, by simp, fun ρ' _ => ⟨#[], 0, heap_alloc_new w _, rfl, rfl⟩, fun ρ' h => ?_⟩
  · have hrun := run_makeMap (P := P) ty w
    simp only [execOp, ho, Option.map_none, Sem.run_bind, hrun, Result.andThen_ok, Sem.run_pure]
  · show (TvP ρ' ξ (.mp S.nx)).1 _
    simp only [TvP]; rw [h]
theorem mp_at {ρ : Rho} {H : Nat → V} {w : World} (hok : Ok ρ ξ H w) {id : Nat} {u : Value} (hu : Tv ρ ξ (.mp id) u) {l r : V} (hH : H id = .cs l r) : ∃ g c es clock, ρ id = .at g c ∧ u = .map (some g) ∧ w.heap[g]? = some (.map es clock) ∧ TvL ρ ξ l (es.toList.map (·.key)) ∧ TvL ρ ξ r (es.toList.map (·.val)) := by
  have hu : (TvP ρ ξ (.mp id)).1 u := hu
  simp only [TvP] at hu
  cases hr : ρ id with
  | no => rw [hr] at hu; exact hu.elim
  | dead => have := hok.dead id hr; rw [hH] at this; cases this
  | «at» g c =>
    rw [hr] at hu
    have hb := hok.blk id g c hr
    rw [hH] at hb
    obtain ⟨es, clock, h1, h2, h3⟩ := hb
    exact ⟨g, c, es, clock, rfl, hu, h1, h2, h3⟩
noncomputable def oLook (pre : V → Bool → Bool) (keq : V → V → (Bool → Bool) → Bool) (zv : V) (x z : St → K1 → Bool) (S : St) (k : Kt) : Bool := x S fun m => vMp m fun id => z S fun key => leN (Nat.succ id) 32768 (hget id S fun b => vCs b fun keys vals => pre key (vfind keq key keys vals (fun v => k (.read id) v S) (k (.read id) zv S)))
theorem oLook_ok {i : TypeInfo} {zv : Value} (hm : P.underlying ty = some (.map kt et)) (hK : KeyK P kt pre keq) (hi : P.info? et = some i) (hz : i.zero = some zv) (ho : o.op = .lookup ty x z false) : Sound1 P ξ o (oLook pre keq (cV zv) (opd x).get (opd z).get) := fun S k hI h => by
  obtain ⟨id, h1, h2⟩ := vMp_ok (opd_ok h)
  have h2 := opd_ok h2
  obtain ⟨hid, h3⟩ := leN_ok h2
  have hid : id < 32768 := hid
  rw [hget_eq] at h3
  obtain ⟨keys, vals, h4, h5⟩ := vCs_ok h3
  obtain ⟨r, k1, k2, k3⟩ := hK.find h5
  have hH : hp S id = .cs keys vals := by rw [hp_of hid]; exact h4
  have hk : ∃ v, k (.read id) v S = true ∧ (r = some v ∨ (r = none ∧ v = cV zv)) := by
    cases r with
    | none => exact ⟨_, k2 rfl, .inr ⟨rfl, rfl⟩⟩
    | some v => exact ⟨v, k1 v rfl, .inl rfl⟩
  obtain ⟨v, hkv, hv⟩ := hk
  refine ⟨_, v, S, hkv, rfl, rfl, hI, rfl, (by rw [hH]; intro e; cases e), fun G hG => .quiet fun ρ a w hok hr => ?_⟩
  have e1 := hr.op (x := x) (by simp [ho, Op.operands])
  have e2 := hr.op (x := z) (by simp [ho, Op.operands])
  rw [h1] at e1
  obtain ⟨g, c, es, clock, _, e3, hw, t1, t2⟩ := mp_at hok e1 (l := keys) (r := vals) (by rw [hG]; exact hH)
  obtain ⟨c1, q, c2, c3⟩ := k3 ρ ξ _ es w e2 t1 t2
  have hget : (getObj g).run P w = .ok (.map es clock) w := by simp [getObj, Sem.run, hw]
  have hzr : (zeroValue et).run P w = .ok zv w := by simp [zeroValue, typeInfo, hi, hz]
  rcases hv with rfl | ⟨rfl, rfl⟩
  · obtain ⟨j, u, rfl, hu⟩ := c3
    refine ⟨u, ?_, hu⟩
    simp only [execOp, ho, e3, Instr.lookup, Sem.run_bind, run_underlying hm, Result.andThen_ok, hget, c1, c2, Sem.run_pure, Bool.false_eq_true, if_false]
  · have c3 : q = none := c3
    subst c3
    refine ⟨zv, ?_, cV_ok _ _ _⟩
    simp only [execOp, ho, e3, Instr.lookup, Sem.run_bind, run_underlying hm, Result.andThen_ok, hget, c1, c2, hzr, Sem.run_pure, Bool.false_eq_true, if_false]
noncomputable def oPutM (pre : V → Bool → Bool) (keq : V → V → (Bool → Bool) → Bool) (x z y : St → K1 → Bool) (S : St) (k : Kt) : Bool := x S fun m => vMp m fun id => z S fun key => y S fun val => leN (Nat.succ id) 32768 (hget id S fun b => vCs b fun keys vals => pre key (vfind keq key keys vals (fun _ => false) (vcat keys (.cs key .nl) fun l => vcat vals (.cs val .nl) fun r => hput id (.cs l r) S fun S' => k .any .undef S')))
theorem oPutM_ok (hm : P.underlying ty = some (.map kt et)) (hK : KeyK P kt pre keq) (ho : o.op = .mapUpdate ty x z y) : Sound1 P ξ o (oPutM pre keq (opd x).get (opd z).get (opd y).get) := fun S k hI h => by
  obtain ⟨id, h1, h2⟩ := vMp_ok (opd_ok h)
  have h2 := opd_ok (opd_ok h2)
  obtain ⟨hid, h3⟩ := leN_ok h2
  have hid : id < 32768 := hid
  rw [hget_eq] at h3
  obtain ⟨keys, vals, h4, h5⟩ := vCs_ok h3
  obtain ⟨r, k1, k2, k3⟩ := hK.find h5
  have hr0 : r = none := by
    cases r with
    | none => rfl
    | some v => exact absurd (k1 v rfl) (by simp)
  subst hr0
  have h6 := k2 rfl
  rw [vcat_eq, vcat_eq, hput_eq] at h6
  have hH : hp S id = .cs keys vals := by rw [hp_of hid]; exact h4
  refine ⟨_, _, _, h6, rfl, rfl, inv_put hI hid (by rw [hH]; intro e; cases e), ?_⟩
  rw [hp_put hid]
  have ex : ∀ {ρ : Rho} {a : Act}, Reads ρ ξ (slots S) a o → Tv ρ ξ (.mp id) (a.eval x) ∧ Tv ρ ξ (opS (slots S) z) (a.eval z) ∧ Tv ρ ξ (opS (slots S) y) (a.eval y) := fun {ρ a} hr => by
    have := hr.op (x := x) (by simp [ho, Op.operands])
    rw [h1] at this
    exact ⟨this, hr.op (by simp [ho, Op.operands]), hr.op (by simp [ho, Op.operands])⟩
  refine ⟨fun j hj => ?_, fun ρ a w hok hr j hj hn => ?_, fun ρ a w hok hr => ?_⟩
  · unfold upd; split
    · intro e; cases e
    · exact hj
  · unfold upd
    by_cases e : j = id
    · subst e
      have e' : (TvP ρ ξ (.mp j)).1 (a.eval x) := (ex hr).1
      simp only [TvP] at e'
      rw [hn] at e'; exact e'.elim
    · rw [if_neg e]
  · obtain ⟨e1, e2, e3⟩ := ex hr
    obtain ⟨g, c, es, clock, hr1, e4, hw, t1, t2⟩ := mp_at hok e1 hH
    obtain ⟨c1, q, c2, c3⟩ := k3 ρ ξ _ es w e2 t1 t2
    have c3 : q = none := c3
    subst c3
    have hget : (getObj g).run P w = .ok (.map es clock) w := by simp [getObj, Sem.run, hw]
    have hset : (setObj g (.map (es.push { key := a.eval z, val := a.eval y, born := clock }) (clock + 1))).run P w = .ok () { w with heap := w.heap.setIfInBounds g (.map (es.push { key := a.eval z, val := a.eval y, born := clock }) (clock + 1)) } := by simp [setObj, Sem.run, hw]
    have hlt : g < w.heap.size := (Array.getElem?_eq_some_iff.1 hw).1
    obtain ⟨q1, q2⟩ := hok.turn hr1 (pv := .cs (catS keys (.cs (opS (slots S) z) .nl)) (catS vals (.cs (opS (slots S) y) .nl))) (by intro e; cases e) (w' := { w with heap := w.heap.setIfInBounds g (.map (es.push { key := a.eval z, val := a.eval y, born := clock }) (clock + 1)) }) rfl rfl rfl (by simp) (fun j _ hj => by simp [Ne.symm hj]) ⟨es.push { key := a.eval z, val := a.eval y, born := clock }, clock + 1, by simp [hlt], by
      simp only [Array.toList_push, List.map_append, List.map_cons, List.map_nil]
      exact TvL_cat t1 ⟨_, [], rfl, e2, rfl⟩, by
      simp only [Array.toList_push, List.map_append, List.map_cons, List.map_nil]
      exact TvL_cat t2 ⟨_, [], rfl, e3, rfl⟩⟩
    refine OpWp.of_skip (w' := { w with heap := w.heap.setIfInBounds g (.map (es.push { key := a.eval z, val := a.eval y, born := clock }) (clock + 1)) }) ?_ ⟨ρ, q2, q1, trivial⟩
    simp only [execOp, ho, e4, Instr.mapUpdate, Sem.run_bind, run_underlying hm, Result.andThen_ok, hget, c1, c2, hset, Sem.run_pure]
end
end Go.Proofs.YtnkkfmnpkgjabaaGreat.Y

/- The runner: rows of bytes as texts. -/
namespace Go.Proofs.YtnkkfmnpkgjabaaGreat.Y
open Go.RowKit
set_option linter.unusedVariables false
set_option linter.unusedSimpArgs false
section
variable {P : Program} {ξ : Nat → Int} {o : Oper} {S : St} {k : Kt} {ty ty2 e : TypeId} {x z y : Operand}
noncomputable def oStr (x : St → K1 → Bool) (S : St) (k : Kt) : Bool := x S fun v => vSl v (fun q => Bool.casesOn (NK.eqb q .slice) false (k .pure (.str 0 0) S)) fun id off w n _ _ => Nat.casesOn n (k .pure (.str 0 0) S) fun m => Bool.casesOn (Nat.beq 1 w) false (leN (Nat.succ id) 32768 (hget id S fun b => vBlk b fun l => vdrop off l fun r => vnum (Nat.succ m) r 0 fun c => k (.read id) (.str (Nat.succ m) c) S))
theorem oStr_ok (h1 : P.underlying ty = some (.slice e)) (h2 : P.underlying ty2 = some .string) (h3 : P.underlying e = some (.int .u8)) (ho : o.op = .convert ty ty2 x) : Sound1 P ξ o (oStr (opd x).get) := fun S k hI h => by
  have hnone : k .pure (.str 0 0) S = true → (∀ ρ u, Tv ρ ξ (opS (slots S) x) u → ∃ b c, u = .slice b 0 c) → ∃ cl v S', k cl v S' = true ∧ S'.e = S.e ∧ S'.tk = S.tk ∧ Inv S' ∧ CStep P ξ o (slots S) (hp S) (hp S') v cl := fun hk hv =>
    ⟨.pure, _, S, hk, rfl, rfl, hI, Pu.c fun ρ a w hr => by
      obtain ⟨b, c, e1⟩ := hv ρ _ (hr.op (x := x) (by simp [ho, Op.operands]))
      refine ⟨.string (bs 0 0), ?_, rfl⟩
      simp only [execOp, ho, e1, Sem.run_bind, run_convert_bytes_string w ty ty2 e b 0 c h1 h3 h2]
      cases b with
      | none => simp [Conv.bytesToString]; rfl
      | some ad => rw [run_bytesToString w ad 0 c [] (by simp [loadCells, loadCellsFrom])]; rfl⟩
  rcases vSl_ok (opd_ok h) with ⟨q, g1, g2⟩ | ⟨id, off, w', n, full, whole, g1, g2⟩
  · obtain ⟨g3, g4⟩ := andB g2
    refine hnone g4 fun ρ u hu => ?_
    rw [g1, NK.eqb_eq g3] at hu
    exact ⟨_, _, hu⟩
  · cases n with
    | zero =>
      refine hnone g2 fun ρ u hu => ?_
      rw [g1] at hu
      obtain ⟨g, q, cap, e, _⟩ := Tv_sl hu
      exact ⟨_, _, e⟩
    | succ m =>
      obtain ⟨g3, g4⟩ := andB g2
      have := Nat.eq_of_beq_eq_true g3
      subst this
      obtain ⟨hid, g5⟩ := leN_ok g4
      have hid : id < 32768 := hid
      rw [hget_eq] at g5
      obtain ⟨l, g6, g7⟩ := vBlk_ok g5
      obtain ⟨g8, g9⟩ := vdrop_ok g7
      obtain ⟨b, b1, b2, b3⟩ := vnum_ok g9
      have hud : hp S id ≠ .undef := by rw [hp_of hid]; rcases g6 with ⟨t, q, h3⟩ | ⟨e, h3⟩ | h3 <;> rw [h3] <;> intro e <;> cases e
      refine ⟨_, _, S, b2, rfl, rfl, hI, rfl, hud, fun G hG => .quiet fun ρ a w hok hr => ?_⟩
      have e1 := hr.op (x := x) (by simp [ho, Op.operands])
      rw [g1] at e1
      obtain ⟨g, q, cap, e3, hq, _, _, _, _, hp', _⟩ := Tv_sl e1
      have := hq (by omega)
      subst this
      obtain ⟨g2', c, arr, t, fz, us, rest, hr1, e4, hw, hsz, ha, hl, hc, _⟩ := hok.cells (l := l) (hp' 0) (by rw [hG, hp_of hid]; exact g6)
      injection e4 with e4; injection e4 with e4; injection e4 with e4 _
      subst e4
      have htk := b3 (TvL_drop (n := q) hl)
      have hul : m + 1 ≤ us.length - q := by
        have := congrArg List.length htk
        simp [Go.Lib.byteCells, b1] at this; omega
      have hld := run_loadCells_list (P := P) w ⟨g, q, none⟩ (Go.Lib.byteCells b) (fun j v hj => by
        rw [Addr.add_lit]
        have hjl : j < m + 1 := by have := (List.getElem?_eq_some_iff.1 hj).1; simp [Go.Lib.byteCells, b1] at this; omega
        refine cell_us hw ha ?_
        rw [← htk, List.getElem?_take_of_lt hjl, List.getElem?_drop] at hj
        exact hj)
      have hbl : (Go.Lib.byteCells b).length = m + 1 := by simp [Go.Lib.byteCells, b1]
      rw [hbl] at hld
      have hrun := run_bytesToString (P := P) w ⟨g, q, none⟩ (m + 1) cap (b.map fun b => ((b.toNat : Nat) : Int)) (by rw [hld]; simp [Function.comp_def, Go.Lib.byteCells])
      rw [X.fold_bytes] at hrun
      refine ⟨.string (bs (m + 1) (b.foldl (fun n c => 256 * n + UInt8.toNat c) 0)), ?_, rfl⟩
      have hbs : (⟨b.toArray⟩ : ByteArray) = bs (m + 1) (b.foldl (fun n c => 256 * n + UInt8.toNat c) 0) := by
        have := bl_nb b
        rw [b1] at this
        show (⟨b.toArray⟩ : ByteArray) = ⟨(bl (m + 1) (nb b)).toArray⟩
        rw [this]
      rw [← hbs]
      simp only [execOp, ho, e3, Sem.run_bind, run_convert_bytes_string w ty ty2 e _ _ cap h1 h3 h2, hrun, Result.andThen_ok, Sem.run_pure]
      simp [ByteArray.empty, ByteArray.emptyWithCapacity]
      rfl
end
end Go.Proofs.YtnkkfmnpkgjabaaGreat.Y
