/- The same logic: parts of rows and texts; what makes memory; calls. -/
import Derived.Test.YtnkkfmnpkgjabaaA4
namespace Go.Proofs.Ytnkkfmnpkgjabaa.X
open Go.RowKit
set_option linter.unusedVariables false
set_option linter.unusedSimpArgs false

/-- A bound of a part, or what stands for it. -/
inductive Bnd (t : T) : Option Operand → Nat → Nat → Prop where
  | none (d : Nat) : Bnd t none d d
  | some {v : Operand} {k : IntKind} {i : Int} {d n : Nat} (h : Wk (evA t v) (.v (.int k i))) (h0 : 0 ≤ i) (hn : i.toNat = n) : Bnd t (some v) d n
def byteRow (b : UInt8) : List A := [.v (.int .u8 b.toNat)]
section
variable {P : Program} {o : Oper} {t : T} {bs : BS} {y : A} {x z : Operand} {ty ty2 : TypeId} {d : TypeDesc} {sz by_ : Nat}
theorem run_bound {k : IntKind} {i : Int} {n m : Nat} {code : BoundsCode} (h0 : 0 ≤ i) (hn : i.toNat = n) (hm : n ≤ m) (w : World) : (Instr.sliceBound (.int k i) m code).run P w = .ok n w := by
  simp only [Instr.sliceBound, asIntOf, Sem.run_bind, Sem.run_pure, Result.andThen_ok]
  rw [if_pos (by omega), hn, Sem.run_pure]
/-- The bounds of a part. -/
theorem run_bounds {isS : Bool} {len cap l h m : Nat} {lo hi mx : Option Operand} {a : Act} {w : World} (hr : ∀ v, lo = some v ∨ hi = some v ∨ mx = some v → Rep w (zones bs) (a.eval v) (evA t v))
    (hlo : Bnd t lo 0 l) (hhi : Bnd t hi len h) (hmx : Bnd t mx cap m) (hm : mx = none ∨ hi ≠ none) (h1 : l ≤ h) (h2 : h ≤ m) (h3 : m ≤ cap) : (Instr.sliceBounds isS len cap (lo.map a.eval) (hi.map a.eval) (mx.map a.eval)).run P w = .ok (l, h, m) w := by
  have key : ∀ {v : Operand} {k : IntKind} {i : Int}, (lo = some v ∨ hi = some v ∨ mx = some v) → Wk (evA t v) (.v (.int k i)) → a.eval v = .int k i := fun hv hw => ((hr _ hv).wk hw).val
  unfold Instr.sliceBounds
  cases hmx with
  | none =>
    cases hhi with
    | none =>
      cases hlo with
      | none => simp [Sem.run_bind]
      | some w0 h0 hn =>
        have e := key (.inl rfl) w0
        simp only [Option.map_none, Option.map_some, e, Sem.run_bind, Sem.run_pure, Result.andThen_ok, run_bound h0 hn h1]
    | some w1 h0 hn =>
      have e := key (.inr (.inl rfl)) w1
      cases hlo with
      | none => simp only [Option.map_none, Option.map_some, e, Sem.run_bind, Sem.run_pure, Result.andThen_ok, run_bound h0 hn h2]
      | some w0 h0' hn' =>
        have e' := key (.inl rfl) w0
        simp only [Option.map_none, Option.map_some, e, e', Sem.run_bind, Sem.run_pure, Result.andThen_ok, run_bound h0 hn h2, run_bound h0' hn' h1]
  | some w2 h0 hn =>
    have e := key (.inr (.inr rfl)) w2
    cases hhi with
    | none => rcases hm with hm | hm <;> simp at hm
    | some w1 h0' hn' =>
      have e' := key (.inr (.inl rfl)) w1
      cases hlo with
      | none => simp only [Option.map_none, Option.map_some, e, e', Sem.run_bind, Sem.run_pure, Result.andThen_ok, run_bound h0 hn h3, run_bound h0' hn' h2]
      | some w0 h0'' hn'' =>
        have e'' := key (.inl rfl) w0
        simp only [Option.map_none, Option.map_some, e, e', e'', Sem.run_bind, Sem.run_pure, Result.andThen_ok, run_bound h0 hn h3, run_bound h0' hn' h2, run_bound h0'' hn'' h1]
theorem slice_ops {lo hi mx : Option Operand} {a : Act} {w : World} (ho : o.op = .slice ty x lo hi mx) (h : ∀ x ∈ o.op.operands, Rep w (zones bs) (a.eval x) (evA t x)) : Rep w (zones bs) (a.eval x) (evA t x) ∧ ∀ v, lo = some v ∨ hi = some v ∨ mx = some v → Rep w (zones bs) (a.eval v) (evA t v) := by
  simp only [ho, Op.operands] at h
  refine ⟨h x (by simp), fun v hv => h v ?_⟩
  rcases hv with rfl | rfl | rfl <;> simp
/-- A part of a text. -/
theorem OpQ.part_str {lo hi : Option Operand} {s : ByteArray} {l h : Nat} [h1 : TI P ty .string sz by_] (ho : o.op = .slice ty x lo hi none) (hx : Wk (evA t x) (.v (.string s))) (hlo : Bnd t lo 0 l) (hhi : Bnd t hi s.size h) (hl : l ≤ h) (hh : h ≤ s.size) : OpQ P o t bs (.v (.string (s.extract l h))) :=
  .of_run fun a w hr hb => by
    obtain ⟨hrx, hrv⟩ := slice_ops ho hr
    have e := (hrx.wk hx).val
    have hB := run_bounds (P := P) (isS := false) (len := s.size) (cap := s.size) (mx := none) hrv hlo hhi (.none _) (.inl rfl) hl hh (Nat.le_refl _)
    simp only [Option.map_none] at hB
    refine ⟨.string (s.extract l h), ?_, .v rfl⟩
    simp only [execOp, ho, e, Instr.sliceAt, Sem.run_bind, h1.run_und, Result.andThen_ok, Instr.slice, Option.map_none, Option.isSome_none, Bool.false_eq_true, if_false, Sem.run_pure, hB]
/-- What a part of a row tells. -/
theorem Rep.part {w : World} {Z : Zones} {Ad : Option Addr} {n c l h m : Nat} {rows : List (List A)} (hr : Rep w Z (.slice Ad n c) (.sl rows)) (hs : ∀ r ∈ rows, r.length = sz) (h1 : l ≤ h) (h2 : h ≤ n) (h3 : h ≤ m) (h4 : m ≤ c) :
    Rep w Z (.slice (if m = l then Ad else Ad.map (·.add (l * sz))) (h - l) (m - l)) (.sl ((rows.take h).drop l)) := by
  cases hr with
  | sl hn hc hm sz2 g o us hs2 ha hcell hst h1c hr =>
    subst hn
    have hf : ∀ k y, ((rows.take h).drop l).flatten[k]? = some y → rows.flatten[l * sz + k]? = some y := fun k y hk => by
      rw [flat_dropA (sz := sz) (fun r hr => hs r (List.mem_of_mem_take hr)), List.getElem?_drop, flat_takeA hs] at hk
      rw [List.getElem?_take] at hk
      split at hk
      · exact hk
      · cases hk
    refine .sl (by simp; omega) (by omega) (by omega) sz g (o + l * sz) (fun k => us (l * sz + k)) (fun r hr => hs r (List.mem_of_mem_take (List.mem_of_mem_drop hr))) (fun hp => ?_) (fun k y hk => ?_) (fun k y hk => ?_) (fun k y hk => ?_) (fun k y hk => ?_)
    · rw [if_neg (by omega), ha (by omega)]
      simp [Addr.add_mid]
    · rw [Nat.add_assoc]; exact hcell _ y (hf k y hk)
    · rw [Nat.add_assoc]; exact hst _ y (hf k y hk)
    · exact h1c _ y (hf k y hk)
    · exact hr _ y (hf k y hk)
theorem Rep.slice_inv {w : World} {Z : Zones} {u : Value} {rows : List (List A)} (h : Rep w Z u (.sl rows)) : ∃ Ad c, u = .slice Ad rows.length c ∧ rows.length ≤ c := by
  obtain ⟨Ad, c, e, hc, _⟩ := h.sl_cells
  exact ⟨Ad, c, e, hc⟩
theorem run_sliceAt {e : TypeId} {s1 b1 s2 b2 : Nat} {d2 : TypeDesc} (h1 : TI P ty (.slice e) s1 b1) (h2 : TI P e d2 s2 b2) {Ad : Option Addr} {n c l h m : Nat} {lo hi mx : Option Value} {w : World}
    (hB : (Instr.sliceBounds true n c lo hi mx).run P w = .ok (l, h, m) w) : (Instr.sliceAt ty (.slice Ad n c) lo hi mx).run P w = .ok (.slice (if m = l then Ad else Ad.map (·.add (l * s2))) (h - l) (m - l)) w := by
  simp only [Instr.sliceAt, Instr.slice, Sem.run_bind, h1.run_und, Result.andThen_ok, hB, h2.sizeOf_, Sem.run_pure]
theorem OpQ.part_sl {e : TypeId} {lo hi : Option Operand} {rows : List (List A)} {l h s1 b1 s2 b2 : Nat} {d2 : TypeDesc} [h1 : TI P ty (.slice e) s1 b1] [h2 : TI P e d2 s2 b2] (ho : o.op = .slice ty x lo hi none) (hx : Wk (evA t x) (.sl rows)) (hs : ∀ r ∈ rows, r.length = s2)
    (hlo : Bnd t lo 0 l) (hhi : Bnd t hi rows.length h) (hl : l ≤ h) (hh : h ≤ rows.length) : OpQ P o t bs (.sl ((rows.take h).drop l)) :=
  .of_run fun a w hr hb => by
    obtain ⟨hrx, hrv⟩ := slice_ops ho hr
    have hR := hrx.wk hx
    obtain ⟨Ad, c, e1, hc⟩ := hR.slice_inv
    rw [e1] at hR
    have hB := run_bounds (P := P) (isS := true) (len := rows.length) (cap := c) (mx := none) hrv hlo hhi (.none _) (.inl rfl) hl (by omega) (Nat.le_refl _)
    simp only [Option.map_none] at hB
    refine ⟨_, by simp only [execOp, ho, e1, Option.map_none, Sem.run_bind, run_sliceAt h1 h2 hB, Result.andThen_ok, Sem.run_pure], hR.part hs hl hh (by omega) (Nat.le_refl _)⟩
/-- 's[l:h:h]': a full slice. -/
theorem OpQ.part_clip {e : TypeId} {lo hi mx : Option Operand} {rows : List (List A)} {l h s1 b1 s2 b2 : Nat} {d2 : TypeDesc} [h1 : TI P ty (.slice e) s1 b1] [h2 : TI P e d2 s2 b2] (ho : o.op = .slice ty x lo hi mx) (hx : Wk (evA t x) (.sl rows)) (hs : ∀ r ∈ rows, r.length = s2)
    (hlo : Bnd t lo 0 l) (hhi : Bnd t hi rows.length h) (hmx : ∀ c, Bnd t mx c h) (hm : mx ≠ none ∧ hi ≠ none) (hl : l ≤ h) (hh : h ≤ rows.length) : OpQ P o t bs (.clip ((rows.take h).drop l)) :=
  .of_run fun a w hr hb => by
    obtain ⟨hrx, hrv⟩ := slice_ops ho hr
    have hR := hrx.wk hx
    obtain ⟨Ad, c, e1, hc⟩ := hR.slice_inv
    rw [e1] at hR
    have hB := run_bounds (P := P) (isS := true) (len := rows.length) (cap := c) hrv hlo hhi (hmx c) (.inr hm.2) hl (Nat.le_refl _) (by omega)
    exact ⟨_, by simp only [execOp, ho, e1, Sem.run_bind, run_sliceAt h1 h2 hB, Result.andThen_ok, Sem.run_pure], .clip (hR.part hs hl hh (Nat.le_refl _) (by omega))⟩
theorem OpQ.clip_all {e : TypeId} {hi mx : Option Operand} {rows : List (List A)} {h s1 b1 s2 b2 : Nat} {d2 : TypeDesc} [h1 : TI P ty (.slice e) s1 b1] [h2 : TI P e d2 s2 b2] (ho : o.op = .slice ty x none hi mx) (hx : Wk (evA t x) (.sl rows)) (hs : ∀ r ∈ rows, r.length = s2)
    (hhi : Bnd t hi rows.length h) (hmx : ∀ c, Bnd t mx c h) (hm : mx ≠ none ∧ hi ≠ none) (hh : h = rows.length) : OpQ P o t bs (.clip rows) := by
  have := OpQ.part_clip (P := P) (bs := bs) ho hx hs (.none _) hhi hmx hm (Nat.zero_le _) (Nat.le_of_eq hh)
  rw [hh] at this
  simpa using this
/-- The front, the back of a row. -/
theorem OpQ.front {e : TypeId} {hi : Option Operand} {rows : List (List A)} {h s1 b1 s2 b2 : Nat} {d2 : TypeDesc} [h1 : TI P ty (.slice e) s1 b1] [h2 : TI P e d2 s2 b2] (ho : o.op = .slice ty x none hi none) (hx : Wk (evA t x) (.sl rows)) (hs : ∀ r ∈ rows, r.length = s2) (hhi : Bnd t hi rows.length h) (hh : h ≤ rows.length) : OpQ P o t bs (.sl (rows.take h)) := by
  have := OpQ.part_sl (P := P) (bs := bs) ho hx hs (.none _) hhi (Nat.zero_le _) hh
  simpa using this
theorem OpQ.back {e : TypeId} {lo : Option Operand} {rows : List (List A)} {l s1 b1 s2 b2 : Nat} {d2 : TypeDesc} [h1 : TI P ty (.slice e) s1 b1] [h2 : TI P e d2 s2 b2] (ho : o.op = .slice ty x lo none none) (hx : Wk (evA t x) (.sl rows)) (hs : ∀ r ∈ rows, r.length = s2) (hlo : Bnd t lo 0 l) (hl : l ≤ rows.length) : OpQ P o t bs (.sl (rows.drop l)) := by
  have := OpQ.part_sl (P := P) (bs := bs) ho hx hs hlo (.none _) hl (Nat.le_refl _)
  rw [List.take_of_length_le (Nat.le_refl _)] at this
  exact this
end
end Go.Proofs.Ytnkkfmnpkgjabaa.X
