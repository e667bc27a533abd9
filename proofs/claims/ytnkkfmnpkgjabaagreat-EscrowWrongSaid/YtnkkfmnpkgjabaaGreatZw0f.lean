/- Steps of lifted code: ways apart; own rows; calls with what they leave. -/
import Derived.Test.YtnkkfmnpkgjabaaGreatZw0e
import Derived.Laws.StructEq
import Derived.Test.YtnkkfmnpkgjabaaGreatZw0d
namespace Go.Proofs.YtnkkfmnpkgjabaaGreat.X
open Go.RowKit
set_option linter.unusedVariables false
set_option linter.unusedSimpArgs false
def bitI (op : BinOp) (k : IntKind) (a b : Int) : Int := (bitsI op k a b).getD 0
theorem GU.gO {q2 : Option (Nat × Nat)} {rs2 : List (List A)} {s2 : Nat} {e2 : TypeId} {r : BS} {o : Option (Nat × Nat)} {n sz : Nat} {e : TypeId} {n' : Nat} {B : Option (Nat × Nat) → BS} (h : GU r o n sz e n' B) : GU (X.gO q2 rs2 s2 e2 r) o n sz e n' (fun o' => X.gO q2 rs2 s2 e2 (B o')) := by
  cases q2 with
  | none => exact h
  | some y => exact .cons h
section
variable {P : Program} {N : Nat} {ops : Array Oper} {Q : Exit → T → BS → Prop} {o : Oper} {rest : List Oper} {t : T} {bs : BS} {y : A} {x z : Operand} {ty ty2 : TypeId} {td : TypeDesc} {sz by_ : Nat}
theorem AW.bc {G : Prop} (b : Bool) (ht : b = true → G) (hf : b = false → G) : G := by cases b with | true => exact ht rfl | false => exact hf rfl
theorem AW.cond_t {u v : Code} {c : Operand} (hc : evA t c = .v (.bool true)) (h : AW P N u Q t bs) : AW P N (.cond c u v) Q t bs := .if_t hc h
theorem AW.cond_f {u v : Code} {c : Operand} (hc : evA t c = .v (.bool false)) (h : AW P N v Q t bs) : AW P N (.cond c u v) Q t bs := .if_f hc h
/-! ### what a call leaves -/
theorem ACalls.wk0 {K : Nat} {args : List A} {q : A} {B : BS} (h : ACalls P K args bs fun y b => Wk y q ∧ b = B) : ACalls P K args bs fun y b => y = q ∧ b = B :=
  fun w us hs hu hb => (h w us hs hu hb).mono fun e w' ⟨u, y, bs', h1, ⟨h2, h3⟩, h4, h5⟩ => ⟨u, q, bs', h1, ⟨rfl, h3⟩, h4.wk h2, h5⟩
theorem ACalls.wk1 {α : Type} {K : Nat} {args : List A} {q : α → A} {B : α → BS} (h : ACalls P K args bs fun y b => ∃ a, Wk y (q a) ∧ b = B a) : ACalls P K args bs fun y b => ∃ a, y = q a ∧ b = B a :=
  fun w us hs hu hb => (h w us hs hu hb).mono fun e w' ⟨u, y, bs', h1, ⟨a, h2, h3⟩, h4, h5⟩ => ⟨u, q a, bs', h1, ⟨a, rfl, h3⟩, h4.wk h2, h5⟩
theorem ACalls.wk2 {α β : Type} {K : Nat} {args : List A} {q : α → β → A} {B : α → β → BS} (h : ACalls P K args bs fun y b => ∃ a a2, Wk y (q a a2) ∧ b = B a a2) : ACalls P K args bs fun y b => ∃ a a2, y = q a a2 ∧ b = B a a2 :=
  fun w us hs hu hb => (h w us hs hu hb).mono fun e w' ⟨u, y, bs', h1, ⟨a, a2, h2, h3⟩, h4, h5⟩ => ⟨u, q a a2, bs', h1, ⟨a, a2, rfl, h3⟩, h4.wk h2, h5⟩
theorem ACalls.wk3 {α β γ : Type} {K : Nat} {args : List A} {q : α → β → γ → A} {B : α → β → γ → BS} (h : ACalls P K args bs fun y b => ∃ a a2 a3, Wk y (q a a2 a3) ∧ b = B a a2 a3) : ACalls P K args bs fun y b => ∃ a a2 a3, y = q a a2 a3 ∧ b = B a a2 a3 :=
  fun w us hs hu hb => (h w us hs hu hb).mono fun e w' ⟨u, y, bs', h1, ⟨a, a2, a3, h2, h3⟩, h4, h5⟩ => ⟨u, q a a2 a3, bs', h1, ⟨a, a2, a3, rfl, h3⟩, h4.wk h2, h5⟩

/-! ### own rows -/
section
variable {α : Type} {R : α → List A} {l l2 : List α} {e : TypeId} {s1 b1 s2 b2 : Nat} {d2 : TypeDesc} {zs : List Value} {cs : List A}
theorem rows_sz (hs : ∀ x, (R x).length = s2) (l : List α) : ∀ r ∈ l.map R, r.length = s2 := fun r hr => by obtain ⟨x, _, rfl⟩ := List.mem_map.1 hr; exact hs x
theorem OpW.app_own0 [h1 : TI P ty (.slice e) s1 b1] [h2 : TI P e d2 s2 b2] [hz : TC P e zs cs] (ho : o.op = .call { callee := .builtin .append, args := #[x, z], argTypes := #[ty, ty] }) (hx : evA t x = .nil) (hy : Wk (evA t z) (.sl (l2.map R))) (hzl : cs.length = s2) (hpos : 0 < s2) (hb2 : 0 < b2) (hs : ∀ x, (R x).length = s2) (hbd : (0 + l2.length) * b2 ≤ 140737488355328) :
    OpW P o t bs fun y bs' => ∃ q : Option (Nat × Nat), y = .ow q l2.length ∧ bs' = gO q (l2.map R) s2 e bs := by
  have := OpW.app_ow (P := P) (e := e) (q := none) (k := 0) (rs := []) (r := bs) (bs := bs) ho (by rw [hx]; exact .nil_ow) (.inr hx) hy (PickL.here (f := gO none [] s2 e)) rfl hzl hpos hb2 (rows_sz hs l2) (by simpa using hbd)
  simpa using this
theorem OpW.app_own {q : Option (Nat × Nat)} {k : Nat} {r : BS} [h1 : TI P ty (.slice e) s1 b1] [h2 : TI P e d2 s2 b2] [hz : TC P e zs cs] (ho : o.op = .call { callee := .builtin .append, args := #[x, z], argTypes := #[ty, ty] }) (hx : Wk (evA t x) (.ow q k)) (hxe : evA t x = .ow q k ∨ evA t x = .nil) (hy : Wk (evA t z) (.sl (l2.map R))) (hm : PickL bs (gO q (l.map R) s2 e) r) (hk : l.length = k)
    (hzl : cs.length = s2) (hpos : 0 < s2) (hb2 : 0 < b2) (hs : ∀ x, (R x).length = s2) (hbd : (k + l2.length) * b2 ≤ 140737488355328) :
    OpW P o t bs fun y bs' => ∃ q' : Option (Nat × Nat), y = .ow q' (l ++ l2).length ∧ bs' = gO q' ((l ++ l2).map R) s2 e r := by
  have := OpW.app_ow (P := P) (e := e) ho hx hxe hy hm (by rw [List.length_map]; exact hk) hzl hpos hb2 (rows_sz hs l2) (by simpa using hbd)
  subst hk
  simpa using this
theorem OpW.app_def {g c k : Nat} {r : BS} [h1 : TI P ty (.slice e) s1 b1] [h2 : TI P e d2 s2 b2] [hz : TC P e zs cs] (ho : o.op = .call { callee := .builtin .append, args := #[x, z], argTypes := #[ty, ty] }) (hx : Wk (evA t x) (.ms g 0 k c)) (hy : Wk (evA t z) (.sl (l2.map R))) (hm : Pick bs (g, .rows (l.map R) c s2 e) r) (hk : l.length = k)
    (hzl : cs.length = s2) (hpos : 0 < s2) (hb2 : 0 < b2) (hs : ∀ x, (R x).length = s2) (hp : 0 < l2.length) (hbd : (k + l2.length) * b2 ≤ 140737488355328) :
    OpW P o t bs fun y bs' => ∃ g' c', y = .ms g' 0 (l ++ l2).length c' ∧ bs' = (g', .rows ((l ++ l2).map R) c' s2 e) :: r := by
  subst hk
  have := (OpW.app_rows (P := P) (e := e) ho hx hy (List.take_of_length_le (by simp)) (B := fun g' c' => (g', .rows (l.map R ++ l2.map R) c' s2 e) :: r) (bs := (g, .rows (l.map R) c s2 e) :: r) (fun g' c' => .head) (by simp) hzl hpos hb2 (rows_sz hs l2) (by simpa using hp) (by simpa using hbd)).imp (R' := fun y bs' => ∃ g' c', y = .ms g' 0 (l ++ l2).length c' ∧ bs' = (g', .rows ((l ++ l2).map R) c' s2 e) :: r) fun y b ⟨g', c', e1, e2, _⟩ => ⟨g', c', by simpa using e1, by simpa using e2⟩
  exact this.perm hm.perm fun y b hR => ⟨b, hR, .refl _⟩
theorem SubW.rows {g c s n : Nat} {w : World} {Z : Zones} {rs : List (List A)} (h : BlkOk w Z g (.rows rs c s e)) : BlkOk w Z g (.rows (rs.take n) c s e) := by
  obtain ⟨arr, h1, h2, h3, h4, h5, h6⟩ := h
  refine ⟨arr, h1, by simp; omega, h3, h4, fun r hr => h5 r (List.mem_of_mem_take hr), fun k x hk => h6 k x ?_⟩
  rw [flat_takeA h5] at hk
  rw [List.getElem?_take] at hk
  split at hk
  · exact hk
  · cases hk
theorem BsOk.cut {w : World} {g c s n : Nat} {rs : List (List A)} {r : BS} (h : BsOk w ((g, .rows rs c s e) :: r)) : BsOk w ((g, .rows (rs.take n) c s e) :: r) :=
  ⟨h.nodup, fun x hx => by
    rcases List.mem_cons.1 hx with rfl | hx
    · exact SubW.rows (h.get List.mem_cons_self)
    · exact h.ok x (List.mem_cons_of_mem _ hx)⟩
theorem OpW.front_rows {g c k n : Nat} {hi : Operand} {r : BS} [h1 : TI P ty (.slice e) s1 b1] [h2 : TI P e d2 s2 b2] (ho : o.op = .slice ty x none (some hi) none) (hx : Wk (evA t x) (.ms g 0 k c)) (hm : Pick bs (g, .rows (l.map R) c s2 e) r) (hk : l.length = k) (hhi : Bnd t (some hi) k n) (hn : n ≤ k) (hkc : k ≤ c) :
    OpW P o t bs fun y bs' => y = .ms g 0 (l.take n).length c ∧ bs' = (g, .rows ((l.take n).map R) c s2 e) :: r := by
  subst hk
  have := OpQ.front_ms (P := P) (bs := bs) ho hx hhi (.none _) (.inl rfl) (Nat.le_trans hn hkc) (Nat.le_refl _)
  intro a w h hb K Q hK
  refine this a w h hb K Q fun u w' hu hb' he => ?_
  have hb2 := hb'.perm hm.perm
  have hb3 : BsOk w' ((g, .rows ((l.take n).map R) c s2 e) :: r) := by rw [List.map_take]; exact hb2.cut
  have hz : zones ((g, .rows ((l.take n).map R) c s2 e) :: r) = zones ((g, .rows (l.map R) c s2 e) :: r) := rfl
  refine hK u w' (.ms g 0 (l.take n).length c) _ ⟨rfl, rfl⟩ ?_ hb3 (by rw [hz]; exact he.perm hm.perm)
  have e1 : (l.take n).length = n := by simp; omega
  rw [e1]
  cases hu; exact .ms
/-- 'make': rows that may turn. -/
theorem OpW.make_rows {zq : α} {k j : IntKind} {i1 i2 : Int} {n c : Nat} [h1 : TI P ty (.slice e) s1 b1] [h2 : TI P e d2 s2 b2] [hz : TC P e zs cs] (ho : o.op = .makeSlice ty x z)
    (hx : Wk (evA t x) (.v (.int k i1))) (hz2 : Wk (evA t z) (.v (.int j i2))) (e1 : i1 = (n : Nat)) (e2 : i2 = (c : Nat)) (hnc : n ≤ c) (hl : cs.length = s2) (hR : R zq = cs) (hpos : 0 < s2) (hc : c * b2 ≤ 140737488355328 ∧ c ≤ 140737488355328) :
    OpW P o t bs fun q bs' => ∃ g, q = .ms g 0 (List.replicate n zq).length c ∧ bs' = (g, .rows ((List.replicate n zq).map R) c s2 e) :: bs := by
  obtain ⟨hc, hc2⟩ := hc
  subst e1; subst e2
  intro a w h hb K Q hK
  have e1 := (op_rep h (x := x) (by simp [ho, Op.operands]) hx).val
  have e2 := (op_rep h (x := z) (by simp [ho, Op.operands]) hz2).val
  obtain ⟨zv, hz1, hz3⟩ := hz.z.run
  obtain ⟨i, hi1, hi2, hi3⟩ := h2.info
  have hzl : zs.length = s2 := by have := congrArg List.length hz.abs; simp at this; omega
  have w1 : IntKind.i64.wrap (n : Int) = n := IntWalk.i64_in _ ⟨by omega, by omega⟩
  have w2 : IntKind.i64.wrap (c : Int) = c := IntWalk.i64_in _ ⟨by omega, by omega⟩
  have hbc : ¬ (i.bytes * (c : Int) > 2 ^ 48) := by
    rw [hi3, Int.mul_comm]
    have : ((c * b2 : Nat) : Int) ≤ 140737488355328 := by omega
    rw [Int.natCast_mul] at this
    omega
  have hRr : CellsRep w (zones bs) ((Array.range (c * s2)).map (zs.toArray[· % zs.toArray.size]!)) (List.replicate c cs).flatten := by
    have hz0 := zero_rep hz w (zones bs)
    refine ⟨by simp [hl], fun q v hq => ?_⟩
    have hlt : q < c * s2 := by have := (List.getElem?_eq_some_iff.1 hq).1; rw [rep_rows_len, hl] at this; exact this
    rw [flat_rep cs c q (by omega) (by rw [hl]; exact hlt), hl] at hq
    have hmod : q % s2 < zs.length := by rw [hzl]; exact Nat.mod_lt _ hpos
    have e : ((Array.range (c * s2)).map (zs.toArray[· % zs.toArray.size]!)).getD q undef = zs.toArray.getD (q % s2) undef := by
      simp [hlt, hzl, List.getElem?_eq_getElem hmod]
    rw [e]
    exact hz0.2 _ v hq
  obtain ⟨b1', b2'⟩ := hb.push (w' := w.alloc (.cells ((Array.range (c * s2)).map (zs.toArray[· % zs.toArray.size]!)) e)) (g := w.heap.size) (b := .rows ((List.replicate n zq).map R) c s2 e) (Nat.le_refl _) rfl rfl rfl (by simp) (fun k hk => Below.heap_alloc w _ k hk) fun he => by
    refine ⟨_, heap_alloc_new w _, by simpa using hnc, by unfold maxLen; omega, by simp, fun r hr => ?_, fun k q hk => ?_⟩
    · rw [List.map_replicate] at hr; rw [(List.mem_replicate.1 hr).2, hR, hl]
    · rw [List.map_replicate, hR] at hk
      have hlt : k < n * s2 := by have := (List.getElem?_eq_some_iff.1 hk).1; rw [rep_rows_len, hl] at this; exact this
      have hk2 : (List.replicate c cs).flatten[k]? = some q := by
        rw [flat_rep cs c k (by omega) (by rw [hl]; exact Nat.lt_of_lt_of_le hlt (Nat.mul_le_mul_right _ hnc))]
        rwa [flat_rep cs n k (by omega) (by rw [hl]; exact hlt)] at hk
      exact ⟨(hRr.2 k q hk2).1.ext he, (hRr.2 k q hk2).2⟩
  have hrun : (execOp a.eval o).run P w = .ok (.value (.slice (some ⟨w.heap.size, 0, none⟩) n c)) (w.alloc (.cells ((Array.range (c * s2)).map (zs.toArray[· % zs.toArray.size]!)) e)) := by
    have hneg : ¬ ((c : Int) < 0) := by omega
    have hneg2 : ¬ ((n : Int) < 0) := by omega
    have hgt : ¬ ((n : Int) > c) := by omega
    have hroom : ∀ w, (askRoom (c * i.bytes)).run P w = .ok () w := fun w => by unfold askRoom; split <;> simp [mark, Sem.run]
    by_cases h0 : c * s2 = 0
    · simp only [execOp, ho, e1, e2, Instr.makeSlice, Sem.run_bind, h1.run_und, Result.andThen_ok, asInt, asIntOf, Sem.run_pure, typeInfo, program, Sem.run, hi1, w1, w2, hneg, hneg2, hgt, hbc, decide_false, Bool.or_false, Bool.false_eq_true, if_false, Int.toNat_natCast, hroom, h2.sizeOf_, h0, if_true, run_newRow, show Array.range 0 = (#[] : Array Nat) from rfl]
      simp
    · simp only [execOp, ho, e1, e2, Instr.makeSlice, Sem.run_bind, h1.run_und, Result.andThen_ok, asInt, asIntOf, Sem.run_pure, typeInfo, program, Sem.run, hi1, w1, w2, hneg, hneg2, hgt, hbc, decide_false, Bool.or_false, Bool.false_eq_true, if_false, Int.toNat_natCast, hroom, h2.sizeOf_, h0, hz1, hz3, run_newRow]
  unfold Oper.wp
  rw [hrun]
  exact hK _ _ _ _ ⟨w.heap.size, rfl, rfl⟩ (by rw [List.length_replicate]; exact .ms) b1' b2'
/-- 'make' of none, with room: a row that grows. -/
theorem OpW.make_gr {k j : IntKind} {i1 i2 : Int} {c : Nat} [h1 : TI P ty (.slice e) s1 b1] [h2 : TI P e d2 s2 b2] [hz : TC P e zs cs] (ho : o.op = .makeSlice ty x z)
    (hx : Wk (evA t x) (.v (.int k i1))) (hz2 : Wk (evA t z) (.v (.int j i2))) (e1 : i1 = 0) (e2 : i2 = (c : Nat)) (hl : cs.length = s2) (hpos : 0 < s2) (hc : c * b2 ≤ 140737488355328 ∧ c ≤ 140737488355328) :
    OpW P o t bs fun q bs' => ∃ p : Option (Nat × Nat), q = .gr p (([] : List α).map R) ∧ bs' = gB p ([] : List α).length s2 e bs := by
  subst e1
  have := OpW.make_rows (R := fun _ : Unit => cs) (zq := ()) (n := 0) (bs := bs) (P := P) (o := o) (t := t) ho hx hz2 rfl e2 (Nat.zero_le _) hl rfl hpos hc
  intro a w h hb K Q hK
  refine this a w h hb K Q fun u w' y bs' ⟨g, e1, e2⟩ hu hb' he => ?_
  subst e1; subst e2
  have hgr : BlkOk w' (zones ((g, .tip 0 c s2 e) :: bs)) g (.tip 0 c s2 e) := by
    obtain ⟨arr, a1, a2, a3, a4, _⟩ := hb'.get List.mem_cons_self
    exact ⟨arr, (0, 0), a1, Nat.zero_le _, a3, a4, fun k _ => by simp⟩
  have hz : zones ((g, Blk.tip 0 c s2 e) :: bs) = zones ((g, .rows ((List.replicate 0 ()).map fun _ : Unit => cs) c s2 e) :: bs) := by rw [zones_cons, zones_cons]; simp [Blk.from_]
  have hb2 : BsOk w' ((g, .tip 0 c s2 e) :: bs) := ⟨hb'.nodup, fun x hx => by
    rcases List.mem_cons.1 hx with rfl | hx
    · exact hgr
    · have := hb'.ok x (List.mem_cons_of_mem _ hx); rw [hz]; exact this⟩
  have hcm : c ≤ maxLen := by obtain ⟨_, _, _, a3, _⟩ := hgr; unfold maxLen; omega
  cases hu
  refine hK _ _ _ _ ⟨some (g, c), rfl, rfl⟩ ?_ hb2 (by rw [show zones (gB (some (g, c)) ([] : List α).length s2 e bs) = _ from hz]; exact he)
  exact .gr (.tip (.sl rfl (Nat.zero_le _) hcm s2 g 0 (fun _ => undef) (by simp) (by simp) (by simp) (by simp) (by simp) (by simp)))
end
/-! ### one rule for each kind -/
theorem Q.mv  (ho : o.op = .move x := by rfl) (hx : evA t x = y := by exact (by (conv => lhs; whnf) <;> rfl)) : OpQ P o t bs y := .move ho hx
theorem Q.asg  (ho : o.op = .assign x := by rfl) (hx : evA t x = y := by exact (by (conv => lhs; whnf) <;> rfl)) : OpQ P o t bs y := .assign ho hx
theorem Q.ld {g p : Nat} {cs : List A} (ho : o.op = .load ty x := by rfl) (h1 : TI P ty td sz by_ := by infer_instance) (hx : Wk (evA t x) (.ptr g p) := by exact Wk.refl _) (hm : (g, .cells cs) ∈ bs := by exact (by repeat (first | exact List.mem_cons_self | assumption | refine List.mem_cons_of_mem _ ?_ | refine mem_gB ?_ | refine mem_gO ?_))) (hd : td.isRow = false := by rfl) (hy : cs[p]? = some y := by rfl) : OpQ P o t bs y := .load_ptr ho hx hm hd hy
theorem Q.lds {g : Nat} {cs : List A} (ho : o.op = .load ty x := by rfl) (h1 : TI P ty td sz by_ := by infer_instance) (hx : Wk (evA t x) (.ptr g 0) := by exact Wk.refl _) (hm : (g, .cells cs) ∈ bs := by exact (by repeat (first | exact List.mem_cons_self | assumption | refine List.mem_cons_of_mem _ ?_ | refine mem_gB ?_ | refine mem_gO ?_))) (hd : td.isRow = true := by rfl) (hl : cs.length = sz := by rfl) : OpQ P o t bs (.agg cs) := .loads_ptr_all ho hx hm hd hl
theorem Q.ldp {g p : Nat} {cs ys : List A} (ho : o.op = .load ty x := by rfl) (h1 : TI P ty td sz by_ := by infer_instance) (hx : Wk (evA t x) (.ptr g p) := by exact Wk.refl _) (hm : (g, .cells cs) ∈ bs := by exact (by repeat (first | exact List.mem_cons_self | assumption | refine List.mem_cons_of_mem _ ?_ | refine mem_gB ?_ | refine mem_gO ?_))) (hd : td.isRow = true := by rfl) (hl : p + sz ≤ cs.length := by exact (by first | rfl | (simp; done) | (simp only [List.length_map]; omega) | (simp; omega) | omega)) (hy : (cs.drop p).take sz = ys := by exact (by first | ((simp only [List.drop_succ_cons, List.drop_zero, List.take_succ_cons, List.take_zero]) <;> rfl) | rfl)) : OpQ P o t bs (.agg ys) := hy ▸ .loads_ptr ho hx hm hd hl
theorem Q.lde {xs : List A} (ho : o.op = .load ty x := by rfl) (h1 : TI P ty td sz by_ := by infer_instance) (hx : Wk (evA t x) (.ep xs) := by exact Wk.refl _) (hd : td.isRow = false := by rfl) (hy : xs[0]? = some y := by rfl) : OpQ P o t bs y := .load_ep ho hx hd hy
theorem Q.ldes {xs : List A} (ho : o.op = .load ty x := by rfl) (h1 : TI P ty td sz by_ := by infer_instance) (hx : Wk (evA t x) (.ep xs) := by exact Wk.refl _) (hd : td.isRow = true := by rfl) (hl : xs.length = sz := by rfl) : OpQ P o t bs (.agg xs) := .loads_ep_all ho hx hd hl
theorem Q.ldep {xs ys : List A} (ho : o.op = .load ty x := by rfl) (h1 : TI P ty td sz by_ := by infer_instance) (hx : Wk (evA t x) (.ep xs) := by exact Wk.refl _) (hd : td.isRow = true := by rfl) (hl : sz ≤ xs.length := by exact (by first | rfl | (simp; done) | (simp only [List.length_map]; omega) | (simp; omega) | omega)) (hy : xs.take sz = ys := by exact (by first | ((simp only [List.drop_succ_cons, List.drop_zero, List.take_succ_cons, List.take_zero]) <;> rfl) | rfl)) : OpQ P o t bs (.agg ys) := hy ▸ .loads_ep ho hx hd hl
theorem Q.fp {fs : Array Field} {f g p q k : Nat} {fld : Field} (ho : o.op = .fieldAddr ty x f := by rfl) (h1 : TI P ty (.struct fs) sz by_ := by infer_instance) (hx : Wk (evA t x) (.ptr g p) := by exact Wk.refl _) (hf : fs[f]? = some fld := by rfl) (h2 : (sizeN P fld.type == 0) = false := by kernel_rfl) (hk : fld.offset = k := by exact (by (conv => lhs; whnf) <;> rfl)) (hq : p + k = q := by exact (by first | ((simp only [Nat.zero_add, Nat.add_zero, Nat.reduceAdd, Nat.reduceMul, Int.toNat_natCast]) <;> rfl) | rfl)) : OpQ P o t bs (.ptr g q) := .field_ptr ho hx hf h2 hk hq
theorem Q.fe {fs : Array Field} {f k : Nat} {xs ys : List A} {fld : Field} (ho : o.op = .fieldAddr ty x f := by rfl) (h1 : TI P ty (.struct fs) sz by_ := by infer_instance) (hx : Wk (evA t x) (.ep xs) := by exact Wk.refl _) (hf : fs[f]? = some fld := by rfl) (h2 : (sizeN P fld.type == 0) = false := by kernel_rfl) (hk : fld.offset = k := by exact (by (conv => lhs; whnf) <;> rfl)) (hq : xs.drop k = ys := by exact (by first | ((simp only [List.drop_succ_cons, List.drop_zero, List.take_succ_cons, List.take_zero]) <;> rfl) | rfl)) : OpQ P o t bs (.ep ys) := .field_ep ho hx hf h2 hk hq
theorem Q.fr {fs : Array Field} {f g s i j q k : Nat} {fld : Field} (ho : o.op = .fieldAddr ty x f := by rfl) (h1 : TI P ty (.struct fs) sz by_ := by infer_instance) (hx : Wk (evA t x) (.rp g s i j) := by exact Wk.refl _) (hf : fs[f]? = some fld := by rfl) (h2 : (sizeN P fld.type == 0) = false := by kernel_rfl) (hk : fld.offset = k := by exact (by (conv => lhs; whnf) <;> rfl)) (hq : j + k = q := by exact (by first | ((simp only [Nat.zero_add, Nat.add_zero, Nat.reduceAdd, Nat.reduceMul, Int.toNat_natCast]) <;> rfl) | rfl)) : OpQ P o t bs (.rp g s i q) := .field_rp ho hx hf h2 hk hq
theorem Q.fo {fs : Array Field} {f k : Nat} {xs : List A} {fld : Field} (ho : o.op = .field ty x f := by rfl) (h1 : TI P ty (.struct fs) sz by_ := by infer_instance) (hx : Wk (evA t x) (.agg xs) := by exact Wk.refl _) (hf : fs[f]? = some fld := by rfl) (h2 : rowN P fld.type = false := by kernel_rfl) (hk : fld.offset = k := by exact (by (conv => lhs; whnf) <;> rfl)) (hy : xs[k]? = some y := by rfl) : OpQ P o t bs y := .field_one ho hx hf h2 hk hy
theorem Q.fw {fs : Array Field} {f k s2 : Nat} {xs ys : List A} {fld : Field} (ho : o.op = .field ty x f := by rfl) (h1 : TI P ty (.struct fs) sz by_ := by infer_instance) (hx : Wk (evA t x) (.agg xs) := by exact Wk.refl _) (hf : fs[f]? = some fld := by rfl) (h2 : (rowN P fld.type && (P.underlying fld.type).isSome) = true := by kernel_rfl) (h0 : (sizeN P fld.type == 0) = false := by kernel_rfl) (hs : sizeN P fld.type = s2 := by exact (by (conv => lhs; whnf) <;> rfl)) (hk : fld.offset = k := by exact (by (conv => lhs; whnf) <;> rfl)) (hl : k + s2 ≤ xs.length := by exact (by first | rfl | (simp; done) | (simp only [List.length_map]; omega) | (simp; omega) | omega)) (hy : (xs.drop k).take s2 = ys := by exact (by first | ((simp only [List.drop_succ_cons, List.drop_zero, List.take_succ_cons, List.take_zero]) <;> rfl) | rfl)) : OpQ P o t bs (.agg ys) := .field_row ho hx hf h2 h0 hs hk hl hy
theorem Q.ex {xs : List A} {i : Nat} (ho : o.op = .extract x i := by rfl) (hx : Wk (evA t x) (.tup xs) := by exact Wk.refl _) (hy : xs[i]? = some y := by rfl) : OpQ P o t bs y := .extract ho hx hy
theorem Q.pt {c : Operand} {e : Bool} (ho : o.op = .pick c x z := by rfl) (hc : Wk (evA t c) (.v (.bool e)) := by exact Wk.refl _) (he : e = true := by first | assumption | rfl) (hx : evA t x = y := by exact (by (conv => lhs; whnf) <;> rfl)) : OpQ P o t bs y := .pick_kt ho hc he hx
theorem Q.pf {c : Operand} {e : Bool} (ho : o.op = .pick c x z := by rfl) (hc : Wk (evA t c) (.v (.bool e)) := by exact Wk.refl _) (he : e = false := by first | assumption | rfl) (hx : evA t z = y := by exact (by (conv => lhs; whnf) <;> rfl)) : OpQ P o t bs y := .pick_kf ho hc he hx
theorem Q.ad {a b : Int} (ho : o.op = .binOp .add ty x z ty2 := by rfl) (hx : Wk (evA t x) (.v (.int .i64 a)) := by exact Wk.refl _) (hz : Wk (evA t z) (.v (.int .i64 b)) := by exact Wk.refl _) (h : -9223372036854775808 ≤ a + b ∧ a + b ≤ 9223372036854775807 := by first | assumption | decide) : OpQ P o t bs (.v (.int .i64 (a + b))) := .add ho hx hz h
theorem Q.sb {a b : Int} (ho : o.op = .binOp .sub ty x z ty2 := by rfl) (hx : Wk (evA t x) (.v (.int .i64 a)) := by exact Wk.refl _) (hz : Wk (evA t z) (.v (.int .i64 b)) := by exact Wk.refl _) (h : -9223372036854775808 ≤ a - b ∧ a - b ≤ 9223372036854775807 := by first | assumption | decide) : OpQ P o t bs (.v (.int .i64 (a - b))) := .sub ho hx hz h
theorem Q.ml {a b : Int} (ho : o.op = .binOp .mul ty x z ty2 := by rfl) (hx : Wk (evA t x) (.v (.int .i64 a)) := by exact Wk.refl _) (hz : Wk (evA t z) (.v (.int .i64 b)) := by exact Wk.refl _) (h : -9223372036854775808 ≤ a * b ∧ a * b ≤ 9223372036854775807 := by first | assumption | decide) : OpQ P o t bs (.v (.int .i64 (a * b))) := .mul ho hx hz h
theorem Q.ar {op : BinOp} {k : IntKind} {a b r : Int} (ho : o.op = .binOp op ty x z ty2 := by rfl) (hx : Wk (evA t x) (.v (.int k a)) := by exact Wk.refl _) (hz : Wk (evA t z) (.v (.int k b)) := by exact Wk.refl _) (h : arithI op a b = some r := by rfl) : OpQ P o t bs (.v (.int k (k.wrap r))) := .arith ho hx hz h
theorem Q.ct {a b : ByteArray} (ho : o.op = .binOp .add ty x z ty2 := by rfl) (hx : Wk (evA t x) (.v (.string a)) := by exact Wk.refl _) (hz : Wk (evA t z) (.v (.string b)) := by exact Wk.refl _) (h : a.size + b.size ≤ 9223372036854775807 := by assumption) : OpQ P o t bs (.v (.string (a ++ b))) := .cat ho hx hz h
theorem Q.qu {k : IntKind} {a b : Int} (ho : o.op = .binOp .quo ty x z ty2 := by rfl) (hx : Wk (evA t x) (.v (.int k a)) := by exact Wk.refl _) (hz : Wk (evA t z) (.v (.int k b)) := by exact Wk.refl _) (h : 0 < b := by first | assumption | decide) : OpQ P o t bs (.v (.int k (k.wrap (a.tdiv b)))) := .quo_any ho hx hz h
theorem Q.rm {k : IntKind} {a b : Int} (ho : o.op = .binOp .rem ty x z ty2 := by rfl) (hx : Wk (evA t x) (.v (.int k a)) := by exact Wk.refl _) (hz : Wk (evA t z) (.v (.int k b)) := by exact Wk.refl _) (h : 0 < b := by first | assumption | decide) : OpQ P o t bs (.v (.int k (a.tmod b))) := .rem_any ho hx hz h
theorem Q.sr {k yk : IntKind} {a b c : Int} (ho : o.op = .binOp .shr ty x z ty2 := by rfl) (hx : Wk (evA t x) (.v (.int k a)) := by exact Wk.refl _) (hz : Wk (evA t z) (.v (.int yk b)) := by exact Wk.refl _) (h : 0 ≤ b := by decide) (hb : b.toNat ≤ k.bits := by decide) (hc : (2 : Int) ^ b.toNat = c := by exact (by (simp only [Int.reduceToNat, Int.reducePow]) <;> rfl)) : OpQ P o t bs (.v (.int k (a / c))) := .shr ho hx hz h hb hc
theorem Q.sl {k yk : IntKind} {a b c : Int} (ho : o.op = .binOp .shl ty x z ty2 := by rfl) (hx : Wk (evA t x) (.v (.int k a)) := by exact Wk.refl _) (hz : Wk (evA t z) (.v (.int yk b)) := by exact Wk.refl _) (h : 0 ≤ b := by decide) (hb : b.toNat ≤ k.bits := by decide) (hc : (2 : Int) ^ b.toNat = c := by exact (by (simp only [Int.reduceToNat, Int.reducePow]) <;> rfl)) : OpQ P o t bs (.v (.int k (k.wrap (a * c)))) := .shl ho hx hz h hb hc
theorem Q.cm {op : BinOp} {k : IntKind} {a b : Int} {r : Bool} (ho : o.op = .binOp op ty x z ty2 := by rfl) (hx : Wk (evA t x) (.v (.int k a)) := by exact Wk.refl _) (hz : Wk (evA t z) (.v (.int k b)) := by exact Wk.refl _) (h : cmpI op a b = some r := by rfl) : OpQ P o t bs (.v (.bool r)) := .cmp ho hx hz h
theorem Q.cs {op : BinOp} {a b : ByteArray} {r : Bool} (ho : o.op = .binOp op ty x z ty2 := by rfl) (hx : Wk (evA t x) (.v (.string a)) := by exact Wk.refl _) (hz : Wk (evA t z) (.v (.string b)) := by exact Wk.refl _) (h : cmpS op a b = some r := by rfl) : OpQ P o t bs (.v (.bool r)) := .cmps ho hx hz h
theorem Q.bt {op : BinOp} {k : IntKind} {a b : Int} (ho : o.op = .binOp op ty x z ty2 := by rfl) (hx : Wk (evA t x) (.v (.int k a)) := by exact Wk.refl _) (hz : Wk (evA t z) (.v (.int k b)) := by exact Wk.refl _) (h : bitsI op k a b = some (bitI op k a b) := by rfl) : OpQ P o t bs (.v (.int k (bitI op k a b))) := .bits ho hx hz h
theorem Q.eb {a b : Bool} {s1 b1 : Nat} (ho : o.op = .binOp .eql ty x z ty2 := by rfl) (h1 : TI P ty .bool s1 b1 := by infer_instance) (hx : Wk (evA t x) (.v (.bool a)) := by exact Wk.refl _) (hz : Wk (evA t z) (.v (.bool b)) := by exact Wk.refl _) : OpQ P o t bs (.v (.bool (a == b))) := .eq_bool ho hx hz
theorem Q.nb {a b : Bool} {s1 b1 : Nat} (ho : o.op = .binOp .neq ty x z ty2 := by rfl) (h1 : TI P ty .bool s1 b1 := by infer_instance) (hx : Wk (evA t x) (.v (.bool a)) := by exact Wk.refl _) (hz : Wk (evA t z) (.v (.bool b)) := by exact Wk.refl _) : OpQ P o t bs (.v (.bool (!(a == b)))) := .neq_bool ho hx hz
theorem Q.nn {e : TypeId} {s1 b1 : Nat} (ho : o.op = .binOp .eql ty x (.const (.slice none 0 0)) ty2 := by rfl) (h1 : TI P ty (.slice e) s1 b1 := by infer_instance) (hx : Wk (evA t x) .nil := by exact Wk.refl _) : OpQ P o t bs (.v (.bool true)) := .nil_nil ho hx
theorem Q.ix {α : Type} {e : TypeId} {k : IntKind} {i : Int} {xs : List α} {enc : α → List A} {q : α} {s1 b1 : Nat} {d2 : TypeDesc} {s2 b2 : Nat} (h0 : 0 ≤ i) (hr : xs[i.toNat]? = some q) (ho : o.op = .indexAddr ty x z := by rfl) (h1 : TI P ty (.slice e) s1 b1 := by infer_instance) (h2 : TI P e d2 s2 b2 := by infer_instance) (hx : Wk (evA t x) (.sl (xs.map enc)) := by first | exact Wk.refl _ | exact Wk.gr _ _ | exact Wk.clip _ | exact Wk.nil | exact Wk.tip _ _ _) (hz : Wk (evA t z) (.v (.int k i)) := by exact Wk.refl _) (hl : (enc q).length = s2 := by rfl) : OpQ P o t bs (.ep (enc q)) := .idx_map ho hx hz h0 hr hl
theorem Q.is {s : ByteArray} {k : IntKind} {i : Int} {c : UInt8} {s1 b1 : Nat} (h0 : 0 ≤ i) (hc : s[i.toNat]? = some c) (ho : o.op = .index ty x z := by rfl) (h1 : TI P ty .string s1 b1 := by infer_instance) (hx : Wk (evA t x) (.v (.string s)) := by exact Wk.refl _) (hz : Wk (evA t z) (.v (.int k i)) := by exact Wk.refl _) : OpQ P o t bs (.v (.int .u8 c.toNat)) := .idx_str ho hx hz h0 hc
theorem Q.ln {α : Type} {e : TypeId} {xs : List α} {enc : α → List A} {s1 b1 : Nat} (ho : o.op = .call { callee := .builtin .len, args := #[x], argTypes := #[ty] } := by rfl) (h1 : TI P ty (.slice e) s1 b1 := by infer_instance) (hx : Wk (evA t x) (.sl (xs.map enc)) := by first | exact Wk.refl _ | exact Wk.gr _ _ | exact Wk.clip _ | exact Wk.nil | exact Wk.tip _ _ _) : OpQ P o t bs (.v (.int .i64 xs.length)) := .len_map ho hx
theorem Q.l0 {e : TypeId} {s1 b1 : Nat} (ho : o.op = .call { callee := .builtin .len, args := #[x], argTypes := #[ty] } := by rfl) (h1 : TI P ty (.slice e) s1 b1 := by infer_instance) (hx : Wk (evA t x) .nil := by exact Wk.refl _) : OpQ P o t bs (.v (.int .i64 0)) := by simpa using OpQ.len_sl (P := P) (bs := bs) (rows := []) ho (.trans hx .nil)
theorem Q.ls {s : ByteArray} {s1 b1 : Nat} (ho : o.op = .call { callee := .builtin .len, args := #[x], argTypes := #[ty] } := by rfl) (h1 : TI P ty .string s1 b1 := by infer_instance) (hx : Wk (evA t x) (.v (.string s)) := by exact Wk.refl _) : OpQ P o t bs (.v (.int .i64 s.size)) := .len_str ho hx
theorem Q.lm {e : TypeId} {g p n c s1 b1 : Nat} (ho : o.op = .call { callee := .builtin .len, args := #[x], argTypes := #[ty] } := by rfl) (h1 : TI P ty (.slice e) s1 b1 := by infer_instance) (hx : Wk (evA t x) (.ms g p n c) := by first | exact Wk.refl _ | exact Wk.ow_ms _ _ _) : OpQ P o t bs (.v (.int .i64 n)) := .len_ms ho hx
theorem Q.lo {e : TypeId} {q : Option (Nat × Nat)} {n s1 b1 : Nat} (ho : o.op = .call { callee := .builtin .len, args := #[x], argTypes := #[ty] } := by rfl) (h1 : TI P ty (.slice e) s1 b1 := by infer_instance) (hx : Wk (evA t x) (.ow q n) := by exact Wk.refl _) : OpQ P o t bs (.v (.int .i64 n)) := .of_run fun a w h hb => by
    have hr := op_rep h (x := x) (by simp [ho, Op.operands, Call.operands]) hx
    cases q with
    | none =>
      obtain ⟨e1, e2⟩ := hr.ow_none
      subst e2
      exact ⟨_, by simp [execOp, ho, e1, resolve, invoke, builtin, Builtin.len_, Sem.run_bind, h1.run_und, goInt], .v rfl⟩
    | some gc =>
      have e1 := hr.ow_some
      exact ⟨_, by simp [execOp, ho, e1, resolve, invoke, builtin, Builtin.len_, Sem.run_bind, h1.run_und, goInt], .v rfl⟩
theorem Q.mx {k : IntKind} {a b : Int} {tys : Array TypeId} (ho : o.op = .call { callee := .builtin .max, args := #[x, z], argTypes := tys } := by rfl) (hx : Wk (evA t x) (.v (.int k a)) := by exact Wk.refl _) (hz : Wk (evA t z) (.v (.int k b)) := by exact Wk.refl _) : OpQ P o t bs (.v (.int k (max a b))) := .maxI ho hx hz
theorem Q.mn {k : IntKind} {a b : Int} {tys : Array TypeId} (ho : o.op = .call { callee := .builtin .min, args := #[x, z], argTypes := tys } := by rfl) (hx : Wk (evA t x) (.v (.int k a)) := by exact Wk.refl _) (hz : Wk (evA t z) (.v (.int k b)) := by exact Wk.refl _) : OpQ P o t bs (.v (.int k (min a b))) := .minI ho hx hz
theorem Q.no {b : Bool} (ho : o.op = .unOp .not ty x := by rfl) (hx : Wk (evA t x) (.v (.bool b)) := by exact Wk.refl _) : OpQ P o t bs (.v (.bool (!b))) := .not ho hx
theorem Q.ng {a : Int} (ho : o.op = .unOp .neg ty x := by rfl) (hx : Wk (evA t x) (.v (.int .i64 a)) := by exact Wk.refl _) (h : -9223372036854775808 ≤ -a ∧ -a ≤ 9223372036854775807 := by first | assumption | decide) : OpQ P o t bs (.v (.int .i64 (-a))) := .neg ho hx h
theorem Q.cv {k j : IntKind} {a : Int} {s1 b1 s2 b2 : Nat} {d1 : TypeDesc} (ho : o.op = .convert ty ty2 x := by rfl) (h1 : TI P ty d1 s1 b1 := by infer_instance) (h2 : TI P ty2 (.int j) s2 b2 := by infer_instance) (hx : Wk (evA t x) (.v (.int k a)) := by exact Wk.refl _) : OpQ P o t bs (.v (.int j (j.wrap a))) := .conv ho hx
theorem Q.nc {g off : Nat} (ho : o.op = .nilCheck x := by rfl) (hx : Wk (evA t x) (.ptr g off) := by exact Wk.refl _) : OpQ P o t bs (.ptr g off) := .nilCheck_ptr ho hx
theorem Q.ne {xs : List A} (ho : o.op = .nilCheck x := by rfl) (hx : Wk (evA t x) (.ep xs) := by exact Wk.refl _) : OpQ P o t bs (.ep xs) := .nilCheck_ep ho hx
theorem Q.nf {K : Nat} {x1 x2 : List A} (ho : o.op = .nilCheck x := by rfl) (hx : Wk (evA t x) (.fn (.func K) x1 x2) := by exact Wk.refl _) : OpQ P o t bs (.fn (.func K) x1 x2) := .nilCheck_fn ho hx
theorem Q.mf {f : Fn} {first caps : Array Operand} {x1 x2 : List A} (ho : o.op = .makeFunc f first caps := by rfl) (h1 : first.toList.map (evA t) = x1 := by exact (by first | rfl | ((simp only [List.map_cons, List.map_nil]) <;> rfl))) (h2 : caps.toList.map (evA t) = x2 := by exact (by first | rfl | ((simp only [List.map_cons, List.map_nil]) <;> rfl))) : OpQ P o t bs (.fn f x1 x2) := .makeFunc ho h1 h2
theorem Q.li {e : TypeId} {s1 b1 s2 b2 n : Nat} {d2 : TypeDesc} {zs : List Value} {cs : List A} {parts : Array (Nat × Operand)} {r : List Operand} {ys : List A} {rows : List (List A)} (ho : o.op = .buildSlice ty n parts := by rfl) (h1 : TI P ty (.slice e) s1 b1 := by infer_instance) (h2 : TI P e d2 s2 b2 := by infer_instance) (hz : TC P e zs cs := by infer_instance) (hr0 : parts.toList.map (·.2) = r := by (simp only [List.map_cons, List.map_nil] <;> rfl)) (hp : parts = (r.zipIdx.map fun p => (p.2, p.1)).toArray := by rfl) (hr : Rows_ t r ys := by exact (by repeat (first | exact Rows_.nil | (apply Rows_.cons; exact Wk.of_eq (by (conv => lhs; whnf) <;> rfl); exact (by first | exact .inl rfl | exact .inr ⟨_, rfl⟩))))) (hn : r.length = n := by rfl) (hs : ys.all (fun y => (cellsOf y).length == s2) = true := by exact (by first | rfl | (simp [cellsOf]; done) | (simp only [List.map_cons, List.map_nil, cellsOf]) <;> rfl)) (hrows : ys.map cellsOf = rows := by exact (by first | ((simp only [List.map_cons, List.map_nil, cellsOf]) <;> rfl) | rfl)) (hlim : n * s2 ≤ 16777216 := by decide) (hpos : 0 < s2 := by decide) : OpQ P o t bs (.clip rows) := .lits ho hr0 hp hr hn hs hrows hlim hpos
theorem Q.bd {fs : Array Field} {parts : Array (Nat × Operand)} {l : List (Nat × Nat)} {zs : List Value} {cs cs' : List A} (ho : o.op = .build ty parts := by rfl) (h1 : TI P ty (.struct fs) sz by_ := by infer_instance) (hs : TS P ty l := by infer_instance) (hz : TC P ty zs cs := by infer_instance) (hb : Bld P t (fun i => l[i]?) parts.toList cs cs' := by exact (by repeat (first | exact Bld.nil _ | (apply Bld.cons; rfl; exact Wk.of_eq (by (conv => lhs; whnf) <;> rfl); exact (by first | exact .inl rfl | exact .inr ⟨_, rfl⟩); exact (by first | rfl | (simp [cellsOf]; done) | (simp only [List.map_cons, List.map_nil, cellsOf]) <;> rfl); exact (by first | rfl | (simp; done) | (simp only [List.length_map]; omega) | (simp; omega) | omega); exact (by first | ((simp only [spl, cellsOf, List.set_cons_zero, List.set_cons_succ]) <;> rfl) | rfl))))) : OpQ P o t bs (.agg cs') := .build_struct ho hb
theorem OpQ.compl {k : IntKind} {a m : Int} (ho : o.op = .unOp .xor ty x) (hx : Wk (evA t x) (.v (.int k a))) (hm : (if k.signed then (-1 : Int) else k.max) = m) : OpQ P o t bs (.v (.int k (bitI .xor k m a))) :=
  .of_run fun ac w h' hb => by
    have e1 := (op_rep h' (x := x) (by simp [ho, Op.operands]) hx).val
    subst hm
    refine ⟨_, ?_, .v rfl⟩
    simp only [execOp, ho, e1, Op.unary, Op.intBits, Sem.run_bind, Sem.run_pure, Result.andThen_ok]
    rfl
theorem OpQ.maxI3 {k : IntKind} {a b c : Int} {q : Operand} {tys : Array TypeId} (ho : o.op = .call { callee := .builtin .max, args := #[x, z, q], argTypes := tys }) (hx : Wk (evA t x) (.v (.int k a))) (hz : Wk (evA t z) (.v (.int k b))) (hq : Wk (evA t q) (.v (.int k c))) : OpQ P o t bs (.v (.int k (max (max a b) c))) :=
  .of_run fun ac w h hb => by
    have e1 := (op_rep h (x := x) (by simp [ho, Op.operands, Call.operands]) hx).val
    have e2 := (op_rep h (x := z) (by simp [ho, Op.operands, Call.operands]) hz).val
    have e3 := (op_rep h (x := q) (by simp [ho, Op.operands, Call.operands]) hq).val
    refine ⟨_, ?_, .v rfl⟩
    rw [show max (max a b) c = if c > (if b > a then b else a) then c else (if b > a then b else a) by simp only [Int.max_def]; repeat (first | omega | split)]
    simp only [execOp, ho, e1, e2, e3, resolve, invoke, builtin, Builtin.max_, Builtin.max2, Sem.run_bind, List.map_toArray, List.map_cons, List.map_nil]
    split <;> simp [*, Builtin.max2, Sem.run_bind]
end
end Go.Proofs.YtnkkfmnpkgjabaaGreat.X

/- A region that draws its order: operations by their number, in any order that fits. -/
namespace Go.Proofs.YtnkkfmnpkgjabaaGreat.X
open Go.RowKit
set_option linter.unusedVariables false
set_option linter.unusedSimpArgs false
def ADx (P : Program) (N : Nat) (ops : Array Oper) (Q : Exit → T → BS → Prop) (idx : Idx) (cl : List Clm) (t : T) (bs : BS) : Prop :=
  cl.map (fun c => (c.i, c.need.isSome)) = idx → Hk ops cl bs → AD P N ops Q cl t bs
section
variable {P : Program} {N : Nat} {ops : Array Oper} {Q : Exit → T → BS → Prop} {o : Oper} {t : T} {bs : BS} {y : A} {cl : List Clm} {d : Nat} {idx : Idx} {x z : Operand} {ty ty2 : TypeId} {sz by_ : Nat} {td : TypeDesc}
theorem ADx.done (hq : Q .normal t bs) (hd : doneI ops idx = true := by decide +kernel) : ADx P N ops Q idx cl t bs := fun h1 _ => .done (by rw [claimed_fun h1]; exact hd) hq
theorem ADx.f (i : Nat) (hi : ops[i]? = some o) (hg : o.guard = none := by rfl) (hdst : o.dst = some d := by rfl) (hN : Nat.blt d N = true := by rfl) (hk : okOps o = true := by rfl) (hd : depsI ops idx i = true := by decide +kernel) (hq : ∀ bs, OpQ P o t bs y)
    (h : ADx P N ops Q ((i, true) :: idx) (⟨i, y, some []⟩ :: cl) ((d, y) :: t) bs) : ADx P N ops Q idx cl t bs := by
  intro h1 hk3
  obtain ⟨e1, ex, e2⟩ := depsI_1 h1 hd
  exact .free i hi e1 ex e2 (by rw [hdst]; exact hN) [] needs_nil (fun bs _ => (hq bs).s hg hk) (by rw [hdst]; exact h (by simp [h1]) (hk3.cons fun L e => by cases e; exact needs_nil))
theorem ADx.fk (i : Nat) {j dj : Nat} {oj : Oper} {want e : Bool} (hi : ops[i]? = some o) (hg : o.guard = some (j, want) := by rfl) (hj : ops[j]? = some oj := by rfl) (hdj : oj.dst = some dj := by rfl) (hl : Wk (look t dj) (.v (.bool e)) := by exact Wk.refl _) (he : e = want := by first | rfl | assumption) (hlt : dj < N := by decide) (hdst : o.dst = some d := by rfl) (hN : Nat.blt d N = true := by rfl) (hk : okOps o = true := by rfl) (hd : depsI ops idx i = true := by decide +kernel) (hq : ∀ bs, OpQ P o t bs y)
    (h : ADx P N ops Q ((i, true) :: idx) (⟨i, y, some []⟩ :: cl) ((d, y) :: t) bs) : ADx P N ops Q idx cl t bs := by
  intro h1 hk3
  obtain ⟨e1, ex, e2⟩ := depsI_1 h1 hd
  exact .free i hi e1 ex e2 (by rw [hdst]; exact hN) [] needs_nil (fun bs _ => OpS.opened hg hj hdj hl he hlt (hq bs) hk) (by rw [hdst]; exact h (by simp [h1]) (hk3.cons fun L e => by cases e; exact needs_nil))
theorem ADx.b (i : Nat) (hi : ops[i]? = some o) (hg : o.guard = none := by rfl) (hdst : o.dst = some d := by rfl) (hN : Nat.blt d N = true := by rfl) (hk : okOps o = true := by rfl) (hd : depsI ops idx i = true := by decide +kernel) (hq : OpQ P o t bs y)
    (h : ADx P N ops Q ((i, false) :: idx) (⟨i, y, none⟩ :: cl) ((d, y) :: t) bs) : ADx P N ops Q idx cl t bs := by
  intro h1 hk3
  obtain ⟨e1, ex, e2⟩ := depsI_1 h1 hd
  exact .q i hi e1 ex e2 (by rw [hdst]; exact hN) (hq.s hg hk) (by rw [hdst]; exact h (by simp [h1]) (hk3.cons fun L e => by cases e))
theorem ADx.bk (i : Nat) {j dj : Nat} {oj : Oper} {want e : Bool} (hi : ops[i]? = some o) (hg : o.guard = some (j, want) := by rfl) (hj : ops[j]? = some oj := by rfl) (hdj : oj.dst = some dj := by rfl) (hl : Wk (look t dj) (.v (.bool e)) := by exact Wk.refl _) (he : e = want := by first | rfl | assumption) (hlt : dj < N := by decide) (hdst : o.dst = some d := by rfl) (hN : Nat.blt d N = true := by rfl) (hk : okOps o = true := by rfl) (hd : depsI ops idx i = true := by decide +kernel) (hq : OpQ P o t bs y)
    (h : ADx P N ops Q ((i, false) :: idx) (⟨i, y, none⟩ :: cl) ((d, y) :: t) bs) : ADx P N ops Q idx cl t bs := by
  intro h1 hk3
  obtain ⟨e1, ex, e2⟩ := depsI_1 h1 hd
  exact .q i hi e1 ex e2 (by rw [hdst]; exact hN) (OpS.opened hg hj hdj hl he hlt hq hk) (by rw [hdst]; exact h (by simp [h1]) (hk3.cons fun L e => by cases e))
/-- What hangs on a block of cells. -/
theorem ADx.m (i : Nat) {g : Nat} {cs : List A} (hi : ops[i]? = some o) (hg : o.guard = none := by rfl) (hdst : o.dst = some d := by rfl) (hN : Nat.blt d N = true := by rfl) (hk : okOps o = true := by rfl) (hd : depsI ops idx i = true := by decide +kernel) (hq : ∀ bs : BS, (g, Blk.cells cs) ∈ bs → OpQ P o t bs y) (hmm : (g, .cells cs) ∈ bs)
    (h : ADx P N ops Q ((i, true) :: idx) (⟨i, y, some [(g, cs)]⟩ :: cl) ((d, y) :: t) bs) : ADx P N ops Q idx cl t bs := by
  intro h1 hk3
  obtain ⟨e1, ex, e2⟩ := depsI_1 h1 hd
  have hnb : needs [(g, cs)] bs := fun z hz => by simp only [List.mem_singleton] at hz; subst hz; exact hmm
  exact .free i hi e1 ex e2 (by rw [hdst]; exact hN) [(g, cs)] hnb (fun bs hb => (hq bs (hb _ (List.mem_singleton.2 rfl))).s hg hk) (by rw [hdst]; exact h (by simp [h1]) (hk3.cons fun L e => by cases e; exact hnb))
theorem ADx.mk (i : Nat) {g : Nat} {cs : List A} {j dj : Nat} {oj : Oper} {want e : Bool} (hi : ops[i]? = some o) (hg : o.guard = some (j, want) := by rfl) (hj : ops[j]? = some oj := by rfl) (hdj : oj.dst = some dj := by rfl) (hl : Wk (look t dj) (.v (.bool e)) := by exact Wk.refl _) (he : e = want := by first | rfl | assumption) (hlt : dj < N := by decide) (hdst : o.dst = some d := by rfl) (hN : Nat.blt d N = true := by rfl) (hk : okOps o = true := by rfl) (hd : depsI ops idx i = true := by decide +kernel) (hq : ∀ bs : BS, (g, Blk.cells cs) ∈ bs → OpQ P o t bs y) (hmm : (g, .cells cs) ∈ bs)
    (h : ADx P N ops Q ((i, true) :: idx) (⟨i, y, some [(g, cs)]⟩ :: cl) ((d, y) :: t) bs) : ADx P N ops Q idx cl t bs := by
  intro h1 hk3
  obtain ⟨e1, ex, e2⟩ := depsI_1 h1 hd
  have hnb : needs [(g, cs)] bs := fun z hz => by simp only [List.mem_singleton] at hz; subst hz; exact hmm
  exact .free i hi e1 ex e2 (by rw [hdst]; exact hN) [(g, cs)] hnb (fun bs hb => OpS.opened hg hj hdj hl he hlt (hq bs (hb _ (List.mem_singleton.2 rfl))) hk) (by rw [hdst]; exact h (by simp [h1]) (hk3.cons fun L e => by cases e; exact hnb))
theorem ADx.ld (i : Nat) {g p : Nat} {cs : List A} (hi : ops[i]? = some o) (hg : o.guard = none := by rfl) (hdst : o.dst = some d := by rfl) (hN : Nat.blt d N = true := by rfl) (hk : okOps o = true := by rfl) (hd : depsI ops idx i = true := by decide +kernel) (ho : o.op = .load ty x := by rfl) (h1 : TI P ty td sz by_ := by infer_instance) (hx : Wk (evA t x) (.ptr g p) := by exact Wk.refl _) (hm : (g, .cells cs) ∈ bs := by exact (by repeat (first | exact List.mem_cons_self | assumption | refine List.mem_cons_of_mem _ ?_ | refine mem_gB ?_ | refine mem_gO ?_))) (htd : td.isRow = false := by rfl) (hy : cs[p]? = some y := by rfl)
    (h : ADx P N ops Q ((i, true) :: idx) (⟨i, y, some [(g, cs)]⟩ :: cl) ((d, y) :: t) bs) : ADx P N ops Q idx cl t bs :=
  ADx.m i (hi := hi) (hg := hg) (hdst := hdst) (hN := hN) (hk := hk) (hd := hd) (hmm := hm) (hq := fun bs hm_ => _root_.Go.Proofs.YtnkkfmnpkgjabaaGreat.X.Q.ld ho h1 hx hm_ htd hy) (h := h)
theorem ADx.ldk (i : Nat) {g p : Nat} {cs : List A} (hi : ops[i]? = some o) {j dj : Nat} {oj : Oper} {want e : Bool} (hg : o.guard = some (j, want) := by rfl) (hj : ops[j]? = some oj := by rfl) (hdj : oj.dst = some dj := by rfl) (hgl : Wk (look t dj) (.v (.bool e)) := by exact Wk.refl _) (he : e = want := by first | rfl | assumption) (hlt : dj < N := by decide) (hdst : o.dst = some d := by rfl) (hN : Nat.blt d N = true := by rfl) (hk : okOps o = true := by rfl) (hd : depsI ops idx i = true := by decide +kernel) (ho : o.op = .load ty x := by rfl) (h1 : TI P ty td sz by_ := by infer_instance) (hx : Wk (evA t x) (.ptr g p) := by exact Wk.refl _) (hm : (g, .cells cs) ∈ bs := by exact (by repeat (first | exact List.mem_cons_self | assumption | refine List.mem_cons_of_mem _ ?_ | refine mem_gB ?_ | refine mem_gO ?_))) (htd : td.isRow = false := by rfl) (hy : cs[p]? = some y := by rfl)
    (h : ADx P N ops Q ((i, true) :: idx) (⟨i, y, some [(g, cs)]⟩ :: cl) ((d, y) :: t) bs) : ADx P N ops Q idx cl t bs :=
  ADx.mk i (hi := hi) (hg := hg) (hj := hj) (hdj := hdj) (hl := hgl) (he := he) (hlt := hlt) (hdst := hdst) (hN := hN) (hk := hk) (hd := hd) (hmm := hm) (hq := fun bs hm_ => _root_.Go.Proofs.YtnkkfmnpkgjabaaGreat.X.Q.ld ho h1 hx hm_ htd hy) (h := h)
theorem ADx.lds (i : Nat) {g : Nat} {cs : List A} (hi : ops[i]? = some o) (hg : o.guard = none := by rfl) (hdst : o.dst = some d := by rfl) (hN : Nat.blt d N = true := by rfl) (hk : okOps o = true := by rfl) (hd : depsI ops idx i = true := by decide +kernel) (ho : o.op = .load ty x := by rfl) (h1 : TI P ty td sz by_ := by infer_instance) (hx : Wk (evA t x) (.ptr g 0) := by exact Wk.refl _) (hm : (g, .cells cs) ∈ bs := by exact (by repeat (first | exact List.mem_cons_self | assumption | refine List.mem_cons_of_mem _ ?_ | refine mem_gB ?_ | refine mem_gO ?_))) (htd : td.isRow = true := by rfl) (hl : cs.length = sz := by rfl)
    (h : ADx P N ops Q ((i, true) :: idx) (⟨i, (.agg cs), some [(g, cs)]⟩ :: cl) ((d, (.agg cs)) :: t) bs) : ADx P N ops Q idx cl t bs :=
  ADx.m i (hi := hi) (hg := hg) (hdst := hdst) (hN := hN) (hk := hk) (hd := hd) (hmm := hm) (hq := fun bs hm_ => _root_.Go.Proofs.YtnkkfmnpkgjabaaGreat.X.Q.lds ho h1 hx hm_ htd hl) (h := h)
theorem ADx.ldsk (i : Nat) {g : Nat} {cs : List A} (hi : ops[i]? = some o) {j dj : Nat} {oj : Oper} {want e : Bool} (hg : o.guard = some (j, want) := by rfl) (hj : ops[j]? = some oj := by rfl) (hdj : oj.dst = some dj := by rfl) (hgl : Wk (look t dj) (.v (.bool e)) := by exact Wk.refl _) (he : e = want := by first | rfl | assumption) (hlt : dj < N := by decide) (hdst : o.dst = some d := by rfl) (hN : Nat.blt d N = true := by rfl) (hk : okOps o = true := by rfl) (hd : depsI ops idx i = true := by decide +kernel) (ho : o.op = .load ty x := by rfl) (h1 : TI P ty td sz by_ := by infer_instance) (hx : Wk (evA t x) (.ptr g 0) := by exact Wk.refl _) (hm : (g, .cells cs) ∈ bs := by exact (by repeat (first | exact List.mem_cons_self | assumption | refine List.mem_cons_of_mem _ ?_ | refine mem_gB ?_ | refine mem_gO ?_))) (htd : td.isRow = true := by rfl) (hl : cs.length = sz := by rfl)
    (h : ADx P N ops Q ((i, true) :: idx) (⟨i, (.agg cs), some [(g, cs)]⟩ :: cl) ((d, (.agg cs)) :: t) bs) : ADx P N ops Q idx cl t bs :=
  ADx.mk i (hi := hi) (hg := hg) (hj := hj) (hdj := hdj) (hl := hgl) (he := he) (hlt := hlt) (hdst := hdst) (hN := hN) (hk := hk) (hd := hd) (hmm := hm) (hq := fun bs hm_ => _root_.Go.Proofs.YtnkkfmnpkgjabaaGreat.X.Q.lds ho h1 hx hm_ htd hl) (h := h)
theorem ADx.ldp (i : Nat) {g p : Nat} {cs ys : List A} (hi : ops[i]? = some o) (hg : o.guard = none := by rfl) (hdst : o.dst = some d := by rfl) (hN : Nat.blt d N = true := by rfl) (hk : okOps o = true := by rfl) (hd : depsI ops idx i = true := by decide +kernel) (ho : o.op = .load ty x := by rfl) (h1 : TI P ty td sz by_ := by infer_instance) (hx : Wk (evA t x) (.ptr g p) := by exact Wk.refl _) (hm : (g, .cells cs) ∈ bs := by exact (by repeat (first | exact List.mem_cons_self | assumption | refine List.mem_cons_of_mem _ ?_ | refine mem_gB ?_ | refine mem_gO ?_))) (htd : td.isRow = true := by rfl) (hl : p + sz ≤ cs.length := by exact (by first | rfl | (simp; done) | (simp only [List.length_map]; omega) | (simp; omega) | omega)) (hy : (cs.drop p).take sz = ys := by exact (by first | ((simp only [List.drop_succ_cons, List.drop_zero, List.take_succ_cons, List.take_zero]) <;> rfl) | rfl))
    (h : ADx P N ops Q ((i, true) :: idx) (⟨i, (.agg ys), some [(g, cs)]⟩ :: cl) ((d, (.agg ys)) :: t) bs) : ADx P N ops Q idx cl t bs :=
  ADx.m i (hi := hi) (hg := hg) (hdst := hdst) (hN := hN) (hk := hk) (hd := hd) (hmm := hm) (hq := fun bs hm_ => _root_.Go.Proofs.YtnkkfmnpkgjabaaGreat.X.Q.ldp ho h1 hx hm_ htd hl hy) (h := h)
theorem ADx.ldpk (i : Nat) {g p : Nat} {cs ys : List A} (hi : ops[i]? = some o) {j dj : Nat} {oj : Oper} {want e : Bool} (hg : o.guard = some (j, want) := by rfl) (hj : ops[j]? = some oj := by rfl) (hdj : oj.dst = some dj := by rfl) (hgl : Wk (look t dj) (.v (.bool e)) := by exact Wk.refl _) (he : e = want := by first | rfl | assumption) (hlt : dj < N := by decide) (hdst : o.dst = some d := by rfl) (hN : Nat.blt d N = true := by rfl) (hk : okOps o = true := by rfl) (hd : depsI ops idx i = true := by decide +kernel) (ho : o.op = .load ty x := by rfl) (h1 : TI P ty td sz by_ := by infer_instance) (hx : Wk (evA t x) (.ptr g p) := by exact Wk.refl _) (hm : (g, .cells cs) ∈ bs := by exact (by repeat (first | exact List.mem_cons_self | assumption | refine List.mem_cons_of_mem _ ?_ | refine mem_gB ?_ | refine mem_gO ?_))) (htd : td.isRow = true := by rfl) (hl : p + sz ≤ cs.length := by exact (by first | rfl | (simp; done) | (simp only [List.length_map]; omega) | (simp; omega) | omega)) (hy : (cs.drop p).take sz = ys := by exact (by first | ((simp only [List.drop_succ_cons, List.drop_zero, List.take_succ_cons, List.take_zero]) <;> rfl) | rfl))
    (h : ADx P N ops Q ((i, true) :: idx) (⟨i, (.agg ys), some [(g, cs)]⟩ :: cl) ((d, (.agg ys)) :: t) bs) : ADx P N ops Q idx cl t bs :=
  ADx.mk i (hi := hi) (hg := hg) (hj := hj) (hdj := hdj) (hl := hgl) (he := he) (hlt := hlt) (hdst := hdst) (hN := hN) (hk := hk) (hd := hd) (hmm := hm) (hq := fun bs hm_ => _root_.Go.Proofs.YtnkkfmnpkgjabaaGreat.X.Q.ldp ho h1 hx hm_ htd hl hy) (h := h)
theorem ADx.s (i : Nat) {j dj : Nat} {oj : Oper} {want : Bool} (hi : ops[i]? = some o) (hg : o.guard = some (j, want) := by rfl) (hj : ops[j]? = some oj := by rfl) (hdj : oj.dst = some dj := by rfl) (hl : GB t dj want false := by exact (by first | exact GB.sv (by first | exact Wk.refl _ | exact Wk.nil | exact Wk.clip _ | exact Wk.tip _ _ _ | exact Wk.opt _ _ (by first | assumption | rfl) | exact Wk.gr _ _ | exact Wk.nil_gr | exact Wk.trans (Wk.opt _ _ (by first | assumption | rfl)) (by first | exact Wk.gr _ _ | exact Wk.nil | exact Wk.clip _ | exact Wk.tip _ _ _) | exact Wk.aggs (by repeat (first | exact Wks.nil | refine Wks.cons (by first | exact Wk.refl _ | exact Wk.nil | exact Wk.clip _ | exact Wk.tip _ _ _ | exact Wk.gr _ _ | exact Wk.nil_gr | exact Wk.nil_ow | exact Wk.ms_ow _ _ _) ?_)) rfl | exact Wk.nil_ow | exact Wk.ms_ow _ _ _ | exact Wk.ow_ms _ _ _) (by first | rfl | assumption) | exact GB.o (by rfl) (by rfl))) (hlt : dj < N := by decide) (hdst : o.dst = some d := by rfl) (hN : Nat.blt d N = true := by rfl) (hk : okOps o = true := by rfl) (hd : depsI ops idx i = true := by decide +kernel)
    (h : ADx P N ops Q ((i, true) :: idx) (⟨i, offA, some []⟩ :: cl) ((d, offA) :: t) bs) : ADx P N ops Q idx cl t bs := by
  intro h1 hk3
  obtain ⟨e1, ex, e2⟩ := depsI_1 h1 hd
  exact .free i hi e1 ex e2 (by rw [hdst]; exact hN) [] needs_nil (fun bs _ => OpS.shut hg hj hdj hl hlt) (by rw [hdst]; exact h (by simp [h1]) (hk3.cons fun L e => by cases e; exact needs_nil))
theorem ADx.s0 (i : Nat) {j dj : Nat} {oj : Oper} {want : Bool} (hi : ops[i]? = some o) (hg : o.guard = some (j, want) := by rfl) (hj : ops[j]? = some oj := by rfl) (hdj : oj.dst = some dj := by rfl) (hl : GB t dj want false := by exact (by first | exact GB.sv (by first | exact Wk.refl _ | exact Wk.nil | exact Wk.clip _ | exact Wk.tip _ _ _ | exact Wk.opt _ _ (by first | assumption | rfl) | exact Wk.gr _ _ | exact Wk.nil_gr | exact Wk.trans (Wk.opt _ _ (by first | assumption | rfl)) (by first | exact Wk.gr _ _ | exact Wk.nil | exact Wk.clip _ | exact Wk.tip _ _ _) | exact Wk.aggs (by repeat (first | exact Wks.nil | refine Wks.cons (by first | exact Wk.refl _ | exact Wk.nil | exact Wk.clip _ | exact Wk.tip _ _ _ | exact Wk.gr _ _ | exact Wk.nil_gr | exact Wk.nil_ow | exact Wk.ms_ow _ _ _) ?_)) rfl | exact Wk.nil_ow | exact Wk.ms_ow _ _ _ | exact Wk.ow_ms _ _ _) (by first | rfl | assumption) | exact GB.o (by rfl) (by rfl))) (hlt : dj < N := by decide) (hdst : o.dst = none := by rfl) (hd : depsI ops idx i = true := by decide +kernel)
    (h : ADx P N ops Q ((i, true) :: idx) (⟨i, offA, some []⟩ :: cl) t bs) : ADx P N ops Q idx cl t bs := by
  intro h1 hk3
  obtain ⟨e1, ex, e2⟩ := depsI_1 h1 hd
  exact .free i hi e1 ex e2 (by rw [hdst]; rfl) [] needs_nil (fun bs _ => OpS.shut hg hj hdj hl hlt) (by rw [hdst]; exact h (by simp [h1]) (hk3.cons fun L e => by cases e; exact needs_nil))
/-- What turns one's own. -/
theorem ADx.w (i : Nat) (hi : ops[i]? = some o) {R : A → BS → Prop} (hq : OpW P o t bs R) (hg : Opn N ops o t) (hdN : okD N o.dst = true) (hk : okOps o = true) (hd : depsI ops idx i = true) (hl : loudI ops idx i = true)
    (hst : ∀ y bs', R y bs' → ∀ c ∈ cl, ∀ L, c.need = some L → needs L bs → needs L bs')
    (h : ∀ y bs', R y bs' → ADx P N ops Q ((i, true) :: idx) (⟨i, y, some []⟩ :: cl) (putA t o.dst y) bs') : ADx P N ops Q idx cl t bs := by
  intro h1 hk3
  obtain ⟨e1, ex, e2⟩ := depsI_1 h1 hd
  obtain ⟨e3, e4⟩ := loudI_1 h1 hl
  have hlt : i < ops.size := (Array.getElem?_eq_some_iff.1 hi).1
  refine .w i hi e1 ex e2 hdN hg hk hq e3 (fun _ _ _ c hc hf hdp => (e4 c hc hf hdp).elim) (fun y bs' hR c hc L hL hdp => ?_) fun y bs' hR => h y bs' hR (by simp [h1]) ?_
  · rcases hk3 c hc L hL with h5 | h5
    · exact hst y bs' hR c hc L hL h5
    · have := List.all_eq_true.1 h5 i (by simpa using hlt)
      rw [e1, hdp] at this; cases this
  · exact (hk3.keep2 (hst y bs' hR)).cons fun L e => by cases e; exact needs_nil
theorem ADx.k0 (i : Nat) {q : A} {B : BS} (hi : ops[i]? = some o) (hq : OpW P o t bs fun y b => y = q ∧ b = B) (hg : Opn N ops o t := by exact (by first | exact Opn.none rfl | exact Opn.known rfl rfl rfl (by first | exact Wk.refl _ | exact Wk.nil | exact Wk.clip _ | exact Wk.tip _ _ _ | exact Wk.opt _ _ (by first | assumption | rfl) | exact Wk.gr _ _ | exact Wk.nil_gr | exact Wk.trans (Wk.opt _ _ (by first | assumption | rfl)) (by first | exact Wk.gr _ _ | exact Wk.nil | exact Wk.clip _ | exact Wk.tip _ _ _) | exact Wk.aggs (by repeat (first | exact Wks.nil | refine Wks.cons (by first | exact Wk.refl _ | exact Wk.nil | exact Wk.clip _ | exact Wk.tip _ _ _ | exact Wk.gr _ _ | exact Wk.nil_gr | exact Wk.nil_ow | exact Wk.ms_ow _ _ _) ?_)) rfl | exact Wk.nil_ow | exact Wk.ms_ow _ _ _ | exact Wk.ow_ms _ _ _) (by first | rfl | assumption) (by decide))) (hdst : o.dst = some d := by rfl) (hN : Nat.blt d N = true := by rfl) (hk : okOps o = true := by rfl) (hd : depsI ops idx i = true := by decide +kernel) (hld : loudI ops idx i = true := by decide +kernel) (hst : needsC cl (B) := by exact (by repeat (first | exact trivial | exact List.mem_cons_self | assumption | refine ⟨?_, ?_⟩ | refine List.mem_cons_of_mem _ ?_ | refine mem_gB ?_ | refine mem_gO ?_)))
    (h : ADx P N ops Q ((i, true) :: idx) (⟨i, q, some []⟩ :: cl) ((d, q) :: t) (B)) : ADx P N ops Q idx cl t bs :=
  .w i hi hq hg (by rw [hdst]; exact hN) hk hd hld (fun _ _ ⟨_, e2⟩ c hc L hL _ => e2 ▸ hst.all c hc L hL) fun _ _ ⟨e1, e2⟩ => by subst e1; subst e2; rw [hdst]; exact h
theorem ADx.k1 (i : Nat) {α : Type} {q : α → A} {B : α → BS} (hi : ops[i]? = some o) (hq : OpW P o t bs fun y b => ∃ a, y = q a ∧ b = B a) (hg : Opn N ops o t := by exact (by first | exact Opn.none rfl | exact Opn.known rfl rfl rfl (by first | exact Wk.refl _ | exact Wk.nil | exact Wk.clip _ | exact Wk.tip _ _ _ | exact Wk.opt _ _ (by first | assumption | rfl) | exact Wk.gr _ _ | exact Wk.nil_gr | exact Wk.trans (Wk.opt _ _ (by first | assumption | rfl)) (by first | exact Wk.gr _ _ | exact Wk.nil | exact Wk.clip _ | exact Wk.tip _ _ _) | exact Wk.aggs (by repeat (first | exact Wks.nil | refine Wks.cons (by first | exact Wk.refl _ | exact Wk.nil | exact Wk.clip _ | exact Wk.tip _ _ _ | exact Wk.gr _ _ | exact Wk.nil_gr | exact Wk.nil_ow | exact Wk.ms_ow _ _ _) ?_)) rfl | exact Wk.nil_ow | exact Wk.ms_ow _ _ _ | exact Wk.ow_ms _ _ _) (by first | rfl | assumption) (by decide))) (hdst : o.dst = some d := by rfl) (hN : Nat.blt d N = true := by rfl) (hk : okOps o = true := by rfl) (hd : depsI ops idx i = true := by decide +kernel) (hld : loudI ops idx i = true := by decide +kernel) (hst : ∀ a, needsC cl (B a) := by (intro a; exact (by repeat (first | exact trivial | exact List.mem_cons_self | assumption | refine ⟨?_, ?_⟩ | refine List.mem_cons_of_mem _ ?_ | refine mem_gB ?_ | refine mem_gO ?_))))
    (h : ∀ a, ADx P N ops Q ((i, true) :: idx) (⟨i, q a, some []⟩ :: cl) ((d, q a) :: t) (B a)) : ADx P N ops Q idx cl t bs :=
  .w i hi hq hg (by rw [hdst]; exact hN) hk hd hld (fun _ _ ⟨a, _, e2⟩ c hc L hL _ => e2 ▸ (hst a).all c hc L hL) fun _ _ ⟨a, e1, e2⟩ => by subst e1; subst e2; rw [hdst]; exact (h a)
theorem ADx.k2 (i : Nat) {α β : Type} {q : α → β → A} {B : α → β → BS} (hi : ops[i]? = some o) (hq : OpW P o t bs fun y b => ∃ a a2, y = q a a2 ∧ b = B a a2) (hg : Opn N ops o t := by exact (by first | exact Opn.none rfl | exact Opn.known rfl rfl rfl (by first | exact Wk.refl _ | exact Wk.nil | exact Wk.clip _ | exact Wk.tip _ _ _ | exact Wk.opt _ _ (by first | assumption | rfl) | exact Wk.gr _ _ | exact Wk.nil_gr | exact Wk.trans (Wk.opt _ _ (by first | assumption | rfl)) (by first | exact Wk.gr _ _ | exact Wk.nil | exact Wk.clip _ | exact Wk.tip _ _ _) | exact Wk.aggs (by repeat (first | exact Wks.nil | refine Wks.cons (by first | exact Wk.refl _ | exact Wk.nil | exact Wk.clip _ | exact Wk.tip _ _ _ | exact Wk.gr _ _ | exact Wk.nil_gr | exact Wk.nil_ow | exact Wk.ms_ow _ _ _) ?_)) rfl | exact Wk.nil_ow | exact Wk.ms_ow _ _ _ | exact Wk.ow_ms _ _ _) (by first | rfl | assumption) (by decide))) (hdst : o.dst = some d := by rfl) (hN : Nat.blt d N = true := by rfl) (hk : okOps o = true := by rfl) (hd : depsI ops idx i = true := by decide +kernel) (hld : loudI ops idx i = true := by decide +kernel) (hst : ∀ a a2, needsC cl (B a a2) := by (intro a a2; exact (by repeat (first | exact trivial | exact List.mem_cons_self | assumption | refine ⟨?_, ?_⟩ | refine List.mem_cons_of_mem _ ?_ | refine mem_gB ?_ | refine mem_gO ?_))))
    (h : ∀ a a2, ADx P N ops Q ((i, true) :: idx) (⟨i, q a a2, some []⟩ :: cl) ((d, q a a2) :: t) (B a a2)) : ADx P N ops Q idx cl t bs :=
  .w i hi hq hg (by rw [hdst]; exact hN) hk hd hld (fun _ _ ⟨a, a2, _, e2⟩ c hc L hL _ => e2 ▸ (hst a a2).all c hc L hL) fun _ _ ⟨a, a2, e1, e2⟩ => by subst e1; subst e2; rw [hdst]; exact (h a a2)
theorem ADx.k3 (i : Nat) {α β γ : Type} {q : α → β → γ → A} {B : α → β → γ → BS} (hi : ops[i]? = some o) (hq : OpW P o t bs fun y b => ∃ a a2 a3, y = q a a2 a3 ∧ b = B a a2 a3) (hg : Opn N ops o t := by exact (by first | exact Opn.none rfl | exact Opn.known rfl rfl rfl (by first | exact Wk.refl _ | exact Wk.nil | exact Wk.clip _ | exact Wk.tip _ _ _ | exact Wk.opt _ _ (by first | assumption | rfl) | exact Wk.gr _ _ | exact Wk.nil_gr | exact Wk.trans (Wk.opt _ _ (by first | assumption | rfl)) (by first | exact Wk.gr _ _ | exact Wk.nil | exact Wk.clip _ | exact Wk.tip _ _ _) | exact Wk.aggs (by repeat (first | exact Wks.nil | refine Wks.cons (by first | exact Wk.refl _ | exact Wk.nil | exact Wk.clip _ | exact Wk.tip _ _ _ | exact Wk.gr _ _ | exact Wk.nil_gr | exact Wk.nil_ow | exact Wk.ms_ow _ _ _) ?_)) rfl | exact Wk.nil_ow | exact Wk.ms_ow _ _ _ | exact Wk.ow_ms _ _ _) (by first | rfl | assumption) (by decide))) (hdst : o.dst = some d := by rfl) (hN : Nat.blt d N = true := by rfl) (hk : okOps o = true := by rfl) (hd : depsI ops idx i = true := by decide +kernel) (hld : loudI ops idx i = true := by decide +kernel) (hst : ∀ a a2 a3, needsC cl (B a a2 a3) := by (intro a a2 a3; exact (by repeat (first | exact trivial | exact List.mem_cons_self | assumption | refine ⟨?_, ?_⟩ | refine List.mem_cons_of_mem _ ?_ | refine mem_gB ?_ | refine mem_gO ?_))))
    (h : ∀ a a2 a3, ADx P N ops Q ((i, true) :: idx) (⟨i, q a a2 a3, some []⟩ :: cl) ((d, q a a2 a3) :: t) (B a a2 a3)) : ADx P N ops Q idx cl t bs :=
  .w i hi hq hg (by rw [hdst]; exact hN) hk hd hld (fun _ _ ⟨a, a2, a3, _, e2⟩ c hc L hL _ => e2 ▸ (hst a a2 a3).all c hc L hL) fun _ _ ⟨a, a2, a3, e1, e2⟩ => by subst e1; subst e2; rw [hdst]; exact (h a a2 a3)
theorem ADx.n0 (i : Nat) {q : A} {B : BS} (hi : ops[i]? = some o) (hq : OpW P o t bs fun y b => y = q ∧ b = B) (hg : Opn N ops o t := by exact (by first | exact Opn.none rfl | exact Opn.known rfl rfl rfl (by first | exact Wk.refl _ | exact Wk.nil | exact Wk.clip _ | exact Wk.tip _ _ _ | exact Wk.opt _ _ (by first | assumption | rfl) | exact Wk.gr _ _ | exact Wk.nil_gr | exact Wk.trans (Wk.opt _ _ (by first | assumption | rfl)) (by first | exact Wk.gr _ _ | exact Wk.nil | exact Wk.clip _ | exact Wk.tip _ _ _) | exact Wk.aggs (by repeat (first | exact Wks.nil | refine Wks.cons (by first | exact Wk.refl _ | exact Wk.nil | exact Wk.clip _ | exact Wk.tip _ _ _ | exact Wk.gr _ _ | exact Wk.nil_gr | exact Wk.nil_ow | exact Wk.ms_ow _ _ _) ?_)) rfl | exact Wk.nil_ow | exact Wk.ms_ow _ _ _ | exact Wk.ow_ms _ _ _) (by first | rfl | assumption) (by decide))) (hdst : o.dst = none := by rfl) (hk : okOps o = true := by rfl) (hd : depsI ops idx i = true := by decide +kernel) (hld : loudI ops idx i = true := by decide +kernel) (hst : needsC cl B := by exact (by repeat (first | exact trivial | exact List.mem_cons_self | assumption | refine ⟨?_, ?_⟩ | refine List.mem_cons_of_mem _ ?_ | refine mem_gB ?_ | refine mem_gO ?_)))
    (h : ADx P N ops Q ((i, true) :: idx) (⟨i, q, some []⟩ :: cl) t B) : ADx P N ops Q idx cl t bs :=
  .w i hi hq hg (by rw [hdst]; rfl) hk hd hld (fun _ _ ⟨_, e2⟩ c hc L hL _ => e2 ▸ hst.all c hc L hL) fun _ _ ⟨e1, e2⟩ => by subst e1; subst e2; rw [hdst]; exact h
/-- A store behind which all that was read is done. -/
theorem ADx.e0 (i : Nat) {q : A} {B : BS} (hi : ops[i]? = some o) (hq : OpW P o t bs fun y b => y = q ∧ b = B) (hg : Opn N ops o t := by exact (by first | exact Opn.none rfl | exact Opn.known rfl rfl rfl (by first | exact Wk.refl _ | exact Wk.nil | exact Wk.clip _ | exact Wk.tip _ _ _ | exact Wk.opt _ _ (by first | assumption | rfl) | exact Wk.gr _ _ | exact Wk.nil_gr | exact Wk.trans (Wk.opt _ _ (by first | assumption | rfl)) (by first | exact Wk.gr _ _ | exact Wk.nil | exact Wk.clip _ | exact Wk.tip _ _ _) | exact Wk.aggs (by repeat (first | exact Wks.nil | refine Wks.cons (by first | exact Wk.refl _ | exact Wk.nil | exact Wk.clip _ | exact Wk.tip _ _ _ | exact Wk.gr _ _ | exact Wk.nil_gr | exact Wk.nil_ow | exact Wk.ms_ow _ _ _) ?_)) rfl | exact Wk.nil_ow | exact Wk.ms_ow _ _ _ | exact Wk.ow_ms _ _ _) (by first | rfl | assumption) (by decide))) (hdst : o.dst = none := by rfl) (hk : okOps o = true := by rfl) (hd : depsI ops idx i = true := by decide +kernel) (hld : loudI ops idx i = true := by decide +kernel) (hst : settleI ops idx i = true := by decide +kernel)
    (h : ADx P N ops Q ((i, true) :: idx) (⟨i, q, some []⟩ :: cl) t B) : ADx P N ops Q idx cl t bs := by
  intro h1 hk3
  obtain ⟨e1, ex, e2⟩ := depsI_1 h1 hd
  obtain ⟨e3, e4⟩ := loudI_1 h1 hld
  refine .w i hi e1 ex e2 (by rw [hdst]; rfl) hg hk hq e3 (fun _ _ _ c hc hf hdp => (e4 c hc hf hdp).elim) (fun y bs' hR c hc L hL hdp => ?_) fun y bs' ⟨f1, f2⟩ => ?_
  · have := List.all_eq_true.1 hst (c.i, c.need.isSome) (by rw [← h1]; exact List.mem_map.2 ⟨c, hc, rfl⟩)
    rw [Bool.and_eq_true] at this
    rw [this.1] at hdp; cases hdp
  · subst f1; subst f2; rw [hdst]
    exact h (by simp [h1]) (Hk.settle (by rw [h1]; exact hst))
/-- The last one, behind all others. -/
theorem ADx.last (i : Nat) (hi : ops[i]? = some o) (hg : Opn N ops o t := by exact (by first | exact Opn.none rfl | exact Opn.known rfl rfl rfl (by first | exact Wk.refl _ | exact Wk.nil | exact Wk.clip _ | exact Wk.tip _ _ _ | exact Wk.opt _ _ (by first | assumption | rfl) | exact Wk.gr _ _ | exact Wk.nil_gr | exact Wk.trans (Wk.opt _ _ (by first | assumption | rfl)) (by first | exact Wk.gr _ _ | exact Wk.nil | exact Wk.clip _ | exact Wk.tip _ _ _) | exact Wk.aggs (by repeat (first | exact Wks.nil | refine Wks.cons (by first | exact Wk.refl _ | exact Wk.nil | exact Wk.clip _ | exact Wk.tip _ _ _ | exact Wk.gr _ _ | exact Wk.nil_gr | exact Wk.nil_ow | exact Wk.ms_ow _ _ _) ?_)) rfl | exact Wk.nil_ow | exact Wk.ms_ow _ _ _ | exact Wk.ow_ms _ _ _) (by first | rfl | assumption) (by decide))) (hdst : o.dst = some d := by rfl) (hN : Nat.blt d N = true := by rfl) (hk : okOps o = true := by rfl) (hd : endI ops idx i = true := by decide +kernel) (hq : OpQ P o t bs y)
    (h : Q .normal ((d, y) :: t) bs) : ADx P N ops Q idx cl t bs := by
  intro h1 hk3
  unfold endI at hd
  simp only [Bool.and_eq_true, Bool.not_eq_true'] at hd
  exact .last i hi (by rw [claimed_fun h1]; exact hd.1.1) (by rw [claimed_fun h1]; exact hd.1.2) hd.2 (by rw [hdst]; exact hN) hg hk hq.w fun y' b ⟨e1, e2⟩ => by subst e1; subst e2; rw [hdst]; exact h
theorem ADx.in_ {id : Nat} {l : List Oper} (hm : P.follows .mixedOrders = true := by kernel_rfl) (hA : okAny l.toArray = true := by kernel_rfl) (hS : okSelf l.toArray = true := by kernel_rfl) (h : ADx P N l.toArray Q [] [] t bs) : AW P N (.region id l.toArray true) Q t bs := AW.draw hm hA hS (h rfl fun c hc => nomatch hc)
/-! ### what turns blocks -/
theorem W.al {zs : List Value} {cs : List A} (ho : o.op = .alloc ty := by rfl) (hz : TC P ty zs cs := by infer_instance) : OpW P o t bs fun y b => ∃ g, y = .ptr g 0 ∧ b = (g, .cells cs) :: bs := .alloc ho
theorem W.bx {cs : List A} (ho : o.op = .box ty x := by rfl) (hx : Wk (evA t x) y := by exact Wk.of_eq (by (conv => lhs; whnf) <;> rfl)) (hc : y.isCell = true ∨ ∃ xs, y = .agg xs := by exact (by first | exact .inl rfl | exact .inr ⟨_, rfl⟩)) (hcs : cellsOf y = cs := by exact (by (conv => lhs; whnf) <;> rfl)) : OpW P o t bs fun q b => ∃ g, q = .ptr g 0 ∧ b = (g, .cells cs) :: bs := .box ho hx hc hcs
theorem W.st {g p : Nat} {cs cs' : List A} {bs' : BS} (ho : o.op = .store ty x z := by rfl) (h1 : TI P ty td sz by_ := by infer_instance) (hx : Wk (evA t x) (.ptr g p) := by exact Wk.refl _) (hz : Wk (evA t z) y := by exact Wk.of_eq (by (conv => lhs; whnf) <;> rfl)) (hc : y.isCell = true ∨ ∃ xs, y = .agg xs := by exact (by first | exact .inl rfl | exact .inr ⟨_, rfl⟩)) (hm : (g, .cells cs) ∈ bs := by exact (by repeat (first | exact List.mem_cons_self | assumption | refine List.mem_cons_of_mem _ ?_ | refine mem_gB ?_ | refine mem_gO ?_))) (hcs : spl cs p (cellsOf y) = cs' := by exact (by first | ((simp only [spl, cellsOf, List.set_cons_zero, List.set_cons_succ]) <;> rfl) | rfl)) (hu : BUpd bs g (.cells cs) g (.cells cs') bs' := by exact (by repeat (first | exact BUpd.head | apply BUpd.tail | apply BUpd.gB | apply BUpd.gO))) (hl : p + sz ≤ cs.length := by exact (by first | rfl | (simp; done) | (simp only [List.length_map]; omega) | (simp; omega) | omega)) (hs : (cellsOf y).length = sz := by exact (by first | rfl | (simp; done) | (simp only [List.length_map]; omega) | (simp; omega) | omega)) : OpW P o t bs fun q b => q = .junk ∧ b = bs' := .store ho hx hz hc hm hcs hu hl hs
theorem W.sa {g : Nat} {cs ys : List A} {bs' : BS} (ho : o.op = .store ty x z := by rfl) (h1 : TI P ty td sz by_ := by infer_instance) (hx : Wk (evA t x) (.ptr g 0) := by exact Wk.refl _) (hz : Wk (evA t z) (.agg ys) := by exact Wk.refl _) (hm : (g, .cells cs) ∈ bs := by exact (by repeat (first | exact List.mem_cons_self | assumption | refine List.mem_cons_of_mem _ ?_ | refine mem_gB ?_ | refine mem_gO ?_))) (hu : BUpd bs g (.cells cs) g (.cells ys) bs' := by exact (by repeat (first | exact BUpd.head | apply BUpd.tail | apply BUpd.gB | apply BUpd.gO))) (hl : cs.length = sz := by exact (by first | rfl | (simp; done) | (simp only [List.length_map]; omega) | (simp; omega) | omega)) (hs : ys.length = sz := by exact (by first | rfl | (simp; done) | (simp only [List.length_map]; omega) | (simp; omega) | omega)) : OpW P o t bs fun q b => q = .junk ∧ b = bs' :=
  .store ho hx hz (.inr ⟨_, rfl⟩) hm (show spl cs 0 ys = ys from spl_all _ _ (by omega)) hu (by omega) hs
theorem W.gr {α : Type} {R : α → List A} {l l2 rs : List α} {e : TypeId} {s1 b1 s2 b2 : Nat} {d2 : TypeDesc} {zs : List Value} {cs : List A} {q : Option (Nat × Nat)} {B : Option (Nat × Nat) → BS} (hu : GU bs q l.length s2 e rs.length B) (hrs : l ++ l2 = rs) (hbd : (l.length + l2.length) * b2 ≤ 140737488355328) (hs : ∀ x, (R x).length = s2) (ho : o.op = .call { callee := .builtin .append, args := #[x, z], argTypes := #[ty, ty] } := by rfl) (h1 : TI P ty (.slice e) s1 b1 := by infer_instance) (h2 : TI P e d2 s2 b2 := by infer_instance) (hz : TC P e zs cs := by infer_instance)
    (hx : Wk (evA t x) (.gr q (l.map R)) := by first | exact Wk.refl _ | exact Wk.nil_gr) (hy : Wk (evA t z) (.sl (l2.map R)) := by first | exact Wk.refl _ | exact Wk.gr _ _ | exact Wk.clip _ | exact Wk.nil | exact Wk.tip _ _ _) (hzl : cs.length = s2 := by rfl) (hpos : 0 < s2 := by decide) (hb2 : 0 < b2 := by decide) : OpW P o t bs fun y b => ∃ q' : Option (Nat × Nat), y = .gr q' (rs.map R) ∧ b = B q' := by
  subst hrs
  have hl : ∀ r ∈ l.map R ++ l2.map R, r.length = s2 := by
    intro r hr; rw [← List.map_append] at hr; obtain ⟨x, _, rfl⟩ := List.mem_map.1 hr; exact hs x
  exact (OpW.grow (h1 := h1) (h2 := h2) (hz := hz) ho hx hy (B := B) (by simpa using hu) hzl hpos hb2 hl (by simpa using hbd)).imp fun y b ⟨q', e1, e3⟩ => ⟨q', by rw [List.map_append]; exact e1, e3⟩
theorem Q.mo (ho : o.op = .move x ∨ o.op = .assign x := by first | exact .inl rfl | exact .inr rfl) (hx : evA t x = y := by exact (by (conv => lhs; whnf) <;> rfl)) : OpQ P o t bs y := ho.elim (.move · hx) (.assign · hx)
end
theorem idx_none {α : Type} {v : List α} {i : Nat} {x : α} (hk : v.length = 0) (h : v[i]? = some x) : False := by
  rw [List.length_eq_zero_iff] at hk; subst hk; simp at h
theorem wk {a b : A} (h : Wk a b := by exact (by first | exact Wk.refl _ | exact Wk.nil | exact Wk.clip _ | exact Wk.tip _ _ _ | exact Wk.opt _ _ (by first | assumption | rfl) | exact Wk.gr _ _ | exact Wk.nil_gr | exact Wk.trans (Wk.opt _ _ (by first | assumption | rfl)) (by first | exact Wk.gr _ _ | exact Wk.nil | exact Wk.clip _ | exact Wk.tip _ _ _) | exact Wk.aggs (by repeat (first | exact Wks.nil | refine Wks.cons (by first | exact Wk.refl _ | exact Wk.nil | exact Wk.clip _ | exact Wk.tip _ _ _ | exact Wk.gr _ _ | exact Wk.nil_gr | exact Wk.nil_ow | exact Wk.ms_ow _ _ _) ?_)) rfl | exact Wk.nil_ow | exact Wk.ms_ow _ _ _ | exact Wk.ow_ms _ _ _)) : Wk a b := h
theorem mem_ {g : Nat} {b : Blk} {bs : BS} (h : (g, b) ∈ bs := by exact (by repeat (first | exact List.mem_cons_self | assumption | refine List.mem_cons_of_mem _ ?_ | refine mem_gB ?_ | refine mem_gO ?_))) : (g, b) ∈ bs := h
end Go.Proofs.YtnkkfmnpkgjabaaGreat.X

/- Own rows of which one is open: its cells stand as they are, a row that grows among them. -/
namespace Go.Proofs.YtnkkfmnpkgjabaaGreat.X
open Go.RowKit
set_option linter.unusedVariables false
set_option linter.unusedSimpArgs false
section
variable {P : Program} {N : Nat} {Q : Exit → T → BS → Prop} {o : Oper} {t : T} {bs : BS} {y : A} {x z : Operand} {ty : TypeId} {sz by_ : Nat} {td : TypeDesc} {α : Type} {R : α → List A} {v : List α} {q : α} {cs cs' : List A} {g i j c s : Nat} {e : TypeId}
theorem OpQ.idx_own {k : IntKind} {i : Int} {n : Nat} {s1 b1 : Nat} {d2 : TypeDesc} {s2 b2 : Nat} (h0 : 0 ≤ i) (hr : v[i.toNat]? = some q) (ho : o.op = .indexAddr ty x z := by rfl) (h1 : TI P ty (.slice e) s1 b1 := by infer_instance) (h2 : TI P e d2 s2 b2 := by infer_instance) (hx : Wk (evA t x) (.ms g 0 n c) := by first | exact Wk.refl _ | exact Wk.ow_ms _ _ _) (hn : v.length = n := by first | rfl | simp) (hz : Wk (evA t z) (.v (.int k i)) := by exact Wk.refl _) : OpQ P o t bs (.rp g s2 i.toNat 0) :=
  .idx_rows ho hx hz (by have := (List.getElem?_eq_some_iff.1 hr).1; omega) rfl
theorem OpQ.load_open (hv : v[i]? = some q) (ho : o.op = .load ty x := by rfl) (h1 : TI P ty td sz by_ := by infer_instance) (hx : Wk (evA t x) (.rp g s i j) := by exact Wk.refl _) (hm : (g, .rows ((v.map R).set i cs) c s e) ∈ bs := by exact (by repeat (first | exact List.mem_cons_self | assumption | refine List.mem_cons_of_mem _ ?_ | refine mem_gB ?_ | refine mem_gO ?_))) (hd : td.isRow = false := by rfl) (hy : cs[j]? = some y := by rfl) : OpQ P o t bs y :=
  OpQ.load_row ho hx hm (row := cs) (by rw [List.getElem?_set_self (by rw [List.length_map]; exact (List.getElem?_eq_some_iff.1 hv).1)]) hd hy
theorem OpW.store_open {bs' : BS} (hv : v[i]? = some q) (ho : o.op = .store ty x z := by rfl) (h1 : TI P ty td sz by_ := by infer_instance) (hx : Wk (evA t x) (.rp g s i j) := by exact Wk.refl _) (hz : Wk (evA t z) y := by exact Wk.of_eq (by (conv => lhs; whnf) <;> rfl)) (hc : y.isCell = true ∨ ∃ xs, y = .agg xs := by exact (by first | exact .inl rfl | exact .inr ⟨_, rfl⟩)) (hm : (g, .rows ((v.map R).set i cs) c s e) ∈ bs := by exact (by repeat (first | exact List.mem_cons_self | assumption | refine List.mem_cons_of_mem _ ?_ | refine mem_gB ?_ | refine mem_gO ?_))) (hcs : spl cs j (cellsOf y) = cs' := by exact (by first | ((simp only [spl, cellsOf, List.set_cons_zero, List.set_cons_succ]) <;> rfl) | rfl))
    (hu : BUpd bs g (.rows ((v.map R).set i cs) c s e) g (.rows ((v.map R).set i cs') c s e) bs' := by exact (by repeat (first | exact BUpd.head | apply BUpd.tail | apply BUpd.gB | apply BUpd.gO))) (hl : j + sz ≤ s := by decide) (hs : (cellsOf y).length = sz := by exact (by first | rfl | (simp; done) | (simp only [List.length_map]; omega) | (simp; omega) | omega)) : OpW P o t bs fun u b => u = .junk ∧ b = bs' :=
  OpW.store_row ho hx hz hc hm (row := cs) (by rw [List.getElem?_set_self (by rw [List.length_map]; exact (List.getElem?_eq_some_iff.1 hv).1)]) (rs' := (v.map R).set i cs') (by rw [hcs, List.set_set]) hu hl hs
/-- A store that opens the row. -/
theorem OpW.store_opens {bs' : BS} (hv : v[i]? = some q) (ho : o.op = .store ty x z := by rfl) (h1 : TI P ty td sz by_ := by infer_instance) (hx : Wk (evA t x) (.rp g s i j) := by exact Wk.refl _) (hz : Wk (evA t z) y := by exact Wk.of_eq (by (conv => lhs; whnf) <;> rfl)) (hc : y.isCell = true ∨ ∃ xs, y = .agg xs := by exact (by first | exact .inl rfl | exact .inr ⟨_, rfl⟩)) (hm : (g, .rows (v.map R) c s e) ∈ bs := by exact (by repeat (first | exact List.mem_cons_self | assumption | refine List.mem_cons_of_mem _ ?_ | refine mem_gB ?_ | refine mem_gO ?_))) (hcs : spl (R q) j (cellsOf y) = cs' := by exact (by first | ((simp only [spl, cellsOf, List.set_cons_zero, List.set_cons_succ]) <;> rfl) | rfl))
    (hu : BUpd bs g (.rows (v.map R) c s e) g (.rows ((v.map R).set i cs') c s e) bs' := by exact (by repeat (first | exact BUpd.head | apply BUpd.tail | apply BUpd.gB | apply BUpd.gO))) (hl : j + sz ≤ s := by decide) (hs : (cellsOf y).length = sz := by exact (by first | rfl | (simp; done) | (simp only [List.length_map]; omega) | (simp; omega) | omega)) : OpW P o t bs fun u b => u = .junk ∧ b = bs' :=
  OpW.store_row ho hx hz hc hm (row := R q) (by rw [List.getElem?_map, hv]; rfl) (rs' := (v.map R).set i cs') (by rw [hcs]) hu hl hs
inductive WkR : List (List A) → List (List A) → Prop where
  | nil : WkR [] []
  | cons {r r' : List A} {l l' : List (List A)} (h : Wks r r') (k : WkR l l') : WkR (r :: l) (r' :: l')
theorem WkR.len {l l' : List (List A)} (h : WkR l l') : l.length = l'.length := by
  induction h with
  | nil => rfl
  | cons _ _ ih => simp [ih]
theorem WkR.get {l l' : List (List A)} (h : WkR l l') : ∀ {n : Nat} (h1 : n < l.length) (h2 : n < l'.length), Wks l[n] l'[n] := by
  induction h with
  | nil => intro n h1; exact absurd h1 (Nat.not_lt_zero _)
  | cons h _ ih =>
    intro n h1 h2
    cases n with
    | zero => exact h
    | succ n => exact ih (by simpa using h1) (by simpa using h2)
theorem flat_wk {rs rs' : List (List A)} (h : WkR rs rs') : rs.flatten.length = rs'.flatten.length ∧ ∀ (k : Nat) (a b : A), rs.flatten[k]? = some a → rs'.flatten[k]? = some b → Wk a b := by
  induction h with
  | nil => exact ⟨rfl, by simp⟩
  | @cons r r' l l' h _ ih =>
    obtain ⟨l1, l2⟩ := h.get
    obtain ⟨i1, i2⟩ := ih
    refine ⟨by simp only [List.flatten_cons, List.length_append]; omega, fun k a b ha hb => ?_⟩
    rw [List.flatten_cons] at ha hb
    by_cases hk : k < r.length
    · rw [List.getElem?_append_left hk] at ha
      rw [List.getElem?_append_left (by omega)] at hb
      exact l2 k a b ha hb
    · rw [List.getElem?_append_right (by omega)] at ha
      rw [List.getElem?_append_right (by omega)] at hb
      rw [← l1] at hb
      exact i2 _ a b ha hb
theorem Wks.refl : ∀ l : List A, Wks l l
  | [] => .nil
  | a :: l => .cons (.refl a) (Wks.refl l)
theorem all_refl : ∀ l : List (List A), WkR l l
  | [] => .nil
  | r :: l => .cons (Wks.refl r) (all_refl l)
theorem set_wk {q' : α} (h : Wks cs (R q')) : ∀ (v : List α) (i : Nat), WkR ((v.map R).set i cs) ((v.set i q').map R)
  | [], _ => .nil
  | a :: v, 0 => .cons h (all_refl _)
  | a :: v, i + 1 => .cons (Wks.refl _) (set_wk h v i)
theorem BsOk.wkrows {w : World} {rs rs' : List (List A)} {r : BS} (h : BsOk w ((g, .rows rs c s e) :: r)) (k : WkR rs rs') : BsOk w ((g, .rows rs' c s e) :: r) := by
  obtain ⟨f1, f2⟩ := flat_wk k
  have hz : zones ((g, Blk.rows rs' c s e) :: r) = zones ((g, Blk.rows rs c s e) :: r) := rfl
  refine ⟨h.nodup, fun x hx => ?_⟩
  rw [hz]
  rcases List.mem_cons.1 hx with rfl | hx
  · obtain ⟨arr, a1, a2, a3, a4, a5, a6⟩ := h.ok _ List.mem_cons_self
    have hlen : rs.length = rs'.length := k.len
    refine ⟨arr, a1, by omega, a3, a4, fun r' hr' => ?_, fun k x hk => ?_⟩
    · obtain ⟨n, hn, rfl⟩ := List.mem_iff_getElem.1 hr'
      have h5 := a5 (rs[n]'(by omega)) (List.getElem_mem _)
      have h6 : Wks (rs[n]'(by omega)) rs'[n] := k.get (by omega) hn
      rw [← h6.get.1]; exact h5
    · obtain ⟨p, hp⟩ : ∃ p, rs.flatten[k]? = some p := ⟨_, List.getElem?_eq_getElem (by rw [f1]; exact (List.getElem?_eq_some_iff.1 hk).1)⟩
      obtain ⟨c1, c2⟩ := a6 k p hp
      exact ⟨c1.wk (f2 k p x hp hk), c2⟩
  · exact h.ok x (List.mem_cons_of_mem _ hx)
/-- The open row is shut. -/
theorem AW.close {x : Code} {r : BS} (q' : α) (hp : Pick bs (g, .rows ((v.map R).set i cs) c s e) r := by exact (by ((repeat (first | exact Pick.here | apply Pick.tail | apply Pick.gB | apply Pick.gO)); done))) (hw : Wks cs (R q') := by exact (by repeat (first | exact Wks.nil | refine Wks.cons (by first | exact Wk.refl _ | exact Wk.nil | exact Wk.clip _ | exact Wk.tip _ _ _ | exact Wk.opt _ _ (by first | assumption | rfl) | exact Wk.gr _ _ | exact Wk.nil_gr | exact Wk.trans (Wk.opt _ _ (by first | assumption | rfl)) (by first | exact Wk.gr _ _ | exact Wk.nil | exact Wk.clip _ | exact Wk.tip _ _ _) | exact Wk.aggs (by repeat (first | exact Wks.nil | refine Wks.cons (by first | exact Wk.refl _ | exact Wk.nil | exact Wk.clip _ | exact Wk.tip _ _ _ | exact Wk.gr _ _ | exact Wk.nil_gr | exact Wk.nil_ow | exact Wk.ms_ow _ _ _) ?_)) rfl | exact Wk.nil_ow | exact Wk.ms_ow _ _ _ | exact Wk.ow_ms _ _ _) ?_))) (h : AW P N x Q t ((g, .rows ((v.set i q').map R) c s e) :: r)) : AW P N x Q t bs := fun w0 Z0 a w hg he => by
  have hz := zones_perm hp.perm
  have hb := hg.bs.perm hp.perm
  exact h w0 Z0 a w ⟨hg.defers, hg.size, fun i => (hg.tmps i).less hz, hb.wkrows (set_wk hw v i)⟩ (he.less hz)
/-- A literal's rows are one's own. -/
theorem W.lo {l : List α} {s1 b1 s2 b2 k : Nat} {d2 : TypeDesc} {zs : List Value} {parts : Array (Nat × Operand)} {r : List Operand} {ys : List A} (ho : o.op = .buildSlice ty k parts := by rfl) (h1 : TI P ty (.slice e) s1 b1 := by infer_instance) (h2 : TI P e d2 s2 b2 := by infer_instance) (hz : TC P e zs cs := by infer_instance) (hr0 : parts.toList.map (·.2) = r := by (simp only [List.map_cons, List.map_nil] <;> rfl))
    (hp : parts = (r.zipIdx.map fun p => (p.2, p.1)).toArray := by rfl) (hr : Rows_ t r ys := by exact (by repeat (first | exact Rows_.nil | (apply Rows_.cons; exact Wk.of_eq (by (conv => lhs; whnf) <;> rfl); exact (by first | exact .inl rfl | exact .inr ⟨_, rfl⟩))))) (hn : r.length = k := by rfl) (hs : ys.all (fun y => (cellsOf y).length == s2) = true := by exact (by first | rfl | (simp [cellsOf]; done) | (simp only [List.map_cons, List.map_nil, cellsOf]) <;> rfl)) (hrows : ys.map cellsOf = l.map R := by rfl) (hlim : k * s2 ≤ 16777216 := by decide) (hpos : 0 < s2 := by decide) (hk : k = l.length := by rfl) : OpW P o t bs fun y b => ∃ g, y = .ms g 0 l.length l.length ∧ b = (g, .rows (l.map R) l.length s2 e) :: bs := by
  have := OpW.lits (P := P) (t := t) (bs := bs) (h1 := h1) (h2 := h2) (hz := hz) ho hr0 hp hr hn hs hrows hlim hpos
  rw [hk] at this
  exact this
/-- Rows made, and never written. -/
theorem OpQ.make_flat {s1 b1 s2 b2 : Nat} {d2 : TypeDesc} {zs : List Value} {zq : α} {k j : IntKind} {i1 i2 : Int} {n c : Nat} (e1 : i1 = (n : Nat)) (e2 : i2 = (c : Nat)) (hnc : n ≤ c) (hc : c * b2 ≤ 140737488355328 ∧ c ≤ 140737488355328) (hR : R zq = cs) (ho : o.op = .makeSlice ty x z := by rfl) (h1 : TI P ty (.slice e) s1 b1 := by infer_instance) (h2 : TI P e d2 s2 b2 := by infer_instance) (hz : TC P e zs cs := by infer_instance)
    (hx : Wk (evA t x) (.v (.int k i1)) := by exact Wk.refl _) (hz2 : Wk (evA t z) (.v (.int j i2)) := by exact Wk.refl _) (hl : cs.length = s2 := by rfl) (hpos : 0 < s2 := by decide) : OpQ P o t bs (.sl ((List.replicate n zq).map R)) := fun a w h hb K Q hK =>
  OpW.make_rows ho hx hz2 e1 e2 hnc hl hR hpos hc a w h hb K Q fun u w' y bs' ⟨g, e3, e4⟩ hr hb' he => by
    subst e3; subst e4
    have hb2 : BsOk w' (gO (some (g, c)) ((List.replicate n zq).map R) s2 e bs) := hb'
    obtain ⟨h1, h2⟩ := hb'.less (List.sublist_cons_self _ _)
    exact hK u w' (FzV.rep hb2 hr (.ms rfl (by simp) rfl)) h1 (he.less h2)
end
theorem Wk.ow_len {q : Option (Nat × Nat)} {n m : Nat} (h : n = m) : Wk (.ow q n) (.ow q m) := h ▸ .refl _
theorem Wk.ms_len {g p c n m : Nat} (h : n = m) : Wk (.ms g p n c) (.ms g p m c) := h ▸ .refl _
theorem sl_ {s bs : BS} (h : Subp s bs := by exact (by first | exact Subp.rfl_ | (refine Subp.fin ?_; ((repeat (first | exact List.Sublist.refl _ | apply List.Sublist.cons | apply Sl.gB | apply Sl.gO)); done)) | (repeat (first | exact Subp.rfl_ | refine Subp.x (by ((repeat (first | exact Pick.here | apply Pick.tail | apply Pick.gB | apply Pick.gO)); done)) ?_ | refine Subp.w (by ((repeat (first | exact Pick.here | apply Pick.tail | apply Pick.gB | apply Pick.gO)); done)) (by repeat (first | exact Wks.nil | refine Wks.cons (by first | exact Wk.refl _ | exact Wk.nil | exact Wk.clip _ | exact Wk.tip _ _ _ | exact Wk.opt _ _ (by first | assumption | rfl) | exact Wk.gr _ _ | exact Wk.nil_gr | exact Wk.trans (Wk.opt _ _ (by first | assumption | rfl)) (by first | exact Wk.gr _ _ | exact Wk.nil | exact Wk.clip _ | exact Wk.tip _ _ _) | exact Wk.aggs (by repeat (first | exact Wks.nil | refine Wks.cons (by first | exact Wk.refl _ | exact Wk.nil | exact Wk.clip _ | exact Wk.tip _ _ _ | exact Wk.gr _ _ | exact Wk.nil_gr | exact Wk.nil_ow | exact Wk.ms_ow _ _ _) ?_)) rfl | exact Wk.nil_ow | exact Wk.ms_ow _ _ _ | exact Wk.ow_ms _ _ _) ?_)) ?_ | refine Subp.b (by ((repeat (first | exact PickL.here | apply PickL.tail | apply PickL.gB | apply PickL.gO)); done)) ?_ | refine Subp.o (by ((repeat (first | exact PickL.here | apply PickL.tail | apply PickL.gB | apply PickL.gO)); done)) ?_ | (refine Subp.fin ?_; ((repeat (first | exact List.Sublist.refl _ | apply List.Sublist.cons | apply Sl.gB | apply Sl.gO)); done)))))) : Subp s bs := h
theorem sub_ {a b : T} (h : Sub a b := by repeat (first | exact Sub.nil | refine Sub.cons (k := ?_) | refine Sub.cons (h := Wk.ow_len (by simp)) (k := ?_) | refine Sub.cons (h := Wk.trans (Wk.ow_len (by simp)) (Wk.ow_ms _ _ _)) (k := ?_))) : Sub a b := h
theorem wkr_ {a b : A} (h : Wk a b := by exact (by first | exact Wk.refl _ | exact (by first | exact Wk.refl _ | exact Wk.nil | exact Wk.clip _ | exact Wk.tip _ _ _ | exact Wk.opt _ _ (by first | assumption | rfl) | exact Wk.gr _ _ | exact Wk.nil_gr | exact Wk.trans (Wk.opt _ _ (by first | assumption | rfl)) (by first | exact Wk.gr _ _ | exact Wk.nil | exact Wk.clip _ | exact Wk.tip _ _ _) | exact Wk.aggs (by repeat (first | exact Wks.nil | refine Wks.cons (by first | exact Wk.refl _ | exact Wk.nil | exact Wk.clip _ | exact Wk.tip _ _ _ | exact Wk.gr _ _ | exact Wk.nil_gr | exact Wk.nil_ow | exact Wk.ms_ow _ _ _) ?_)) rfl | exact Wk.nil_ow | exact Wk.ms_ow _ _ _ | exact Wk.ow_ms _ _ _) | exact Wk.tups (by repeat (first | exact Wks.nil | refine Wks.cons (by first | exact Wk.refl _ | exact Wk.nil | exact Wk.clip _ | exact Wk.tip _ _ _ | exact Wk.opt _ _ (by first | assumption | rfl) | exact Wk.gr _ _ | exact Wk.nil_gr | exact Wk.trans (Wk.opt _ _ (by first | assumption | rfl)) (by first | exact Wk.gr _ _ | exact Wk.nil | exact Wk.clip _ | exact Wk.tip _ _ _) | exact Wk.aggs (by repeat (first | exact Wks.nil | refine Wks.cons (by first | exact Wk.refl _ | exact Wk.nil | exact Wk.clip _ | exact Wk.tip _ _ _ | exact Wk.gr _ _ | exact Wk.nil_gr | exact Wk.nil_ow | exact Wk.ms_ow _ _ _) ?_)) rfl | exact Wk.nil_ow | exact Wk.ms_ow _ _ _ | exact Wk.ow_ms _ _ _) ?_)))) : Wk a b := h
theorem fzt_ {q : Option (Nat × Nat)} {rs : List (List A)} {t t' : T} (h : FzT q rs t t' := by exact (by repeat (first | exact trivial | refine ⟨(by first | exact FzV.refl _ | exact FzV.ow (by simp) rfl | exact FzV.ms rfl (by simp) rfl | exact FzV.aggs (by repeat (first | exact FzL.nil | refine FzL.cons (by first | exact FzV.refl _ | exact FzV.ow (by simp) rfl | exact FzV.ms rfl (by simp) rfl) ?_))), ?_⟩))) : FzT q rs t t' := h
theorem fzb_ {q : Option (Nat × Nat)} {rs : List (List A)} {r r' : BS} (h : FzB q rs r r' := by exact (by repeat (first | exact FzB.refl _ | refine FzB.cells (by repeat (first | exact FzL.nil | refine FzL.cons (by first | exact FzV.refl _ | exact FzV.ow (by simp) rfl | exact FzV.ms rfl (by simp) rfl) ?_)) ?_ | apply FzB.cons | apply FzB.gB | apply FzB.gO))) : FzB q rs r r' := h
theorem pk_ {bs r : BS} {x : Nat × Blk} (h : Pick bs x r := by exact (by ((repeat (first | exact Pick.here | apply Pick.tail | apply Pick.gB | apply Pick.gO)); done))) : Pick bs x r := h
theorem pkl_ {bs r : BS} {f : BS → BS} (h : PickL bs f r := by exact (by ((repeat (first | exact PickL.here | apply PickL.tail | apply PickL.gB | apply PickL.gO)); done))) : PickL bs f r := h
end Go.Proofs.YtnkkfmnpkgjabaaGreat.X

/- Short names for the steps that stand most often in printed text. -/
namespace Go.Proofs.YtnkkfmnpkgjabaaGreat.X
open Go.RowKit
set_option linter.unusedVariables false
set_option linter.unusedSimpArgs false
section
variable {P : Program} {N : Nat} {ops : Array Oper} {Q : Exit → T → BS → Prop} {o : Oper} {rest : List Oper} {t : T} {bs : BS} {y : A} {cl : List Clm} {d : Nat} {idx : Idx}
theorem s_ (hq : OpQ P o t bs y) (h : AL P N ops Q rest ((d, y) :: t) bs) (hg : o.guard = none := by rfl) (hd : o.dst = some d := by rfl) (hN : Nat.blt d N = true := by rfl) (hk : okOps o = true := by rfl) : AL P N ops Q (o :: rest) t bs := .s (hg := hg) (hd := hd) (hN := hN) (hk := hk) (hq := hq) (h := h)
theorem gk_ {j dj : Nat} {oj : Oper} {want e : Bool} (hq : OpQ P o t bs y) (h : AL P N ops Q rest ((d, y) :: t) bs) (hg : o.guard = some (j, want) := by rfl) (hj : ops[j]? = some oj := by rfl) (hdj : oj.dst = some dj := by rfl) (hl : Wk (look t dj) (.v (.bool e)) := by exact Wk.refl _) (he : e = want := by first | rfl | assumption) (hlt : dj < N := by decide) (hk : okOps o = true := by rfl) (hd : o.dst = some d := by rfl) (hN : Nat.blt d N = true := by rfl) : AL P N ops Q (o :: rest) t bs :=
  .gk (hg := hg) (hj := hj) (hdj := hdj) (hl := hl) (he := he) (hq := hq) (hlt := hlt) (hk := hk) (hd := hd) (hN := hN) (h := h)
theorem gs_ {j dj : Nat} {oj : Oper} {want : Bool} (h : AL P N ops Q rest ((d, offA) :: t) bs) (hg : o.guard = some (j, want) := by rfl) (hj : ops[j]? = some oj := by rfl) (hdj : oj.dst = some dj := by rfl) (hl : GB t dj want false := by exact (by first | exact GB.sv (by first | exact Wk.refl _ | exact Wk.nil | exact Wk.clip _ | exact Wk.tip _ _ _ | exact Wk.opt _ _ (by first | assumption | rfl) | exact Wk.gr _ _ | exact Wk.nil_gr | exact Wk.trans (Wk.opt _ _ (by first | assumption | rfl)) (by first | exact Wk.gr _ _ | exact Wk.nil | exact Wk.clip _ | exact Wk.tip _ _ _) | exact Wk.aggs (by repeat (first | exact Wks.nil | refine Wks.cons (by first | exact Wk.refl _ | exact Wk.nil | exact Wk.clip _ | exact Wk.tip _ _ _ | exact Wk.gr _ _ | exact Wk.nil_gr | exact Wk.nil_ow | exact Wk.ms_ow _ _ _) ?_)) rfl | exact Wk.nil_ow | exact Wk.ms_ow _ _ _ | exact Wk.ow_ms _ _ _) (by first | rfl | assumption) | exact GB.o (by rfl) (by rfl))) (hlt : dj < N := by decide) (hk : okOps o = true := by rfl) (hd : o.dst = some d := by rfl) (hN : Nat.blt d N = true := by rfl) : AL P N ops Q (o :: rest) t bs :=
  .gs (hg := hg) (hj := hj) (hdj := hdj) (hl := hl) (hlt := hlt) (hk := hk) (hd := hd) (hN := hN) (h := h)
theorem f_ (i : Nat) (hi : ops[i]? = some o) (hq : ∀ bs, OpQ P o t bs y) (h : ADx P N ops Q ((i, true) :: idx) (⟨i, y, some []⟩ :: cl) ((d, y) :: t) bs) (hg : o.guard = none := by rfl) (hdst : o.dst = some d := by rfl) (hN : Nat.blt d N = true := by rfl) (hk : okOps o = true := by rfl) (hd : depsI ops idx i = true := by decide +kernel) : ADx P N ops Q idx cl t bs :=
  .f i hi (hg := hg) (hdst := hdst) (hN := hN) (hk := hk) (hd := hd) (hq := hq) (h := h)
theorem fk_ (i : Nat) (hi : ops[i]? = some o) {j dj : Nat} {oj : Oper} {want e : Bool} (hq : ∀ bs, OpQ P o t bs y) (h : ADx P N ops Q ((i, true) :: idx) (⟨i, y, some []⟩ :: cl) ((d, y) :: t) bs) (hg : o.guard = some (j, want) := by rfl) (hj : ops[j]? = some oj := by rfl) (hdj : oj.dst = some dj := by rfl) (hl : Wk (look t dj) (.v (.bool e)) := by exact Wk.refl _) (he : e = want := by first | rfl | assumption) (hlt : dj < N := by decide) (hdst : o.dst = some d := by rfl) (hN : Nat.blt d N = true := by rfl) (hk : okOps o = true := by rfl) (hd : depsI ops idx i = true := by decide +kernel) : ADx P N ops Q idx cl t bs :=
  .fk i hi (hg := hg) (hj := hj) (hdj := hdj) (hl := hl) (he := he) (hlt := hlt) (hdst := hdst) (hN := hN) (hk := hk) (hd := hd) (hq := hq) (h := h)
end
end Go.Proofs.YtnkkfmnpkgjabaaGreat.X

/- Loops and meets of so many things that turn, so many rows that grow. Printed by a program of this repo (gen_l3.py). -/
namespace Go.Proofs.YtnkkfmnpkgjabaaGreat.X
set_option linter.unusedVariables false
section
variable {P : Program} {N : Nat} {x : Code} {Q : Exit → T → BS → Prop} {t : T} {bs : BS}
@[reducible] def lpQ0_0 {τ : Type} (T' : T) (B : BS) (p : Prop) (v : (Unit) ⊕ τ) (o : τ) (Q : Exit → T → BS → Prop) : Exit → T → BS → Prop := lpQ (fun (s : Unit) (a : Unit) => T') (fun (s : Unit) (a : Unit) => B) (fun (s : Unit) (a : Unit) => p) v o Q
theorem lpQ0_0.n {τ : Type} {T' : T} {B : BS} {p : Prop} {v : (Unit) ⊕ τ} {o : τ} (h : v = .inl ()) (hp : p) (hs : Sub t (T')) (hb : Subp (B) bs) : lpQ0_0 T' B p v o Q .normal t bs := lpQ.n () () h hp hs hb
theorem lpQ0_0.e {τ : Type} {i : Nat} {T' : T} {B : BS} {p : Prop} {v : (Unit) ⊕ τ} {o : τ} (o' : τ) (h : v = .inr o') (k : o = o' → Q (.exit i) t bs) : lpQ0_0 T' B p v o Q (.exit i) t bs := lpQ.e o' h k
theorem lpQ0_0.r {τ : Type} {T' : T} {B : BS} {p : Prop} {v : (Unit) ⊕ τ} {o : τ} (o' : τ) (h : v = .inr o') (k : o = o' → Q .ret t bs) : lpQ0_0 T' B p v o Q .ret t bs := lpQ.r o' h k
theorem AW.loopF0_0 {τ : Type} {body : (Unit) → Option ((Unit) ⊕ τ)} {o : τ} (hL : X.loopF body () = some o) (T' : T) (B : BS) (p : Prop) (h0 : p) (ht : Sub t (T')) (hb : Subp (B) bs)
    (round : ∀ v, p → body () = some v → AW P N x (lpQ0_0 T' B p v o Q) (T') (B)) : AW P N (.loop x) Q t bs :=
  AW.loopF hL (fun (s : Unit) (a : Unit) => T') (fun (s : Unit) (a : Unit) => B) (fun (s : Unit) (a : Unit) => p) () h0 ht hb fun _ _ v hp hB => round v hp hB
@[reducible] def jnQ0_0 (T' : T) (B : BS) (p : Prop) (Q : Exit → T → BS → Prop) : Exit → T → BS → Prop := jnQ (fun (s : Unit) (a : Unit) => T') (fun (s : Unit) (a : Unit) => B) (fun (s : Unit) (a : Unit) => p) Q
theorem jnQ0_0.n {T' : T} {B : BS} {p : Prop} (hp : p) (hs : Sub t (T')) (hb : Subp (B) bs) : jnQ0_0 T' B p Q .normal t bs := jnQ.n () () hp hs hb
theorem jnQ0_0.e {i : Nat} {T' : T} {B : BS} {p : Prop} (h : Q (.exit i) t bs) : jnQ0_0 T' B p Q (.exit i) t bs := h
theorem jnQ0_0.r {T' : T} {B : BS} {p : Prop} (h : Q .ret t bs) : jnQ0_0 T' B p Q .ret t bs := h
theorem AW.join0_0 (T' : T) (B : BS) (p : Prop) (hx : AW P N x (jnQ0_0 T' B p Q) t bs) (hk : p → Q .normal (T') (B)) : AW P N x Q t bs :=
  AW.join (fun (s : Unit) (a : Unit) => T') (fun (s : Unit) (a : Unit) => B) (fun (s : Unit) (a : Unit) => p) hx fun _ _ hp => hk hp
@[reducible] def lpQ1_0 {σ1 : Type} {τ : Type} (T' : σ1 → T) (B : σ1 → BS) (p : σ1 → Prop) (v : (σ1) ⊕ τ) (o : τ) (Q : Exit → T → BS → Prop) : Exit → T → BS → Prop := lpQ (fun (s : σ1) (a : Unit) => T' s) (fun (s : σ1) (a : Unit) => B s) (fun (s : σ1) (a : Unit) => p s) v o Q
theorem lpQ1_0.n {σ1 : Type} {τ : Type} {T' : σ1 → T} {B : σ1 → BS} {p : σ1 → Prop} {v : (σ1) ⊕ τ} {o : τ} (s1 : σ1) (h : v = .inl s1) (hp : p s1) (hs : Sub t (T' s1)) (hb : Subp (B s1) bs) : lpQ1_0 T' B p v o Q .normal t bs := lpQ.n s1 () h hp hs hb
theorem lpQ1_0.e {σ1 : Type} {τ : Type} {i : Nat} {T' : σ1 → T} {B : σ1 → BS} {p : σ1 → Prop} {v : (σ1) ⊕ τ} {o : τ} (o' : τ) (h : v = .inr o') (k : o = o' → Q (.exit i) t bs) : lpQ1_0 T' B p v o Q (.exit i) t bs := lpQ.e o' h k
theorem lpQ1_0.r {σ1 : Type} {τ : Type} {T' : σ1 → T} {B : σ1 → BS} {p : σ1 → Prop} {v : (σ1) ⊕ τ} {o : τ} (o' : τ) (h : v = .inr o') (k : o = o' → Q .ret t bs) : lpQ1_0 T' B p v o Q .ret t bs := lpQ.r o' h k
theorem AW.loopF1_0 {σ1 : Type} {τ : Type} {body : (σ1) → Option ((σ1) ⊕ τ)} {s1 : σ1} {o : τ} (hL : X.loopF body s1 = some o) (T' : σ1 → T) (B : σ1 → BS) (p : σ1 → Prop) (h0 : p s1) (ht : Sub t (T' s1)) (hb : Subp (B s1) bs)
    (round : ∀ (s1 : σ1) v, p s1 → body s1 = some v → AW P N x (lpQ1_0 T' B p v o Q) (T' s1) (B s1)) : AW P N (.loop x) Q t bs :=
  AW.loopF hL (fun (s : σ1) (a : Unit) => T' s) (fun (s : σ1) (a : Unit) => B s) (fun (s : σ1) (a : Unit) => p s) () h0 ht hb fun s1 _ v hp hB => round s1 v hp hB
@[reducible] def jnQ1_0 {σ1 : Type} (T' : σ1 → T) (B : σ1 → BS) (p : σ1 → Prop) (Q : Exit → T → BS → Prop) : Exit → T → BS → Prop := jnQ (fun (s : σ1) (a : Unit) => T' s) (fun (s : σ1) (a : Unit) => B s) (fun (s : σ1) (a : Unit) => p s) Q
theorem jnQ1_0.n {σ1 : Type} {T' : σ1 → T} {B : σ1 → BS} {p : σ1 → Prop} (s1 : σ1) (hp : p s1) (hs : Sub t (T' s1)) (hb : Subp (B s1) bs) : jnQ1_0 T' B p Q .normal t bs := jnQ.n s1 () hp hs hb
theorem jnQ1_0.e {σ1 : Type} {i : Nat} {T' : σ1 → T} {B : σ1 → BS} {p : σ1 → Prop} (h : Q (.exit i) t bs) : jnQ1_0 T' B p Q (.exit i) t bs := h
theorem jnQ1_0.r {σ1 : Type} {T' : σ1 → T} {B : σ1 → BS} {p : σ1 → Prop} (h : Q .ret t bs) : jnQ1_0 T' B p Q .ret t bs := h
theorem AW.join1_0 {σ1 : Type} (T' : σ1 → T) (B : σ1 → BS) (p : σ1 → Prop) (hx : AW P N x (jnQ1_0 T' B p Q) t bs) (hk : ∀ (s1 : σ1), p s1 → Q .normal (T' s1) (B s1)) : AW P N x Q t bs :=
  AW.join (fun (s : σ1) (a : Unit) => T' s) (fun (s : σ1) (a : Unit) => B s) (fun (s : σ1) (a : Unit) => p s) hx fun s1 _ hp => hk s1 hp
@[reducible] def lpQ1_1 {σ1 α1 : Type} {τ : Type} (T' : σ1 → α1 → T) (B : σ1 → α1 → BS) (p : σ1 → α1 → Prop) (v : (σ1) ⊕ τ) (o : τ) (Q : Exit → T → BS → Prop) : Exit → T → BS → Prop := lpQ (fun (s : σ1) (a : α1) => T' s a) (fun (s : σ1) (a : α1) => B s a) (fun (s : σ1) (a : α1) => p s a) v o Q
theorem lpQ1_1.n {σ1 α1 : Type} {τ : Type} {T' : σ1 → α1 → T} {B : σ1 → α1 → BS} {p : σ1 → α1 → Prop} {v : (σ1) ⊕ τ} {o : τ} (s1 : σ1) (a1 : α1) (h : v = .inl s1) (hp : p s1 a1) (hs : Sub t (T' s1 a1)) (hb : Subp (B s1 a1) bs) : lpQ1_1 T' B p v o Q .normal t bs := lpQ.n s1 a1 h hp hs hb
theorem lpQ1_1.e {σ1 α1 : Type} {τ : Type} {i : Nat} {T' : σ1 → α1 → T} {B : σ1 → α1 → BS} {p : σ1 → α1 → Prop} {v : (σ1) ⊕ τ} {o : τ} (o' : τ) (h : v = .inr o') (k : o = o' → Q (.exit i) t bs) : lpQ1_1 T' B p v o Q (.exit i) t bs := lpQ.e o' h k
theorem lpQ1_1.r {σ1 α1 : Type} {τ : Type} {T' : σ1 → α1 → T} {B : σ1 → α1 → BS} {p : σ1 → α1 → Prop} {v : (σ1) ⊕ τ} {o : τ} (o' : τ) (h : v = .inr o') (k : o = o' → Q .ret t bs) : lpQ1_1 T' B p v o Q .ret t bs := lpQ.r o' h k
theorem AW.loopF1_1 {σ1 α1 : Type} {τ : Type} {body : (σ1) → Option ((σ1) ⊕ τ)} {s1 : σ1} {o : τ} (hL : X.loopF body s1 = some o) (T' : σ1 → α1 → T) (B : σ1 → α1 → BS) (p : σ1 → α1 → Prop) (a1 : α1) (h0 : p s1 a1) (ht : Sub t (T' s1 a1)) (hb : Subp (B s1 a1) bs)
    (round : ∀ (s1 : σ1) (a1 : α1) v, p s1 a1 → body s1 = some v → AW P N x (lpQ1_1 T' B p v o Q) (T' s1 a1) (B s1 a1)) : AW P N (.loop x) Q t bs :=
  AW.loopF hL (fun (s : σ1) (a : α1) => T' s a) (fun (s : σ1) (a : α1) => B s a) (fun (s : σ1) (a : α1) => p s a) a1 h0 ht hb fun s1 a1 v hp hB => round s1 a1 v hp hB
@[reducible] def jnQ1_1 {σ1 α1 : Type} (T' : σ1 → α1 → T) (B : σ1 → α1 → BS) (p : σ1 → α1 → Prop) (Q : Exit → T → BS → Prop) : Exit → T → BS → Prop := jnQ (fun (s : σ1) (a : α1) => T' s a) (fun (s : σ1) (a : α1) => B s a) (fun (s : σ1) (a : α1) => p s a) Q
theorem jnQ1_1.n {σ1 α1 : Type} {T' : σ1 → α1 → T} {B : σ1 → α1 → BS} {p : σ1 → α1 → Prop} (s1 : σ1) (a1 : α1) (hp : p s1 a1) (hs : Sub t (T' s1 a1)) (hb : Subp (B s1 a1) bs) : jnQ1_1 T' B p Q .normal t bs := jnQ.n s1 a1 hp hs hb
theorem jnQ1_1.e {σ1 α1 : Type} {i : Nat} {T' : σ1 → α1 → T} {B : σ1 → α1 → BS} {p : σ1 → α1 → Prop} (h : Q (.exit i) t bs) : jnQ1_1 T' B p Q (.exit i) t bs := h
theorem jnQ1_1.r {σ1 α1 : Type} {T' : σ1 → α1 → T} {B : σ1 → α1 → BS} {p : σ1 → α1 → Prop} (h : Q .ret t bs) : jnQ1_1 T' B p Q .ret t bs := h
theorem AW.join1_1 {σ1 α1 : Type} (T' : σ1 → α1 → T) (B : σ1 → α1 → BS) (p : σ1 → α1 → Prop) (hx : AW P N x (jnQ1_1 T' B p Q) t bs) (hk : ∀ (s1 : σ1) (a1 : α1), p s1 a1 → Q .normal (T' s1 a1) (B s1 a1)) : AW P N x Q t bs :=
  AW.join (fun (s : σ1) (a : α1) => T' s a) (fun (s : σ1) (a : α1) => B s a) (fun (s : σ1) (a : α1) => p s a) hx fun s1 a1 hp => hk s1 a1 hp
@[reducible] def lpQ2_0 {σ1 σ2 : Type} {τ : Type} (T' : σ1 → σ2 → T) (B : σ1 → σ2 → BS) (p : σ1 → σ2 → Prop) (v : (σ1 × σ2) ⊕ τ) (o : τ) (Q : Exit → T → BS → Prop) : Exit → T → BS → Prop := lpQ (fun (s : σ1 × σ2) (a : Unit) => T' s.1 s.2) (fun (s : σ1 × σ2) (a : Unit) => B s.1 s.2) (fun (s : σ1 × σ2) (a : Unit) => p s.1 s.2) v o Q
theorem lpQ2_0.n {σ1 σ2 : Type} {τ : Type} {T' : σ1 → σ2 → T} {B : σ1 → σ2 → BS} {p : σ1 → σ2 → Prop} {v : (σ1 × σ2) ⊕ τ} {o : τ} (s1 : σ1) (s2 : σ2) (h : v = .inl (s1, s2)) (hp : p s1 s2) (hs : Sub t (T' s1 s2)) (hb : Subp (B s1 s2) bs) : lpQ2_0 T' B p v o Q .normal t bs := lpQ.n (s1, s2) () h hp hs hb
theorem lpQ2_0.e {σ1 σ2 : Type} {τ : Type} {i : Nat} {T' : σ1 → σ2 → T} {B : σ1 → σ2 → BS} {p : σ1 → σ2 → Prop} {v : (σ1 × σ2) ⊕ τ} {o : τ} (o' : τ) (h : v = .inr o') (k : o = o' → Q (.exit i) t bs) : lpQ2_0 T' B p v o Q (.exit i) t bs := lpQ.e o' h k
theorem lpQ2_0.r {σ1 σ2 : Type} {τ : Type} {T' : σ1 → σ2 → T} {B : σ1 → σ2 → BS} {p : σ1 → σ2 → Prop} {v : (σ1 × σ2) ⊕ τ} {o : τ} (o' : τ) (h : v = .inr o') (k : o = o' → Q .ret t bs) : lpQ2_0 T' B p v o Q .ret t bs := lpQ.r o' h k
theorem AW.loopF2_0 {σ1 σ2 : Type} {τ : Type} {body : (σ1 × σ2) → Option ((σ1 × σ2) ⊕ τ)} {s1 : σ1} {s2 : σ2} {o : τ} (hL : X.loopF body (s1, s2) = some o) (T' : σ1 → σ2 → T) (B : σ1 → σ2 → BS) (p : σ1 → σ2 → Prop) (h0 : p s1 s2) (ht : Sub t (T' s1 s2)) (hb : Subp (B s1 s2) bs)
    (round : ∀ (s1 : σ1) (s2 : σ2) v, p s1 s2 → body (s1, s2) = some v → AW P N x (lpQ2_0 T' B p v o Q) (T' s1 s2) (B s1 s2)) : AW P N (.loop x) Q t bs :=
  AW.loopF hL (fun (s : σ1 × σ2) (a : Unit) => T' s.1 s.2) (fun (s : σ1 × σ2) (a : Unit) => B s.1 s.2) (fun (s : σ1 × σ2) (a : Unit) => p s.1 s.2) () h0 ht hb fun ⟨s1, s2⟩ _ v hp hB => round s1 s2 v hp hB
@[reducible] def jnQ2_0 {σ1 σ2 : Type} (T' : σ1 → σ2 → T) (B : σ1 → σ2 → BS) (p : σ1 → σ2 → Prop) (Q : Exit → T → BS → Prop) : Exit → T → BS → Prop := jnQ (fun (s : σ1 × σ2) (a : Unit) => T' s.1 s.2) (fun (s : σ1 × σ2) (a : Unit) => B s.1 s.2) (fun (s : σ1 × σ2) (a : Unit) => p s.1 s.2) Q
theorem jnQ2_0.n {σ1 σ2 : Type} {T' : σ1 → σ2 → T} {B : σ1 → σ2 → BS} {p : σ1 → σ2 → Prop} (s1 : σ1) (s2 : σ2) (hp : p s1 s2) (hs : Sub t (T' s1 s2)) (hb : Subp (B s1 s2) bs) : jnQ2_0 T' B p Q .normal t bs := jnQ.n (s1, s2) () hp hs hb
theorem jnQ2_0.e {σ1 σ2 : Type} {i : Nat} {T' : σ1 → σ2 → T} {B : σ1 → σ2 → BS} {p : σ1 → σ2 → Prop} (h : Q (.exit i) t bs) : jnQ2_0 T' B p Q (.exit i) t bs := h
theorem jnQ2_0.r {σ1 σ2 : Type} {T' : σ1 → σ2 → T} {B : σ1 → σ2 → BS} {p : σ1 → σ2 → Prop} (h : Q .ret t bs) : jnQ2_0 T' B p Q .ret t bs := h
theorem AW.join2_0 {σ1 σ2 : Type} (T' : σ1 → σ2 → T) (B : σ1 → σ2 → BS) (p : σ1 → σ2 → Prop) (hx : AW P N x (jnQ2_0 T' B p Q) t bs) (hk : ∀ (s1 : σ1) (s2 : σ2), p s1 s2 → Q .normal (T' s1 s2) (B s1 s2)) : AW P N x Q t bs :=
  AW.join (fun (s : σ1 × σ2) (a : Unit) => T' s.1 s.2) (fun (s : σ1 × σ2) (a : Unit) => B s.1 s.2) (fun (s : σ1 × σ2) (a : Unit) => p s.1 s.2) hx fun ⟨s1, s2⟩ _ hp => hk s1 s2 hp
@[reducible] def lpQ2_1 {σ1 σ2 α1 : Type} {τ : Type} (T' : σ1 → σ2 → α1 → T) (B : σ1 → σ2 → α1 → BS) (p : σ1 → σ2 → α1 → Prop) (v : (σ1 × σ2) ⊕ τ) (o : τ) (Q : Exit → T → BS → Prop) : Exit → T → BS → Prop := lpQ (fun (s : σ1 × σ2) (a : α1) => T' s.1 s.2 a) (fun (s : σ1 × σ2) (a : α1) => B s.1 s.2 a) (fun (s : σ1 × σ2) (a : α1) => p s.1 s.2 a) v o Q
theorem lpQ2_1.n {σ1 σ2 α1 : Type} {τ : Type} {T' : σ1 → σ2 → α1 → T} {B : σ1 → σ2 → α1 → BS} {p : σ1 → σ2 → α1 → Prop} {v : (σ1 × σ2) ⊕ τ} {o : τ} (s1 : σ1) (s2 : σ2) (a1 : α1) (h : v = .inl (s1, s2)) (hp : p s1 s2 a1) (hs : Sub t (T' s1 s2 a1)) (hb : Subp (B s1 s2 a1) bs) : lpQ2_1 T' B p v o Q .normal t bs := lpQ.n (s1, s2) a1 h hp hs hb
theorem lpQ2_1.e {σ1 σ2 α1 : Type} {τ : Type} {i : Nat} {T' : σ1 → σ2 → α1 → T} {B : σ1 → σ2 → α1 → BS} {p : σ1 → σ2 → α1 → Prop} {v : (σ1 × σ2) ⊕ τ} {o : τ} (o' : τ) (h : v = .inr o') (k : o = o' → Q (.exit i) t bs) : lpQ2_1 T' B p v o Q (.exit i) t bs := lpQ.e o' h k
theorem lpQ2_1.r {σ1 σ2 α1 : Type} {τ : Type} {T' : σ1 → σ2 → α1 → T} {B : σ1 → σ2 → α1 → BS} {p : σ1 → σ2 → α1 → Prop} {v : (σ1 × σ2) ⊕ τ} {o : τ} (o' : τ) (h : v = .inr o') (k : o = o' → Q .ret t bs) : lpQ2_1 T' B p v o Q .ret t bs := lpQ.r o' h k
theorem AW.loopF2_1 {σ1 σ2 α1 : Type} {τ : Type} {body : (σ1 × σ2) → Option ((σ1 × σ2) ⊕ τ)} {s1 : σ1} {s2 : σ2} {o : τ} (hL : X.loopF body (s1, s2) = some o) (T' : σ1 → σ2 → α1 → T) (B : σ1 → σ2 → α1 → BS) (p : σ1 → σ2 → α1 → Prop) (a1 : α1) (h0 : p s1 s2 a1) (ht : Sub t (T' s1 s2 a1)) (hb : Subp (B s1 s2 a1) bs)
    (round : ∀ (s1 : σ1) (s2 : σ2) (a1 : α1) v, p s1 s2 a1 → body (s1, s2) = some v → AW P N x (lpQ2_1 T' B p v o Q) (T' s1 s2 a1) (B s1 s2 a1)) : AW P N (.loop x) Q t bs :=
  AW.loopF hL (fun (s : σ1 × σ2) (a : α1) => T' s.1 s.2 a) (fun (s : σ1 × σ2) (a : α1) => B s.1 s.2 a) (fun (s : σ1 × σ2) (a : α1) => p s.1 s.2 a) a1 h0 ht hb fun ⟨s1, s2⟩ a1 v hp hB => round s1 s2 a1 v hp hB
@[reducible] def jnQ2_1 {σ1 σ2 α1 : Type} (T' : σ1 → σ2 → α1 → T) (B : σ1 → σ2 → α1 → BS) (p : σ1 → σ2 → α1 → Prop) (Q : Exit → T → BS → Prop) : Exit → T → BS → Prop := jnQ (fun (s : σ1 × σ2) (a : α1) => T' s.1 s.2 a) (fun (s : σ1 × σ2) (a : α1) => B s.1 s.2 a) (fun (s : σ1 × σ2) (a : α1) => p s.1 s.2 a) Q
theorem jnQ2_1.n {σ1 σ2 α1 : Type} {T' : σ1 → σ2 → α1 → T} {B : σ1 → σ2 → α1 → BS} {p : σ1 → σ2 → α1 → Prop} (s1 : σ1) (s2 : σ2) (a1 : α1) (hp : p s1 s2 a1) (hs : Sub t (T' s1 s2 a1)) (hb : Subp (B s1 s2 a1) bs) : jnQ2_1 T' B p Q .normal t bs := jnQ.n (s1, s2) a1 hp hs hb
theorem jnQ2_1.e {σ1 σ2 α1 : Type} {i : Nat} {T' : σ1 → σ2 → α1 → T} {B : σ1 → σ2 → α1 → BS} {p : σ1 → σ2 → α1 → Prop} (h : Q (.exit i) t bs) : jnQ2_1 T' B p Q (.exit i) t bs := h
theorem jnQ2_1.r {σ1 σ2 α1 : Type} {T' : σ1 → σ2 → α1 → T} {B : σ1 → σ2 → α1 → BS} {p : σ1 → σ2 → α1 → Prop} (h : Q .ret t bs) : jnQ2_1 T' B p Q .ret t bs := h
theorem AW.join2_1 {σ1 σ2 α1 : Type} (T' : σ1 → σ2 → α1 → T) (B : σ1 → σ2 → α1 → BS) (p : σ1 → σ2 → α1 → Prop) (hx : AW P N x (jnQ2_1 T' B p Q) t bs) (hk : ∀ (s1 : σ1) (s2 : σ2) (a1 : α1), p s1 s2 a1 → Q .normal (T' s1 s2 a1) (B s1 s2 a1)) : AW P N x Q t bs :=
  AW.join (fun (s : σ1 × σ2) (a : α1) => T' s.1 s.2 a) (fun (s : σ1 × σ2) (a : α1) => B s.1 s.2 a) (fun (s : σ1 × σ2) (a : α1) => p s.1 s.2 a) hx fun ⟨s1, s2⟩ a1 hp => hk s1 s2 a1 hp
@[reducible] def lpQ3_0 {σ1 σ2 σ3 : Type} {τ : Type} (T' : σ1 → σ2 → σ3 → T) (B : σ1 → σ2 → σ3 → BS) (p : σ1 → σ2 → σ3 → Prop) (v : (σ1 × σ2 × σ3) ⊕ τ) (o : τ) (Q : Exit → T → BS → Prop) : Exit → T → BS → Prop := lpQ (fun (s : σ1 × σ2 × σ3) (a : Unit) => T' s.1 s.2.1 s.2.2) (fun (s : σ1 × σ2 × σ3) (a : Unit) => B s.1 s.2.1 s.2.2) (fun (s : σ1 × σ2 × σ3) (a : Unit) => p s.1 s.2.1 s.2.2) v o Q
theorem lpQ3_0.n {σ1 σ2 σ3 : Type} {τ : Type} {T' : σ1 → σ2 → σ3 → T} {B : σ1 → σ2 → σ3 → BS} {p : σ1 → σ2 → σ3 → Prop} {v : (σ1 × σ2 × σ3) ⊕ τ} {o : τ} (s1 : σ1) (s2 : σ2) (s3 : σ3) (h : v = .inl (s1, s2, s3)) (hp : p s1 s2 s3) (hs : Sub t (T' s1 s2 s3)) (hb : Subp (B s1 s2 s3) bs) : lpQ3_0 T' B p v o Q .normal t bs := lpQ.n (s1, s2, s3) () h hp hs hb
theorem lpQ3_0.e {σ1 σ2 σ3 : Type} {τ : Type} {i : Nat} {T' : σ1 → σ2 → σ3 → T} {B : σ1 → σ2 → σ3 → BS} {p : σ1 → σ2 → σ3 → Prop} {v : (σ1 × σ2 × σ3) ⊕ τ} {o : τ} (o' : τ) (h : v = .inr o') (k : o = o' → Q (.exit i) t bs) : lpQ3_0 T' B p v o Q (.exit i) t bs := lpQ.e o' h k
theorem lpQ3_0.r {σ1 σ2 σ3 : Type} {τ : Type} {T' : σ1 → σ2 → σ3 → T} {B : σ1 → σ2 → σ3 → BS} {p : σ1 → σ2 → σ3 → Prop} {v : (σ1 × σ2 × σ3) ⊕ τ} {o : τ} (o' : τ) (h : v = .inr o') (k : o = o' → Q .ret t bs) : lpQ3_0 T' B p v o Q .ret t bs := lpQ.r o' h k
theorem AW.loopF3_0 {σ1 σ2 σ3 : Type} {τ : Type} {body : (σ1 × σ2 × σ3) → Option ((σ1 × σ2 × σ3) ⊕ τ)} {s1 : σ1} {s2 : σ2} {s3 : σ3} {o : τ} (hL : X.loopF body (s1, s2, s3) = some o) (T' : σ1 → σ2 → σ3 → T) (B : σ1 → σ2 → σ3 → BS) (p : σ1 → σ2 → σ3 → Prop) (h0 : p s1 s2 s3) (ht : Sub t (T' s1 s2 s3)) (hb : Subp (B s1 s2 s3) bs)
    (round : ∀ (s1 : σ1) (s2 : σ2) (s3 : σ3) v, p s1 s2 s3 → body (s1, s2, s3) = some v → AW P N x (lpQ3_0 T' B p v o Q) (T' s1 s2 s3) (B s1 s2 s3)) : AW P N (.loop x) Q t bs :=
  AW.loopF hL (fun (s : σ1 × σ2 × σ3) (a : Unit) => T' s.1 s.2.1 s.2.2) (fun (s : σ1 × σ2 × σ3) (a : Unit) => B s.1 s.2.1 s.2.2) (fun (s : σ1 × σ2 × σ3) (a : Unit) => p s.1 s.2.1 s.2.2) () h0 ht hb fun ⟨s1, s2, s3⟩ _ v hp hB => round s1 s2 s3 v hp hB
@[reducible] def jnQ3_0 {σ1 σ2 σ3 : Type} (T' : σ1 → σ2 → σ3 → T) (B : σ1 → σ2 → σ3 → BS) (p : σ1 → σ2 → σ3 → Prop) (Q : Exit → T → BS → Prop) : Exit → T → BS → Prop := jnQ (fun (s : σ1 × σ2 × σ3) (a : Unit) => T' s.1 s.2.1 s.2.2) (fun (s : σ1 × σ2 × σ3) (a : Unit) => B s.1 s.2.1 s.2.2) (fun (s : σ1 × σ2 × σ3) (a : Unit) => p s.1 s.2.1 s.2.2) Q
theorem jnQ3_0.n {σ1 σ2 σ3 : Type} {T' : σ1 → σ2 → σ3 → T} {B : σ1 → σ2 → σ3 → BS} {p : σ1 → σ2 → σ3 → Prop} (s1 : σ1) (s2 : σ2) (s3 : σ3) (hp : p s1 s2 s3) (hs : Sub t (T' s1 s2 s3)) (hb : Subp (B s1 s2 s3) bs) : jnQ3_0 T' B p Q .normal t bs := jnQ.n (s1, s2, s3) () hp hs hb
theorem jnQ3_0.e {σ1 σ2 σ3 : Type} {i : Nat} {T' : σ1 → σ2 → σ3 → T} {B : σ1 → σ2 → σ3 → BS} {p : σ1 → σ2 → σ3 → Prop} (h : Q (.exit i) t bs) : jnQ3_0 T' B p Q (.exit i) t bs := h
theorem jnQ3_0.r {σ1 σ2 σ3 : Type} {T' : σ1 → σ2 → σ3 → T} {B : σ1 → σ2 → σ3 → BS} {p : σ1 → σ2 → σ3 → Prop} (h : Q .ret t bs) : jnQ3_0 T' B p Q .ret t bs := h
theorem AW.join3_0 {σ1 σ2 σ3 : Type} (T' : σ1 → σ2 → σ3 → T) (B : σ1 → σ2 → σ3 → BS) (p : σ1 → σ2 → σ3 → Prop) (hx : AW P N x (jnQ3_0 T' B p Q) t bs) (hk : ∀ (s1 : σ1) (s2 : σ2) (s3 : σ3), p s1 s2 s3 → Q .normal (T' s1 s2 s3) (B s1 s2 s3)) : AW P N x Q t bs :=
  AW.join (fun (s : σ1 × σ2 × σ3) (a : Unit) => T' s.1 s.2.1 s.2.2) (fun (s : σ1 × σ2 × σ3) (a : Unit) => B s.1 s.2.1 s.2.2) (fun (s : σ1 × σ2 × σ3) (a : Unit) => p s.1 s.2.1 s.2.2) hx fun ⟨s1, s2, s3⟩ _ hp => hk s1 s2 s3 hp
@[reducible] def lpQ3_1 {σ1 σ2 σ3 α1 : Type} {τ : Type} (T' : σ1 → σ2 → σ3 → α1 → T) (B : σ1 → σ2 → σ3 → α1 → BS) (p : σ1 → σ2 → σ3 → α1 → Prop) (v : (σ1 × σ2 × σ3) ⊕ τ) (o : τ) (Q : Exit → T → BS → Prop) : Exit → T → BS → Prop := lpQ (fun (s : σ1 × σ2 × σ3) (a : α1) => T' s.1 s.2.1 s.2.2 a) (fun (s : σ1 × σ2 × σ3) (a : α1) => B s.1 s.2.1 s.2.2 a) (fun (s : σ1 × σ2 × σ3) (a : α1) => p s.1 s.2.1 s.2.2 a) v o Q
theorem lpQ3_1.n {σ1 σ2 σ3 α1 : Type} {τ : Type} {T' : σ1 → σ2 → σ3 → α1 → T} {B : σ1 → σ2 → σ3 → α1 → BS} {p : σ1 → σ2 → σ3 → α1 → Prop} {v : (σ1 × σ2 × σ3) ⊕ τ} {o : τ} (s1 : σ1) (s2 : σ2) (s3 : σ3) (a1 : α1) (h : v = .inl (s1, s2, s3)) (hp : p s1 s2 s3 a1) (hs : Sub t (T' s1 s2 s3 a1)) (hb : Subp (B s1 s2 s3 a1) bs) : lpQ3_1 T' B p v o Q .normal t bs := lpQ.n (s1, s2, s3) a1 h hp hs hb
theorem lpQ3_1.e {σ1 σ2 σ3 α1 : Type} {τ : Type} {i : Nat} {T' : σ1 → σ2 → σ3 → α1 → T} {B : σ1 → σ2 → σ3 → α1 → BS} {p : σ1 → σ2 → σ3 → α1 → Prop} {v : (σ1 × σ2 × σ3) ⊕ τ} {o : τ} (o' : τ) (h : v = .inr o') (k : o = o' → Q (.exit i) t bs) : lpQ3_1 T' B p v o Q (.exit i) t bs := lpQ.e o' h k
theorem lpQ3_1.r {σ1 σ2 σ3 α1 : Type} {τ : Type} {T' : σ1 → σ2 → σ3 → α1 → T} {B : σ1 → σ2 → σ3 → α1 → BS} {p : σ1 → σ2 → σ3 → α1 → Prop} {v : (σ1 × σ2 × σ3) ⊕ τ} {o : τ} (o' : τ) (h : v = .inr o') (k : o = o' → Q .ret t bs) : lpQ3_1 T' B p v o Q .ret t bs := lpQ.r o' h k
theorem AW.loopF3_1 {σ1 σ2 σ3 α1 : Type} {τ : Type} {body : (σ1 × σ2 × σ3) → Option ((σ1 × σ2 × σ3) ⊕ τ)} {s1 : σ1} {s2 : σ2} {s3 : σ3} {o : τ} (hL : X.loopF body (s1, s2, s3) = some o) (T' : σ1 → σ2 → σ3 → α1 → T) (B : σ1 → σ2 → σ3 → α1 → BS) (p : σ1 → σ2 → σ3 → α1 → Prop) (a1 : α1) (h0 : p s1 s2 s3 a1) (ht : Sub t (T' s1 s2 s3 a1)) (hb : Subp (B s1 s2 s3 a1) bs)
    (round : ∀ (s1 : σ1) (s2 : σ2) (s3 : σ3) (a1 : α1) v, p s1 s2 s3 a1 → body (s1, s2, s3) = some v → AW P N x (lpQ3_1 T' B p v o Q) (T' s1 s2 s3 a1) (B s1 s2 s3 a1)) : AW P N (.loop x) Q t bs :=
  AW.loopF hL (fun (s : σ1 × σ2 × σ3) (a : α1) => T' s.1 s.2.1 s.2.2 a) (fun (s : σ1 × σ2 × σ3) (a : α1) => B s.1 s.2.1 s.2.2 a) (fun (s : σ1 × σ2 × σ3) (a : α1) => p s.1 s.2.1 s.2.2 a) a1 h0 ht hb fun ⟨s1, s2, s3⟩ a1 v hp hB => round s1 s2 s3 a1 v hp hB
@[reducible] def jnQ3_1 {σ1 σ2 σ3 α1 : Type} (T' : σ1 → σ2 → σ3 → α1 → T) (B : σ1 → σ2 → σ3 → α1 → BS) (p : σ1 → σ2 → σ3 → α1 → Prop) (Q : Exit → T → BS → Prop) : Exit → T → BS → Prop := jnQ (fun (s : σ1 × σ2 × σ3) (a : α1) => T' s.1 s.2.1 s.2.2 a) (fun (s : σ1 × σ2 × σ3) (a : α1) => B s.1 s.2.1 s.2.2 a) (fun (s : σ1 × σ2 × σ3) (a : α1) => p s.1 s.2.1 s.2.2 a) Q
theorem jnQ3_1.n {σ1 σ2 σ3 α1 : Type} {T' : σ1 → σ2 → σ3 → α1 → T} {B : σ1 → σ2 → σ3 → α1 → BS} {p : σ1 → σ2 → σ3 → α1 → Prop} (s1 : σ1) (s2 : σ2) (s3 : σ3) (a1 : α1) (hp : p s1 s2 s3 a1) (hs : Sub t (T' s1 s2 s3 a1)) (hb : Subp (B s1 s2 s3 a1) bs) : jnQ3_1 T' B p Q .normal t bs := jnQ.n (s1, s2, s3) a1 hp hs hb
theorem jnQ3_1.e {σ1 σ2 σ3 α1 : Type} {i : Nat} {T' : σ1 → σ2 → σ3 → α1 → T} {B : σ1 → σ2 → σ3 → α1 → BS} {p : σ1 → σ2 → σ3 → α1 → Prop} (h : Q (.exit i) t bs) : jnQ3_1 T' B p Q (.exit i) t bs := h
theorem jnQ3_1.r {σ1 σ2 σ3 α1 : Type} {T' : σ1 → σ2 → σ3 → α1 → T} {B : σ1 → σ2 → σ3 → α1 → BS} {p : σ1 → σ2 → σ3 → α1 → Prop} (h : Q .ret t bs) : jnQ3_1 T' B p Q .ret t bs := h
theorem AW.join3_1 {σ1 σ2 σ3 α1 : Type} (T' : σ1 → σ2 → σ3 → α1 → T) (B : σ1 → σ2 → σ3 → α1 → BS) (p : σ1 → σ2 → σ3 → α1 → Prop) (hx : AW P N x (jnQ3_1 T' B p Q) t bs) (hk : ∀ (s1 : σ1) (s2 : σ2) (s3 : σ3) (a1 : α1), p s1 s2 s3 a1 → Q .normal (T' s1 s2 s3 a1) (B s1 s2 s3 a1)) : AW P N x Q t bs :=
  AW.join (fun (s : σ1 × σ2 × σ3) (a : α1) => T' s.1 s.2.1 s.2.2 a) (fun (s : σ1 × σ2 × σ3) (a : α1) => B s.1 s.2.1 s.2.2 a) (fun (s : σ1 × σ2 × σ3) (a : α1) => p s.1 s.2.1 s.2.2 a) hx fun ⟨s1, s2, s3⟩ a1 hp => hk s1 s2 s3 a1 hp
@[reducible] def lpQ4_0 {σ1 σ2 σ3 σ4 : Type} {τ : Type} (T' : σ1 → σ2 → σ3 → σ4 → T) (B : σ1 → σ2 → σ3 → σ4 → BS) (p : σ1 → σ2 → σ3 → σ4 → Prop) (v : (σ1 × σ2 × σ3 × σ4) ⊕ τ) (o : τ) (Q : Exit → T → BS → Prop) : Exit → T → BS → Prop := lpQ (fun (s : σ1 × σ2 × σ3 × σ4) (a : Unit) => T' s.1 s.2.1 s.2.2.1 s.2.2.2) (fun (s : σ1 × σ2 × σ3 × σ4) (a : Unit) => B s.1 s.2.1 s.2.2.1 s.2.2.2) (fun (s : σ1 × σ2 × σ3 × σ4) (a : Unit) => p s.1 s.2.1 s.2.2.1 s.2.2.2) v o Q
theorem lpQ4_0.n {σ1 σ2 σ3 σ4 : Type} {τ : Type} {T' : σ1 → σ2 → σ3 → σ4 → T} {B : σ1 → σ2 → σ3 → σ4 → BS} {p : σ1 → σ2 → σ3 → σ4 → Prop} {v : (σ1 × σ2 × σ3 × σ4) ⊕ τ} {o : τ} (s1 : σ1) (s2 : σ2) (s3 : σ3) (s4 : σ4) (h : v = .inl (s1, s2, s3, s4)) (hp : p s1 s2 s3 s4) (hs : Sub t (T' s1 s2 s3 s4)) (hb : Subp (B s1 s2 s3 s4) bs) : lpQ4_0 T' B p v o Q .normal t bs := lpQ.n (s1, s2, s3, s4) () h hp hs hb
theorem lpQ4_0.e {σ1 σ2 σ3 σ4 : Type} {τ : Type} {i : Nat} {T' : σ1 → σ2 → σ3 → σ4 → T} {B : σ1 → σ2 → σ3 → σ4 → BS} {p : σ1 → σ2 → σ3 → σ4 → Prop} {v : (σ1 × σ2 × σ3 × σ4) ⊕ τ} {o : τ} (o' : τ) (h : v = .inr o') (k : o = o' → Q (.exit i) t bs) : lpQ4_0 T' B p v o Q (.exit i) t bs := lpQ.e o' h k
theorem lpQ4_0.r {σ1 σ2 σ3 σ4 : Type} {τ : Type} {T' : σ1 → σ2 → σ3 → σ4 → T} {B : σ1 → σ2 → σ3 → σ4 → BS} {p : σ1 → σ2 → σ3 → σ4 → Prop} {v : (σ1 × σ2 × σ3 × σ4) ⊕ τ} {o : τ} (o' : τ) (h : v = .inr o') (k : o = o' → Q .ret t bs) : lpQ4_0 T' B p v o Q .ret t bs := lpQ.r o' h k
theorem AW.loopF4_0 {σ1 σ2 σ3 σ4 : Type} {τ : Type} {body : (σ1 × σ2 × σ3 × σ4) → Option ((σ1 × σ2 × σ3 × σ4) ⊕ τ)} {s1 : σ1} {s2 : σ2} {s3 : σ3} {s4 : σ4} {o : τ} (hL : X.loopF body (s1, s2, s3, s4) = some o) (T' : σ1 → σ2 → σ3 → σ4 → T) (B : σ1 → σ2 → σ3 → σ4 → BS) (p : σ1 → σ2 → σ3 → σ4 → Prop) (h0 : p s1 s2 s3 s4) (ht : Sub t (T' s1 s2 s3 s4)) (hb : Subp (B s1 s2 s3 s4) bs)
    (round : ∀ (s1 : σ1) (s2 : σ2) (s3 : σ3) (s4 : σ4) v, p s1 s2 s3 s4 → body (s1, s2, s3, s4) = some v → AW P N x (lpQ4_0 T' B p v o Q) (T' s1 s2 s3 s4) (B s1 s2 s3 s4)) : AW P N (.loop x) Q t bs :=
  AW.loopF hL (fun (s : σ1 × σ2 × σ3 × σ4) (a : Unit) => T' s.1 s.2.1 s.2.2.1 s.2.2.2) (fun (s : σ1 × σ2 × σ3 × σ4) (a : Unit) => B s.1 s.2.1 s.2.2.1 s.2.2.2) (fun (s : σ1 × σ2 × σ3 × σ4) (a : Unit) => p s.1 s.2.1 s.2.2.1 s.2.2.2) () h0 ht hb fun ⟨s1, s2, s3, s4⟩ _ v hp hB => round s1 s2 s3 s4 v hp hB
@[reducible] def jnQ4_0 {σ1 σ2 σ3 σ4 : Type} (T' : σ1 → σ2 → σ3 → σ4 → T) (B : σ1 → σ2 → σ3 → σ4 → BS) (p : σ1 → σ2 → σ3 → σ4 → Prop) (Q : Exit → T → BS → Prop) : Exit → T → BS → Prop := jnQ (fun (s : σ1 × σ2 × σ3 × σ4) (a : Unit) => T' s.1 s.2.1 s.2.2.1 s.2.2.2) (fun (s : σ1 × σ2 × σ3 × σ4) (a : Unit) => B s.1 s.2.1 s.2.2.1 s.2.2.2) (fun (s : σ1 × σ2 × σ3 × σ4) (a : Unit) => p s.1 s.2.1 s.2.2.1 s.2.2.2) Q
theorem jnQ4_0.n {σ1 σ2 σ3 σ4 : Type} {T' : σ1 → σ2 → σ3 → σ4 → T} {B : σ1 → σ2 → σ3 → σ4 → BS} {p : σ1 → σ2 → σ3 → σ4 → Prop} (s1 : σ1) (s2 : σ2) (s3 : σ3) (s4 : σ4) (hp : p s1 s2 s3 s4) (hs : Sub t (T' s1 s2 s3 s4)) (hb : Subp (B s1 s2 s3 s4) bs) : jnQ4_0 T' B p Q .normal t bs := jnQ.n (s1, s2, s3, s4) () hp hs hb
theorem jnQ4_0.e {σ1 σ2 σ3 σ4 : Type} {i : Nat} {T' : σ1 → σ2 → σ3 → σ4 → T} {B : σ1 → σ2 → σ3 → σ4 → BS} {p : σ1 → σ2 → σ3 → σ4 → Prop} (h : Q (.exit i) t bs) : jnQ4_0 T' B p Q (.exit i) t bs := h
theorem jnQ4_0.r {σ1 σ2 σ3 σ4 : Type} {T' : σ1 → σ2 → σ3 → σ4 → T} {B : σ1 → σ2 → σ3 → σ4 → BS} {p : σ1 → σ2 → σ3 → σ4 → Prop} (h : Q .ret t bs) : jnQ4_0 T' B p Q .ret t bs := h
theorem AW.join4_0 {σ1 σ2 σ3 σ4 : Type} (T' : σ1 → σ2 → σ3 → σ4 → T) (B : σ1 → σ2 → σ3 → σ4 → BS) (p : σ1 → σ2 → σ3 → σ4 → Prop) (hx : AW P N x (jnQ4_0 T' B p Q) t bs) (hk : ∀ (s1 : σ1) (s2 : σ2) (s3 : σ3) (s4 : σ4), p s1 s2 s3 s4 → Q .normal (T' s1 s2 s3 s4) (B s1 s2 s3 s4)) : AW P N x Q t bs :=
  AW.join (fun (s : σ1 × σ2 × σ3 × σ4) (a : Unit) => T' s.1 s.2.1 s.2.2.1 s.2.2.2) (fun (s : σ1 × σ2 × σ3 × σ4) (a : Unit) => B s.1 s.2.1 s.2.2.1 s.2.2.2) (fun (s : σ1 × σ2 × σ3 × σ4) (a : Unit) => p s.1 s.2.1 s.2.2.1 s.2.2.2) hx fun ⟨s1, s2, s3, s4⟩ _ hp => hk s1 s2 s3 s4 hp
@[reducible] def lpQ5_0 {σ1 σ2 σ3 σ4 σ5 : Type} {τ : Type} (T' : σ1 → σ2 → σ3 → σ4 → σ5 → T) (B : σ1 → σ2 → σ3 → σ4 → σ5 → BS) (p : σ1 → σ2 → σ3 → σ4 → σ5 → Prop) (v : (σ1 × σ2 × σ3 × σ4 × σ5) ⊕ τ) (o : τ) (Q : Exit → T → BS → Prop) : Exit → T → BS → Prop := lpQ (fun (s : σ1 × σ2 × σ3 × σ4 × σ5) (a : Unit) => T' s.1 s.2.1 s.2.2.1 s.2.2.2.1 s.2.2.2.2) (fun (s : σ1 × σ2 × σ3 × σ4 × σ5) (a : Unit) => B s.1 s.2.1 s.2.2.1 s.2.2.2.1 s.2.2.2.2) (fun (s : σ1 × σ2 × σ3 × σ4 × σ5) (a : Unit) => p s.1 s.2.1 s.2.2.1 s.2.2.2.1 s.2.2.2.2) v o Q
theorem lpQ5_0.n {σ1 σ2 σ3 σ4 σ5 : Type} {τ : Type} {T' : σ1 → σ2 → σ3 → σ4 → σ5 → T} {B : σ1 → σ2 → σ3 → σ4 → σ5 → BS} {p : σ1 → σ2 → σ3 → σ4 → σ5 → Prop} {v : (σ1 × σ2 × σ3 × σ4 × σ5) ⊕ τ} {o : τ} (s1 : σ1) (s2 : σ2) (s3 : σ3) (s4 : σ4) (s5 : σ5) (h : v = .inl (s1, s2, s3, s4, s5)) (hp : p s1 s2 s3 s4 s5) (hs : Sub t (T' s1 s2 s3 s4 s5)) (hb : Subp (B s1 s2 s3 s4 s5) bs) : lpQ5_0 T' B p v o Q .normal t bs := lpQ.n (s1, s2, s3, s4, s5) () h hp hs hb
theorem lpQ5_0.e {σ1 σ2 σ3 σ4 σ5 : Type} {τ : Type} {i : Nat} {T' : σ1 → σ2 → σ3 → σ4 → σ5 → T} {B : σ1 → σ2 → σ3 → σ4 → σ5 → BS} {p : σ1 → σ2 → σ3 → σ4 → σ5 → Prop} {v : (σ1 × σ2 × σ3 × σ4 × σ5) ⊕ τ} {o : τ} (o' : τ) (h : v = .inr o') (k : o = o' → Q (.exit i) t bs) : lpQ5_0 T' B p v o Q (.exit i) t bs := lpQ.e o' h k
theorem lpQ5_0.r {σ1 σ2 σ3 σ4 σ5 : Type} {τ : Type} {T' : σ1 → σ2 → σ3 → σ4 → σ5 → T} {B : σ1 → σ2 → σ3 → σ4 → σ5 → BS} {p : σ1 → σ2 → σ3 → σ4 → σ5 → Prop} {v : (σ1 × σ2 × σ3 × σ4 × σ5) ⊕ τ} {o : τ} (o' : τ) (h : v = .inr o') (k : o = o' → Q .ret t bs) : lpQ5_0 T' B p v o Q .ret t bs := lpQ.r o' h k
theorem AW.loopF5_0 {σ1 σ2 σ3 σ4 σ5 : Type} {τ : Type} {body : (σ1 × σ2 × σ3 × σ4 × σ5) → Option ((σ1 × σ2 × σ3 × σ4 × σ5) ⊕ τ)} {s1 : σ1} {s2 : σ2} {s3 : σ3} {s4 : σ4} {s5 : σ5} {o : τ} (hL : X.loopF body (s1, s2, s3, s4, s5) = some o) (T' : σ1 → σ2 → σ3 → σ4 → σ5 → T) (B : σ1 → σ2 → σ3 → σ4 → σ5 → BS) (p : σ1 → σ2 → σ3 → σ4 → σ5 → Prop) (h0 : p s1 s2 s3 s4 s5) (ht : Sub t (T' s1 s2 s3 s4 s5)) (hb : Subp (B s1 s2 s3 s4 s5) bs)
    (round : ∀ (s1 : σ1) (s2 : σ2) (s3 : σ3) (s4 : σ4) (s5 : σ5) v, p s1 s2 s3 s4 s5 → body (s1, s2, s3, s4, s5) = some v → AW P N x (lpQ5_0 T' B p v o Q) (T' s1 s2 s3 s4 s5) (B s1 s2 s3 s4 s5)) : AW P N (.loop x) Q t bs :=
  AW.loopF hL (fun (s : σ1 × σ2 × σ3 × σ4 × σ5) (a : Unit) => T' s.1 s.2.1 s.2.2.1 s.2.2.2.1 s.2.2.2.2) (fun (s : σ1 × σ2 × σ3 × σ4 × σ5) (a : Unit) => B s.1 s.2.1 s.2.2.1 s.2.2.2.1 s.2.2.2.2) (fun (s : σ1 × σ2 × σ3 × σ4 × σ5) (a : Unit) => p s.1 s.2.1 s.2.2.1 s.2.2.2.1 s.2.2.2.2) () h0 ht hb fun ⟨s1, s2, s3, s4, s5⟩ _ v hp hB => round s1 s2 s3 s4 s5 v hp hB
@[reducible] def jnQ5_0 {σ1 σ2 σ3 σ4 σ5 : Type} (T' : σ1 → σ2 → σ3 → σ4 → σ5 → T) (B : σ1 → σ2 → σ3 → σ4 → σ5 → BS) (p : σ1 → σ2 → σ3 → σ4 → σ5 → Prop) (Q : Exit → T → BS → Prop) : Exit → T → BS → Prop := jnQ (fun (s : σ1 × σ2 × σ3 × σ4 × σ5) (a : Unit) => T' s.1 s.2.1 s.2.2.1 s.2.2.2.1 s.2.2.2.2) (fun (s : σ1 × σ2 × σ3 × σ4 × σ5) (a : Unit) => B s.1 s.2.1 s.2.2.1 s.2.2.2.1 s.2.2.2.2) (fun (s : σ1 × σ2 × σ3 × σ4 × σ5) (a : Unit) => p s.1 s.2.1 s.2.2.1 s.2.2.2.1 s.2.2.2.2) Q
theorem jnQ5_0.n {σ1 σ2 σ3 σ4 σ5 : Type} {T' : σ1 → σ2 → σ3 → σ4 → σ5 → T} {B : σ1 → σ2 → σ3 → σ4 → σ5 → BS} {p : σ1 → σ2 → σ3 → σ4 → σ5 → Prop} (s1 : σ1) (s2 : σ2) (s3 : σ3) (s4 : σ4) (s5 : σ5) (hp : p s1 s2 s3 s4 s5) (hs : Sub t (T' s1 s2 s3 s4 s5)) (hb : Subp (B s1 s2 s3 s4 s5) bs) : jnQ5_0 T' B p Q .normal t bs := jnQ.n (s1, s2, s3, s4, s5) () hp hs hb
theorem jnQ5_0.e {σ1 σ2 σ3 σ4 σ5 : Type} {i : Nat} {T' : σ1 → σ2 → σ3 → σ4 → σ5 → T} {B : σ1 → σ2 → σ3 → σ4 → σ5 → BS} {p : σ1 → σ2 → σ3 → σ4 → σ5 → Prop} (h : Q (.exit i) t bs) : jnQ5_0 T' B p Q (.exit i) t bs := h
theorem jnQ5_0.r {σ1 σ2 σ3 σ4 σ5 : Type} {T' : σ1 → σ2 → σ3 → σ4 → σ5 → T} {B : σ1 → σ2 → σ3 → σ4 → σ5 → BS} {p : σ1 → σ2 → σ3 → σ4 → σ5 → Prop} (h : Q .ret t bs) : jnQ5_0 T' B p Q .ret t bs := h
theorem AW.join5_0 {σ1 σ2 σ3 σ4 σ5 : Type} (T' : σ1 → σ2 → σ3 → σ4 → σ5 → T) (B : σ1 → σ2 → σ3 → σ4 → σ5 → BS) (p : σ1 → σ2 → σ3 → σ4 → σ5 → Prop) (hx : AW P N x (jnQ5_0 T' B p Q) t bs) (hk : ∀ (s1 : σ1) (s2 : σ2) (s3 : σ3) (s4 : σ4) (s5 : σ5), p s1 s2 s3 s4 s5 → Q .normal (T' s1 s2 s3 s4 s5) (B s1 s2 s3 s4 s5)) : AW P N x Q t bs :=
  AW.join (fun (s : σ1 × σ2 × σ3 × σ4 × σ5) (a : Unit) => T' s.1 s.2.1 s.2.2.1 s.2.2.2.1 s.2.2.2.2) (fun (s : σ1 × σ2 × σ3 × σ4 × σ5) (a : Unit) => B s.1 s.2.1 s.2.2.1 s.2.2.2.1 s.2.2.2.2) (fun (s : σ1 × σ2 × σ3 × σ4 × σ5) (a : Unit) => p s.1 s.2.1 s.2.2.1 s.2.2.2.1 s.2.2.2.2) hx fun ⟨s1, s2, s3, s4, s5⟩ _ hp => hk s1 s2 s3 s4 s5 hp
end
end Go.Proofs.YtnkkfmnpkgjabaaGreat.X

/- Lifted code: structs of scalars that are compared. -/
namespace Go.Proofs.YtnkkfmnpkgjabaaGreat.X
open Go.RowKit
set_option linter.unusedVariables false
set_option linter.unusedSimpArgs false
section
variable {P : Program} {o : Oper} {t : T} {bs : BS} {x z : Operand} {ty ty2 : TypeId}
/-- What a comparison of fields tells. -/
inductive EqF (P : Program) (xs ys : List A) : List Field → Bool → Prop where
  | nil : EqF P xs ys [] true
  | int {f : Field} {fs : List Field} {k k1 : IntKind} {a b : Int} {r : Bool} (hn : (f.name != "_") = true) (h : P.underlying f.type = some (.int k)) (hx : xs[f.offset]? = some (.v (.int k1 a))) (hy : ys[f.offset]? = some (.v (.int k1 b))) (hr : EqF P xs ys fs r) : EqF P xs ys (f :: fs) ((a == b) && r)
  | str {f : Field} {fs : List Field} {a b : ByteArray} {r : Bool} (hn : (f.name != "_") = true) (h : P.underlying f.type = some .string) (hx : xs[f.offset]? = some (.v (.string a))) (hy : ys[f.offset]? = some (.v (.string b))) (hr : EqF P xs ys fs r) : EqF P xs ys (f :: fs) (decide (a = b) && r)
theorem part_scalar {ft : TypeId} {d : TypeDesc} (h : P.underlying ft = some d) (hd : d.isRow = false) {cs : Array Value} {off : Nat} {v : Value} {w : World} (hv : cs[off]? = some v) : (part ft cs off).run P w = .ok v w := by
  have hi : (isAgg ft).run P w = .ok d.isRow w := by
    unfold isAgg
    simp only [Sem.run_bind, run_underlying h, Result.andThen_ok]
    cases d <;> simp [TypeDesc.isRow]
  unfold part
  simp [Sem.run_bind, hi, hd, hv]
theorem getD_of {w : World} {Z : Zones} {us : Array Value} {xs : List A} (l : us.size = xs.length) (hr : ∀ k x, xs[k]? = some x → Rep w Z (us.getD k undef) x) {k : Nat} {u : Value} (h : xs[k]? = some (.v u)) : us[k]? = some u := by
  have h1 := (hr k _ h).val
  have h2 : k < us.size := by rw [l]; exact (List.getElem?_eq_some_iff.1 h).1
  rw [Array.getElem?_eq_getElem h2]
  simpa [h2] using h1
theorem EqF.run {w : World} {Z : Zones} {us vs : Array Value} {xs ys : List A} {fs : List Field} {r : Bool} (h : EqF P xs ys fs r) (d : Nat) (lx : us.size = xs.length) (rx : ∀ k x, xs[k]? = some x → Rep w Z (us.getD k undef) x) (ly : vs.size = ys.length) (ry : ∀ k x, ys[k]? = some x → Rep w Z (vs.getD k undef) x) :
    (Op.eqFields (d + 1) us vs fs).run P w = .ok r w := by
  induction h with
  | nil => simp [Op.eqFields]
  | @int f fs k k1 a b r hn h hx hy hr ih =>
    have hn' : f.name ≠ "_" := by simpa using hn
    have h1 := getD_of lx rx hx
    have h2 := getD_of ly ry hy
    rw [Op.eqFields, if_pos hn']
    simp only [Sem.run_bind]
    rw [part_scalar (d := .int k) h rfl h1, Result.andThen_ok, part_scalar (d := .int k) h rfl h2, Result.andThen_ok, run_equalIn_int w d f.type k1 k a b h, Result.andThen_ok, Sem.run_ite]
    cases hab : (a == b)
    · simp
    · simp only [Bool.not_true, Bool.false_eq_true, if_false, Bool.true_and]; exact ih
  | @str f fs a b r hn h hx hy hr ih =>
    have hn' : f.name ≠ "_" := by simpa using hn
    have h1 := getD_of lx rx hx
    have h2 := getD_of ly ry hy
    rw [Op.eqFields, if_pos hn']
    simp only [Sem.run_bind]
    rw [part_scalar (d := .string) h rfl h1, Result.andThen_ok, part_scalar (d := .string) h rfl h2, Result.andThen_ok, run_equalIn_string w d f.type a b h, Result.andThen_ok, Sem.run_ite]
    have e : (a.toList == b.toList) = decide (a = b) := by
      by_cases e : a = b
      · subst e; simp
      · have : a.toList ≠ b.toList := fun h => e (toList_inj h)
        simp [e, this]
    rw [e]
    by_cases hab : a = b
    · simp only [hab, decide_true, Bool.not_true, Bool.false_eq_true, if_false, Bool.true_and]; exact ih
    · simp [hab]
theorem OpQ.eq_flat {fs : Array Field} {xs ys : List A} {r : Bool} {sz by_ : Nat} [h1 : TI P ty (.struct fs) sz by_] (ho : o.op = .binOp .eql ty x z ty2) (hx : Wk (evA t x) (.agg xs)) (hz : Wk (evA t z) (.agg ys)) (hf : EqF P xs ys fs.toList r) (hp : P.stoodInHeld ty = false := by kernel_rfl) (hm : P.eqGuardType P.depth ty = false := by kernel_rfl) : OpQ P o t bs (.v (.bool r)) :=
  .of_run fun ac w h hb => by
    have e1 := op_rep h (x := x) (by simp [ho, Op.operands]) hx
    have e2 := op_rep h (x := z) (by simp [ho, Op.operands]) hz
    generalize hux : ac.eval x = ux at e1
    generalize huz : ac.eval z = uz at e2
    cases e1 with
    | agg lx rx _ =>
      cases e2 with
      | agg ly ry _ =>
        refine ⟨_, ?_, .v rfl⟩
        have hfo : P.fieldsOf ty = fs := by unfold Program.fieldsOf; rw [h1.und]
        simp only [execOp, ho, hux, huz, Sem.run_bind, run_eqGuard_agg w .eql ty x z _ _ hm, Result.andThen_ok, run_eql_struct, run_equalIn_agg w 9999 ty _ _ (by rw [hfo]; exact h1.und) hp, hfo, hf.run 9998 lx rx ly ry, Sem.run_pure]
theorem OpQ.neq_flat {fs : Array Field} {xs ys : List A} {r : Bool} {sz by_ : Nat} [h1 : TI P ty (.struct fs) sz by_] (ho : o.op = .binOp .neq ty x z ty2) (hx : Wk (evA t x) (.agg xs)) (hz : Wk (evA t z) (.agg ys)) (hf : EqF P xs ys fs.toList r) (hp : P.stoodInHeld ty = false := by kernel_rfl) (hm : P.eqGuardType P.depth ty = false := by kernel_rfl) : OpQ P o t bs (.v (.bool (!r))) :=
  .of_run fun ac w h hb => by
    have e1 := op_rep h (x := x) (by simp [ho, Op.operands]) hx
    have e2 := op_rep h (x := z) (by simp [ho, Op.operands]) hz
    generalize hux : ac.eval x = ux at e1
    generalize huz : ac.eval z = uz at e2
    cases e1 with
    | agg lx rx _ =>
      cases e2 with
      | agg ly ry _ =>
        refine ⟨_, ?_, .v rfl⟩
        have hfo : P.fieldsOf ty = fs := by unfold Program.fieldsOf; rw [h1.und]
        simp only [execOp, ho, hux, huz, Sem.run_bind, run_eqGuard_agg w .neq ty x z _ _ hm, Result.andThen_ok, run_neq_struct, run_equalIn_agg w 9999 ty _ _ (by rw [hfo]; exact h1.und) hp, hfo, hf.run 9998 lx rx ly ry, Sem.run_pure]
end
end Go.Proofs.YtnkkfmnpkgjabaaGreat.X

/- The data types of lifted code. Printed by a program of this repo (lift2.py). -/
namespace Go.Proofs.YtnkkfmnpkgjabaaGreat.X
open Go.RowKit
set_option linter.unusedVariables false
structure SParty where
  Account : Txt
  Keys : List Txt
  deriving Inhabited
def rParty (x : SParty) : List A := [sA x.Account, .sl (x.Keys.map strR)]
theorem rParty_len (x : SParty) : (rParty x).length = 2 := rfl
structure SArc where
  From : Int
  To : Int
  Ledger : Int
  Asset : Txt
  Amount : Int
  deriving Inhabited
def rArc (x : SArc) : List A := [iA x.From, iA x.To, iA x.Ledger, sA x.Asset, iA x.Amount]
theorem rArc_len (x : SArc) : (rArc x).length = 5 := rfl
structure SSpec where
  ID : Txt
  Parties : List SParty
  Arcs : List SArc
  Leaders : List Int
  Locks : List Txt
  Start : Int
  Delta : Int
  deriving Inhabited
def rSpec (x : SSpec) : List A := [sA x.ID, .sl (x.Parties.map rParty), .sl (x.Arcs.map rArc), .sl (x.Leaders.map intR), .sl (x.Locks.map strR), iA x.Start, iA x.Delta]
theorem rSpec_len (x : SSpec) : (rSpec x).length = 7 := rfl
structure SHashkey where
  Lock : Int
  Secret : Txt
  Path : List Int
  Sigs : List Txt
  deriving Inhabited
def rHashkey (x : SHashkey) : List A := [iA x.Lock, sA x.Secret, .sl (x.Path.map intR), .sl (x.Sigs.map strR)]
theorem rHashkey_len (x : SHashkey) : (rHashkey x).length = 4 := rfl
end Go.Proofs.YtnkkfmnpkgjabaaGreat.X

/- Lifted code. Printed by a program of this repo (lift2.py). -/
namespace Go.Proofs.YtnkkfmnpkgjabaaGreat.X
open Go.RowKit
set_option linter.unusedVariables false
set_option linter.unusedSimpArgs false
set_option maxRecDepth 10000
set_option maxHeartbeats 4000000
noncomputable def l_ref1_table : Option ((List Int)) :=
some [1116352408, 1899447441, 3049323471, 3921009573, 961987163, 1508970993, 2453635748, 2870763221, 3624381080, 310598401, 607225278, 1426881987, 1925078388, 2162078206, 2614888103, 3248222580, 3835390401, 4022224774, 264347078, 604807628, 770255983, 1249150122, 1555081692, 1996064986, 2554220882, 2821834349, 2952996808, 3210313671, 3336571891, 3584528711, 113926993, 338241895, 666307205, 773529912, 1294757372, 1396182291, 1695183700, 1986661051, 2177026350, 2456956037, 2730485921, 2820302411, 3259730800, 3345764771, 3516065817, 3600352804, 4094571909, 275423344, 430227734, 506948616, 659060556, 883997877, 958139571, 1322822218, 1537002063, 1747873779, 1955562222, 2024104815, 2227730452, 2361852424, 2428436474, 2756734187, 3204031479, 3329325298]
theorem c_ref1_table {r : (List Int)} (hF : l_ref1_table = some r) : APure Tryz.prog 144 [] (.agg ((arR (kR .u32)) r)) := fun bs => by
  unfold l_ref1_table at hF
  refine ACalls.wk ?_
  refine ACalls.in_ Tryz.func144 Tryz.ntmps144 (h := ?_)
  (repeat refine gc (h := ?_))
  refine AW.region ?_
  refine AL.k1 (hq := OpW.alloc_arr (rs := (List.replicate 64 0).map (kR .u32)) (n := 64) (s := 1) rfl (by rfl) (by intro r hr; obtain ⟨_, _, rfl⟩ := List.mem_map.1 hr; rfl) (by simp) (by decide)) (h := fun g1 => ?_)
  refine AL.nil ?_
  (repeat refine gc (h := ?_))
  refine AW.region ?_
  refine s_ (OpQ.build_arr (cs' := (arR (kR .u32)) [1116352408, 1899447441, 3049323471, 3921009573, 961987163, 1508970993, 2453635748, 2870763221, 3624381080, 310598401, 607225278, 1426881987, 1925078388, 2162078206, 2614888103, 3248222580, 3835390401, 4022224774, 264347078, 604807628, 770255983, 1249150122, 1555081692, 1996064986, 2554220882, 2821834349, 2952996808, 3210313671, 3336571891, 3584528711, 113926993, 338241895, 666307205, 773529912, 1294757372, 1396182291, 1695183700, 1986661051, 2177026350, 2456956037, 2730485921, 2820302411, 3259730800, 3345764771, 3516065817, 3600352804, 4094571909, 275423344, 430227734, 506948616, 659060556, 883997877, 958139571, 1322822218, 1537002063, 1747873779, 1955562222, 2024104815, 2227730452, 2361852424, 2428436474, 2756734187, 3204031479, 3329325298]) rfl (by repeat (first | exact Bld.nil _ | (apply Bld.cons; rfl; exact Wk.of_eq (by (conv => lhs; whnf) <;> rfl); exact (by first | exact .inl rfl | exact .inr ⟨_, rfl⟩); exact (by first | rfl | (simp [cellsOf]; done) | (simp only [List.map_cons, List.map_nil, cellsOf]) <;> rfl); exact (by first | rfl | (simp; done) | (simp only [List.length_map]; omega) | (simp; omega) | omega); exact (by first | ((simp only [spl, cellsOf, List.set_cons_zero, List.set_cons_succ]) <;> rfl) | rfl))))) ?_
  refine AL.n0 (hq := OpW.store_arr (rs' := [1116352408, 1899447441, 3049323471, 3921009573, 961987163, 1508970993, 2453635748, 2870763221, 3624381080, 310598401, 607225278, 1426881987, 1925078388, 2162078206, 2614888103, 3248222580, 3835390401, 4022224774, 264347078, 604807628, 770255983, 1249150122, 1555081692, 1996064986, 2554220882, 2821834349, 2952996808, 3210313671, 3336571891, 3584528711, 113926993, 338241895, 666307205, 773529912, 1294757372, 1396182291, 1695183700, 1986661051, 2177026350, 2456956037, 2730485921, 2820302411, 3259730800, 3345764771, 3516065817, 3600352804, 4094571909, 275423344, 430227734, 506948616, 659060556, 883997877, 958139571, 1322822218, 1537002063, 1747873779, 1955562222, 2024104815, 2227730452, 2361852424, 2428436474, 2756734187, 3204031479, 3329325298].map (kR .u32)) rfl wk wk mem_ (by intro r hr; obtain ⟨_, _, rfl⟩ := List.mem_map.1 hr; rfl) (by rw [List.length_map]; exact rfl) (by rfl) (by repeat (first | exact BUpd.head | apply BUpd.tail | apply BUpd.gB | apply BUpd.gO))) (h := ?_)
  refine AL.nil ?_
  have hr_ := some_inj hF
  subst r
  (repeat refine gc (h := ?_))
  exact EndQ.fin (bs' := bs) (h := ⟨wkr_, rfl⟩) (hs := sl_)

noncomputable def l_ref1_turn (a0 : Int) (a1 : Int) : Option (Int) :=
(ensure (0 ≤ a1 ∧ a1 ≤ 32)).bind fun _ =>
(ensure (0 ≤ (IntKind.wrap .u64 (32 - a1)) ∧ (IntKind.wrap .u64 (32 - a1)) ≤ 32)).bind fun _ =>
some (bitI .or .u32 (a0 / (2 : Int) ^ a1.toNat) (IntKind.wrap .u32 (a0 * (2 : Int) ^ (IntKind.wrap .u64 (32 - a1)).toNat)))
theorem c_ref1_turn {a0 : Int} {a1 : Int} {r : Int} (hF : l_ref1_turn a0 a1 = some r) : APure Tryz.prog 145 [.v (.int .u32 a0), .v (.int .u64 a1)] (.v (.int .u32 r)) := fun bs => by
  unfold l_ref1_turn at hF
  refine ACalls.wk ?_
  refine ACalls.in_ Tryz.func145 Tryz.ntmps145 (h := ?_)
  (repeat refine gc (h := ?_))
  refine AW.region ?_
  refine s_ Q.mo ?_
  refine AL.nil ?_
  have hF_ := ens hF; clear hF; obtain ⟨he1, hF⟩ := hF_
  have hF_ := ens hF; clear hF; obtain ⟨he2, hF⟩ := hF_
  (repeat refine gc (h := ?_))
  refine AW.region ?_
  refine s_ Q.mo ?_
  refine s_ Q.mo ?_
  refine s_ (OpQ.shr (c := (2 : Int) ^ a1.toNat) rfl (Wk.refl _) (Wk.refl _) he1.1 (by show _ ≤ 32; omega) rfl) ?_
  refine s_ Q.mo ?_
  refine s_ Q.mo ?_
  refine s_ Q.ar ?_
  refine s_ (OpQ.shl (c := (2 : Int) ^ (IntKind.wrap .u64 (32 - a1)).toNat) rfl (Wk.refl _) (Wk.refl _) he2.1 (by show _ ≤ 32; omega) rfl) ?_
  refine s_ Q.bt ?_
  refine s_ Q.mo ?_
  refine AL.nil ?_
  have hr_ := some_inj hF
  subst r
  (repeat refine gc (h := ?_))
  exact EndQ.fin (bs' := bs) (h := ⟨wkr_, rfl⟩) (hs := sl_)

noncomputable def l_ref1_block_b0 (a1 : Txt) (s53 : Int) (s54 : List Int) : Option ((Int × (List Int)) ⊕ (List Int)) :=
cond (decide (s53 < 16)) (
(ensure (-9223372036854775808 ≤ 4 * s53 ∧ 4 * s53 ≤ 9223372036854775807)).bind fun _ =>
(idxT a1 (4 * s53)).bind fun x66 =>
(ensure (-9223372036854775808 ≤ 4 * s53 ∧ 4 * s53 ≤ 9223372036854775807)).bind fun _ =>
(ensure (-9223372036854775808 ≤ (4 * s53) + 1 ∧ (4 * s53) + 1 ≤ 9223372036854775807)).bind fun _ =>
(idxT a1 ((4 * s53) + 1)).bind fun x71 =>
(ensure (-9223372036854775808 ≤ 4 * s53 ∧ 4 * s53 ≤ 9223372036854775807)).bind fun _ =>
(ensure (-9223372036854775808 ≤ (4 * s53) + 2 ∧ (4 * s53) + 2 ≤ 9223372036854775807)).bind fun _ =>
(idxT a1 ((4 * s53) + 2)).bind fun x76 =>
(ensure (-9223372036854775808 ≤ 4 * s53 ∧ 4 * s53 ≤ 9223372036854775807)).bind fun _ =>
(ensure (-9223372036854775808 ≤ (4 * s53) + 3 ∧ (4 * s53) + 3 ≤ 9223372036854775807)).bind fun _ =>
(idxT a1 ((4 * s53) + 3)).bind fun x81 =>
(idxO s54 s53).bind fun x84 =>
(ensure (-9223372036854775808 ≤ s53 + 1 ∧ s53 + 1 ≤ 9223372036854775807)).bind fun _ =>
some (.inl ((s53 + 1), (s54.set s53.toNat (bitI .or .u32 (bitI .or .u32 (bitI .or .u32 (IntKind.wrap .u32 ((IntKind.wrap .u32 (x66.toNat : Int)) * 16777216)) (IntKind.wrap .u32 ((IntKind.wrap .u32 (x71.toNat : Int)) * 65536))) (IntKind.wrap .u32 ((IntKind.wrap .u32 (x76.toNat : Int)) * 256))) (IntKind.wrap .u32 (x81.toNat : Int))))))) (
some (.inr s54))
noncomputable def l_ref1_block_b1 (s149 : Int) (s150 : List Int) : Option ((Int × (List Int)) ⊕ (List Int)) :=
cond (decide (s149 < 64)) (
(ensure (-9223372036854775808 ≤ s149 - 15 ∧ s149 - 15 ≤ 9223372036854775807)).bind fun _ =>
(idxO s150 (s149 - 15)).bind fun x162 =>
(l_ref1_turn x162 7).bind fun x165 =>
(ensure (-9223372036854775808 ≤ s149 - 15 ∧ s149 - 15 ≤ 9223372036854775807)).bind fun _ =>
(l_ref1_turn x162 18).bind fun x168 =>
(ensure (-9223372036854775808 ≤ s149 - 15 ∧ s149 - 15 ≤ 9223372036854775807)).bind fun _ =>
(ensure (-9223372036854775808 ≤ s149 - 2 ∧ s149 - 2 ≤ 9223372036854775807)).bind fun _ =>
(idxO s150 (s149 - 2)).bind fun x172 =>
(l_ref1_turn x172 17).bind fun x175 =>
(ensure (-9223372036854775808 ≤ s149 - 2 ∧ s149 - 2 ≤ 9223372036854775807)).bind fun _ =>
(l_ref1_turn x172 19).bind fun x178 =>
(ensure (-9223372036854775808 ≤ s149 - 2 ∧ s149 - 2 ≤ 9223372036854775807)).bind fun _ =>
(ensure (-9223372036854775808 ≤ s149 - 16 ∧ s149 - 16 ≤ 9223372036854775807)).bind fun _ =>
(idxO s150 (s149 - 16)).bind fun x182 =>
(ensure (-9223372036854775808 ≤ s149 - 7 ∧ s149 - 7 ≤ 9223372036854775807)).bind fun _ =>
(idxO s150 (s149 - 7)).bind fun x186 =>
(idxO s150 s149).bind fun x189 =>
(ensure (-9223372036854775808 ≤ s149 + 1 ∧ s149 + 1 ≤ 9223372036854775807)).bind fun _ =>
some (.inl ((s149 + 1), (s150.set s149.toNat (IntKind.wrap .u32 ((IntKind.wrap .u32 ((IntKind.wrap .u32 (x182 + (bitI .xor .u32 (bitI .xor .u32 x165 x168) (x162 / 8)))) + x186)) + (bitI .xor .u32 (bitI .xor .u32 x175 x178) (x172 / 1024)))))))) (
some (.inr s150))
noncomputable def l_ref1_block_b2 (x5 : (List Int)) (e158 : List Int) (s287 : Int) (s288 : List Int) : Option ((Int × (List Int)) ⊕ (List Int)) :=
cond (decide (s287 < 64)) (
(idxO s288 4).bind fun x299 =>
(l_ref1_turn x299 6).bind fun x302 =>
(l_ref1_turn x299 11).bind fun x304 =>
(l_ref1_turn x299 25).bind fun x306 =>
(idxO s288 7).bind fun x308 =>
(idxO s288 5).bind fun x311 =>
(idxO s288 6).bind fun x314 =>
(idxO x5 s287).bind fun x317 =>
(idxO e158 s287).bind fun x320 =>
(idxO s288 0).bind fun x323 =>
(l_ref1_turn x323 2).bind fun x326 =>
(l_ref1_turn x323 13).bind fun x328 =>
(l_ref1_turn x323 22).bind fun x330 =>
(idxO s288 1).bind fun x332 =>
(idxO s288 2).bind fun x335 =>
(idxO s288 3).bind fun x338 =>
(ensure (-9223372036854775808 ≤ s287 + 1 ∧ s287 + 1 ≤ 9223372036854775807)).bind fun _ =>
some (.inl ((s287 + 1), [(IntKind.wrap .u32 ((IntKind.wrap .u32 ((IntKind.wrap .u32 ((IntKind.wrap .u32 ((IntKind.wrap .u32 (x308 + (bitI .xor .u32 (bitI .xor .u32 x302 x304) x306))) + (bitI .xor .u32 (bitI .and .u32 x299 x311) (bitI .and .u32 (bitI .xor .u32 4294967295 x299) x314)))) + x317)) + x320)) + (IntKind.wrap .u32 ((bitI .xor .u32 (bitI .xor .u32 x326 x328) x330) + (bitI .xor .u32 (bitI .xor .u32 (bitI .and .u32 x323 x332) (bitI .and .u32 x323 x335)) (bitI .and .u32 x332 x335)))))), x323, x332, x335, (IntKind.wrap .u32 (x338 + (IntKind.wrap .u32 ((IntKind.wrap .u32 ((IntKind.wrap .u32 ((IntKind.wrap .u32 (x308 + (bitI .xor .u32 (bitI .xor .u32 x302 x304) x306))) + (bitI .xor .u32 (bitI .and .u32 x299 x311) (bitI .and .u32 (bitI .xor .u32 4294967295 x299) x314)))) + x317)) + x320)))), x299, x311, x314]))) (
some (.inr s288))
noncomputable def l_ref1_block_b3 (e296 : List Int) (s361 : Int) (s362 : List Int) : Option ((Int × (List Int)) ⊕ (List Int)) :=
cond (decide (s361 < 8)) (
(idxO s362 s361).bind fun x373 =>
(idxO e296 s361).bind fun x376 =>
(ensure (-9223372036854775808 ≤ s361 + 1 ∧ s361 + 1 ≤ 9223372036854775807)).bind fun _ =>
some (.inl ((s361 + 1), (s362.set s361.toNat (IntKind.wrap .u32 (x373 + x376)))))) (
some (.inr s362))
noncomputable def l_ref1_block (a0 : List Int) (a1 : Txt) : Option ((List Int)) :=
(ensure (a0.length = 8)).bind fun _ =>
(l_ref1_table).bind fun x5 =>
(ensure (x5.length = 64)).bind fun _ =>
Option.bind (loopF (τ := (List Int)) (fun s : Int × (List Int) => l_ref1_block_b0 a1 s.1 s.2) (0, (List.replicate 64 0))) fun oo55 => (match oo55 with
| e62 =>
Option.bind (loopF (τ := (List Int)) (fun s : Int × (List Int) => l_ref1_block_b1 s.1 s.2) (16, e62)) fun oo151 => (match oo151 with
| e158 =>
(ensure (a0.length = 8)).bind fun _ =>
(ensure (a0.length = 8)).bind fun _ =>
Option.bind (loopF (τ := (List Int)) (fun s : Int × (List Int) => l_ref1_block_b2 x5 e158 s.1 s.2) (0, a0)) fun oo289 => (match oo289 with
| e296 =>
Option.bind (loopF (τ := (List Int)) (fun s : Int × (List Int) => l_ref1_block_b3 e296 s.1 s.2) (0, a0)) fun oo363 => (match oo363 with
| e370 =>
(ensure (e370.length = 8)).bind fun _ =>
(ensure (e370.length = 8)).bind fun _ =>
(ensure (e370.length = 8)).bind fun _ =>
some e370))))
theorem c_ref1_block {a0 : List Int} {a1 : Txt} {r : (List Int)} (hF : l_ref1_block a0 a1 = some r) : APure Tryz.prog 113 [.agg ((arR (kR .u32)) a0), sA a1] (.agg ((arR (kR .u32)) r)) := fun bs => by
  unfold l_ref1_block at hF
  refine ACalls.wk ?_
  refine ACalls.in_ Tryz.func113 Tryz.ntmps113 (h := ?_)
  have hF_ := ens hF; clear hF; obtain ⟨he2, hF⟩ := hF_
  (repeat refine gc (h := ?_))
  refine AW.region ?_
  refine AL.k1 (hq := OpW.box_arr (rs := a0.map (kR .u32)) (n := 8) (s := 1) rfl wk (by intro r hr; obtain ⟨_, _, rfl⟩ := List.mem_map.1 hr; rfl) (by rw [List.length_map]; exact he2) (by decide)) (h := fun g1 => ?_)
  refine AL.k1 (hq := OpW.alloc_arr (rs := (List.replicate 8 0).map (kR .u32)) (n := 8) (s := 1) rfl (by rfl) (by intro r hr; obtain ⟨_, _, rfl⟩ := List.mem_map.1 hr; rfl) (by simp) (by decide)) (h := fun g3 => ?_)
  refine AL.nil ?_
  (repeat refine gc (h := ?_))
  refine AW.region ?_
  refine AL.k1 (hq := OpW.alloc_arr (rs := (List.replicate 64 0).map (kR .u32)) (n := 64) (s := 1) rfl (by rfl) (by intro r hr; obtain ⟨_, _, rfl⟩ := List.mem_map.1 hr; rfl) (by simp) (by decide)) (h := fun g4 => ?_)
  refine AL.nil ?_
  have hF_ := bnd hF; clear hF; obtain ⟨x5, hc6, hF⟩ := hF_
  have hF_ := ens hF; clear hF; obtain ⟨he8, hF⟩ := hF_
  (repeat refine gc (h := ?_))
  refine AW.region ?_
  refine s_ (OpQ.c (c_ref1_table hc6)) ?_
  refine AL.k1 (hq := OpW.alloc_arr (rs := (List.replicate 64 0).map (kR .u32)) (n := 64) (s := 1) rfl (by rfl) (by intro r hr; obtain ⟨_, _, rfl⟩ := List.mem_map.1 hr; rfl) (by simp) (by decide)) (h := fun g7 => ?_)
  refine AL.n0 (hq := OpW.store_arr (rs' := x5.map (kR .u32)) rfl wk wk mem_ (by intro r hr; obtain ⟨_, _, rfl⟩ := List.mem_map.1 hr; rfl) (by rw [List.length_map]; exact he8) (by rfl) (by repeat (first | exact BUpd.head | apply BUpd.tail | apply BUpd.gB | apply BUpd.gO))) (h := ?_)
  refine AL.nil ?_
  (repeat refine gc (h := ?_))
  refine AW.region ?_
  refine s_ Q.mo ?_
  refine AL.nil ?_
  have hF_ := bnd hF; clear hF; obtain ⟨oo55, hL56, hO57⟩ := hF_
  (repeat refine gc (h := ?_))
  refine AW.join1_0 (fun (e62 : List Int) => [(2, .ptr g1 0), (4, .ptr g3 0), (5, .ptr g4 0), (6, .ptr g7 0)]) (fun (e62 : List Int) => (g7, .rows (x5.map (kR .u32)) 64 1 158) :: (g4, .rows (e62.map (kR .u32)) 64 1 158) :: (g3, .rows ((List.replicate 8 0).map (kR .u32)) 8 1 133) :: (g1, .rows (a0.map (kR .u32)) 8 1 133) :: bs) (fun (e62 : List Int) => oo55 = e62) ?_ (fun e62 hs386 => ?_)
  ·(repeat refine gc (h := ?_))
   refine AW.block ?_
   refine AW.loopF2_0 hL56 (fun (s53 : Int) (s54 : List Int) => [(1, sA a1), (2, .ptr g1 0), (4, .ptr g3 0), (5, .ptr g4 0), (6, .ptr g7 0), (7, iA s53)]) (fun (s53 : Int) (s54 : List Int) => (g7, .rows (x5.map (kR .u32)) 64 1 158) :: (g4, .rows (s54.map (kR .u32)) 64 1 158) :: (g3, .rows ((List.replicate 8 0).map (kR .u32)) 8 1 133) :: (g1, .rows (a0.map (kR .u32)) 8 1 133) :: bs) (fun (s53 : Int) (s54 : List Int) => True)  trivial sub_ sl_ (fun s53 s54 v58 hp59 hF => ?_)
   replace hF : l_ref1_block_b0 a1 s53 s54 = some v58 := hF
   unfold l_ref1_block_b0 at hF
   (repeat refine gc (h := ?_))
   (repeat refine gc (h := ?_))
   refine AW.region ?_
   refine s_ Q.mo ?_
   refine s_ Q.cm ?_
   refine AL.nil ?_
   (repeat refine gc (h := ?_))
   refine AW.cond (b := (decide (s53 < 16))) rfl (fun hc64 => ?_) (fun hc64 => ?_)
   ·replace hF := cnd_t hc64 hF
    have hc64p := of_decide_eq_true hc64
    (repeat refine gc (h := ?_))
    (repeat refine gc (h := ?_))
    refine AW.block ?_
    have hF_ := ens hF; clear hF; obtain ⟨he65, hF⟩ := hF_
    have hF_ := idxT_b hF; clear hF; obtain ⟨x66, h67, h68, hF⟩ := hF_
    have hF_ := ens hF; clear hF; obtain ⟨he69, hF⟩ := hF_
    have hF_ := ens hF; clear hF; obtain ⟨he70, hF⟩ := hF_
    have hF_ := idxT_b hF; clear hF; obtain ⟨x71, h72, h73, hF⟩ := hF_
    have hF_ := ens hF; clear hF; obtain ⟨he74, hF⟩ := hF_
    have hF_ := ens hF; clear hF; obtain ⟨he75, hF⟩ := hF_
    have hF_ := idxT_b hF; clear hF; obtain ⟨x76, h77, h78, hF⟩ := hF_
    have hF_ := ens hF; clear hF; obtain ⟨he79, hF⟩ := hF_
    have hF_ := ens hF; clear hF; obtain ⟨he80, hF⟩ := hF_
    have hF_ := idxT_b hF; clear hF; obtain ⟨x81, h82, h83, hF⟩ := hF_
    have hF_ := idx_b hF; clear hF; obtain ⟨x84, h85, h86, hF⟩ := hF_
    (repeat refine gc (h := ?_))
    refine ADx.in_ (h := ?_)
    refine f_ 0 rfl (fun bs => Q.mo) ?_
    refine f_ 1 rfl (fun bs => Q.mo) ?_
    refine f_ 2 rfl (fun bs => Q.mo) ?_
    refine f_ 3 rfl (fun bs => Q.ml (h := he65)) ?_
    refine f_ 4 rfl (fun bs => Q.is h67 h68) ?_
    refine f_ 5 rfl (fun bs => Q.cv) ?_
    refine f_ 6 rfl (fun bs => Q.sl) ?_
    refine f_ 7 rfl (fun bs => Q.mo) ?_
    refine f_ 8 rfl (fun bs => Q.mo) ?_
    refine f_ 9 rfl (fun bs => Q.ml (h := he69)) ?_
    refine f_ 10 rfl (fun bs => Q.ad (h := he70)) ?_
    refine f_ 11 rfl (fun bs => Q.is h72 h73) ?_
    refine f_ 12 rfl (fun bs => Q.cv) ?_
    refine f_ 13 rfl (fun bs => Q.sl) ?_
    refine f_ 14 rfl (fun bs => Q.bt) ?_
    refine f_ 15 rfl (fun bs => Q.mo) ?_
    refine f_ 16 rfl (fun bs => Q.mo) ?_
    refine f_ 17 rfl (fun bs => Q.ml (h := he74)) ?_
    refine f_ 18 rfl (fun bs => Q.ad (h := he75)) ?_
    refine f_ 19 rfl (fun bs => Q.is h77 h78) ?_
    refine f_ 20 rfl (fun bs => Q.cv) ?_
    refine f_ 21 rfl (fun bs => Q.sl) ?_
    refine f_ 22 rfl (fun bs => Q.bt) ?_
    refine f_ 23 rfl (fun bs => Q.mo) ?_
    refine f_ 24 rfl (fun bs => Q.mo) ?_
    refine f_ 25 rfl (fun bs => Q.ml (h := he79)) ?_
    refine f_ 26 rfl (fun bs => Q.ad (h := he80)) ?_
    refine f_ 27 rfl (fun bs => Q.is h82 h83) ?_
    refine f_ 28 rfl (fun bs => Q.cv) ?_
    refine f_ 29 rfl (fun bs => Q.bt) ?_
    refine ADx.b 30 rfl (hq := OpQ.idx_ar (R := (kR .u32)) (v := s54) rfl wk wk h85 mem_ h86) (h := ?_)
    first | refine ADx.e0 31 rfl (hq := OpW.store_map (R := (kR .u32)) (v := s54) (q := x84) (q' := (bitI .or .u32 (bitI .or .u32 (bitI .or .u32 (IntKind.wrap .u32 ((IntKind.wrap .u32 (x66.toNat : Int)) * 16777216)) (IntKind.wrap .u32 ((IntKind.wrap .u32 (x71.toNat : Int)) * 65536))) (IntKind.wrap .u32 ((IntKind.wrap .u32 (x76.toNat : Int)) * 256))) (IntKind.wrap .u32 (x81.toNat : Int)))) (y := .v (.int .u32 (bitI .or .u32 (bitI .or .u32 (bitI .or .u32 (IntKind.wrap .u32 ((IntKind.wrap .u32 (x66.toNat : Int)) * 16777216)) (IntKind.wrap .u32 ((IntKind.wrap .u32 (x71.toNat : Int)) * 65536))) (IntKind.wrap .u32 ((IntKind.wrap .u32 (x76.toNat : Int)) * 256))) (IntKind.wrap .u32 (x81.toNat : Int))))) rfl wk (by first | exact Wk.opt _ _ (by first | assumption | rfl) | exact Wk.of_eq (by (conv => lhs; whnf) <;> rfl)) (by first | exact .inl rfl | exact .inr ⟨_, rfl⟩) mem_ h86 (by rfl) (by repeat (first | exact BUpd.head | apply BUpd.tail | apply BUpd.gB | apply BUpd.gO)) (by decide) (by rfl)) (h := ?_) | refine ADx.n0 31 rfl (hq := OpW.store_map (R := (kR .u32)) (v := s54) (q := x84) (q' := (bitI .or .u32 (bitI .or .u32 (bitI .or .u32 (IntKind.wrap .u32 ((IntKind.wrap .u32 (x66.toNat : Int)) * 16777216)) (IntKind.wrap .u32 ((IntKind.wrap .u32 (x71.toNat : Int)) * 65536))) (IntKind.wrap .u32 ((IntKind.wrap .u32 (x76.toNat : Int)) * 256))) (IntKind.wrap .u32 (x81.toNat : Int)))) (y := .v (.int .u32 (bitI .or .u32 (bitI .or .u32 (bitI .or .u32 (IntKind.wrap .u32 ((IntKind.wrap .u32 (x66.toNat : Int)) * 16777216)) (IntKind.wrap .u32 ((IntKind.wrap .u32 (x71.toNat : Int)) * 65536))) (IntKind.wrap .u32 ((IntKind.wrap .u32 (x76.toNat : Int)) * 256))) (IntKind.wrap .u32 (x81.toNat : Int))))) rfl wk (by first | exact Wk.opt _ _ (by first | assumption | rfl) | exact Wk.of_eq (by (conv => lhs; whnf) <;> rfl)) (by first | exact .inl rfl | exact .inr ⟨_, rfl⟩) mem_ h86 (by rfl) (by repeat (first | exact BUpd.head | apply BUpd.tail | apply BUpd.gB | apply BUpd.gO)) (by decide) (by rfl)) (h := ?_)
    refine ADx.done ?_
    have hF_ := ens hF; clear hF; obtain ⟨he87, hF⟩ := hF_
    (repeat refine gc (h := ?_))
    refine AW.region ?_
    refine s_ Q.mo ?_
    refine s_ (Q.ad (h := he87)) ?_
    refine s_ Q.mo ?_
    refine AL.nil ?_
    (repeat refine gc (h := ?_))
    exact lpQ2_0.n (s53 + 1) (s54.set s53.toNat (bitI .or .u32 (bitI .or .u32 (bitI .or .u32 (IntKind.wrap .u32 ((IntKind.wrap .u32 (x66.toNat : Int)) * 16777216)) (IntKind.wrap .u32 ((IntKind.wrap .u32 (x71.toNat : Int)) * 65536))) (IntKind.wrap .u32 ((IntKind.wrap .u32 (x76.toNat : Int)) * 256))) (IntKind.wrap .u32 (x81.toNat : Int)))) (some_inj hF) trivial sub_ sl_
   ·replace hF := cnd_f hc64 hF
    have hc64p := of_decide_eq_false hc64
    (repeat refine gc (h := ?_))
    obtain rfl := some_inj hF
    (repeat refine gc (h := ?_))
    refine lpQ2_0.e _ rfl (fun ho61 => ?_)
    (repeat refine gc (h := ?_))
    exact jnQ1_0.n s54 ho61 sub_ sl_
  ·obtain rfl := hs386.symm
   replace hF := hO57
   try dsimp only at hF
   (repeat refine gc (h := ?_))
   (repeat refine gc (h := ?_))
   refine AW.region ?_
   refine s_ Q.mo ?_
   refine AL.nil ?_
   have hF_ := bnd hF; clear hF; obtain ⟨oo151, hL152, hO153⟩ := hF_
   (repeat refine gc (h := ?_))
   refine AW.join1_0 (fun (e158 : List Int) => [(2, .ptr g1 0), (4, .ptr g3 0), (5, .ptr g4 0), (6, .ptr g7 0)]) (fun (e158 : List Int) => (g7, .rows (x5.map (kR .u32)) 64 1 158) :: (g4, .rows (e158.map (kR .u32)) 64 1 158) :: (g3, .rows ((List.replicate 8 0).map (kR .u32)) 8 1 133) :: (g1, .rows (a0.map (kR .u32)) 8 1 133) :: bs) (fun (e158 : List Int) => oo151 = e158) ?_ (fun e158 hs385 => ?_)
   ·(repeat refine gc (h := ?_))
    refine AW.block ?_
    refine AW.loopF2_0 hL152 (fun (s149 : Int) (s150 : List Int) => [(2, .ptr g1 0), (4, .ptr g3 0), (5, .ptr g4 0), (6, .ptr g7 0), (8, iA s149)]) (fun (s149 : Int) (s150 : List Int) => (g7, .rows (x5.map (kR .u32)) 64 1 158) :: (g4, .rows (s150.map (kR .u32)) 64 1 158) :: (g3, .rows ((List.replicate 8 0).map (kR .u32)) 8 1 133) :: (g1, .rows (a0.map (kR .u32)) 8 1 133) :: bs) (fun (s149 : Int) (s150 : List Int) => True)  trivial sub_ sl_ (fun s149 s150 v154 hp155 hF => ?_)
    replace hF : l_ref1_block_b1 s149 s150 = some v154 := hF
    unfold l_ref1_block_b1 at hF
    (repeat refine gc (h := ?_))
    (repeat refine gc (h := ?_))
    refine AW.region ?_
    refine s_ Q.mo ?_
    refine s_ Q.cm ?_
    refine AL.nil ?_
    (repeat refine gc (h := ?_))
    refine AW.cond (b := (decide (s149 < 64))) rfl (fun hc160 => ?_) (fun hc160 => ?_)
    ·replace hF := cnd_t hc160 hF
     have hc160p := of_decide_eq_true hc160
     (repeat refine gc (h := ?_))
     (repeat refine gc (h := ?_))
     refine AW.block ?_
     have hF_ := ens hF; clear hF; obtain ⟨he161, hF⟩ := hF_
     have hF_ := idx_b hF; clear hF; obtain ⟨x162, h163, h164, hF⟩ := hF_
     have hF_ := bnd hF; clear hF; obtain ⟨x165, hc166, hF⟩ := hF_
     have hF_ := ens hF; clear hF; obtain ⟨he167, hF⟩ := hF_
     have hF_ := bnd hF; clear hF; obtain ⟨x168, hc169, hF⟩ := hF_
     have hF_ := ens hF; clear hF; obtain ⟨he170, hF⟩ := hF_
     (repeat refine gc (h := ?_))
     refine ADx.in_ (h := ?_)
     refine f_ 0 rfl (fun bs => Q.mo) ?_
     refine f_ 1 rfl (fun bs => Q.sb (h := he161)) ?_
     refine ADx.b 2 rfl (hq := OpQ.idx_ar (R := (kR .u32)) (v := s150) rfl wk wk h163 mem_ h164) (h := ?_)
     refine ADx.b 3 rfl (hq := OpQ.load_map (R := (kR .u32)) (v := s150) (q := x162) rfl wk mem_ h164 (by rfl) (by rfl)) (h := ?_)
     refine f_ 4 rfl (fun bs => OpQ.c (c_ref1_turn hc166)) ?_
     refine f_ 5 rfl (fun bs => Q.mo) ?_
     refine f_ 6 rfl (fun bs => Q.sb (h := he167)) ?_
     refine ADx.b 7 rfl (hq := OpQ.idx_ar (R := (kR .u32)) (v := s150) rfl wk wk h163 mem_ h164) (h := ?_)
     refine ADx.b 8 rfl (hq := OpQ.load_map (R := (kR .u32)) (v := s150) (q := x162) rfl wk mem_ h164 (by rfl) (by rfl)) (h := ?_)
     refine f_ 9 rfl (fun bs => OpQ.c (c_ref1_turn hc169)) ?_
     refine f_ 10 rfl (fun bs => Q.bt) ?_
     refine f_ 11 rfl (fun bs => Q.mo) ?_
     refine f_ 12 rfl (fun bs => Q.sb (h := he170)) ?_
     refine ADx.b 13 rfl (hq := OpQ.idx_ar (R := (kR .u32)) (v := s150) rfl wk wk h163 mem_ h164) (h := ?_)
     refine ADx.b 14 rfl (hq := OpQ.load_map (R := (kR .u32)) (v := s150) (q := x162) rfl wk mem_ h164 (by rfl) (by rfl)) (h := ?_)
     refine f_ 15 rfl (fun bs => Q.sr) ?_
     refine f_ 16 rfl (fun bs => Q.bt) ?_
     refine ADx.last 17 rfl (hq := Q.mo) (h := ?_)
     have hF_ := ens hF; clear hF; obtain ⟨he171, hF⟩ := hF_
     have hF_ := idx_b hF; clear hF; obtain ⟨x172, h173, h174, hF⟩ := hF_
     have hF_ := bnd hF; clear hF; obtain ⟨x175, hc176, hF⟩ := hF_
     have hF_ := ens hF; clear hF; obtain ⟨he177, hF⟩ := hF_
     have hF_ := bnd hF; clear hF; obtain ⟨x178, hc179, hF⟩ := hF_
     have hF_ := ens hF; clear hF; obtain ⟨he180, hF⟩ := hF_
     (repeat refine gc (h := ?_))
     refine ADx.in_ (h := ?_)
     refine f_ 0 rfl (fun bs => Q.mo) ?_
     refine f_ 1 rfl (fun bs => Q.sb (h := he171)) ?_
     refine ADx.b 2 rfl (hq := OpQ.idx_ar (R := (kR .u32)) (v := s150) rfl wk wk h173 mem_ h174) (h := ?_)
     refine ADx.b 3 rfl (hq := OpQ.load_map (R := (kR .u32)) (v := s150) (q := x172) rfl wk mem_ h174 (by rfl) (by rfl)) (h := ?_)
     refine f_ 4 rfl (fun bs => OpQ.c (c_ref1_turn hc176)) ?_
     refine f_ 5 rfl (fun bs => Q.mo) ?_
     refine f_ 6 rfl (fun bs => Q.sb (h := he177)) ?_
     refine ADx.b 7 rfl (hq := OpQ.idx_ar (R := (kR .u32)) (v := s150) rfl wk wk h173 mem_ h174) (h := ?_)
     refine ADx.b 8 rfl (hq := OpQ.load_map (R := (kR .u32)) (v := s150) (q := x172) rfl wk mem_ h174 (by rfl) (by rfl)) (h := ?_)
     refine f_ 9 rfl (fun bs => OpQ.c (c_ref1_turn hc179)) ?_
     refine f_ 10 rfl (fun bs => Q.bt) ?_
     refine f_ 11 rfl (fun bs => Q.mo) ?_
     refine f_ 12 rfl (fun bs => Q.sb (h := he180)) ?_
     refine ADx.b 13 rfl (hq := OpQ.idx_ar (R := (kR .u32)) (v := s150) rfl wk wk h173 mem_ h174) (h := ?_)
     refine ADx.b 14 rfl (hq := OpQ.load_map (R := (kR .u32)) (v := s150) (q := x172) rfl wk mem_ h174 (by rfl) (by rfl)) (h := ?_)
     refine f_ 15 rfl (fun bs => Q.sr) ?_
     refine f_ 16 rfl (fun bs => Q.bt) ?_
     refine ADx.last 17 rfl (hq := Q.mo) (h := ?_)
     have hF_ := ens hF; clear hF; obtain ⟨he181, hF⟩ := hF_
     have hF_ := idx_b hF; clear hF; obtain ⟨x182, h183, h184, hF⟩ := hF_
     have hF_ := ens hF; clear hF; obtain ⟨he185, hF⟩ := hF_
     have hF_ := idx_b hF; clear hF; obtain ⟨x186, h187, h188, hF⟩ := hF_
     have hF_ := idx_b hF; clear hF; obtain ⟨x189, h190, h191, hF⟩ := hF_
     (repeat refine gc (h := ?_))
     refine ADx.in_ (h := ?_)
     refine f_ 0 rfl (fun bs => Q.mo) ?_
     refine f_ 1 rfl (fun bs => Q.mo) ?_
     refine f_ 2 rfl (fun bs => Q.sb (h := he181)) ?_
     refine ADx.b 3 rfl (hq := OpQ.idx_ar (R := (kR .u32)) (v := s150) rfl wk wk h183 mem_ h184) (h := ?_)
     refine ADx.b 4 rfl (hq := OpQ.load_map (R := (kR .u32)) (v := s150) (q := x182) rfl wk mem_ h184 (by rfl) (by rfl)) (h := ?_)
     refine f_ 5 rfl (fun bs => Q.mo) ?_
     refine f_ 6 rfl (fun bs => Q.ar) ?_
     refine f_ 7 rfl (fun bs => Q.mo) ?_
     refine f_ 8 rfl (fun bs => Q.sb (h := he185)) ?_
     refine ADx.b 9 rfl (hq := OpQ.idx_ar (R := (kR .u32)) (v := s150) rfl wk wk h187 mem_ h188) (h := ?_)
     refine ADx.b 10 rfl (hq := OpQ.load_map (R := (kR .u32)) (v := s150) (q := x186) rfl wk mem_ h188 (by rfl) (by rfl)) (h := ?_)
     refine f_ 11 rfl (fun bs => Q.ar) ?_
     refine f_ 12 rfl (fun bs => Q.mo) ?_
     refine f_ 13 rfl (fun bs => Q.ar) ?_
     refine ADx.b 14 rfl (hq := OpQ.idx_ar (R := (kR .u32)) (v := s150) rfl wk wk h190 mem_ h191) (h := ?_)
     first | refine ADx.e0 15 rfl (hq := OpW.store_map (R := (kR .u32)) (v := s150) (q := x189) (q' := (IntKind.wrap .u32 ((IntKind.wrap .u32 ((IntKind.wrap .u32 (x182 + (bitI .xor .u32 (bitI .xor .u32 x165 x168) (x162 / 8)))) + x186)) + (bitI .xor .u32 (bitI .xor .u32 x175 x178) (x172 / 1024))))) (y := .v (.int .u32 (IntKind.wrap .u32 ((IntKind.wrap .u32 ((IntKind.wrap .u32 (x182 + (bitI .xor .u32 (bitI .xor .u32 x165 x168) (x162 / 8)))) + x186)) + (bitI .xor .u32 (bitI .xor .u32 x175 x178) (x172 / 1024)))))) rfl wk (by first | exact Wk.opt _ _ (by first | assumption | rfl) | exact Wk.of_eq (by (conv => lhs; whnf) <;> rfl)) (by first | exact .inl rfl | exact .inr ⟨_, rfl⟩) mem_ h191 (by rfl) (by repeat (first | exact BUpd.head | apply BUpd.tail | apply BUpd.gB | apply BUpd.gO)) (by decide) (by rfl)) (h := ?_) | refine ADx.n0 15 rfl (hq := OpW.store_map (R := (kR .u32)) (v := s150) (q := x189) (q' := (IntKind.wrap .u32 ((IntKind.wrap .u32 ((IntKind.wrap .u32 (x182 + (bitI .xor .u32 (bitI .xor .u32 x165 x168) (x162 / 8)))) + x186)) + (bitI .xor .u32 (bitI .xor .u32 x175 x178) (x172 / 1024))))) (y := .v (.int .u32 (IntKind.wrap .u32 ((IntKind.wrap .u32 ((IntKind.wrap .u32 (x182 + (bitI .xor .u32 (bitI .xor .u32 x165 x168) (x162 / 8)))) + x186)) + (bitI .xor .u32 (bitI .xor .u32 x175 x178) (x172 / 1024)))))) rfl wk (by first | exact Wk.opt _ _ (by first | assumption | rfl) | exact Wk.of_eq (by (conv => lhs; whnf) <;> rfl)) (by first | exact .inl rfl | exact .inr ⟨_, rfl⟩) mem_ h191 (by rfl) (by repeat (first | exact BUpd.head | apply BUpd.tail | apply BUpd.gB | apply BUpd.gO)) (by decide) (by rfl)) (h := ?_)
     refine ADx.done ?_
     have hF_ := ens hF; clear hF; obtain ⟨he192, hF⟩ := hF_
     (repeat refine gc (h := ?_))
     refine AW.region ?_
     refine s_ Q.mo ?_
     refine s_ (Q.ad (h := he192)) ?_
     refine s_ Q.mo ?_
     refine AL.nil ?_
     (repeat refine gc (h := ?_))
     exact lpQ2_0.n (s149 + 1) (s150.set s149.toNat (IntKind.wrap .u32 ((IntKind.wrap .u32 ((IntKind.wrap .u32 (x182 + (bitI .xor .u32 (bitI .xor .u32 x165 x168) (x162 / 8)))) + x186)) + (bitI .xor .u32 (bitI .xor .u32 x175 x178) (x172 / 1024))))) (some_inj hF) trivial sub_ sl_
    ·replace hF := cnd_f hc160 hF
     have hc160p := of_decide_eq_false hc160
     (repeat refine gc (h := ?_))
     obtain rfl := some_inj hF
     (repeat refine gc (h := ?_))
     refine lpQ2_0.e _ rfl (fun ho157 => ?_)
     (repeat refine gc (h := ?_))
     exact jnQ1_0.n s150 ho157 sub_ sl_
   ·obtain rfl := hs385.symm
    replace hF := hO153
    try dsimp only at hF
    (repeat refine gc (h := ?_))
    have hF_ := ens hF; clear hF; obtain ⟨he193, hF⟩ := hF_
    have hF_ := ens hF; clear hF; obtain ⟨he195, hF⟩ := hF_
    (repeat refine gc (h := ?_))
    refine AW.region ?_
    refine s_ (OpQ.load_arr (rs := a0.map (kR .u32)) rfl wk mem_ (by rw [List.length_map]; exact he193) (by rfl) (by rfl)) ?_
    refine AL.k1 (hq := OpW.alloc_arr (rs := (List.replicate 8 0).map (kR .u32)) (n := 8) (s := 1) rfl (by rfl) (by intro r hr; obtain ⟨_, _, rfl⟩ := List.mem_map.1 hr; rfl) (by simp) (by decide)) (h := fun g194 => ?_)
    refine AL.n0 (hq := OpW.store_arr (rs' := a0.map (kR .u32)) rfl wk wk mem_ (by intro r hr; obtain ⟨_, _, rfl⟩ := List.mem_map.1 hr; rfl) (by rw [List.length_map]; exact he195) (by rfl) (by repeat (first | exact BUpd.head | apply BUpd.tail | apply BUpd.gB | apply BUpd.gO))) (h := ?_)
    refine AL.nil ?_
    (repeat refine gc (h := ?_))
    refine AW.region ?_
    refine s_ Q.mo ?_
    refine AL.nil ?_
    have hF_ := bnd hF; clear hF; obtain ⟨oo289, hL290, hO291⟩ := hF_
    (repeat refine gc (h := ?_))
    refine AW.join1_0 (fun (e296 : List Int) => [(2, .ptr g1 0), (4, .ptr g3 0), (11, .ptr g194 0)]) (fun (e296 : List Int) => (g194, .rows (e296.map (kR .u32)) 8 1 133) :: (g7, .rows (x5.map (kR .u32)) 64 1 158) :: (g4, .rows (e158.map (kR .u32)) 64 1 158) :: (g3, .rows ((List.replicate 8 0).map (kR .u32)) 8 1 133) :: (g1, .rows (a0.map (kR .u32)) 8 1 133) :: bs) (fun (e296 : List Int) => oo289 = e296) ?_ (fun e296 hs384 => ?_)
    ·(repeat refine gc (h := ?_))
     refine AW.block ?_
     refine AW.loopF2_0 hL290 (fun (s287 : Int) (s288 : List Int) => [(2, .ptr g1 0), (4, .ptr g3 0), (5, .ptr g4 0), (6, .ptr g7 0), (11, .ptr g194 0), (12, iA s287)]) (fun (s287 : Int) (s288 : List Int) => (g194, .rows (s288.map (kR .u32)) 8 1 133) :: (g7, .rows (x5.map (kR .u32)) 64 1 158) :: (g4, .rows (e158.map (kR .u32)) 64 1 158) :: (g3, .rows ((List.replicate 8 0).map (kR .u32)) 8 1 133) :: (g1, .rows (a0.map (kR .u32)) 8 1 133) :: bs) (fun (s287 : Int) (s288 : List Int) => True)  trivial sub_ sl_ (fun s287 s288 v292 hp293 hF => ?_)
     replace hF : l_ref1_block_b2 x5 e158 s287 s288 = some v292 := hF
     unfold l_ref1_block_b2 at hF
     (repeat refine gc (h := ?_))
     (repeat refine gc (h := ?_))
     refine AW.region ?_
     refine s_ Q.mo ?_
     refine s_ Q.cm ?_
     refine AL.nil ?_
     (repeat refine gc (h := ?_))
     refine AW.cond (b := (decide (s287 < 64))) rfl (fun hc298 => ?_) (fun hc298 => ?_)
     ·replace hF := cnd_t hc298 hF
      have hc298p := of_decide_eq_true hc298
      (repeat refine gc (h := ?_))
      (repeat refine gc (h := ?_))
      refine AW.block ?_
      have hF_ := idx_b hF; clear hF; obtain ⟨x299, h300, h301, hF⟩ := hF_
      have hF_ := bnd hF; clear hF; obtain ⟨x302, hc303, hF⟩ := hF_
      have hF_ := bnd hF; clear hF; obtain ⟨x304, hc305, hF⟩ := hF_
      have hF_ := bnd hF; clear hF; obtain ⟨x306, hc307, hF⟩ := hF_
      (repeat refine gc (h := ?_))
      refine ADx.in_ (h := ?_)
      refine ADx.b 0 rfl (hq := OpQ.idx_ar (R := (kR .u32)) (v := s288) rfl wk wk h300 mem_ h301) (h := ?_)
      refine ADx.b 1 rfl (hq := OpQ.load_map (R := (kR .u32)) (v := s288) (q := x299) rfl wk mem_ h301 (by rfl) (by rfl)) (h := ?_)
      refine f_ 2 rfl (fun bs => OpQ.c (c_ref1_turn hc303)) ?_
      refine ADx.b 3 rfl (hq := OpQ.idx_ar (R := (kR .u32)) (v := s288) rfl wk wk h300 mem_ h301) (h := ?_)
      refine ADx.b 4 rfl (hq := OpQ.load_map (R := (kR .u32)) (v := s288) (q := x299) rfl wk mem_ h301 (by rfl) (by rfl)) (h := ?_)
      refine f_ 5 rfl (fun bs => OpQ.c (c_ref1_turn hc305)) ?_
      refine f_ 6 rfl (fun bs => Q.bt) ?_
      refine ADx.b 7 rfl (hq := OpQ.idx_ar (R := (kR .u32)) (v := s288) rfl wk wk h300 mem_ h301) (h := ?_)
      refine ADx.b 8 rfl (hq := OpQ.load_map (R := (kR .u32)) (v := s288) (q := x299) rfl wk mem_ h301 (by rfl) (by rfl)) (h := ?_)
      refine f_ 9 rfl (fun bs => OpQ.c (c_ref1_turn hc307)) ?_
      refine f_ 10 rfl (fun bs => Q.bt) ?_
      refine ADx.last 11 rfl (hq := Q.mo) (h := ?_)
      have hF_ := idx_b hF; clear hF; obtain ⟨x308, h309, h310, hF⟩ := hF_
      have hF_ := idx_b hF; clear hF; obtain ⟨x311, h312, h313, hF⟩ := hF_
      have hF_ := idx_b hF; clear hF; obtain ⟨x314, h315, h316, hF⟩ := hF_
      have hF_ := idx_b hF; clear hF; obtain ⟨x317, h318, h319, hF⟩ := hF_
      have hF_ := idx_b hF; clear hF; obtain ⟨x320, h321, h322, hF⟩ := hF_
      (repeat refine gc (h := ?_))
      refine ADx.in_ (h := ?_)
      refine ADx.b 0 rfl (hq := OpQ.idx_ar (R := (kR .u32)) (v := s288) rfl wk wk h309 mem_ h310) (h := ?_)
      refine ADx.b 1 rfl (hq := OpQ.load_map (R := (kR .u32)) (v := s288) (q := x308) rfl wk mem_ h310 (by rfl) (by rfl)) (h := ?_)
      refine f_ 2 rfl (fun bs => Q.mo) ?_
      refine f_ 3 rfl (fun bs => Q.ar) ?_
      refine ADx.b 4 rfl (hq := OpQ.idx_ar (R := (kR .u32)) (v := s288) rfl wk wk h300 mem_ h301) (h := ?_)
      refine ADx.b 5 rfl (hq := OpQ.load_map (R := (kR .u32)) (v := s288) (q := x299) rfl wk mem_ h301 (by rfl) (by rfl)) (h := ?_)
      refine ADx.b 6 rfl (hq := OpQ.idx_ar (R := (kR .u32)) (v := s288) rfl wk wk h312 mem_ h313) (h := ?_)
      refine ADx.b 7 rfl (hq := OpQ.load_map (R := (kR .u32)) (v := s288) (q := x311) rfl wk mem_ h313 (by rfl) (by rfl)) (h := ?_)
      refine f_ 8 rfl (fun bs => Q.bt) ?_
      refine ADx.b 9 rfl (hq := OpQ.idx_ar (R := (kR .u32)) (v := s288) rfl wk wk h300 mem_ h301) (h := ?_)
      refine ADx.b 10 rfl (hq := OpQ.load_map (R := (kR .u32)) (v := s288) (q := x299) rfl wk mem_ h301 (by rfl) (by rfl)) (h := ?_)
      refine f_ 11 rfl (fun bs => OpQ.compl (m := 4294967295) rfl (Wk.refl _) (by decide)) ?_
      refine ADx.b 12 rfl (hq := OpQ.idx_ar (R := (kR .u32)) (v := s288) rfl wk wk h315 mem_ h316) (h := ?_)
      refine ADx.b 13 rfl (hq := OpQ.load_map (R := (kR .u32)) (v := s288) (q := x314) rfl wk mem_ h316 (by rfl) (by rfl)) (h := ?_)
      refine f_ 14 rfl (fun bs => Q.bt) ?_
      refine f_ 15 rfl (fun bs => Q.bt) ?_
      refine f_ 16 rfl (fun bs => Q.ar) ?_
      refine f_ 17 rfl (fun bs => Q.mo) ?_
      refine ADx.b 18 rfl (hq := OpQ.idx_ar (R := (kR .u32)) (v := x5) rfl wk wk h318 mem_ h319) (h := ?_)
      refine ADx.b 19 rfl (hq := OpQ.load_map (R := (kR .u32)) (v := x5) (q := x317) rfl wk mem_ h319 (by rfl) (by rfl)) (h := ?_)
      refine f_ 20 rfl (fun bs => Q.ar) ?_
      refine f_ 21 rfl (fun bs => Q.mo) ?_
      refine ADx.b 22 rfl (hq := OpQ.idx_ar (R := (kR .u32)) (v := e158) rfl wk wk h321 mem_ h322) (h := ?_)
      refine ADx.b 23 rfl (hq := OpQ.load_map (R := (kR .u32)) (v := e158) (q := x320) rfl wk mem_ h322 (by rfl) (by rfl)) (h := ?_)
      refine f_ 24 rfl (fun bs => Q.ar) ?_
      refine ADx.last 25 rfl (hq := Q.mo) (h := ?_)
      have hF_ := idx_b hF; clear hF; obtain ⟨x323, h324, h325, hF⟩ := hF_
      have hF_ := bnd hF; clear hF; obtain ⟨x326, hc327, hF⟩ := hF_
      have hF_ := bnd hF; clear hF; obtain ⟨x328, hc329, hF⟩ := hF_
      have hF_ := bnd hF; clear hF; obtain ⟨x330, hc331, hF⟩ := hF_
      (repeat refine gc (h := ?_))
      refine ADx.in_ (h := ?_)
      refine ADx.b 0 rfl (hq := OpQ.idx_ar (R := (kR .u32)) (v := s288) rfl wk wk h324 mem_ h325) (h := ?_)
      refine ADx.b 1 rfl (hq := OpQ.load_map (R := (kR .u32)) (v := s288) (q := x323) rfl wk mem_ h325 (by rfl) (by rfl)) (h := ?_)
      refine f_ 2 rfl (fun bs => OpQ.c (c_ref1_turn hc327)) ?_
      refine ADx.b 3 rfl (hq := OpQ.idx_ar (R := (kR .u32)) (v := s288) rfl wk wk h324 mem_ h325) (h := ?_)
      refine ADx.b 4 rfl (hq := OpQ.load_map (R := (kR .u32)) (v := s288) (q := x323) rfl wk mem_ h325 (by rfl) (by rfl)) (h := ?_)
      refine f_ 5 rfl (fun bs => OpQ.c (c_ref1_turn hc329)) ?_
      refine f_ 6 rfl (fun bs => Q.bt) ?_
      refine ADx.b 7 rfl (hq := OpQ.idx_ar (R := (kR .u32)) (v := s288) rfl wk wk h324 mem_ h325) (h := ?_)
      refine ADx.b 8 rfl (hq := OpQ.load_map (R := (kR .u32)) (v := s288) (q := x323) rfl wk mem_ h325 (by rfl) (by rfl)) (h := ?_)
      refine f_ 9 rfl (fun bs => OpQ.c (c_ref1_turn hc331)) ?_
      refine f_ 10 rfl (fun bs => Q.bt) ?_
      refine ADx.last 11 rfl (hq := Q.mo) (h := ?_)
      have hF_ := idx_b hF; clear hF; obtain ⟨x332, h333, h334, hF⟩ := hF_
      have hF_ := idx_b hF; clear hF; obtain ⟨x335, h336, h337, hF⟩ := hF_
      (repeat refine gc (h := ?_))
      refine AW.region ?_
      refine s_ Q.mo ?_
      refine s_ (OpQ.idx_ar (R := (kR .u32)) (v := s288) rfl wk wk h324 mem_ h325) ?_
      refine s_ (OpQ.load_map (R := (kR .u32)) (v := s288) (q := x323) rfl wk mem_ h325 (by rfl) (by rfl)) ?_
      refine s_ (OpQ.idx_ar (R := (kR .u32)) (v := s288) rfl wk wk h333 mem_ h334) ?_
      refine s_ (OpQ.load_map (R := (kR .u32)) (v := s288) (q := x332) rfl wk mem_ h334 (by rfl) (by rfl)) ?_
      refine s_ Q.bt ?_
      refine s_ (OpQ.idx_ar (R := (kR .u32)) (v := s288) rfl wk wk h324 mem_ h325) ?_
      refine s_ (OpQ.load_map (R := (kR .u32)) (v := s288) (q := x323) rfl wk mem_ h325 (by rfl) (by rfl)) ?_
      refine s_ (OpQ.idx_ar (R := (kR .u32)) (v := s288) rfl wk wk h336 mem_ h337) ?_
      refine s_ (OpQ.load_map (R := (kR .u32)) (v := s288) (q := x335) rfl wk mem_ h337 (by rfl) (by rfl)) ?_
      refine s_ Q.bt ?_
      refine s_ Q.bt ?_
      refine s_ (OpQ.idx_ar (R := (kR .u32)) (v := s288) rfl wk wk h333 mem_ h334) ?_
      refine s_ (OpQ.load_map (R := (kR .u32)) (v := s288) (q := x332) rfl wk mem_ h334 (by rfl) (by rfl)) ?_
      refine s_ (OpQ.idx_ar (R := (kR .u32)) (v := s288) rfl wk wk h336 mem_ h337) ?_
      refine s_ (OpQ.load_map (R := (kR .u32)) (v := s288) (q := x335) rfl wk mem_ h337 (by rfl) (by rfl)) ?_
      refine s_ Q.bt ?_
      refine s_ Q.bt ?_
      refine s_ Q.ar ?_
      refine s_ Q.mo ?_
      refine AL.nil ?_
      have hF_ := idx_b hF; clear hF; obtain ⟨x338, h339, h340, hF⟩ := hF_
      (repeat refine gc (h := ?_))
      refine AW.region ?_
      refine s_ Q.mo ?_
      refine s_ Q.mo ?_
      refine s_ Q.ar ?_
      refine s_ (OpQ.idx_ar (R := (kR .u32)) (v := s288) rfl wk wk h324 mem_ h325) ?_
      refine s_ (OpQ.load_map (R := (kR .u32)) (v := s288) (q := x323) rfl wk mem_ h325 (by rfl) (by rfl)) ?_
      refine s_ (OpQ.idx_ar (R := (kR .u32)) (v := s288) rfl wk wk h333 mem_ h334) ?_
      refine s_ (OpQ.load_map (R := (kR .u32)) (v := s288) (q := x332) rfl wk mem_ h334 (by rfl) (by rfl)) ?_
      refine s_ (OpQ.idx_ar (R := (kR .u32)) (v := s288) rfl wk wk h336 mem_ h337) ?_
      refine s_ (OpQ.load_map (R := (kR .u32)) (v := s288) (q := x335) rfl wk mem_ h337 (by rfl) (by rfl)) ?_
      refine s_ (OpQ.idx_ar (R := (kR .u32)) (v := s288) rfl wk wk h339 mem_ h340) ?_
      refine s_ (OpQ.load_map (R := (kR .u32)) (v := s288) (q := x338) rfl wk mem_ h340 (by rfl) (by rfl)) ?_
      refine s_ Q.mo ?_
      refine s_ Q.ar ?_
      refine s_ (OpQ.idx_ar (R := (kR .u32)) (v := s288) rfl wk wk h300 mem_ h301) ?_
      refine s_ (OpQ.load_map (R := (kR .u32)) (v := s288) (q := x299) rfl wk mem_ h301 (by rfl) (by rfl)) ?_
      refine s_ (OpQ.idx_ar (R := (kR .u32)) (v := s288) rfl wk wk h312 mem_ h313) ?_
      refine s_ (OpQ.load_map (R := (kR .u32)) (v := s288) (q := x311) rfl wk mem_ h313 (by rfl) (by rfl)) ?_
      refine s_ (OpQ.idx_ar (R := (kR .u32)) (v := s288) rfl wk wk h315 mem_ h316) ?_
      refine s_ (OpQ.load_map (R := (kR .u32)) (v := s288) (q := x314) rfl wk mem_ h316 (by rfl) (by rfl)) ?_
      refine s_ (OpQ.build_arr (cs' := (arR (kR .u32)) [(IntKind.wrap .u32 ((IntKind.wrap .u32 ((IntKind.wrap .u32 ((IntKind.wrap .u32 ((IntKind.wrap .u32 (x308 + (bitI .xor .u32 (bitI .xor .u32 x302 x304) x306))) + (bitI .xor .u32 (bitI .and .u32 x299 x311) (bitI .and .u32 (bitI .xor .u32 4294967295 x299) x314)))) + x317)) + x320)) + (IntKind.wrap .u32 ((bitI .xor .u32 (bitI .xor .u32 x326 x328) x330) + (bitI .xor .u32 (bitI .xor .u32 (bitI .and .u32 x323 x332) (bitI .and .u32 x323 x335)) (bitI .and .u32 x332 x335)))))), x323, x332, x335, (IntKind.wrap .u32 (x338 + (IntKind.wrap .u32 ((IntKind.wrap .u32 ((IntKind.wrap .u32 ((IntKind.wrap .u32 (x308 + (bitI .xor .u32 (bitI .xor .u32 x302 x304) x306))) + (bitI .xor .u32 (bitI .and .u32 x299 x311) (bitI .and .u32 (bitI .xor .u32 4294967295 x299) x314)))) + x317)) + x320)))), x299, x311, x314]) rfl (by repeat (first | exact Bld.nil _ | (apply Bld.cons; rfl; exact Wk.of_eq (by (conv => lhs; whnf) <;> rfl); exact (by first | exact .inl rfl | exact .inr ⟨_, rfl⟩); exact (by first | rfl | (simp [cellsOf]; done) | (simp only [List.map_cons, List.map_nil, cellsOf]) <;> rfl); exact (by first | rfl | (simp; done) | (simp only [List.length_map]; omega) | (simp; omega) | omega); exact (by first | ((simp only [spl, cellsOf, List.set_cons_zero, List.set_cons_succ]) <;> rfl) | rfl))))) ?_
      refine AL.n0 (hq := OpW.store_arr (rs' := [(IntKind.wrap .u32 ((IntKind.wrap .u32 ((IntKind.wrap .u32 ((IntKind.wrap .u32 ((IntKind.wrap .u32 (x308 + (bitI .xor .u32 (bitI .xor .u32 x302 x304) x306))) + (bitI .xor .u32 (bitI .and .u32 x299 x311) (bitI .and .u32 (bitI .xor .u32 4294967295 x299) x314)))) + x317)) + x320)) + (IntKind.wrap .u32 ((bitI .xor .u32 (bitI .xor .u32 x326 x328) x330) + (bitI .xor .u32 (bitI .xor .u32 (bitI .and .u32 x323 x332) (bitI .and .u32 x323 x335)) (bitI .and .u32 x332 x335)))))), x323, x332, x335, (IntKind.wrap .u32 (x338 + (IntKind.wrap .u32 ((IntKind.wrap .u32 ((IntKind.wrap .u32 ((IntKind.wrap .u32 (x308 + (bitI .xor .u32 (bitI .xor .u32 x302 x304) x306))) + (bitI .xor .u32 (bitI .and .u32 x299 x311) (bitI .and .u32 (bitI .xor .u32 4294967295 x299) x314)))) + x317)) + x320)))), x299, x311, x314].map (kR .u32)) rfl wk wk mem_ (by intro r hr; obtain ⟨_, _, rfl⟩ := List.mem_map.1 hr; rfl) (by rw [List.length_map]; exact rfl) (by rfl) (by repeat (first | exact BUpd.head | apply BUpd.tail | apply BUpd.gB | apply BUpd.gO))) (h := ?_)
      refine AL.nil ?_
      have hF_ := ens hF; clear hF; obtain ⟨he341, hF⟩ := hF_
      (repeat refine gc (h := ?_))
      refine AW.region ?_
      refine s_ Q.mo ?_
      refine s_ (Q.ad (h := he341)) ?_
      refine s_ Q.mo ?_
      refine AL.nil ?_
      (repeat refine gc (h := ?_))
      exact lpQ2_0.n (s287 + 1) [(IntKind.wrap .u32 ((IntKind.wrap .u32 ((IntKind.wrap .u32 ((IntKind.wrap .u32 ((IntKind.wrap .u32 (x308 + (bitI .xor .u32 (bitI .xor .u32 x302 x304) x306))) + (bitI .xor .u32 (bitI .and .u32 x299 x311) (bitI .and .u32 (bitI .xor .u32 4294967295 x299) x314)))) + x317)) + x320)) + (IntKind.wrap .u32 ((bitI .xor .u32 (bitI .xor .u32 x326 x328) x330) + (bitI .xor .u32 (bitI .xor .u32 (bitI .and .u32 x323 x332) (bitI .and .u32 x323 x335)) (bitI .and .u32 x332 x335)))))), x323, x332, x335, (IntKind.wrap .u32 (x338 + (IntKind.wrap .u32 ((IntKind.wrap .u32 ((IntKind.wrap .u32 ((IntKind.wrap .u32 (x308 + (bitI .xor .u32 (bitI .xor .u32 x302 x304) x306))) + (bitI .xor .u32 (bitI .and .u32 x299 x311) (bitI .and .u32 (bitI .xor .u32 4294967295 x299) x314)))) + x317)) + x320)))), x299, x311, x314] (some_inj hF) trivial sub_ sl_
     ·replace hF := cnd_f hc298 hF
      have hc298p := of_decide_eq_false hc298
      (repeat refine gc (h := ?_))
      obtain rfl := some_inj hF
      (repeat refine gc (h := ?_))
      refine lpQ2_0.e _ rfl (fun ho295 => ?_)
      (repeat refine gc (h := ?_))
      exact jnQ1_0.n s288 ho295 sub_ sl_
    ·obtain rfl := hs384.symm
     replace hF := hO291
     try dsimp only at hF
     (repeat refine gc (h := ?_))
     (repeat refine gc (h := ?_))
     refine AW.region ?_
     refine s_ Q.mo ?_
     refine AL.nil ?_
     have hF_ := bnd hF; clear hF; obtain ⟨oo363, hL364, hO365⟩ := hF_
     (repeat refine gc (h := ?_))
     refine AW.join1_0 (fun (e370 : List Int) => [(2, .ptr g1 0), (4, .ptr g3 0)]) (fun (e370 : List Int) => (g194, .rows (e296.map (kR .u32)) 8 1 133) :: (g7, .rows (x5.map (kR .u32)) 64 1 158) :: (g4, .rows (e158.map (kR .u32)) 64 1 158) :: (g3, .rows ((List.replicate 8 0).map (kR .u32)) 8 1 133) :: (g1, .rows (e370.map (kR .u32)) 8 1 133) :: bs) (fun (e370 : List Int) => oo363 = e370) ?_ (fun e370 hs383 => ?_)
     ·(repeat refine gc (h := ?_))
      refine AW.block ?_
      refine AW.loopF2_0 hL364 (fun (s361 : Int) (s362 : List Int) => [(2, .ptr g1 0), (4, .ptr g3 0), (11, .ptr g194 0), (17, iA s361)]) (fun (s361 : Int) (s362 : List Int) => (g194, .rows (e296.map (kR .u32)) 8 1 133) :: (g7, .rows (x5.map (kR .u32)) 64 1 158) :: (g4, .rows (e158.map (kR .u32)) 64 1 158) :: (g3, .rows ((List.replicate 8 0).map (kR .u32)) 8 1 133) :: (g1, .rows (s362.map (kR .u32)) 8 1 133) :: bs) (fun (s361 : Int) (s362 : List Int) => True)  trivial sub_ sl_ (fun s361 s362 v366 hp367 hF => ?_)
      replace hF : l_ref1_block_b3 e296 s361 s362 = some v366 := hF
      unfold l_ref1_block_b3 at hF
      (repeat refine gc (h := ?_))
      (repeat refine gc (h := ?_))
      refine AW.region ?_
      refine s_ Q.mo ?_
      refine s_ Q.cm ?_
      refine AL.nil ?_
      (repeat refine gc (h := ?_))
      refine AW.cond (b := (decide (s361 < 8))) rfl (fun hc372 => ?_) (fun hc372 => ?_)
      ·replace hF := cnd_t hc372 hF
       have hc372p := of_decide_eq_true hc372
       (repeat refine gc (h := ?_))
       (repeat refine gc (h := ?_))
       refine AW.block ?_
       have hF_ := idx_b hF; clear hF; obtain ⟨x373, h374, h375, hF⟩ := hF_
       have hF_ := idx_b hF; clear hF; obtain ⟨x376, h377, h378, hF⟩ := hF_
       (repeat refine gc (h := ?_))
       refine ADx.in_ (h := ?_)
       refine f_ 0 rfl (fun bs => Q.mo) ?_
       refine f_ 1 rfl (fun bs => Q.mo) ?_
       refine ADx.b 2 rfl (hq := OpQ.idx_ar (R := (kR .u32)) (v := s362) rfl wk wk h374 mem_ h375) (h := ?_)
       refine ADx.b 3 rfl (hq := OpQ.load_map (R := (kR .u32)) (v := s362) (q := x373) rfl wk mem_ h375 (by rfl) (by rfl)) (h := ?_)
       refine f_ 4 rfl (fun bs => Q.mo) ?_
       refine ADx.b 5 rfl (hq := OpQ.idx_ar (R := (kR .u32)) (v := e296) rfl wk wk h377 mem_ h378) (h := ?_)
       refine ADx.b 6 rfl (hq := OpQ.load_map (R := (kR .u32)) (v := e296) (q := x376) rfl wk mem_ h378 (by rfl) (by rfl)) (h := ?_)
       refine f_ 7 rfl (fun bs => Q.ar) ?_
       refine ADx.b 8 rfl (hq := OpQ.idx_ar (R := (kR .u32)) (v := s362) rfl wk wk h374 mem_ h375) (h := ?_)
       first | refine ADx.e0 9 rfl (hq := OpW.store_map (R := (kR .u32)) (v := s362) (q := x373) (q' := (IntKind.wrap .u32 (x373 + x376))) (y := .v (.int .u32 (IntKind.wrap .u32 (x373 + x376)))) rfl wk (by first | exact Wk.opt _ _ (by first | assumption | rfl) | exact Wk.of_eq (by (conv => lhs; whnf) <;> rfl)) (by first | exact .inl rfl | exact .inr ⟨_, rfl⟩) mem_ h375 (by rfl) (by repeat (first | exact BUpd.head | apply BUpd.tail | apply BUpd.gB | apply BUpd.gO)) (by decide) (by rfl)) (h := ?_) | refine ADx.n0 9 rfl (hq := OpW.store_map (R := (kR .u32)) (v := s362) (q := x373) (q' := (IntKind.wrap .u32 (x373 + x376))) (y := .v (.int .u32 (IntKind.wrap .u32 (x373 + x376)))) rfl wk (by first | exact Wk.opt _ _ (by first | assumption | rfl) | exact Wk.of_eq (by (conv => lhs; whnf) <;> rfl)) (by first | exact .inl rfl | exact .inr ⟨_, rfl⟩) mem_ h375 (by rfl) (by repeat (first | exact BUpd.head | apply BUpd.tail | apply BUpd.gB | apply BUpd.gO)) (by decide) (by rfl)) (h := ?_)
       refine ADx.done ?_
       have hF_ := ens hF; clear hF; obtain ⟨he379, hF⟩ := hF_
       (repeat refine gc (h := ?_))
       refine AW.region ?_
       refine s_ Q.mo ?_
       refine s_ (Q.ad (h := he379)) ?_
       refine s_ Q.mo ?_
       refine AL.nil ?_
       (repeat refine gc (h := ?_))
       exact lpQ2_0.n (s361 + 1) (s362.set s361.toNat (IntKind.wrap .u32 (x373 + x376))) (some_inj hF) trivial sub_ sl_
      ·replace hF := cnd_f hc372 hF
       have hc372p := of_decide_eq_false hc372
       (repeat refine gc (h := ?_))
       obtain rfl := some_inj hF
       (repeat refine gc (h := ?_))
       refine lpQ2_0.e _ rfl (fun ho369 => ?_)
       (repeat refine gc (h := ?_))
       exact jnQ1_0.n s362 ho369 sub_ sl_
     ·obtain rfl := hs383.symm
      replace hF := hO365
      try dsimp only at hF
      (repeat refine gc (h := ?_))
      have hF_ := ens hF; clear hF; obtain ⟨he380, hF⟩ := hF_
      have hF_ := ens hF; clear hF; obtain ⟨he381, hF⟩ := hF_
      (repeat refine gc (h := ?_))
      refine AW.region ?_
      refine s_ (OpQ.load_arr (rs := e370.map (kR .u32)) rfl wk mem_ (by rw [List.length_map]; exact he380) (by rfl) (by rfl)) ?_
      refine AL.n0 (hq := OpW.store_arr (rs' := e370.map (kR .u32)) rfl wk wk mem_ (by intro r hr; obtain ⟨_, _, rfl⟩ := List.mem_map.1 hr; rfl) (by rw [List.length_map]; exact he381) (by rfl) (by repeat (first | exact BUpd.head | apply BUpd.tail | apply BUpd.gB | apply BUpd.gO))) (h := ?_)
      refine AL.nil ?_
      have hF_ := ens hF; clear hF; obtain ⟨he382, hF⟩ := hF_
      have hr_ := some_inj hF
      subst r
      (repeat refine gc (h := ?_))
      exact EndQ.fin (bs' := bs) (h := ⟨wkr_, rfl⟩) (hs := sl_)

end Go.Proofs.YtnkkfmnpkgjabaaGreat.X

/- Lifted code. Printed by a program of this repo (lift2.py). -/
namespace Go.Proofs.YtnkkfmnpkgjabaaGreat.X
open Go.RowKit
set_option linter.unusedVariables false
set_option linter.unusedSimpArgs false
set_option maxRecDepth 10000
set_option maxHeartbeats 4000000
noncomputable def l_ref1_Sum_b0 (s15 : List Int) : Option (((List Int)) ⊕ (List Int)) :=
cond (((s15.length : Int).tmod 64) != 56) (
(ensure ((s15.length + [0].length) * 1 ≤ 140737488355328)).bind fun _ =>
some (.inl (s15 ++ [0]))) (
some (.inr s15))
noncomputable def l_ref1_Sum_b1 (a0 : Txt) (s46 : List Int) (s48 : Int) : Option (((List Int) × Int) ⊕ (List Int)) :=
cond (decide (s48 < 8)) (
(ensure (-9223372036854775808 ≤ 8 * s48 ∧ 8 * s48 ≤ 9223372036854775807)).bind fun _ =>
(ensure (-9223372036854775808 ≤ 56 - (8 * s48) ∧ 56 - (8 * s48) ≤ 9223372036854775807)).bind fun _ =>
(ensure (0 ≤ (IntKind.wrap .u64 (56 - (8 * s48))) ∧ (IntKind.wrap .u64 (56 - (8 * s48))) ≤ 64)).bind fun _ =>
(ensure ((s46.length + [(IntKind.wrap .u8 ((IntKind.wrap .u64 ((IntKind.wrap .u64 (a0.size : Int)) * 8)) / (2 : Int) ^ (IntKind.wrap .u64 (56 - (8 * s48))).toNat))].length) * 1 ≤ 140737488355328)).bind fun _ =>
(ensure (-9223372036854775808 ≤ s48 + 1 ∧ s48 + 1 ≤ 9223372036854775807)).bind fun _ =>
some (.inl ((s46 ++ [(IntKind.wrap .u8 ((IntKind.wrap .u64 ((IntKind.wrap .u64 (a0.size : Int)) * 8)) / (2 : Int) ^ (IntKind.wrap .u64 (56 - (8 * s48))).toNat))]), (s48 + 1)))) (
some (.inr s46))
noncomputable def l_ref1_Sum_b2 (e56 : List Int) (s84 : Int) (s85 : List Int) : Option ((Int × (List Int)) ⊕ (List Int)) :=
cond (decide (s84 < ((txtOf e56).size : Int))) (
(ensure (s85.length = 8)).bind fun _ =>
(ensure (-9223372036854775808 ≤ s84 + 64 ∧ s84 + 64 ≤ 9223372036854775807)).bind fun _ =>
(ensure (0 ≤ s84 ∧ s84 ≤ (s84 + 64) ∧ (s84 + 64) ≤ ((txtOf e56).size : Int))).bind fun _ =>
(l_ref1_block s85 ((txtOf e56).extract s84.toNat ((s84 + 64).toNat))).bind fun x99 =>
(ensure (x99.length = 8)).bind fun _ =>
(ensure (-9223372036854775808 ≤ s84 + 64 ∧ s84 + 64 ≤ 9223372036854775807)).bind fun _ =>
some (.inl ((s84 + 64), x99))) (
some (.inr s85))
noncomputable def l_ref1_Sum_b3 (e93 : List Int) (s121 : List Int) (s123 : Int) : Option (((List Int) × Int) ⊕ (List Int)) :=
cond (decide (s123 < 8)) (
(idxO e93 s123).bind fun x135 =>
(ensure ((s121.length + [(IntKind.wrap .u8 (x135 / 16777216)), (IntKind.wrap .u8 (x135 / 65536)), (IntKind.wrap .u8 (x135 / 256)), (IntKind.wrap .u8 x135)].length) * 1 ≤ 140737488355328)).bind fun _ =>
(ensure (-9223372036854775808 ≤ s123 + 1 ∧ s123 + 1 ≤ 9223372036854775807)).bind fun _ =>
some (.inl ((s121 ++ [(IntKind.wrap .u8 (x135 / 16777216)), (IntKind.wrap .u8 (x135 / 65536)), (IntKind.wrap .u8 (x135 / 256)), (IntKind.wrap .u8 x135)]), (s123 + 1)))) (
some (.inr s121))
noncomputable def l_ref1_Sum (a0 : Txt) : Option (Txt) :=
(ensure (a0.size ≤ 140737488355328)).bind fun _ =>
(ensure (((bytesOf a0).length + [128].length) * 1 ≤ 140737488355328)).bind fun _ =>
Option.bind (loopF (τ := (List Int)) (fun s : (List Int) => l_ref1_Sum_b0 s) ((bytesOf a0) ++ [128])) fun oo17 => (match oo17 with
| e24 =>
Option.bind (loopF (τ := (List Int)) (fun s : (List Int) × Int => l_ref1_Sum_b1 a0 s.1 s.2) (e24, 0)) fun oo49 => (match oo49 with
| e56 =>
Option.bind (loopF (τ := (List Int)) (fun s : Int × (List Int) => l_ref1_Sum_b2 e56 s.1 s.2) (0, [1779033703, 3144134277, 1013904242, 2773480762, 1359893119, 2600822924, 528734635, 1541459225])) fun oo86 => (match oo86 with
| e93 =>
Option.bind (loopF (τ := (List Int)) (fun s : (List Int) × Int => l_ref1_Sum_b3 e93 s.1 s.2) (([] : List Int), 0)) fun oo124 => (match oo124 with
| e131 =>
some (txtOf e131)))))
theorem c_ref1_Sum {a0 : Txt} {r : Txt} (hF : l_ref1_Sum a0 = some r) : APure Tryz.prog 76 [sA a0] (sA r) := fun bs => by
  unfold l_ref1_Sum at hF
  refine ACalls.wk ?_
  refine ACalls.in_ Tryz.func76 Tryz.ntmps76 (h := ?_)
  (repeat refine gc (h := ?_))
  refine AW.region ?_
  refine s_ Q.mo ?_
  refine AL.nil ?_
  have hF_ := ens hF; clear hF; obtain ⟨he1, hF⟩ := hF_
  have hF_ := ens hF; clear hF; obtain ⟨he3, hF⟩ := hF_
  (repeat refine gc (h := ?_))
  refine AW.region ?_
  refine s_ Q.mo ?_
  refine AL.k1 (hq := OpW.to_bytes rfl wk he1) (h := fun o2 => ?_)
  refine s_ Q.li ?_
  refine AL.k1 (hq := W.gr (R := (kR .u8)) (l := (bytesOf a0)) (l2 := [128]) (rs := ((bytesOf a0) ++ [128])) .here rfl he3 (fun _ => rfl)) (h := fun o4 => ?_)
  refine s_ Q.mo ?_
  refine AL.nil ?_
  have hF_ := bnd hF; clear hF; obtain ⟨oo17, hL18, hO19⟩ := hF_
  (repeat refine gc (h := ?_))
  refine AW.join1_1 (fun (e24 : List Int) (o25 : OG) => [(0, sA a0), (2, sA (⟨#[]⟩ : Txt)), (3, .gr o25 (e24.map (kR .u8)))]) (fun (e24 : List Int) (o25 : OG) => gB o25 e24.length 1 5 (bs)) (fun (e24 : List Int) (o25 : OG) => oo17 = e24) ?_ (fun e24 o25 hs144 => ?_)
  ·(repeat refine gc (h := ?_))
   refine AW.block ?_
   refine AW.loopF1_1 hL18 (fun (s15 : List Int) (o16 : OG) => [(0, sA a0), (2, sA (⟨#[]⟩ : Txt)), (3, .gr o16 (s15.map (kR .u8)))]) (fun (s15 : List Int) (o16 : OG) => gB o16 s15.length 1 5 (bs)) (fun (s15 : List Int) (o16 : OG) => True) o4 trivial sub_ sl_ (fun s15 o16 v20 hp21 hF => ?_)
   replace hF : l_ref1_Sum_b0 s15 = some v20 := hF
   unfold l_ref1_Sum_b0 at hF
   (repeat refine gc (h := ?_))
   (repeat refine gc (h := ?_))
   refine AW.region ?_
   refine s_ Q.mo ?_
   refine s_ Q.ln ?_
   refine s_ (Q.rm (h := (by decide))) ?_
   refine s_ Q.cm ?_
   refine AL.nil ?_
   (repeat refine gc (h := ?_))
   refine AW.cond (b := (((s15.length : Int).tmod 64) != 56)) rfl (fun hc27 => ?_) (fun hc27 => ?_)
   ·replace hF := cnd_t hc27 hF
    (repeat refine gc (h := ?_))
    (repeat refine gc (h := ?_))
    refine AW.block ?_
    have hF_ := ens hF; clear hF; obtain ⟨he28, hF⟩ := hF_
    (repeat refine gc (h := ?_))
    refine AW.region ?_
    refine s_ Q.mo ?_
    refine s_ Q.li ?_
    refine AL.k1 (hq := W.gr (R := (kR .u8)) (l := s15) (l2 := [0]) (rs := (s15 ++ [0])) .here rfl he28 (fun _ => rfl)) (h := fun o29 => ?_)
    refine s_ Q.mo ?_
    refine AL.nil ?_
    (repeat refine gc (h := ?_))
    exact lpQ1_1.n (s15 ++ [0]) o29 (some_inj hF) trivial sub_ sl_
   ·replace hF := cnd_f hc27 hF
    (repeat refine gc (h := ?_))
    obtain rfl := some_inj hF
    (repeat refine gc (h := ?_))
    refine lpQ1_1.e _ rfl (fun ho23 => ?_)
    (repeat refine gc (h := ?_))
    exact jnQ1_1.n s15 o16 ho23 sub_ sl_
  ·obtain rfl := hs144.symm
   replace hF := hO19
   try dsimp only at hF
   (repeat refine gc (h := ?_))
   (repeat refine gc (h := ?_))
   refine AW.region ?_
   refine s_ Q.mo ?_
   refine s_ Q.ls ?_
   refine s_ Q.cv ?_
   refine s_ Q.ar ?_
   refine s_ Q.mo ?_
   refine AL.nil ?_
   (repeat refine gc (h := ?_))
   refine AW.region ?_
   refine s_ Q.mo ?_
   refine AL.nil ?_
   have hF_ := bnd hF; clear hF; obtain ⟨oo49, hL50, hO51⟩ := hF_
   (repeat refine gc (h := ?_))
   refine AW.join1_1 (fun (e56 : List Int) (o57 : OG) => [(2, sA (⟨#[]⟩ : Txt)), (3, .gr o57 (e56.map (kR .u8)))]) (fun (e56 : List Int) (o57 : OG) => gB o57 e56.length 1 5 (bs)) (fun (e56 : List Int) (o57 : OG) => oo49 = e56) ?_ (fun e56 o57 hs143 => ?_)
   ·(repeat refine gc (h := ?_))
    refine AW.block ?_
    refine AW.loopF2_1 hL50 (fun (s46 : List Int) (s48 : Int) (o47 : OG) => [(2, sA (⟨#[]⟩ : Txt)), (3, .gr o47 (s46.map (kR .u8))), (4, .v (.int .u64 (IntKind.wrap .u64 ((IntKind.wrap .u64 (a0.size : Int)) * 8)))), (5, iA s48)]) (fun (s46 : List Int) (s48 : Int) (o47 : OG) => gB o47 s46.length 1 5 (bs)) (fun (s46 : List Int) (s48 : Int) (o47 : OG) => True) o25 trivial sub_ sl_ (fun s46 s48 o47 v52 hp53 hF => ?_)
    replace hF : l_ref1_Sum_b1 a0 s46 s48 = some v52 := hF
    unfold l_ref1_Sum_b1 at hF
    (repeat refine gc (h := ?_))
    (repeat refine gc (h := ?_))
    refine AW.region ?_
    refine s_ Q.mo ?_
    refine s_ Q.cm ?_
    refine AL.nil ?_
    (repeat refine gc (h := ?_))
    refine AW.cond (b := (decide (s48 < 8))) rfl (fun hc59 => ?_) (fun hc59 => ?_)
    ·replace hF := cnd_t hc59 hF
     have hc59p := of_decide_eq_true hc59
     (repeat refine gc (h := ?_))
     (repeat refine gc (h := ?_))
     refine AW.block ?_
     have hF_ := ens hF; clear hF; obtain ⟨he60, hF⟩ := hF_
     have hF_ := ens hF; clear hF; obtain ⟨he61, hF⟩ := hF_
     have hF_ := ens hF; clear hF; obtain ⟨he62, hF⟩ := hF_
     have hF_ := ens hF; clear hF; obtain ⟨he63, hF⟩ := hF_
     (repeat refine gc (h := ?_))
     refine AW.region ?_
     refine s_ Q.mo ?_
     refine s_ Q.mo ?_
     refine s_ Q.mo ?_
     refine s_ (Q.ml (h := he60)) ?_
     refine s_ (Q.sb (h := he61)) ?_
     refine s_ Q.cv ?_
     refine s_ (OpQ.shr (c := (2 : Int) ^ (IntKind.wrap .u64 (56 - (8 * s48))).toNat) rfl (Wk.refl _) (Wk.refl _) he62.1 (by show _ ≤ 64; omega) rfl) ?_
     refine s_ Q.cv ?_
     refine s_ Q.li ?_
     refine AL.k1 (hq := W.gr (R := (kR .u8)) (l := s46) (l2 := [(IntKind.wrap .u8 ((IntKind.wrap .u64 ((IntKind.wrap .u64 (a0.size : Int)) * 8)) / (2 : Int) ^ (IntKind.wrap .u64 (56 - (8 * s48))).toNat))]) (rs := (s46 ++ [(IntKind.wrap .u8 ((IntKind.wrap .u64 ((IntKind.wrap .u64 (a0.size : Int)) * 8)) / (2 : Int) ^ (IntKind.wrap .u64 (56 - (8 * s48))).toNat))])) .here rfl he63 (fun _ => rfl)) (h := fun o64 => ?_)
     refine s_ Q.mo ?_
     refine AL.nil ?_
     have hF_ := ens hF; clear hF; obtain ⟨he65, hF⟩ := hF_
     (repeat refine gc (h := ?_))
     refine AW.region ?_
     refine s_ Q.mo ?_
     refine s_ (Q.ad (h := he65)) ?_
     refine s_ Q.mo ?_
     refine AL.nil ?_
     (repeat refine gc (h := ?_))
     exact lpQ2_1.n (s46 ++ [(IntKind.wrap .u8 ((IntKind.wrap .u64 ((IntKind.wrap .u64 (a0.size : Int)) * 8)) / (2 : Int) ^ (IntKind.wrap .u64 (56 - (8 * s48))).toNat))]) (s48 + 1) o64 (some_inj hF) trivial sub_ sl_
    ·replace hF := cnd_f hc59 hF
     have hc59p := of_decide_eq_false hc59
     (repeat refine gc (h := ?_))
     obtain rfl := some_inj hF
     (repeat refine gc (h := ?_))
     refine lpQ2_1.e _ rfl (fun ho55 => ?_)
     (repeat refine gc (h := ?_))
     exact jnQ1_1.n s46 o47 ho55 sub_ sl_
   ·obtain rfl := hs143.symm
    replace hF := hO51
    try dsimp only at hF
    (repeat refine gc (h := ?_))
    (repeat refine gc (h := ?_))
    refine AW.region ?_
    refine s_ Q.mo ?_
    refine s_ (OpQ.of_bytesI (l := e56) rfl wk) ?_
    refine s_ Q.mo ?_
    refine AL.nil ?_
    (repeat refine gc (h := ?_))
    refine AW.region ?_
    refine s_ (OpQ.build_arr (cs' := (arR (kR .u32)) [1779033703, 3144134277, 1013904242, 2773480762, 1359893119, 2600822924, 528734635, 1541459225]) rfl (by repeat (first | exact Bld.nil _ | (apply Bld.cons; rfl; exact Wk.of_eq (by (conv => lhs; whnf) <;> rfl); exact (by first | exact .inl rfl | exact .inr ⟨_, rfl⟩); exact (by first | rfl | (simp [cellsOf]; done) | (simp only [List.map_cons, List.map_nil, cellsOf]) <;> rfl); exact (by first | rfl | (simp; done) | (simp only [List.length_map]; omega) | (simp; omega) | omega); exact (by first | ((simp only [spl, cellsOf, List.set_cons_zero, List.set_cons_succ]) <;> rfl) | rfl))))) ?_
    refine AL.k1 (hq := OpW.alloc_arr (rs := (List.replicate 8 0).map (kR .u32)) (n := 8) (s := 1) rfl (by rfl) (by intro r hr; obtain ⟨_, _, rfl⟩ := List.mem_map.1 hr; rfl) (by simp) (by decide)) (h := fun g66 => ?_)
    refine AL.n0 (hq := OpW.store_arr (rs' := [1779033703, 3144134277, 1013904242, 2773480762, 1359893119, 2600822924, 528734635, 1541459225].map (kR .u32)) rfl wk wk mem_ (by intro r hr; obtain ⟨_, _, rfl⟩ := List.mem_map.1 hr; rfl) (by rw [List.length_map]; exact rfl) (by rfl) (by repeat (first | exact BUpd.head | apply BUpd.tail | apply BUpd.gB | apply BUpd.gO))) (h := ?_)
    refine AL.nil ?_
    (repeat refine gc (h := ?_))
    refine AW.region ?_
    refine s_ Q.mo ?_
    refine AL.nil ?_
    have hF_ := bnd hF; clear hF; obtain ⟨oo86, hL87, hO88⟩ := hF_
    (repeat refine gc (h := ?_))
    refine AW.join1_0 (fun (e93 : List Int) => [(2, sA (⟨#[]⟩ : Txt)), (7, .ptr g66 0)]) (fun (e93 : List Int) => (g66, .rows (e93.map (kR .u32)) 8 1 133) :: bs) (fun (e93 : List Int) => oo86 = e93) ?_ (fun e93 hs142 => ?_)
    ·(repeat refine gc (h := ?_))
     refine AW.block ?_
     refine AW.loopF2_0 hL87 (fun (s84 : Int) (s85 : List Int) => [(2, sA (⟨#[]⟩ : Txt)), (6, sA (txtOf e56)), (7, .ptr g66 0), (8, iA s84)]) (fun (s84 : Int) (s85 : List Int) => (g66, .rows (s85.map (kR .u32)) 8 1 133) :: bs) (fun (s84 : Int) (s85 : List Int) => True)  trivial sub_ sl_ (fun s84 s85 v89 hp90 hF => ?_)
     replace hF : l_ref1_Sum_b2 e56 s84 s85 = some v89 := hF
     unfold l_ref1_Sum_b2 at hF
     (repeat refine gc (h := ?_))
     (repeat refine gc (h := ?_))
     refine AW.region ?_
     refine s_ Q.mo ?_
     refine s_ Q.mo ?_
     refine s_ Q.ls ?_
     refine s_ Q.cm ?_
     refine AL.nil ?_
     (repeat refine gc (h := ?_))
     refine AW.cond (b := (decide (s84 < ((txtOf e56).size : Int)))) rfl (fun hc95 => ?_) (fun hc95 => ?_)
     ·replace hF := cnd_t hc95 hF
      have hc95p := of_decide_eq_true hc95
      (repeat refine gc (h := ?_))
      (repeat refine gc (h := ?_))
      refine AW.block ?_
      have hF_ := ens hF; clear hF; obtain ⟨he96, hF⟩ := hF_
      have hF_ := ens hF; clear hF; obtain ⟨he97, hF⟩ := hF_
      have hF_ := ens hF; clear hF; obtain ⟨he98, hF⟩ := hF_
      have hF_ := bnd hF; clear hF; obtain ⟨x99, hc100, hF⟩ := hF_
      have hF_ := ens hF; clear hF; obtain ⟨he101, hF⟩ := hF_
      (repeat refine gc (h := ?_))
      refine ADx.in_ (h := ?_)
      refine ADx.b 0 rfl (hq := OpQ.load_arr (rs := s85.map (kR .u32)) rfl wk mem_ (by rw [List.length_map]; exact he96) (by rfl) (by rfl)) (h := ?_)
      refine f_ 1 rfl (fun bs => Q.mo) ?_
      refine f_ 2 rfl (fun bs => Q.mo) ?_
      refine f_ 3 rfl (fun bs => Q.mo) ?_
      refine f_ 4 rfl (fun bs => Q.ad (h := he97)) ?_
      refine f_ 5 rfl (fun bs => OpQ.part_str rfl wk (by first | exact Bnd.none _ | exact Bnd.some (by first | exact Wk.refl _ | exact Wk.nil | exact Wk.clip _ | exact Wk.tip _ _ _ | exact Wk.opt _ _ (by first | assumption | rfl) | exact Wk.gr _ _ | exact Wk.nil_gr | exact Wk.trans (Wk.opt _ _ (by first | assumption | rfl)) (by first | exact Wk.gr _ _ | exact Wk.nil | exact Wk.clip _ | exact Wk.tip _ _ _) | exact Wk.aggs (by repeat (first | exact Wks.nil | refine Wks.cons (by first | exact Wk.refl _ | exact Wk.nil | exact Wk.clip _ | exact Wk.tip _ _ _ | exact Wk.gr _ _ | exact Wk.nil_gr | exact Wk.nil_ow | exact Wk.ms_ow _ _ _) ?_)) rfl | exact Wk.nil_ow | exact Wk.ms_ow _ _ _ | exact Wk.ow_ms _ _ _) (by omega) (by first | ((simp only [Nat.zero_add, Nat.add_zero, Nat.reduceAdd, Nat.reduceMul, Int.toNat_natCast]) <;> rfl) | rfl)) (by first | exact Bnd.none _ | exact Bnd.some (by first | exact Wk.refl _ | exact Wk.nil | exact Wk.clip _ | exact Wk.tip _ _ _ | exact Wk.opt _ _ (by first | assumption | rfl) | exact Wk.gr _ _ | exact Wk.nil_gr | exact Wk.trans (Wk.opt _ _ (by first | assumption | rfl)) (by first | exact Wk.gr _ _ | exact Wk.nil | exact Wk.clip _ | exact Wk.tip _ _ _) | exact Wk.aggs (by repeat (first | exact Wks.nil | refine Wks.cons (by first | exact Wk.refl _ | exact Wk.nil | exact Wk.clip _ | exact Wk.tip _ _ _ | exact Wk.gr _ _ | exact Wk.nil_gr | exact Wk.nil_ow | exact Wk.ms_ow _ _ _) ?_)) rfl | exact Wk.nil_ow | exact Wk.ms_ow _ _ _ | exact Wk.ow_ms _ _ _) (by omega) (by first | ((simp only [Nat.zero_add, Nat.add_zero, Nat.reduceAdd, Nat.reduceMul, Int.toNat_natCast]) <;> rfl) | rfl)) (by have := he98; omega) (by have := he98; omega)) ?_
      refine f_ 6 rfl (fun bs => OpQ.c (c_ref1_block hc100)) ?_
      first | refine ADx.e0 7 rfl (hq := OpW.store_arr (rs' := x99.map (kR .u32)) rfl wk wk mem_ (by intro r hr; obtain ⟨_, _, rfl⟩ := List.mem_map.1 hr; rfl) (by rw [List.length_map]; exact he101) (by rfl) (by repeat (first | exact BUpd.head | apply BUpd.tail | apply BUpd.gB | apply BUpd.gO))) (h := ?_) | refine ADx.n0 7 rfl (hq := OpW.store_arr (rs' := x99.map (kR .u32)) rfl wk wk mem_ (by intro r hr; obtain ⟨_, _, rfl⟩ := List.mem_map.1 hr; rfl) (by rw [List.length_map]; exact he101) (by rfl) (by repeat (first | exact BUpd.head | apply BUpd.tail | apply BUpd.gB | apply BUpd.gO))) (h := ?_)
      refine ADx.done ?_
      have hF_ := ens hF; clear hF; obtain ⟨he102, hF⟩ := hF_
      (repeat refine gc (h := ?_))
      refine AW.region ?_
      refine s_ Q.mo ?_
      refine s_ (Q.ad (h := he102)) ?_
      refine s_ Q.mo ?_
      refine AL.nil ?_
      (repeat refine gc (h := ?_))
      exact lpQ2_0.n (s84 + 64) x99 (some_inj hF) trivial sub_ sl_
     ·replace hF := cnd_f hc95 hF
      have hc95p := of_decide_eq_false hc95
      (repeat refine gc (h := ?_))
      obtain rfl := some_inj hF
      (repeat refine gc (h := ?_))
      refine lpQ2_0.e _ rfl (fun ho92 => ?_)
      (repeat refine gc (h := ?_))
      exact jnQ1_0.n s85 ho92 sub_ sl_
    ·obtain rfl := hs142.symm
     replace hF := hO88
     try dsimp only at hF
     (repeat refine gc (h := ?_))
     (repeat refine gc (h := ?_))
     refine AW.region ?_
     refine s_ Q.mo ?_
     refine AL.nil ?_
     (repeat refine gc (h := ?_))
     refine AW.region ?_
     refine s_ Q.mo ?_
     refine AL.nil ?_
     have hF_ := bnd hF; clear hF; obtain ⟨oo124, hL125, hO126⟩ := hF_
     (repeat refine gc (h := ?_))
     refine AW.join1_1 (fun (e131 : List Int) (o132 : OG) => [(2, sA (⟨#[]⟩ : Txt)), (9, .gr o132 (e131.map (kR .u8)))]) (fun (e131 : List Int) (o132 : OG) => gB o132 e131.length 1 5 ((g66, .rows (e93.map (kR .u32)) 8 1 133) :: bs)) (fun (e131 : List Int) (o132 : OG) => oo124 = e131) ?_ (fun e131 o132 hs141 => ?_)
     ·(repeat refine gc (h := ?_))
      refine AW.block ?_
      refine AW.loopF2_1 hL125 (fun (s121 : List Int) (s123 : Int) (o122 : OG) => [(2, sA (⟨#[]⟩ : Txt)), (7, .ptr g66 0), (9, .gr o122 (s121.map (kR .u8))), (10, iA s123)]) (fun (s121 : List Int) (s123 : Int) (o122 : OG) => gB o122 s121.length 1 5 ((g66, .rows (e93.map (kR .u32)) 8 1 133) :: bs)) (fun (s121 : List Int) (s123 : Int) (o122 : OG) => True) none trivial sub_ sl_ (fun s121 s123 o122 v127 hp128 hF => ?_)
      replace hF : l_ref1_Sum_b3 e93 s121 s123 = some v127 := hF
      unfold l_ref1_Sum_b3 at hF
      (repeat refine gc (h := ?_))
      (repeat refine gc (h := ?_))
      refine AW.region ?_
      refine s_ Q.mo ?_
      refine s_ Q.cm ?_
      refine AL.nil ?_
      (repeat refine gc (h := ?_))
      refine AW.cond (b := (decide (s123 < 8))) rfl (fun hc134 => ?_) (fun hc134 => ?_)
      ·replace hF := cnd_t hc134 hF
       have hc134p := of_decide_eq_true hc134
       (repeat refine gc (h := ?_))
       (repeat refine gc (h := ?_))
       refine AW.block ?_
       have hF_ := idx_b hF; clear hF; obtain ⟨x135, h136, h137, hF⟩ := hF_
       have hF_ := ens hF; clear hF; obtain ⟨he138, hF⟩ := hF_
       (repeat refine gc (h := ?_))
       refine ADx.in_ (h := ?_)
       refine f_ 0 rfl (fun bs => Q.mo) ?_
       refine f_ 1 rfl (fun bs => Q.mo) ?_
       refine ADx.b 2 rfl (hq := OpQ.idx_ar (R := (kR .u32)) (v := e93) rfl wk wk h136 mem_ h137) (h := ?_)
       refine ADx.b 3 rfl (hq := OpQ.load_map (R := (kR .u32)) (v := e93) (q := x135) rfl wk mem_ h137 (by rfl) (by rfl)) (h := ?_)
       refine f_ 4 rfl (fun bs => Q.sr) ?_
       refine f_ 5 rfl (fun bs => Q.cv) ?_
       refine f_ 6 rfl (fun bs => Q.mo) ?_
       refine ADx.b 7 rfl (hq := OpQ.idx_ar (R := (kR .u32)) (v := e93) rfl wk wk h136 mem_ h137) (h := ?_)
       refine ADx.b 8 rfl (hq := OpQ.load_map (R := (kR .u32)) (v := e93) (q := x135) rfl wk mem_ h137 (by rfl) (by rfl)) (h := ?_)
       refine f_ 9 rfl (fun bs => Q.sr) ?_
       refine f_ 10 rfl (fun bs => Q.cv) ?_
       refine f_ 11 rfl (fun bs => Q.mo) ?_
       refine ADx.b 12 rfl (hq := OpQ.idx_ar (R := (kR .u32)) (v := e93) rfl wk wk h136 mem_ h137) (h := ?_)
       refine ADx.b 13 rfl (hq := OpQ.load_map (R := (kR .u32)) (v := e93) (q := x135) rfl wk mem_ h137 (by rfl) (by rfl)) (h := ?_)
       refine f_ 14 rfl (fun bs => Q.sr) ?_
       refine f_ 15 rfl (fun bs => Q.cv) ?_
       refine f_ 16 rfl (fun bs => Q.mo) ?_
       refine ADx.b 17 rfl (hq := OpQ.idx_ar (R := (kR .u32)) (v := e93) rfl wk wk h136 mem_ h137) (h := ?_)
       refine ADx.b 18 rfl (hq := OpQ.load_map (R := (kR .u32)) (v := e93) (q := x135) rfl wk mem_ h137 (by rfl) (by rfl)) (h := ?_)
       refine f_ 19 rfl (fun bs => Q.cv) ?_
       refine f_ 20 rfl (fun bs => Q.li) ?_
       refine ADx.k1 21 rfl (hq := W.gr (R := (kR .u8)) (l := s121) (l2 := [(IntKind.wrap .u8 (x135 / 16777216)), (IntKind.wrap .u8 (x135 / 65536)), (IntKind.wrap .u8 (x135 / 256)), (IntKind.wrap .u8 x135)]) (rs := (s121 ++ [(IntKind.wrap .u8 (x135 / 16777216)), (IntKind.wrap .u8 (x135 / 65536)), (IntKind.wrap .u8 (x135 / 256)), (IntKind.wrap .u8 x135)])) .here rfl he138 (fun _ => rfl)) (h := fun o139 => ?_)
       refine ADx.last 22 rfl (hq := Q.mo) (h := ?_)
       have hF_ := ens hF; clear hF; obtain ⟨he140, hF⟩ := hF_
       (repeat refine gc (h := ?_))
       refine AW.region ?_
       refine s_ Q.mo ?_
       refine s_ (Q.ad (h := he140)) ?_
       refine s_ Q.mo ?_
       refine AL.nil ?_
       (repeat refine gc (h := ?_))
       exact lpQ2_1.n (s121 ++ [(IntKind.wrap .u8 (x135 / 16777216)), (IntKind.wrap .u8 (x135 / 65536)), (IntKind.wrap .u8 (x135 / 256)), (IntKind.wrap .u8 x135)]) (s123 + 1) o139 (some_inj hF) trivial sub_ sl_
      ·replace hF := cnd_f hc134 hF
       have hc134p := of_decide_eq_false hc134
       (repeat refine gc (h := ?_))
       obtain rfl := some_inj hF
       (repeat refine gc (h := ?_))
       refine lpQ2_1.e _ rfl (fun ho130 => ?_)
       (repeat refine gc (h := ?_))
       exact jnQ1_1.n s121 o122 ho130 sub_ sl_
     ·obtain rfl := hs141.symm
      replace hF := hO126
      try dsimp only at hF
      (repeat refine gc (h := ?_))
      (repeat refine gc (h := ?_))
      refine AW.region ?_
      refine s_ Q.mo ?_
      refine s_ (OpQ.of_bytesI (l := e131) rfl wk) ?_
      refine s_ Q.mo ?_
      refine AL.nil ?_
      have hr_ := some_inj hF
      subst r
      (repeat refine gc (h := ?_))
      exact EndQ.fin (bs' := bs) (h := ⟨wkr_, rfl⟩) (hs := sl_)

noncomputable def l_ref1_Short (a0 : Txt) : Option (Txt) :=
(l_ref1_Sum a0).bind fun x1 =>
(ensure (0 ≤ 16 ∧ 16 ≤ (x1.size : Int))).bind fun _ =>
some (x1.extract 0 16)
theorem c_ref1_Short {a0 : Txt} {r : Txt} (hF : l_ref1_Short a0 = some r) : APure Tryz.prog 110 [sA a0] (sA r) := fun bs => by
  unfold l_ref1_Short at hF
  refine ACalls.wk ?_
  refine ACalls.in_ Tryz.func110 Tryz.ntmps110 (h := ?_)
  (repeat refine gc (h := ?_))
  refine AW.region ?_
  refine s_ Q.mo ?_
  refine AL.nil ?_
  have hF_ := bnd hF; clear hF; obtain ⟨x1, hc2, hF⟩ := hF_
  have hF_ := ens hF; clear hF; obtain ⟨he3, hF⟩ := hF_
  (repeat refine gc (h := ?_))
  refine AW.region ?_
  refine s_ Q.mo ?_
  refine s_ (OpQ.c (c_ref1_Sum hc2)) ?_
  refine s_ (OpQ.part_str rfl wk (by first | exact Bnd.none _ | exact Bnd.some (by first | exact Wk.refl _ | exact Wk.nil | exact Wk.clip _ | exact Wk.tip _ _ _ | exact Wk.opt _ _ (by first | assumption | rfl) | exact Wk.gr _ _ | exact Wk.nil_gr | exact Wk.trans (Wk.opt _ _ (by first | assumption | rfl)) (by first | exact Wk.gr _ _ | exact Wk.nil | exact Wk.clip _ | exact Wk.tip _ _ _) | exact Wk.aggs (by repeat (first | exact Wks.nil | refine Wks.cons (by first | exact Wk.refl _ | exact Wk.nil | exact Wk.clip _ | exact Wk.tip _ _ _ | exact Wk.gr _ _ | exact Wk.nil_gr | exact Wk.nil_ow | exact Wk.ms_ow _ _ _) ?_)) rfl | exact Wk.nil_ow | exact Wk.ms_ow _ _ _ | exact Wk.ow_ms _ _ _) (by omega) (by first | ((simp only [Nat.zero_add, Nat.add_zero, Nat.reduceAdd, Nat.reduceMul, Int.toNat_natCast]) <;> rfl) | rfl)) (by first | exact Bnd.none _ | exact Bnd.some (by first | exact Wk.refl _ | exact Wk.nil | exact Wk.clip _ | exact Wk.tip _ _ _ | exact Wk.opt _ _ (by first | assumption | rfl) | exact Wk.gr _ _ | exact Wk.nil_gr | exact Wk.trans (Wk.opt _ _ (by first | assumption | rfl)) (by first | exact Wk.gr _ _ | exact Wk.nil | exact Wk.clip _ | exact Wk.tip _ _ _) | exact Wk.aggs (by repeat (first | exact Wks.nil | refine Wks.cons (by first | exact Wk.refl _ | exact Wk.nil | exact Wk.clip _ | exact Wk.tip _ _ _ | exact Wk.gr _ _ | exact Wk.nil_gr | exact Wk.nil_ow | exact Wk.ms_ow _ _ _) ?_)) rfl | exact Wk.nil_ow | exact Wk.ms_ow _ _ _ | exact Wk.ow_ms _ _ _) (by omega) (by first | ((simp only [Nat.zero_add, Nat.add_zero, Nat.reduceAdd, Nat.reduceMul, Int.toNat_natCast]) <;> rfl) | rfl)) (by have := he3; omega) (by have := he3; omega)) ?_
  refine s_ Q.mo ?_
  refine AL.nil ?_
  have hr_ := some_inj hF
  subst r
  (repeat refine gc (h := ?_))
  exact EndQ.fin (bs' := bs) (h := ⟨wkr_, rfl⟩) (hs := sl_)

end Go.Proofs.YtnkkfmnpkgjabaaGreat.X

/- Digests: one block of the document's answer is what the kernel reckons natively. -/
namespace Go.Proofs.YtnkkfmnpkgjabaaGreat.Y
open Go.Proofs.YtnkkfmnpkgjabaaGreat.X (bitI bitsI ensure ensure_bind idxO idxT loopF loopF_inr loopF_inl Txt txtOf bytesOf l_ref1_turn l_ref1_block l_ref1_block_b0 l_ref1_block_b1 l_ref1_block_b2 l_ref1_block_b3 l_ref1_table)
set_option linter.unusedVariables false
set_option linter.unusedSimpArgs false
/-! ### words -/
theorem wrap32 (n : Nat) : IntKind.wrap .u32 (n : Int) = ((n % 4294967296 : Nat) : Int) := by
  rw [← wrapI_eq]; rfl
theorem bit32 {a b : Nat} (ha : a < 4294967296) (hb : b < 4294967296) : bitI .xor .u32 a b = ((a ^^^ b : Nat) : Int) ∧ bitI .and .u32 a b = ((a &&& b : Nat) : Int) ∧ bitI .or .u32 a b = ((a ||| b : Nat) : Int) := by
  have e : ∀ n : Nat, n < 4294967296 → (BitVec.ofInt 32 (n : Int)).toNat = n := fun n hn => by
    rw [BitVec.toNat_ofInt]; simp; omega
  have hx : a ^^^ b < 4294967296 := Nat.xor_lt_two_pow (n := 32) ha hb
  have hn : a &&& b < 4294967296 := Nat.and_lt_two_pow a (n := 32) hb
  have ho : a ||| b < 4294967296 := Nat.or_lt_two_pow (n := 32) ha hb
  refine ⟨?_, ?_, ?_⟩
  · show IntKind.wrap .u32 (((BitVec.ofInt 32 (a : Int)) ^^^ (BitVec.ofInt 32 (b : Int))).toNat : Int) = _
    rw [BitVec.toNat_xor, e a ha, e b hb, wrap32, Nat.mod_eq_of_lt hx]
  · show IntKind.wrap .u32 (((BitVec.ofInt 32 (a : Int)) &&& (BitVec.ofInt 32 (b : Int))).toNat : Int) = _
    rw [BitVec.toNat_and, e a ha, e b hb, wrap32, Nat.mod_eq_of_lt hn]
  · show IntKind.wrap .u32 (((BitVec.ofInt 32 (a : Int)) ||| (BitVec.ofInt 32 (b : Int))).toNat : Int) = _
    rw [BitVec.toNat_or, e a ha, e b hb, wrap32, Nat.mod_eq_of_lt ho]
/-- Turned to the right. -/
def rt (x n : Nat) : Nat := (x * 4294967297) >>> n % 4294967296
theorem rt_lt (x n : Nat) : rt x n < 4294967296 := Nat.mod_lt _ (by omega)
theorem rt_eq {x n : Nat} (hx : x < 4294967296) (hn : n < 32) (h0 : 0 < n) : x / 2 ^ n ||| (x * 2 ^ (32 - n)) % 4294967296 = rt x n := by
  have hp : (4294967296 : Nat) = 2 ^ n * 2 ^ (32 - n) := by rw [← Nat.pow_add, show n + (32 - n) = 32 by omega]
  have hpos : 0 < 2 ^ n := Nat.two_pow_pos n
  have hpos2 : 0 < 2 ^ (32 - n) := Nat.two_pow_pos _
  have e1 : (x * 2 ^ (32 - n)) % 4294967296 = (x % 2 ^ n) * 2 ^ (32 - n) := by
    rw [hp]; exact Nat.mul_mod_mul_right _ _ _
  have hlt : x / 2 ^ n < 2 ^ (32 - n) := by rw [Nat.div_lt_iff_lt_mul hpos, Nat.mul_comm, ← hp]; exact hx
  have e2 : x / 2 ^ n ||| (x % 2 ^ n) * 2 ^ (32 - n) = (x % 2 ^ n) * 2 ^ (32 - n) + x / 2 ^ n := by
    rw [Nat.or_comm, ← Nat.shiftLeft_eq, ← Nat.shiftLeft_add_eq_or_of_lt hlt]
  rw [e1, e2]
  unfold rt
  rw [Nat.shiftRight_eq_div_pow]
  have e3 : x * 4294967297 / 2 ^ n = x * 2 ^ (32 - n) + x / 2 ^ n := by
    have : x * 4294967297 = x + (x * 2 ^ (32 - n)) * 2 ^ n := by
      rw [Nat.mul_assoc, Nat.mul_comm (2 ^ (32 - n)), ← hp]; omega
    rw [this, Nat.add_mul_div_right _ _ hpos, Nat.add_comm]
  rw [e3]
  have e4 : x * 2 ^ (32 - n) = (x / 2 ^ n) * 4294967296 + (x % 2 ^ n) * 2 ^ (32 - n) := by
    conv => lhs; rw [← Nat.div_add_mod x (2 ^ n)]
    rw [Nat.add_mul, hp]
    congr 1
    rw [Nat.mul_comm (2 ^ n), Nat.mul_assoc]
  have hb : (x % 2 ^ n) * 2 ^ (32 - n) + x / 2 ^ n < 4294967296 := by
    have h1 : x % 2 ^ n + 1 ≤ 2 ^ n := Nat.mod_lt _ hpos
    have h2 := Nat.mul_le_mul_right (2 ^ (32 - n)) h1
    rw [Nat.succ_mul, ← hp] at h2
    omega
  rw [e4]
  omega
theorem turn_eq {x n : Nat} (hx : x < 4294967296) (hn : n < 32) (h0 : 0 < n) : l_ref1_turn (x : Int) (n : Int) = some ((rt x n : Nat) : Int) := by
  unfold l_ref1_turn
  have w1 : IntKind.wrap .u64 (32 - (n : Int)) = ((32 - n : Nat) : Int) := by
    rw [show (32 - (n : Int)) = ((32 - n : Nat) : Int) by omega, ← wrapI_eq]
    show (((32 - n) % 2 ^ 64 : Nat) : Int) = _
    rw [Nat.mod_eq_of_lt (by omega)]
  rw [w1, ensure_bind (by omega), ensure_bind (by omega)]
  have e1 : (x : Int) / (2 : Int) ^ ((n : Int)).toNat = ((x / 2 ^ n : Nat) : Int) := by simp
  have e2 : IntKind.wrap .u32 ((x : Int) * (2 : Int) ^ (((32 - n : Nat) : Int)).toNat) = (((x * 2 ^ (32 - n)) % 4294967296 : Nat) : Int) := by
    rw [← wrap32]; congr 1
  have hlt : x / 2 ^ n < 4294967296 := Nat.lt_of_le_of_lt (Nat.div_le_self _ _) hx
  rw [e1, e2, (bit32 hlt (Nat.mod_lt _ (by omega))).2.2, rt_eq hx hn h0]
theorem land_m (n : Nat) : Nat.land n m32 = n % 4294967296 := Nat.and_two_pow_sub_one_eq_mod n 32
theorem xor_mod (a b : Nat) : (a ^^^ b) % 4294967296 = (a % 4294967296) ^^^ (b % 4294967296) := Nat.xor_mod_two_pow (n := 32)
theorem rot3_eq (x i j l : Nat) : rot3 x i j l = rt x i ^^^ rt x j ^^^ rt x l := by
  unfold rot3
  rw [land_m]
  show ((x * 4294967297) >>> i ^^^ (x * 4294967297) >>> j ^^^ (x * 4294967297) >>> l) % 4294967296 = _
  rw [xor_mod, xor_mod]
  unfold rt
  exact rfl
theorem rot2_eq (x i j l : Nat) : rot2 x i j l = rt x i ^^^ rt x j ^^^ (x >>> l) := by
  unfold rot2
  rw [land_m]
  show ((x * 4294967297) >>> i ^^^ (x * 4294967297) >>> j) % 4294967296 ^^^ (x >>> l) = _
  rw [xor_mod]; rfl
/-! ### loops -/
theorem loop_inv {τ : Type} {body : Int × τ → Option ((Int × τ) ⊕ τ)} (I : Nat → τ → Prop) (n : Nat) (hstep : ∀ i s, i < n → I i s → ∃ s', body ((i : Int), s) = some (.inl ((i : Int) + 1, s')) ∧ I (i + 1) s') (hend : ∀ s, I n s → body ((n : Int), s) = some (.inr s)) : ∀ k i s, i + k = n → I i s → ∃ s', loopF body ((i : Int), s) = some s' ∧ I n s'
  | 0, i, s, h, hI => by
    have : i = n := by omega
    subst this
    exact ⟨s, loopF_inr (hend s hI), hI⟩
  | k + 1, i, s, h, hI => by
    obtain ⟨s', h1, h2⟩ := hstep i s (by omega) hI
    obtain ⟨s2, h3, h4⟩ := loop_inv I n hstep hend k (i + 1) s' (by omega) h2
    refine ⟨s2, ?_, h4⟩
    rw [loopF_inl h1]
    exact h3
theorem idx_nat {l : List Int} {i : Nat} : idxO l (i : Int) = l[i]? := by unfold idxO; rw [if_pos (by omega)]; rfl
/-! ### the message's words -/
def sig0 (x : Nat) : Nat := rt x 7 ^^^ rt x 18 ^^^ (x >>> 3)
def sig1 (x : Nat) : Nat := rt x 17 ^^^ rt x 19 ^^^ (x >>> 10)
theorem shr_lt {x n : Nat} (h : x < 4294967296) : x >>> n < 4294967296 := by rw [Nat.shiftRight_eq_div_pow]; exact Nat.lt_of_le_of_lt (Nat.div_le_self _ _) h
theorem sig_lt {x : Nat} (h : x < 4294967296) : sig0 x < 4294967296 ∧ sig1 x < 4294967296 :=
  ⟨Nat.xor_lt_two_pow (n := 32) (Nat.xor_lt_two_pow (n := 32) (rt_lt _ _) (rt_lt _ _)) (shr_lt h), Nat.xor_lt_two_pow (n := 32) (Nat.xor_lt_two_pow (n := 32) (rt_lt _ _) (rt_lt _ _)) (shr_lt h)⟩
/-- The list of so many words. -/
def wl (w : List Nat) : Nat → List Nat
  | 0 => w
  | k + 1 => wl w k ++ [((wl w k).getD k 0 + sig0 ((wl w k).getD (k + 1) 0) + (wl w k).getD (k + 9) 0 + sig1 ((wl w k).getD (k + 14) 0)) % 4294967296]
theorem wl_len {w : List Nat} (h : w.length = 16) : ∀ k, (wl w k).length = k + 16
  | 0 => by simpa [wl] using h
  | k + 1 => by simp [wl, wl_len h k]
theorem wl_more {w : List Nat} (h : w.length = 16) {j : Nat} : ∀ k, j < k + 16 → ∀ m, k ≤ m → (wl w m).getD j 0 = (wl w k).getD j 0 := fun k hj m hm => by
  induction m with
  | zero => have : k = 0 := by omega
            subst this; rfl
  | succ m ih =>
    by_cases e : k = m + 1
    · rw [e]
    · rw [← ih (by omega)]
      show (wl w m ++ [_]).getD j 0 = _
      rw [List.getD_eq_getElem?_getD, List.getElem?_append_left (by rw [wl_len h]; omega), ← List.getD_eq_getElem?_getD]
def wd (w : List Nat) (j : Nat) : Nat := (wl w j).getD j 0
theorem wd_at {w : List Nat} (h : w.length = 16) {j k : Nat} (hj : j < k + 16) : wd w j = (wl w k).getD j 0 := by
  unfold wd
  rcases Nat.le_total k j with hk | hk
  · exact wl_more h k hj j hk
  · exact (wl_more h j (by omega) k hk).symm
theorem wl_last {w : List Nat} (h : w.length = 16) (k : Nat) : (wl w (k + 1)).getD (k + 16) 0 = ((wl w k).getD k 0 + sig0 ((wl w k).getD (k + 1) 0) + (wl w k).getD (k + 9) 0 + sig1 ((wl w k).getD (k + 14) 0)) % 4294967296 := by
  rw [wl, List.getD_eq_getElem?_getD, List.getElem?_append_right (by rw [wl_len h]; exact Nat.le_refl _), wl_len h, Nat.sub_self, List.getElem?_cons_zero, Option.getD_some]
theorem wd_next {w : List Nat} (h : w.length = 16) {k : Nat} : wd w (k + 16) = (wd w k + sig0 (wd w (k + 1)) + wd w (k + 9) + sig1 (wd w (k + 14))) % 4294967296 := by
  rw [wd_at h (j := k + 16) (k := k + 1) (by omega), wd_at h (j := k) (k := k) (by omega), wd_at h (j := k + 1) (k := k) (by omega), wd_at h (j := k + 9) (k := k) (by omega), wd_at h (j := k + 14) (k := k) (by omega)]
  exact wl_last h k
theorem wd_first {w : List Nat} (h : w.length = 16) {j : Nat} (hj : j < 16) : wd w j = w.getD j 0 := by rw [wd_at h (k := 0) (by omega)]; rfl
theorem wd_lt {w : List Nat} (h : w.length = 16) (hw : ∀ x ∈ w, x < 4294967296) {j : Nat} (hj : j < 64) : wd w j < 4294967296 := by
  by_cases h16 : j < 16
  · rw [wd_first h h16, List.getD_eq_getElem?_getD, List.getElem?_eq_getElem (by omega)]
    exact hw _ (List.getElem_mem _)
  · obtain ⟨k, rfl⟩ : ∃ k, j = k + 16 := ⟨j - 16, by omega⟩
    rw [wd_next h]
    exact Nat.mod_lt _ (by omega)
theorem b1_loop {w : List Nat} (h : w.length = 16) (hw : ∀ x ∈ w, x < 4294967296) {s : List Int} (hs : s.length = 64) (h0 : ∀ j, j < 16 → s[j]? = some ((wd w j : Nat) : Int)) :
    ∃ s', loopF (τ := List Int) (fun s : Int × List Int => l_ref1_block_b1 s.1 s.2) (16, s) = some s' ∧ s'.length = 64 ∧ ∀ j, j < 64 → s'[j]? = some ((wd w j : Nat) : Int) := by
  have key : ∃ s', loopF (τ := List Int) (fun s : Int × List Int => l_ref1_block_b1 s.1 s.2) (((16 : Nat) : Int), s) = some s' ∧ 16 ≤ 64 ∧ s'.length = 64 ∧ ∀ j, j < 64 → s'[j]? = some ((wd w j : Nat) : Int) := by
    refine loop_inv (body := fun s : Int × List Int => l_ref1_block_b1 s.1 s.2) (fun i s => 16 ≤ i ∧ s.length = 64 ∧ ∀ j, j < i → s[j]? = some ((wd w j : Nat) : Int)) 64 (fun i s hi ⟨h16, hl, hI⟩ => ?_) (fun s hI => rfl) 48 16 s rfl ⟨Nat.le_refl _, hs, h0⟩
    obtain ⟨k, rfl⟩ : ∃ k, i = k + 16 := ⟨i - 16, by omega⟩
    refine ⟨s.set (k + 16) ((wd w (k + 16) : Nat) : Int), ?_, by omega, by simp [hl], fun j hj => ?_⟩
    · show l_ref1_block_b1 ((k + 16 : Nat) : Int) s = _
      have l1 := wd_lt h hw (j := k + 1) (by omega)
      have l14 := wd_lt h hw (j := k + 14) (by omega)
      have q7 : l_ref1_turn ((wd w (k + 1) : Nat) : Int) 7 = _ := turn_eq l1 (n := 7) (by omega) (by omega)
      have q18 : l_ref1_turn ((wd w (k + 1) : Nat) : Int) 18 = _ := turn_eq l1 (n := 18) (by omega) (by omega)
      have q17 : l_ref1_turn ((wd w (k + 14) : Nat) : Int) 17 = _ := turn_eq l14 (n := 17) (by omega) (by omega)
      have q19 : l_ref1_turn ((wd w (k + 14) : Nat) : Int) 19 = _ := turn_eq l14 (n := 19) (by omega) (by omega)
      unfold l_ref1_block_b1
      rw [show decide (((k + 16 : Nat) : Int) < 64) = true by simp; omega]
      simp only [cond_true]
      rw [ensure_bind (by omega), show (((k + 16 : Nat) : Int) - 15) = ((k + 1 : Nat) : Int) by omega, idx_nat, hI (k + 1) (by omega), Option.bind_some, q7, Option.bind_some, ensure_bind (by omega), q18, Option.bind_some, ensure_bind (by omega), ensure_bind (by omega),
        show (((k + 16 : Nat) : Int) - 2) = ((k + 14 : Nat) : Int) by omega, idx_nat, hI (k + 14) (by omega), Option.bind_some, q17, Option.bind_some, ensure_bind (by omega), q19, Option.bind_some, ensure_bind (by omega), ensure_bind (by omega),
        show (((k + 16 : Nat) : Int) - 16) = ((k : Nat) : Int) by omega, idx_nat, hI k (by omega), Option.bind_some, ensure_bind (by omega), show (((k + 16 : Nat) : Int) - 7) = ((k + 9 : Nat) : Int) by omega, idx_nat, hI (k + 9) (by omega), Option.bind_some, idx_nat, List.getElem?_eq_getElem (by omega), Option.bind_some, ensure_bind (by omega)]
      have d1 : ((wd w (k + 1) : Nat) : Int) / (8 : Int) = ((wd w (k + 1) >>> 3 : Nat) : Int) := by rw [Nat.shiftRight_eq_div_pow]; simp
      have d2 : ((wd w (k + 14) : Nat) : Int) / (1024 : Int) = ((wd w (k + 14) >>> 10 : Nat) : Int) := by rw [Nat.shiftRight_eq_div_pow]; simp
      have x1 : rt (wd w (k + 1)) 7 ^^^ rt (wd w (k + 1)) 18 < 4294967296 := Nat.xor_lt_two_pow (n := 32) (rt_lt _ _) (rt_lt _ _)
      have x2 : rt (wd w (k + 14)) 17 ^^^ rt (wd w (k + 14)) 19 < 4294967296 := Nat.xor_lt_two_pow (n := 32) (rt_lt _ _) (rt_lt _ _)
      rw [d1, d2, (bit32 (rt_lt _ _) (rt_lt _ _)).1, (bit32 x1 (shr_lt l1)).1, (bit32 (rt_lt _ _) (rt_lt _ _)).1, (bit32 x2 (shr_lt l14)).1]
      have e : ∀ a b c d : Nat, IntKind.wrap .u32 (IntKind.wrap .u32 (IntKind.wrap .u32 ((a : Int) + (b : Int)) + (c : Int)) + (d : Int)) = (((a + b + c + d) % 4294967296 : Nat) : Int) := fun a b c d => by
        rw [show ((a : Int) + (b : Int)) = ((a + b : Nat) : Int) by omega, wrap32, show ((((a + b) % 4294967296 : Nat) : Int) + (c : Int)) = (((a + b) % 4294967296 + c : Nat) : Int) by omega, wrap32, show (((((a + b) % 4294967296 + c) % 4294967296 : Nat) : Int) + (d : Int)) = ((((a + b) % 4294967296 + c) % 4294967296 + d : Nat) : Int) by omega, wrap32]
        congr 1; omega
      rw [e, wd_next h, Int.toNat_natCast]
      unfold sig0 sig1
      exact rfl
    · rw [List.getElem?_set]
      by_cases e : k + 16 = j
      · rw [if_pos e, if_pos (by omega), e]
      · rw [if_neg e]; exact hI j (by omega)
  obtain ⟨s', h1, _, h2, h3⟩ := key
  exact ⟨s', h1, h2, h3⟩
/-! ### bytes as words -/
theorem or4 {a b c d : Nat} (ha : a < 256) (hb : b < 256) (hc : c < 256) (hd : d < 256) : ((a * 16777216 ||| b * 65536) ||| c * 256) ||| d = a * 16777216 + b * 65536 + c * 256 + d := by
  have e1 : c * 256 ||| d = c * 256 + d := by have := Nat.shiftLeft_add_eq_or_of_lt (b := d) (i := 8) hd c; rw [Nat.shiftLeft_eq] at this; exact this.symm
  have e2 : b * 65536 ||| (c * 256 + d) = b * 65536 + (c * 256 + d) := by have := Nat.shiftLeft_add_eq_or_of_lt (b := c * 256 + d) (i := 16) (by omega) b; rw [Nat.shiftLeft_eq] at this; exact this.symm
  have e3 : a * 16777216 ||| (b * 65536 + (c * 256 + d)) = a * 16777216 + (b * 65536 + (c * 256 + d)) := by have := Nat.shiftLeft_add_eq_or_of_lt (b := b * 65536 + (c * 256 + d)) (i := 24) (by omega) a; rw [Nat.shiftLeft_eq] at this; exact this.symm
  rw [Nat.or_assoc, Nat.or_assoc, e1, e2, e3]; omega
/-- The word of four bytes. -/
def cw (c : Txt) (i : Nat) : Nat := (c.data.toList.getD (4 * i) 0).toNat * 16777216 + (c.data.toList.getD (4 * i + 1) 0).toNat * 65536 + (c.data.toList.getD (4 * i + 2) 0).toNat * 256 + (c.data.toList.getD (4 * i + 3) 0).toNat
theorem cw_lt (c : Txt) (i : Nat) : cw c i < 4294967296 := by
  unfold cw
  have h0 := (c.data.toList.getD (4 * i) 0).toNat_lt
  have h1 := (c.data.toList.getD (4 * i + 1) 0).toNat_lt
  have h2 := (c.data.toList.getD (4 * i + 2) 0).toNat_lt
  have h3 := (c.data.toList.getD (4 * i + 3) 0).toNat_lt
  omega
theorem idxT_nat {c : Txt} {i : Nat} (h : i < c.size) : idxT c (i : Int) = some (c.data.toList.getD i 0) := by
  unfold idxT
  rw [if_pos (by omega)]
  have hlt2 : i < c.data.size := h
  rw [show ((i : Int)).toNat = i by simp, getElem?_pos c i h, List.getD_eq_getElem?_getD, Array.getElem?_toList, Array.getElem?_eq_getElem hlt2]
  rfl
theorem b0_loop {c : Txt} (hc : c.size = 64) : ∃ s', loopF (τ := List Int) (fun s : Int × List Int => l_ref1_block_b0 c s.1 s.2) (0, List.replicate 64 0) = some s' ∧ s'.length = 64 ∧ ∀ j, j < 16 → s'[j]? = some ((cw c j : Nat) : Int) := by
  refine loop_inv (body := fun s : Int × List Int => l_ref1_block_b0 c s.1 s.2) (fun i s => s.length = 64 ∧ ∀ j, j < i → s[j]? = some ((cw c j : Nat) : Int)) 16 (fun i s hi ⟨hl, hI⟩ => ?_) (fun s hI => ?_) 16 0 (List.replicate 64 0) rfl ⟨by simp, fun j hj => by omega⟩
  · refine ⟨s.set i ((cw c i : Nat) : Int), ?_, by simp [hl], fun j hj => ?_⟩
    · show l_ref1_block_b0 c ((i : Nat) : Int) s = _
      unfold l_ref1_block_b0
      rw [show decide (((i : Nat) : Int) < 16) = true by simp; omega]
      simp only [cond_true]
      rw [ensure_bind (by omega), show (4 * (i : Int)) = ((4 * i : Nat) : Int) by omega, idxT_nat (by omega), Option.bind_some, ensure_bind (by omega), ensure_bind (by omega), show (((4 * i : Nat) : Int) + 1) = ((4 * i + 1 : Nat) : Int) by omega, idxT_nat (by omega), Option.bind_some, ensure_bind (by omega), ensure_bind (by omega),
        show (((4 * i : Nat) : Int) + 2) = ((4 * i + 2 : Nat) : Int) by omega, idxT_nat (by omega), Option.bind_some, ensure_bind (by omega), ensure_bind (by omega), show (((4 * i : Nat) : Int) + 3) = ((4 * i + 3 : Nat) : Int) by omega, idxT_nat (by omega), Option.bind_some, idx_nat, List.getElem?_eq_getElem (by omega), Option.bind_some, ensure_bind (by omega)]
      unfold cw
      generalize hx0 : c.data.toList.getD (4 * i) 0 = x0
      generalize hx1 : c.data.toList.getD (4 * i + 1) 0 = x1
      generalize hx2 : c.data.toList.getD (4 * i + 2) 0 = x2
      generalize hx3 : c.data.toList.getD (4 * i + 3) 0 = x3
      have b0 := x0.toNat_lt
      have b1 := x1.toNat_lt
      have b2 := x2.toNat_lt
      have b3 := x3.toNat_lt
      have e : ∀ (x : UInt8) (m : Nat), IntKind.wrap .u32 (IntKind.wrap .u32 ((x.toNat : Nat) : Int) * (m : Int)) = ((x.toNat * m % 4294967296 : Nat) : Int) := fun x m => by
        have := x.toNat_lt
        rw [wrap32, Nat.mod_eq_of_lt (by omega), show (((x.toNat : Nat) : Int) * (m : Int)) = ((x.toNat * m : Nat) : Int) by simp, wrap32]
      have e0 := e x0 16777216
      have e1 := e x1 65536
      have e2 := e x2 256
      rw [Nat.mod_eq_of_lt (by omega)] at e0 e1 e2
      rw [show ((16777216 : Int)) = ((16777216 : Nat) : Int) from rfl, show ((65536 : Int)) = ((65536 : Nat) : Int) from rfl, show ((256 : Int)) = ((256 : Nat) : Int) from rfl, e0, e1, e2, wrap32, Nat.mod_eq_of_lt (show x3.toNat < 4294967296 by omega)]
      have l1 : x0.toNat * 16777216 ||| x1.toNat * 65536 < 4294967296 := Nat.or_lt_two_pow (n := 32) (by omega) (by omega)
      have l2 : (x0.toNat * 16777216 ||| x1.toNat * 65536) ||| x2.toNat * 256 < 4294967296 := Nat.or_lt_two_pow (n := 32) l1 (by omega)
      rw [(bit32 (by omega) (by omega)).2.2, (bit32 l1 (by omega)).2.2, (bit32 l2 (by omega)).2.2, or4 (by omega) (by omega) (by omega) (by omega), Int.toNat_natCast]
    · rw [List.getElem?_set]
      by_cases e : i = j
      · rw [if_pos e, if_pos (by omega), e]
      · rw [if_neg e]; exact hI j (by omega)
  · show l_ref1_block_b0 c (16 : Int) s = _
    unfold l_ref1_block_b0; rfl
/-! ### rounds -/
structure T8 where
  a : Nat
  b : Nat
  c : Nat
  d : Nat
  e : Nat
  f : Nat
  g : Nat
  h : Nat
def T8.L (t : T8) : List Int := [(t.a : Int), (t.b : Int), (t.c : Int), (t.d : Int), (t.e : Int), (t.f : Int), (t.g : Int), (t.h : Int)]
structure T8.Lt (t : T8) : Prop where
  a : t.a < 4294967296
  b : t.b < 4294967296
  c : t.c < 4294967296
  d : t.d < 4294967296
  e : t.e < 4294967296
  f : t.f < 4294967296
  g : t.g < 4294967296
  h : t.h < 4294967296
def rt1 (t : T8) (k w : Nat) : Nat := t.h + (rt t.e 6 ^^^ rt t.e 11 ^^^ rt t.e 25) + ((t.e &&& t.f) ^^^ ((4294967295 ^^^ t.e) &&& t.g)) + k + w
def rt2 (t : T8) : Nat := (rt t.a 2 ^^^ rt t.a 13 ^^^ rt t.a 22) + ((t.a &&& t.b) ^^^ (t.a &&& t.c) ^^^ (t.b &&& t.c))
def T8.next (t : T8) (k w : Nat) : T8 := ⟨(rt1 t k w + rt2 t) % 4294967296, t.a, t.b, t.c, (t.d + rt1 t k w) % 4294967296, t.e, t.f, t.g⟩
theorem T8.next_lt {t : T8} (h : t.Lt) (k w : Nat) : (t.next k w).Lt := ⟨Nat.mod_lt _ (by omega), h.a, h.b, h.c, Nat.mod_lt _ (by omega), h.e, h.f, h.g⟩
/-- So many rounds. -/
def T8.run (t : T8) (K w : List Nat) : Nat → T8
  | 0 => t
  | i + 1 => (T8.run t K w i).next (K.getD i 0) (wd w i)
theorem T8.run_lt {t : T8} (h : t.Lt) (K w : List Nat) : ∀ i, (t.run K w i).Lt
  | 0 => h
  | i + 1 => T8.next_lt (T8.run_lt h K w i) _ _
theorem ch_lt {e f g : Nat} (he : e < 4294967296) (hf : f < 4294967296) (hg : g < 4294967296) : (e &&& f) < 4294967296 ∧ (4294967295 ^^^ e) < 4294967296 ∧ ((4294967295 ^^^ e) &&& g) < 4294967296 :=
  ⟨Nat.and_lt_two_pow e (n := 32) hf, Nat.xor_lt_two_pow (n := 32) (by omega) he, Nat.and_lt_two_pow _ (n := 32) hg⟩
theorem b2_step {t : T8} (ht : t.Lt) {K w : List Int} {i k x : Nat} (hk : K[i]? = some (k : Int)) (hw : w[i]? = some (x : Int)) (hi : i < 64) : l_ref1_block_b2 K w (i : Int) t.L = some (.inl ((i : Int) + 1, (t.next k x).L)) := by
  obtain ⟨a, b, c, d, e, f, g, h⟩ := t
  obtain ⟨ha, hb, hc, hd, he, hf, hg, hh⟩ := ht
  simp only at ha hb hc hd he hf hg hh
  unfold l_ref1_block_b2
  have hdec : decide ((i : Int) < 64) = true := by simp; omega
  rw [hdec, cond_true]
  have i0 : ∀ n : Nat, idxO (T8.L ⟨a, b, c, d, e, f, g, h⟩) (n : Int) = (T8.L ⟨a, b, c, d, e, f, g, h⟩)[n]? := fun n => idx_nat
  have j4 : idxO (T8.L ⟨a, b, c, d, e, f, g, h⟩) 4 = some (e : Int) := i0 4
  have j7 : idxO (T8.L ⟨a, b, c, d, e, f, g, h⟩) 7 = some (h : Int) := i0 7
  have j5 : idxO (T8.L ⟨a, b, c, d, e, f, g, h⟩) 5 = some (f : Int) := i0 5
  have j6 : idxO (T8.L ⟨a, b, c, d, e, f, g, h⟩) 6 = some (g : Int) := i0 6
  have j0 : idxO (T8.L ⟨a, b, c, d, e, f, g, h⟩) 0 = some (a : Int) := i0 0
  have j1 : idxO (T8.L ⟨a, b, c, d, e, f, g, h⟩) 1 = some (b : Int) := i0 1
  have j2 : idxO (T8.L ⟨a, b, c, d, e, f, g, h⟩) 2 = some (c : Int) := i0 2
  have j3 : idxO (T8.L ⟨a, b, c, d, e, f, g, h⟩) 3 = some (d : Int) := i0 3
  have te : ∀ n : Nat, n < 32 → 0 < n → l_ref1_turn (e : Int) (n : Int) = some ((rt e n : Nat) : Int) := fun n h1 h2 => turn_eq he h1 h2
  have ta : ∀ n : Nat, n < 32 → 0 < n → l_ref1_turn (a : Int) (n : Int) = some ((rt a n : Nat) : Int) := fun n h1 h2 => turn_eq ha h1 h2
  have t6 := te 6 (by omega) (by omega)
  have t11 := te 11 (by omega) (by omega)
  have t25 := te 25 (by omega) (by omega)
  have t2 := ta 2 (by omega) (by omega)
  have t13 := ta 13 (by omega) (by omega)
  have t22 := ta 22 (by omega) (by omega)
  have r6 : l_ref1_turn (e : Int) 6 = _ := t6
  have r11 : l_ref1_turn (e : Int) 11 = _ := t11
  have r25 : l_ref1_turn (e : Int) 25 = _ := t25
  have r2 : l_ref1_turn (a : Int) 2 = _ := t2
  have r13 : l_ref1_turn (a : Int) 13 = _ := t13
  have r22 : l_ref1_turn (a : Int) 22 = _ := t22
  rw [j4, Option.bind_some, r6, Option.bind_some, r11, Option.bind_some, r25, Option.bind_some, j7, Option.bind_some, j5, Option.bind_some, j6, Option.bind_some, idx_nat, hk, Option.bind_some, idx_nat, hw, Option.bind_some, j0, Option.bind_some, r2, Option.bind_some, r13, Option.bind_some, r22, Option.bind_some, j1, Option.bind_some, j2, Option.bind_some, j3, Option.bind_some, ensure_bind (by omega)]
  have x1 : rt e 6 ^^^ rt e 11 < 4294967296 := Nat.xor_lt_two_pow (n := 32) (rt_lt _ _) (rt_lt _ _)
  have x2 : rt a 2 ^^^ rt a 13 < 4294967296 := Nat.xor_lt_two_pow (n := 32) (rt_lt _ _) (rt_lt _ _)
  obtain ⟨c1, c2, c3⟩ := ch_lt he hf hg
  have n1 : (a &&& b) < 4294967296 := Nat.and_lt_two_pow a (n := 32) hb
  have n2 : (a &&& c) < 4294967296 := Nat.and_lt_two_pow a (n := 32) hc
  have n3 : (b &&& c) < 4294967296 := Nat.and_lt_two_pow b (n := 32) hc
  have n4 : (a &&& b) ^^^ (a &&& c) < 4294967296 := Nat.xor_lt_two_pow (n := 32) n1 n2
  have m0 : bitI .xor .u32 (4294967295 : Int) (e : Int) = ((4294967295 ^^^ e : Nat) : Int) := by
    have := (bit32 (a := 4294967295) (by omega) he).1
    simpa using this
  rw [m0, (bit32 (rt_lt e 6) (rt_lt e 11)).1, (bit32 x1 (rt_lt e 25)).1, (bit32 he hf).2.1, (bit32 c2 hg).2.1, (bit32 c1 c3).1, (bit32 (rt_lt a 2) (rt_lt a 13)).1, (bit32 x2 (rt_lt a 22)).1, (bit32 ha hb).2.1, (bit32 ha hc).2.1, (bit32 n1 n2).1, (bit32 hb hc).2.1, (bit32 n4 n3).1]
  have wr : ∀ p q : Nat, IntKind.wrap .u32 ((p : Int) + (q : Int)) = (((p + q) % 4294967296 : Nat) : Int) := fun p q => by rw [← wrap32]; congr 1
  rw [wr, wr, wr, wr, wr, wr, wr]
  have e1 : ∀ p q r s u v : Nat, (((((p + q) % 4294967296 + r) % 4294967296 + s) % 4294967296 + u) % 4294967296 + v % 4294967296) % 4294967296 = (p + q + r + s + u + v) % 4294967296 := fun p q r s u v => by omega
  have e2 : ∀ p q r s u v : Nat, (v + ((((p + q) % 4294967296 + r) % 4294967296 + s) % 4294967296 + u) % 4294967296) % 4294967296 = (v + (p + q + r + s + u)) % 4294967296 := fun p q r s u v => by omega
  rw [e1, e2]
  simp only [T8.next, rt1, rt2, T8.L]
theorem b2_loop {t : T8} (ht : t.Lt) {K : List Nat} {w : List Nat} {Kl wi : List Int} (hK : ∀ j, j < 64 → Kl[j]? = some ((K.getD j 0 : Nat) : Int)) (hw : ∀ j, j < 64 → wi[j]? = some ((wd w j : Nat) : Int)) :
    loopF (τ := List Int) (fun s : Int × List Int => l_ref1_block_b2 Kl wi s.1 s.2) (0, t.L) = some (t.run K w 64).L := by
  have key : ∃ s', loopF (τ := List Int) (fun s : Int × List Int => l_ref1_block_b2 Kl wi s.1 s.2) (((0 : Nat) : Int), t.L) = some s' ∧ s' = (t.run K w 64).L := by
    refine loop_inv (body := fun s : Int × List Int => l_ref1_block_b2 Kl wi s.1 s.2) (fun i s => s = (t.run K w i).L) 64 (fun i s hi hI => ?_) (fun s hI => rfl) 64 0 t.L rfl rfl
    subst hI
    exact ⟨_, b2_step (T8.run_lt ht K w i) (hK i hi) (hw i hi) hi, rfl⟩
  obtain ⟨s', h1, h2⟩ := key
  rw [h2] at h1; exact h1
/-! ### the block -/
theorem b3_loop {t v : T8} : loopF (τ := List Int) (fun s : Int × List Int => l_ref1_block_b3 v.L s.1 s.2) (0, t.L) = some [(((t.a + v.a) % 4294967296 : Nat) : Int), (((t.b + v.b) % 4294967296 : Nat) : Int), (((t.c + v.c) % 4294967296 : Nat) : Int), (((t.d + v.d) % 4294967296 : Nat) : Int), (((t.e + v.e) % 4294967296 : Nat) : Int), (((t.f + v.f) % 4294967296 : Nat) : Int), (((t.g + v.g) % 4294967296 : Nat) : Int), (((t.h + v.h) % 4294967296 : Nat) : Int)] := by
  obtain ⟨a, b, c, d, e, f, g, h⟩ := t
  obtain ⟨a', b', c', d', e', f', g', h'⟩ := v
  have wr : ∀ p q : Nat, IntKind.wrap .u32 ((p : Int) + (q : Int)) = (((p + q) % 4294967296 : Nat) : Int) := fun p q => by rw [← wrap32]; congr 1
  have st : ∀ (i : Nat) (l r : List Int) (p q : Nat), i < 8 → l[i]? = some (p : Int) → r[i]? = some (q : Int) → l_ref1_block_b3 r (i : Int) l = some (.inl ((i : Int) + 1, l.set i (((p + q) % 4294967296 : Nat) : Int))) := fun i l r p q hi h1 h2 => by
    unfold l_ref1_block_b3
    have hdec : decide ((i : Int) < 8) = true := by simp; omega
    rw [hdec, cond_true, idx_nat, h1, Option.bind_some, idx_nat, h2, Option.bind_some, ensure_bind (by omega), wr, Int.toNat_natCast]
  rw [loopF_inl (st 0 _ _ a a' (by omega) rfl rfl), loopF_inl (st 1 _ _ b b' (by omega) rfl rfl), loopF_inl (st 2 _ _ c c' (by omega) rfl rfl), loopF_inl (st 3 _ _ d d' (by omega) rfl rfl), loopF_inl (st 4 _ _ e e' (by omega) rfl rfl), loopF_inl (st 5 _ _ f f' (by omega) rfl rfl), loopF_inl (st 6 _ _ g g' (by omega) rfl rfl), loopF_inl (st 7 _ _ h h' (by omega) rfl rfl)]
  exact loopF_inr rfl
def T8.add (t v : T8) : T8 := ⟨(t.a + v.a) % 4294967296, (t.b + v.b) % 4294967296, (t.c + v.c) % 4294967296, (t.d + v.d) % 4294967296, (t.e + v.e) % 4294967296, (t.f + v.f) % 4294967296, (t.g + v.g) % 4294967296, (t.h + v.h) % 4294967296⟩
theorem T8.add_lt (t v : T8) : (t.add v).Lt := ⟨Nat.mod_lt _ (by omega), Nat.mod_lt _ (by omega), Nat.mod_lt _ (by omega), Nat.mod_lt _ (by omega), Nat.mod_lt _ (by omega), Nat.mod_lt _ (by omega), Nat.mod_lt _ (by omega), Nat.mod_lt _ (by omega)⟩
/-- A block goes in. -/
def T8.blk (t : T8) (w : List Nat) : T8 := t.add (t.run shaK w 64)
def cws (c : Txt) : List Nat := (List.range 16).map (cw c)
theorem block_eq {t : T8} (ht : t.Lt) {c : Txt} (hc : c.size = 64) : l_ref1_block t.L c = some (t.blk (cws c)).L := by
  have hl : (cws c).length = 16 := by simp [cws]
  have hlt : ∀ x ∈ cws c, x < 4294967296 := fun x hx => by
    obtain ⟨i, _, rfl⟩ := List.mem_map.1 hx
    exact cw_lt c i
  obtain ⟨s0, h0, l0, e0⟩ := b0_loop hc
  have e0' : ∀ j, j < 16 → s0[j]? = some ((wd (cws c) j : Nat) : Int) := fun j hj => by
    rw [e0 j hj, wd_first hl hj]
    simp [cws, List.getD_eq_getElem?_getD, hj]
  obtain ⟨s1, h1, l1, e1⟩ := b1_loop hl hlt l0 e0'
  have hK : ∀ j, j < 64 → (shaK.map fun k : Nat => (k : Int))[j]? = some ((shaK.getD j 0 : Nat) : Int) := fun j hj => by
    have hk : j < shaK.length := hj
    rw [List.getElem?_map, List.getElem?_eq_getElem hk, List.getD_eq_getElem?_getD, List.getElem?_eq_getElem hk]; rfl
  have h2 := b2_loop ht hK e1
  have h3 := b3_loop (t := t) (v := t.run shaK (cws c) 64)
  have htab : l_ref1_table = some (shaK.map fun k : Nat => (k : Int)) := rfl
  unfold l_ref1_block
  have hL : t.L.length = 8 := rfl
  rw [ensure_bind hL, htab, Option.bind_some, ensure_bind (by rfl), h0, Option.bind_some]
  show Option.bind (loopF (τ := List Int) (fun s : Int × List Int => l_ref1_block_b1 s.1 s.2) (16, s0)) _ = _
  rw [h1, Option.bind_some]
  show Option.bind (ensure (t.L.length = 8)) _ = _
  rw [ensure_bind hL, ensure_bind hL, h2, Option.bind_some]
  show Option.bind (loopF (τ := List Int) (fun s : Int × List Int => l_ref1_block_b3 (t.run shaK (cws c) 64).L s.1 s.2) (0, t.L)) _ = _
  rw [h3, Option.bind_some]
  exact rfl
end Go.Proofs.YtnkkfmnpkgjabaaGreat.Y
