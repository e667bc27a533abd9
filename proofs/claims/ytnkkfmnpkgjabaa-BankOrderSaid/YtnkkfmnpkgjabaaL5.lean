/- Steps of a region that draws its order: a store behind which only such claims stand open as hang on nothing. -/
import Derived.Test.YtnkkfmnpkgjabaaL4
namespace Go.Proofs.Ytnkkfmnpkgjabaa.X
open Go.RowKit
set_option linter.unusedVariables false
set_option linter.unusedSimpArgs false

section
variable {P : Program} {N : Nat} {ops : Array Oper} {Q : Exit → T → BS → Prop} {o o2 : Oper} {rest : List Oper} {t : T} {bs : BS} {y : A} {cl : List Clm} {n m d : Nat} {idx : Idx}
def needy : Option (List (Nat × List A)) → Bool
  | some (_ :: _) => true
  | _ => false
def settleN (ops : Array Oper) (idx : Idx) (fl : List (Nat × Bool)) (i : Nat) : Bool := fl.all fun q => !q.2 || (depB ops ops.size i q.1 && (List.range ops.size).all fun j => inI idx j || j == i || depB ops ops.size j q.1)
/-- What turns one's own: each claim is settled by then, or holds on. -/
theorem ADl.w2 {R : A → BS → Prop} (hq : OpW P o t bs R) (hg : o.guard = none := by rfl) (hdN : okD N o.dst = true := by rfl) (hk : okOps o = true := by rfl) (hd : depsI ops idx n = true := by decide +kernel) (hl : loudI ops idx n = true := by decide +kernel) (hm : n + 1 = m := by exact (by (conv => lhs; whnf) <;> rfl))
    (fl : List (Nat × Bool)) (hfl : cl.map (fun c => (c.i, needy c.need)) = fl) (hst : settleN ops idx fl n = true)
    (h : ∀ y bs', R y bs' → ADl P N ops Q m ((n, true) :: idx) rest (⟨n, y, some []⟩ :: cl) (putA t o.dst y) bs') : ADl P N ops Q n idx (o :: rest) cl t bs := by
  subst hm
  intro h1 h2 hk3
  obtain ⟨hi, h2⟩ := drop_get h2
  obtain ⟨e1, ex, e2⟩ := depsI_1 h1 hd
  obtain ⟨e3, e4⟩ := loudI_1 h1 hl
  have hlt : n < ops.size := (Array.getElem?_eq_some_iff.1 hi).1
  have key : ∀ c ∈ cl, ∀ L, c.need = some L → L = [] ∨ (depB ops ops.size n c.i = true ∧ ∀ j ∈ List.range ops.size, (inI idx j || j == n || depB ops ops.size j c.i) = true) := by
    intro c hc L hL
    cases L with
    | nil => exact .inl rfl
    | cons x r =>
      right
      have h5 := List.all_eq_true.1 hst (c.i, needy c.need) (by rw [← hfl]; exact List.mem_map.2 ⟨c, hc, rfl⟩)
      rw [hL] at h5
      simp only [needy, Bool.not_true, Bool.false_or, Bool.and_eq_true] at h5
      exact ⟨h5.1, fun j hj => List.all_eq_true.1 h5.2 j hj⟩
  refine .w n hi e1 ex e2 hdN hg hk hq e3 (fun _ _ _ c hc hf hdp => (e4 c hc hf hdp).elim) (fun y bs' hR c hc L hL hdp => ?_) fun y bs' hR => h y bs' hR (by simp [h1]) h2 ?_
  · rcases key c hc L hL with rfl | ⟨k1, _⟩
    · exact needs_nil
    · rw [k1] at hdp; cases hdp
  · intro c hc L hL
    rcases List.mem_cons.1 hc with rfl | hc
    · cases hL; exact .inl needs_nil
    · rcases key c hc L hL with rfl | ⟨_, k2⟩
      · exact .inl needs_nil
      · refine .inr (List.all_eq_true.2 fun j hj => ?_)
        have h6 := k2 j hj
        simp only [Bool.or_eq_true] at h6 ⊢
        rcases h6 with (h6 | h6) | h6
        · left; exact claimed_cons (by rw [claimed_fun h1]; exact h6)
        · left
          have : j = n := by simpa using h6
          subst this
          simp [claimed]
        · exact .inr h6
theorem ADl.store_s {ty : TypeId} {x z : Operand} {g p sz by_ : Nat} {d : TypeDesc} {cs cs' : List A} {bs' : BS} (ho : o.op = .store ty x z := by rfl) (h1 : TI P ty d sz by_ := by infer_instance) (hx : Wk (evA t x) (.ptr g p) := by exact (by first | exact Wk.refl _ | exact Wk.nil | exact Wk.clip _ | exact Wk.tip _ _ _ | exact Wk.opt _ _ (by first | assumption | rfl) | exact Wk.gr _ _ | exact Wk.nil_gr | exact Wk.trans (Wk.opt _ _ (by first | assumption | rfl)) (by first | exact Wk.gr _ _ | exact Wk.nil | exact Wk.clip _ | exact Wk.tip _ _ _) | exact Wk.aggs (by repeat (first | exact Wks.nil | refine Wks.cons (by first | exact Wk.refl _ | exact Wk.nil | exact Wk.clip _ | exact Wk.tip _ _ _ | exact Wk.gr _ _ | exact Wk.nil_gr) ?_)) rfl)) (hz : Wk (evA t z) y := by exact (by first | exact Wk.opt _ _ (by first | assumption | rfl) | exact Wk.of_eq (by (conv => lhs; whnf) <;> rfl))) (hc : y.isCell = true ∨ ∃ xs, y = .agg xs := by exact (by first | exact .inl rfl | exact .inr ⟨_, rfl⟩)) (hmm : (g, .cells cs) ∈ bs := by exact (by repeat (first | exact List.mem_cons_self | assumption | refine List.mem_cons_of_mem _ ?_ | refine mem_gB ?_))) (hcs : spl cs p (cellsOf y) = cs' := by exact (by first | ((simp only [spl, cellsOf, List.set_cons_zero, List.set_cons_succ]) <;> rfl) | rfl)) (hu : BUpd bs g (.cells cs) g (.cells cs') bs' := by exact (by repeat (first | exact BUpd.head | apply BUpd.tail | apply BUpd.gB))) (hl : p + sz ≤ cs.length := by exact (by first | rfl | (simp; done) | (simp only [List.length_map]; omega) | (simp; omega) | omega)) (hs : (cellsOf y).length = sz := by exact (by first | rfl | (simp; done) | (simp only [List.length_map]; omega) | (simp; omega) | omega))
    (hg : o.guard = none := by rfl) (hdst : o.dst = none := by rfl) (hk : okOps o = true := by rfl) (hd : depsI ops idx n = true := by decide +kernel) (hld : loudI ops idx n = true := by decide +kernel) {fl : List (Nat × Bool)} (hfl : cl.map (fun c => (c.i, needy c.need)) = fl := by (simp only [List.map_cons, List.map_nil, needy]) <;> rfl) (hst : settleN ops idx fl n = true := by decide +kernel) (hm : n + 1 = m := by exact (by (conv => lhs; whnf) <;> rfl))
    (h : ADl P N ops Q m ((n, true) :: idx) rest (⟨n, .junk, some []⟩ :: cl) t bs') : ADl P N ops Q n idx (o :: rest) cl t bs :=
  .w2 (OpW.store ho hx hz hc hmm hcs hu hl hs) hg (by rw [hdst]; rfl) hk hd hld hm fl hfl hst fun _ _ ⟨e1, e2⟩ => by subst e1; subst e2; rw [hdst]; exact h
theorem ADl.store_all_s {ty : TypeId} {x z : Operand} {g sz by_ : Nat} {d : TypeDesc} {cs ys : List A} {bs' : BS} (ho : o.op = .store ty x z := by rfl) (h1 : TI P ty d sz by_ := by infer_instance) (hx : Wk (evA t x) (.ptr g 0) := by exact (by first | exact Wk.refl _ | exact Wk.nil | exact Wk.clip _ | exact Wk.tip _ _ _ | exact Wk.opt _ _ (by first | assumption | rfl) | exact Wk.gr _ _ | exact Wk.nil_gr | exact Wk.trans (Wk.opt _ _ (by first | assumption | rfl)) (by first | exact Wk.gr _ _ | exact Wk.nil | exact Wk.clip _ | exact Wk.tip _ _ _) | exact Wk.aggs (by repeat (first | exact Wks.nil | refine Wks.cons (by first | exact Wk.refl _ | exact Wk.nil | exact Wk.clip _ | exact Wk.tip _ _ _ | exact Wk.gr _ _ | exact Wk.nil_gr) ?_)) rfl)) (hz : Wk (evA t z) (.agg ys) := by exact (by first | exact Wk.refl _ | exact Wk.nil | exact Wk.clip _ | exact Wk.tip _ _ _ | exact Wk.opt _ _ (by first | assumption | rfl) | exact Wk.gr _ _ | exact Wk.nil_gr | exact Wk.trans (Wk.opt _ _ (by first | assumption | rfl)) (by first | exact Wk.gr _ _ | exact Wk.nil | exact Wk.clip _ | exact Wk.tip _ _ _) | exact Wk.aggs (by repeat (first | exact Wks.nil | refine Wks.cons (by first | exact Wk.refl _ | exact Wk.nil | exact Wk.clip _ | exact Wk.tip _ _ _ | exact Wk.gr _ _ | exact Wk.nil_gr) ?_)) rfl)) (hmm : (g, .cells cs) ∈ bs := by exact (by repeat (first | exact List.mem_cons_self | assumption | refine List.mem_cons_of_mem _ ?_ | refine mem_gB ?_))) (hu : BUpd bs g (.cells cs) g (.cells ys) bs' := by exact (by repeat (first | exact BUpd.head | apply BUpd.tail | apply BUpd.gB))) (hl : cs.length = sz := by exact (by first | rfl | (simp; done) | (simp only [List.length_map]; omega) | (simp; omega) | omega)) (hs : ys.length = sz := by exact (by first | rfl | (simp; done) | (simp only [List.length_map]; omega) | (simp; omega) | omega))
    (hg : o.guard = none := by rfl) (hdst : o.dst = none := by rfl) (hk : okOps o = true := by rfl) (hd : depsI ops idx n = true := by decide +kernel) (hld : loudI ops idx n = true := by decide +kernel) {fl : List (Nat × Bool)} (hfl : cl.map (fun c => (c.i, needy c.need)) = fl := by (simp only [List.map_cons, List.map_nil, needy]) <;> rfl) (hst : settleN ops idx fl n = true := by decide +kernel) (hm : n + 1 = m := by exact (by (conv => lhs; whnf) <;> rfl))
    (h : ADl P N ops Q m ((n, true) :: idx) rest (⟨n, .junk, some []⟩ :: cl) t bs') : ADl P N ops Q n idx (o :: rest) cl t bs :=
  .w2 (OpW.store ho hx hz (.inr ⟨_, rfl⟩) hmm (show spl cs 0 ys = ys from spl_all _ _ (by omega)) hu (by omega) hs) hg (by rw [hdst]; rfl) hk hd hld hm fl hfl hst fun _ _ ⟨e1, e2⟩ => by subst e1; subst e2; rw [hdst]; exact h
/-- One step on, where the order is drawn. -/
theorem goE {G H : Prop} (s : H → G := by
    first
    | ((with_reducible show _ → ADl _ _ _ _ _ _ (_ :: _) _ _ _); first | exact fun h => ADl.skip (h := h))
    | ((with_reducible show _ → ADl _ _ _ _ _ _ (⟨_, _, _, _, _, some _⟩ :: _) _ _ _); first | exact fun h => ADl.fgF (h := h) | exact fun h => ADl.fg (h := h) | exact fun h => ADl.mloadg (h := h) | exact fun h => ADl.bg (h := h))
    | ((with_reducible show _ → ADl _ _ _ _ _ _ (⟨_, .store _ _ _, _, _, _, _⟩ :: _) _ _ _); first | exact fun h => ADl.store (h := h) | exact fun h => ADl.store_all (h := h) | exact fun h => ADl.store_s (h := h) | exact fun h => ADl.store_all_s (h := h) | exact fun h => ADl.ahead (h := h) | exact fun h => ADl.ahead2 (h := h))
    | ((with_reducible show _ → ADl _ _ _ _ _ _ (⟨_, .alloc _, _, _, _, _⟩ :: _) _ _ _); first | exact fun h => ADl.alloc (h := h) | exact fun h => ADl.ahead (h := h) | exact fun h => ADl.ahead2 (h := h))
    | ((with_reducible show _ → ADl _ _ _ _ _ _ (⟨_, .buildSlice _ _ _, _, _, _, _⟩ :: _) _ _ _); first | exact fun h => ADl.lits (h := h))
    | ((with_reducible show _ → ADl _ _ _ _ _ _ (⟨_, .load _ _, _, _, _, _⟩ :: _) _ _ _); first | exact fun h => ADl.f (h := h) | exact fun h => ADl.mload (h := h) | exact fun h => ADl.b (h := h))
    | ((with_reducible show _ → ADl _ _ _ _ _ _ (_ :: _) _ _ _); first | exact fun h => ADl.f (h := h) | exact fun h => ADl.b (h := h))
    | ((with_reducible show _ → ADl _ _ _ _ _ _ [_] _ _ _); first | exact fun h => ADl.last (h := h))
    | ((with_reducible show _ → ADl _ _ _ _ _ _ [] _ _ _); first | exact fun h => ADl.done h)
    | ((with_reducible show _ → AW _ _ (.region _ _ true) _ _ _); first | exact fun h => ADl.in_ (h := h))) (h : H) : G := s h
end
end Go.Proofs.Ytnkkfmnpkgjabaa.X
