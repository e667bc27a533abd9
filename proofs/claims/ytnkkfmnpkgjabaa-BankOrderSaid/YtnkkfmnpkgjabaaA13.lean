/- The same logic: steps of a region that draws its order: one operation behind the other, as they are laid; the checks on the order are closed. -/
import Derived.Test.YtnkkfmnpkgjabaaA11
namespace Go.Proofs.Ytnkkfmnpkgjabaa.X
open Go.RowKit
set_option linter.unusedVariables false
set_option linter.unusedSimpArgs false

abbrev Idx := List (Nat × Bool)
def inI (idx : Idx) (i : Nat) : Bool := idx.any fun q => Nat.beq q.1 i
def depsI (ops : Array Oper) (idx : Idx) (i : Nat) : Bool := !inI idx i && (edgesOf ops i).all (inI idx) && strictI ops i
def endI (ops : Array Oper) (idx : Idx) (i : Nat) : Bool := !inI idx i && (List.range ops.size).all (fun j => inI idx j || j == i) && (List.range ops.size).all (fun j => j == i || depB ops ops.size i j)
/-- All but those that are claimed stand behind i; what hangs on blocks is ahead of it. -/
def loudI (ops : Array Oper) (idx : Idx) (i : Nat) : Bool :=
  (List.range ops.size).all (fun j => inI idx j || j == i || depB ops ops.size j i) && idx.all fun q => q.2 || depB ops ops.size i q.1
def doneI (ops : Array Oper) (idx : Idx) : Bool := (List.range ops.size).all (inI idx)
theorem needs_nil {bs : BS} : needs [] bs := fun _ h => nomatch h
/-- What claims hang on is there, or they are done when anything else turns. -/
def Hk (ops : Array Oper) (cl : List Clm) (bs : BS) : Prop := ∀ c ∈ cl, ∀ L, c.need = some L → needs L bs ∨ (List.range ops.size).all (fun j => claimed cl j || depB ops ops.size j c.i) = true
theorem claimed_cons {c : Clm} {cl : List Clm} {j : Nat} (h : claimed cl j = true) : claimed (c :: cl) j = true := by
  unfold claimed at h ⊢; rw [List.any_cons, h, Bool.or_true]
theorem Hk.cons {ops : Array Oper} {cl : List Clm} {bs : BS} {c : Clm} (h : Hk ops cl bs) (h0 : ∀ L, c.need = some L → needs L bs) : Hk ops (c :: cl) bs := fun c' hc L hL => by
  rcases List.mem_cons.1 hc with rfl | hc
  · exact .inl (h0 L hL)
  · refine (h c' hc L hL).imp id fun h => List.all_eq_true.2 fun j hj => ?_
    have := List.all_eq_true.1 h j hj
    rw [Bool.or_eq_true] at this ⊢
    exact this.imp claimed_cons id
theorem Hk.keep {ops : Array Oper} {cl : List Clm} {bs bs' : BS} (h : Hk ops cl bs) (k : ∀ g cs, (g, Blk.cells cs) ∈ bs → (g, Blk.cells cs) ∈ bs') : Hk ops cl bs' := fun c hc L hL => (h c hc L hL).imp (fun h x hx => k _ _ (h x hx)) id
def settleI (ops : Array Oper) (idx : List (Nat × Bool)) (i : Nat) : Bool := idx.all fun q => depB ops ops.size i q.1 && (List.range ops.size).all fun j => idx.any (fun p => Nat.beq p.1 j) || j == i || depB ops ops.size j q.1
theorem Hk.keep2 {ops : Array Oper} {cl : List Clm} {bs bs' : BS} (h : Hk ops cl bs) (k : ∀ c ∈ cl, ∀ L, c.need = some L → needs L bs → needs L bs') : Hk ops cl bs' := fun c hc L hL => (h c hc L hL).imp (k c hc L hL) id
def needsP : List (Nat × List A) → BS → Prop
  | [], _ => True
  | x :: r, bs => (x.1, Blk.cells x.2) ∈ bs ∧ needsP r bs
theorem needsP.all {bs : BS} : ∀ {L : List (Nat × List A)}, needsP L bs → needs L bs
  | [], _ => fun _ h => nomatch h
  | _ :: _, h => fun x hx => by
    rcases List.mem_cons.1 hx with rfl | hx
    · exact h.1
    · exact needsP.all h.2 x hx
def needsC : List Clm → BS → Prop
  | [], _ => True
  | ⟨_, _, some L⟩ :: r, bs => needsP L bs ∧ needsC r bs
  | ⟨_, _, none⟩ :: r, bs => needsC r bs
theorem needsC.all {bs : BS} : ∀ {cl : List Clm}, needsC cl bs → ∀ c ∈ cl, ∀ L, c.need = some L → needs L bs
  | [], _ => fun _ h => nomatch h
  | ⟨_, _, some L0⟩ :: r, h => fun c hc L hL => by
    rcases List.mem_cons.1 hc with rfl | hc
    · cases hL; exact h.1.all
    · exact needsC.all h.2 c hc L hL
  | ⟨_, _, none⟩ :: r, h => fun c hc L hL => by
    rcases List.mem_cons.1 hc with rfl | hc
    · cases hL
    · exact needsC.all (cl := r) h c hc L hL
theorem Hk.settle {ops : Array Oper} {cl : List Clm} {bs : BS} {i : Nat} {y : A} (h : settleI ops (cl.map fun c => (c.i, c.need.isSome)) i = true) : Hk ops (⟨i, y, some []⟩ :: cl) bs := fun c hc L hL => by
  rcases List.mem_cons.1 hc with rfl | hc
  · cases hL; exact .inl needs_nil
  · refine .inr (List.all_eq_true.2 fun j hj => ?_)
    have := List.all_eq_true.1 h _ (List.mem_map.2 ⟨c, hc, rfl⟩)
    rw [Bool.and_eq_true] at this
    have := List.all_eq_true.1 this.2 j hj
    rw [Bool.or_eq_true, Bool.or_eq_true] at this
    rw [Bool.or_eq_true]
    rcases this with (h1 | h1) | h1
    · refine .inl (claimed_cons ?_)
      unfold claimed
      rw [List.any_map] at h1
      exact h1
    · left
      unfold claimed
      rw [List.any_cons, Bool.or_eq_true]
      left
      have e : j = i := by simpa using h1
      rw [e]; exact Nat.beq_refl _
    · exact .inr h1
theorem BUpd.keeps {bs bs' : BS} {g g' : Nat} {b b' : Blk} (h : BUpd bs g b g' b' bs') (hb : ∀ cs, b ≠ .cells cs) : ∀ g1 cs, (g1, Blk.cells cs) ∈ bs → (g1, Blk.cells cs) ∈ bs' := by
  induction h with
  | head =>
    intro g1 cs hm
    rcases List.mem_cons.1 hm with e | hm
    · cases e; exact absurd rfl (hb cs)
    · exact List.mem_cons_of_mem _ hm
  | tail _ ih =>
    intro g1 cs hm
    rcases List.mem_cons.1 hm with e | hm
    · exact e ▸ List.mem_cons_self
    · exact List.mem_cons_of_mem _ (ih hb g1 cs hm)
def ADl (P : Program) (N : Nat) (ops : Array Oper) (Q : Exit → T → BS → Prop) (n : Nat) (idx : Idx) (rest : List Oper) (cl : List Clm) (t : T) (bs : BS) : Prop :=
  cl.map (fun c => (c.i, c.need.isSome)) = idx → ops.toList.drop n = rest → Hk ops cl bs → AD P N ops Q cl t bs
section
variable {P : Program} {N : Nat} {ops : Array Oper} {Q : Exit → T → BS → Prop} {o o2 : Oper} {rest : List Oper} {t : T} {bs : BS} {y : A} {cl : List Clm} {n m d : Nat} {idx : Idx}
theorem claimed_inI (h : cl.map (fun c => (c.i, c.need.isSome)) = idx) (i : Nat) : claimed cl i = inI idx i := by
  subst h; unfold claimed inI; rw [List.any_map]; rfl
theorem claimed_fun (h : cl.map (fun c => (c.i, c.need.isSome)) = idx) : claimed cl = inI idx := funext (claimed_inI h)
theorem drop_get (h : ops.toList.drop n = o :: rest) : ops[n]? = some o ∧ ops.toList.drop (n + 1) = rest := by
  have h1 : ops.toList[n]? = some o := by
    have := congrArg (fun l : List Oper => l[0]?) h
    simpa using this
  refine ⟨by simpa using h1, ?_⟩
  rw [← List.drop_drop, h]; rfl
theorem depsI_1 (hi : cl.map (fun c => (c.i, c.need.isSome)) = idx) {i : Nat} (h : depsI ops idx i = true) : claimed cl i = false ∧ strictI ops i = true ∧ (edgesOf ops i).all (claimed cl) = true := by
  unfold depsI at h
  rw [claimed_fun hi]
  simp only [Bool.and_eq_true, Bool.not_eq_true'] at h
  exact ⟨h.1.1, h.2, h.1.2⟩
theorem loudI_1 (hi : cl.map (fun c => (c.i, c.need.isSome)) = idx) {i : Nat} (h : loudI ops idx i = true) : (List.range ops.size).all (fun j => claimed cl j || j == i || depB ops ops.size j i) = true ∧ ∀ c ∈ cl, c.need = none → depB ops ops.size i c.i = false → False := by
  unfold loudI at h
  rw [Bool.and_eq_true] at h
  refine ⟨by rw [claimed_fun hi]; exact h.1, fun c hc hf hd => ?_⟩
  have := List.all_eq_true.1 h.2 (c.i, c.need.isSome) (by rw [← hi]; exact List.mem_map.2 ⟨c, hc, rfl⟩)
  simp [hf, hd] at this
/-- The next one is claimed already. -/
theorem ADl.skip (hs : inI idx n = true := by decide +kernel) (hm : n + 1 = m := by exact (by (conv => lhs; whnf) <;> rfl)) (h : ADl P N ops Q m idx rest cl t bs) : ADl P N ops Q n idx (o :: rest) cl t bs := by
  subst hm
  intro h1 h2 hk3
  exact h h1 (drop_get h2).2 hk3
theorem ADl.done (hq : Q .normal t bs) (hd : doneI ops idx = true := by decide +kernel) : ADl P N ops Q n idx [] cl t bs := fun h1 _ _ => .done (by rw [claimed_fun h1]; exact hd) hq
theorem ADl.f (hg : o.guard = none := by rfl) (hdst : o.dst = some d := by rfl) (hN : Nat.blt d N = true := by rfl) (hk : okOps o = true := by rfl) (hd : depsI ops idx n = true := by decide +kernel) (hq : ∀ bs, OpQ P o t bs y := by (intro bs; exact OpQ.auto)) (hm : n + 1 = m := by exact (by (conv => lhs; whnf) <;> rfl))
    (h : ADl P N ops Q m ((n, true) :: idx) rest (⟨n, y, some []⟩ :: cl) ((d, y) :: t) bs) : ADl P N ops Q n idx (o :: rest) cl t bs := by
  subst hm
  intro h1 h2 hk3
  obtain ⟨hi, h2⟩ := drop_get h2
  obtain ⟨e1, ex, e2⟩ := depsI_1 h1 hd
  exact .free n hi e1 ex e2 (by rw [hdst]; exact hN) [] needs_nil (fun bs _ => (hq bs).s hg hk) (by rw [hdst]; exact h (by simp [h1]) h2 (hk3.cons fun L e => by cases e; exact needs_nil))
theorem ADl.b (hg : o.guard = none := by rfl) (hdst : o.dst = some d := by rfl) (hN : Nat.blt d N = true := by rfl) (hk : okOps o = true := by rfl) (hd : depsI ops idx n = true := by decide +kernel) (hq : OpQ P o t bs y := by exact OpQ.auto) (hm : n + 1 = m := by exact (by (conv => lhs; whnf) <;> rfl))
    (h : ADl P N ops Q m ((n, false) :: idx) rest (⟨n, y, none⟩ :: cl) ((d, y) :: t) bs) : ADl P N ops Q n idx (o :: rest) cl t bs := by
  subst hm
  intro h1 h2 hk3
  obtain ⟨hi, h2⟩ := drop_get h2
  obtain ⟨e1, ex, e2⟩ := depsI_1 h1 hd
  exact .q n hi e1 ex e2 (by rw [hdst]; exact hN) (hq.s hg hk) (by rw [hdst]; exact h (by simp [h1]) h2 (hk3.cons fun L e => by cases e))
theorem ADl.fg {j dj : Nat} {oj : Oper} {want bc : Bool} (hg : o.guard = some (j, want) := by rfl) (hj : ops[j]? = some oj := by rfl) (hdj : oj.dst = some dj := by rfl) (hb : GB t dj want bc := by first | exact GB.v (by first | exact Wk.refl _ | exact Wk.nil | exact Wk.clip _ | exact Wk.tip _ _ _ | exact Wk.opt _ _ (by first | assumption | rfl) | exact Wk.gr _ _ | exact Wk.nil_gr | exact Wk.trans (Wk.opt _ _ (by first | assumption | rfl)) (by first | exact Wk.gr _ _ | exact Wk.nil | exact Wk.clip _ | exact Wk.tip _ _ _) | exact Wk.aggs (by repeat (first | exact Wks.nil | refine Wks.cons (by first | exact Wk.refl _ | exact Wk.nil | exact Wk.clip _ | exact Wk.tip _ _ _ | exact Wk.gr _ _ | exact Wk.nil_gr) ?_)) rfl) (by first | exact bqt _ | exact bqf _ | exact cbt _ _ | exact cbf _ _ | rfl) | exact GB.o (by rfl) (by first | exact bqt _ | exact bqf _ | exact cbt _ _ | exact cbf _ _ | rfl)) (hlt : dj < N := by decide) (hdst : o.dst = some d := by rfl) (hN : Nat.blt d N = true := by rfl) (hk : okOps o = true := by rfl) (hd : depsI ops idx n = true := by decide +kernel) (hq : ∀ bs, bc = true → OpQ P o t bs y := by (intro bs hgb; exact OpQ.auto)) (hm : n + 1 = m := by exact (by (conv => lhs; whnf) <;> rfl))
    (h : ADl P N ops Q m ((n, true) :: idx) rest (⟨n, .opt bc y, some []⟩ :: cl) ((d, .opt bc y) :: t) bs) : ADl P N ops Q n idx (o :: rest) cl t bs := by
  subst hm
  intro h1 h2 hk3
  obtain ⟨hi, h2⟩ := drop_get h2
  obtain ⟨e1, ex, e2⟩ := depsI_1 h1 hd
  exact .free n hi e1 ex e2 (by rw [hdst]; exact hN) [] needs_nil (fun bs _ => OpS.guard hg hj hdj hb hlt (hq bs) hk) (by rw [hdst]; exact h (by simp [h1]) h2 (hk3.cons fun L e => by cases e; exact needs_nil))
/-- A guard that is known to be shut. -/
theorem ADl.fgF {j dj : Nat} {oj : Oper} {want : Bool} (hg : o.guard = some (j, want) := by rfl) (hj : ops[j]? = some oj := by rfl) (hdj : oj.dst = some dj := by rfl) (hb : GB t dj want false := by first | exact GB.v (by first | exact Wk.refl _ | exact Wk.nil | exact Wk.clip _ | exact Wk.tip _ _ _ | exact Wk.opt _ _ (by first | assumption | rfl) | exact Wk.gr _ _ | exact Wk.nil_gr | exact Wk.trans (Wk.opt _ _ (by first | assumption | rfl)) (by first | exact Wk.gr _ _ | exact Wk.nil | exact Wk.clip _ | exact Wk.tip _ _ _) | exact Wk.aggs (by repeat (first | exact Wks.nil | refine Wks.cons (by first | exact Wk.refl _ | exact Wk.nil | exact Wk.clip _ | exact Wk.tip _ _ _ | exact Wk.gr _ _ | exact Wk.nil_gr) ?_)) rfl) (by rfl) | exact GB.o (by rfl) (by rfl)) (hlt : dj < N := by decide) (hdst : o.dst = some d := by rfl) (hN : Nat.blt d N = true := by rfl) (hk : okOps o = true := by rfl) (hd : depsI ops idx n = true := by decide +kernel) (hm : n + 1 = m := by exact (by (conv => lhs; whnf) <;> rfl))
    (h : ADl P N ops Q m ((n, true) :: idx) rest (⟨n, .opt false .junk, some []⟩ :: cl) ((d, .opt false .junk) :: t) bs) : ADl P N ops Q n idx (o :: rest) cl t bs :=
  .fg hg hj hdj hb hlt hdst hN hk hd (fun bs h => by cases h) hm h
theorem ADl.bg {j dj : Nat} {oj : Oper} {want bc : Bool} (hg : o.guard = some (j, want) := by rfl) (hj : ops[j]? = some oj := by rfl) (hdj : oj.dst = some dj := by rfl) (hb : GB t dj want bc := by first | exact GB.v (by first | exact Wk.refl _ | exact Wk.nil | exact Wk.clip _ | exact Wk.tip _ _ _ | exact Wk.opt _ _ (by first | assumption | rfl) | exact Wk.gr _ _ | exact Wk.nil_gr | exact Wk.trans (Wk.opt _ _ (by first | assumption | rfl)) (by first | exact Wk.gr _ _ | exact Wk.nil | exact Wk.clip _ | exact Wk.tip _ _ _) | exact Wk.aggs (by repeat (first | exact Wks.nil | refine Wks.cons (by first | exact Wk.refl _ | exact Wk.nil | exact Wk.clip _ | exact Wk.tip _ _ _ | exact Wk.gr _ _ | exact Wk.nil_gr) ?_)) rfl) (by first | exact bqt _ | exact bqf _ | exact cbt _ _ | exact cbf _ _ | rfl) | exact GB.o (by rfl) (by first | exact bqt _ | exact bqf _ | exact cbt _ _ | exact cbf _ _ | rfl)) (hlt : dj < N := by decide) (hdst : o.dst = some d := by rfl) (hN : Nat.blt d N = true := by rfl) (hk : okOps o = true := by rfl) (hd : depsI ops idx n = true := by decide +kernel) (hq : bc = true → OpQ P o t bs y := by (intro hgb; exact OpQ.auto)) (hm : n + 1 = m := by exact (by (conv => lhs; whnf) <;> rfl))
    (h : ADl P N ops Q m ((n, false) :: idx) rest (⟨n, .opt bc y, none⟩ :: cl) ((d, .opt bc y) :: t) bs) : ADl P N ops Q n idx (o :: rest) cl t bs := by
  subst hm
  intro h1 h2 hk3
  obtain ⟨hi, h2⟩ := drop_get h2
  obtain ⟨e1, ex, e2⟩ := depsI_1 h1 hd
  exact .q n hi e1 ex e2 (by rw [hdst]; exact hN) (OpS.guard hg hj hdj hb hlt hq hk) (by rw [hdst]; exact h (by simp [h1]) h2 (hk3.cons fun L e => by cases e))
/-- Calls that turn nothing. -/
theorem ADl.call {K : Nat} {args : Array Operand} {tys : Array TypeId} {xs : List A} (hc : APure P K xs y) (ho : o.op = .call { callee := .value (.func K), args, argTypes := tys } := by rfl) [hF : FI P K] (ha : Wks (args.toList.map (evA t)) xs := by (repeat (first | exact Wks.nil | refine Wks.cons (by first | exact Wk.refl _ | exact Wk.nil | exact Wk.clip _ | exact Wk.tip _ _ _ | exact Wk.opt _ _ (by first | assumption | rfl) | exact Wk.gr _ _ | exact Wk.nil_gr | exact Wk.trans (Wk.opt _ _ (by first | assumption | rfl)) (by first | exact Wk.gr _ _ | exact Wk.nil | exact Wk.clip _ | exact Wk.tip _ _ _) | exact Wk.aggs (by repeat (first | exact Wks.nil | refine Wks.cons (by first | exact Wk.refl _ | exact Wk.nil | exact Wk.clip _ | exact Wk.tip _ _ _ | exact Wk.gr _ _ | exact Wk.nil_gr) ?_)) rfl) ?_))) (hg : o.guard = none := by rfl) (hdst : o.dst = some d := by rfl) (hN : Nat.blt d N = true := by rfl) (hk : okOps o = true := by rfl) (hd : depsI ops idx n = true := by decide +kernel) (hm : n + 1 = m := by exact (by (conv => lhs; whnf) <;> rfl))
    (h : ADl P N ops Q m ((n, true) :: idx) rest (⟨n, y, some []⟩ :: cl) ((d, y) :: t) bs) : ADl P N ops Q n idx (o :: rest) cl t bs := ADl.f hg hdst hN hk hd (fun bs => OpQ.call ho hc ha) hm h
theorem ADl.callv {K : Nat} {x : Operand} {args : Array Operand} {tys : Array TypeId} {xs x1 x2 : List A} (hc : APure P K xs y) (ho : o.op = .call { callee := .value x, args, argTypes := tys } := by rfl) [hF : FI P K] (hx : Wk (evA t x) (.fn (.func K) x1 x2) := by exact (by first | exact Wk.refl _ | exact Wk.nil | exact Wk.clip _ | exact Wk.tip _ _ _ | exact Wk.opt _ _ (by first | assumption | rfl) | exact Wk.gr _ _ | exact Wk.nil_gr | exact Wk.trans (Wk.opt _ _ (by first | assumption | rfl)) (by first | exact Wk.gr _ _ | exact Wk.nil | exact Wk.clip _ | exact Wk.tip _ _ _) | exact Wk.aggs (by repeat (first | exact Wks.nil | refine Wks.cons (by first | exact Wk.refl _ | exact Wk.nil | exact Wk.clip _ | exact Wk.tip _ _ _ | exact Wk.gr _ _ | exact Wk.nil_gr) ?_)) rfl)) (ha : Wks (x1 ++ args.toList.map (evA t) ++ x2) xs := by (repeat (first | exact Wks.nil | refine Wks.cons (by first | exact Wk.refl _ | exact Wk.nil | exact Wk.clip _ | exact Wk.tip _ _ _ | exact Wk.opt _ _ (by first | assumption | rfl) | exact Wk.gr _ _ | exact Wk.nil_gr | exact Wk.trans (Wk.opt _ _ (by first | assumption | rfl)) (by first | exact Wk.gr _ _ | exact Wk.nil | exact Wk.clip _ | exact Wk.tip _ _ _) | exact Wk.aggs (by repeat (first | exact Wks.nil | refine Wks.cons (by first | exact Wk.refl _ | exact Wk.nil | exact Wk.clip _ | exact Wk.tip _ _ _ | exact Wk.gr _ _ | exact Wk.nil_gr) ?_)) rfl) ?_))) (hg : o.guard = none := by rfl) (hdst : o.dst = some d := by rfl) (hN : Nat.blt d N = true := by rfl) (hk : okOps o = true := by rfl) (hd : depsI ops idx n = true := by decide +kernel) (hm : n + 1 = m := by exact (by (conv => lhs; whnf) <;> rfl))
    (h : ADl P N ops Q m ((n, true) :: idx) rest (⟨n, y, some []⟩ :: cl) ((d, y) :: t) bs) : ADl P N ops Q n idx (o :: rest) cl t bs := ADl.f hg hdst hN hk hd (fun bs => OpQ.callv ho hx hc rfl ha) hm h
theorem ADl.callg {K j dj : Nat} {oj : Oper} {want bc : Bool} {args : Array Operand} {tys : Array TypeId} {xs : List A} (hc : bc = true → APure P K xs y) (ho : o.op = .call { callee := .value (.func K), args, argTypes := tys } := by rfl) [hF : FI P K] (hg : o.guard = some (j, want) := by rfl) (hj : ops[j]? = some oj := by rfl) (hdj : oj.dst = some dj := by rfl) (hb : GB t dj want bc := by first | exact GB.v (by first | exact Wk.refl _ | exact Wk.nil | exact Wk.clip _ | exact Wk.tip _ _ _ | exact Wk.opt _ _ (by first | assumption | rfl) | exact Wk.gr _ _ | exact Wk.nil_gr | exact Wk.trans (Wk.opt _ _ (by first | assumption | rfl)) (by first | exact Wk.gr _ _ | exact Wk.nil | exact Wk.clip _ | exact Wk.tip _ _ _) | exact Wk.aggs (by repeat (first | exact Wks.nil | refine Wks.cons (by first | exact Wk.refl _ | exact Wk.nil | exact Wk.clip _ | exact Wk.tip _ _ _ | exact Wk.gr _ _ | exact Wk.nil_gr) ?_)) rfl) (by first | exact bqt _ | exact bqf _ | exact cbt _ _ | exact cbf _ _ | rfl) | exact GB.o (by rfl) (by first | exact bqt _ | exact bqf _ | exact cbt _ _ | exact cbf _ _ | rfl)) (hlt : dj < N := by decide) (ha : bc = true → Wks (args.toList.map (evA t)) xs := by (intro hgb; repeat (first | exact Wks.nil | refine Wks.cons (by first | exact Wk.refl _ | exact Wk.nil | exact Wk.clip _ | exact Wk.tip _ _ _ | exact Wk.opt _ _ (by first | assumption | rfl) | exact Wk.gr _ _ | exact Wk.nil_gr | exact Wk.trans (Wk.opt _ _ (by first | assumption | rfl)) (by first | exact Wk.gr _ _ | exact Wk.nil | exact Wk.clip _ | exact Wk.tip _ _ _) | exact Wk.aggs (by repeat (first | exact Wks.nil | refine Wks.cons (by first | exact Wk.refl _ | exact Wk.nil | exact Wk.clip _ | exact Wk.tip _ _ _ | exact Wk.gr _ _ | exact Wk.nil_gr) ?_)) rfl) ?_))) (hdst : o.dst = some d := by rfl) (hN : Nat.blt d N = true := by rfl) (hk : okOps o = true := by rfl) (hd : depsI ops idx n = true := by decide +kernel) (hm : n + 1 = m := by exact (by (conv => lhs; whnf) <;> rfl))
    (h : ADl P N ops Q m ((n, true) :: idx) rest (⟨n, .opt bc y, some []⟩ :: cl) ((d, .opt bc y) :: t) bs) : ADl P N ops Q n idx (o :: rest) cl t bs := ADl.fg hg hj hdj hb hlt hdst hN hk hd (fun bs hbc => OpQ.call ho (hc hbc) (ha hbc)) hm h
theorem ADl.callvg {K j dj : Nat} {oj : Oper} {want bc : Bool} {x : Operand} {args : Array Operand} {tys : Array TypeId} {xs x1 x2 : List A} (hc : bc = true → APure P K xs y) (ho : o.op = .call { callee := .value x, args, argTypes := tys } := by rfl) [hF : FI P K] (hg : o.guard = some (j, want) := by rfl) (hj : ops[j]? = some oj := by rfl) (hdj : oj.dst = some dj := by rfl) (hb : GB t dj want bc := by first | exact GB.v (by first | exact Wk.refl _ | exact Wk.nil | exact Wk.clip _ | exact Wk.tip _ _ _ | exact Wk.opt _ _ (by first | assumption | rfl) | exact Wk.gr _ _ | exact Wk.nil_gr | exact Wk.trans (Wk.opt _ _ (by first | assumption | rfl)) (by first | exact Wk.gr _ _ | exact Wk.nil | exact Wk.clip _ | exact Wk.tip _ _ _) | exact Wk.aggs (by repeat (first | exact Wks.nil | refine Wks.cons (by first | exact Wk.refl _ | exact Wk.nil | exact Wk.clip _ | exact Wk.tip _ _ _ | exact Wk.gr _ _ | exact Wk.nil_gr) ?_)) rfl) (by first | exact bqt _ | exact bqf _ | exact cbt _ _ | exact cbf _ _ | rfl) | exact GB.o (by rfl) (by first | exact bqt _ | exact bqf _ | exact cbt _ _ | exact cbf _ _ | rfl)) (hlt : dj < N := by decide) (hx : bc = true → Wk (evA t x) (.fn (.func K) x1 x2) := by (intro hgb; exact (by first | exact Wk.refl _ | exact Wk.nil | exact Wk.clip _ | exact Wk.tip _ _ _ | exact Wk.opt _ _ (by first | assumption | rfl) | exact Wk.gr _ _ | exact Wk.nil_gr | exact Wk.trans (Wk.opt _ _ (by first | assumption | rfl)) (by first | exact Wk.gr _ _ | exact Wk.nil | exact Wk.clip _ | exact Wk.tip _ _ _) | exact Wk.aggs (by repeat (first | exact Wks.nil | refine Wks.cons (by first | exact Wk.refl _ | exact Wk.nil | exact Wk.clip _ | exact Wk.tip _ _ _ | exact Wk.gr _ _ | exact Wk.nil_gr) ?_)) rfl))) (ha : bc = true → Wks (x1 ++ args.toList.map (evA t) ++ x2) xs := by (intro hgb; repeat (first | exact Wks.nil | refine Wks.cons (by first | exact Wk.refl _ | exact Wk.nil | exact Wk.clip _ | exact Wk.tip _ _ _ | exact Wk.opt _ _ (by first | assumption | rfl) | exact Wk.gr _ _ | exact Wk.nil_gr | exact Wk.trans (Wk.opt _ _ (by first | assumption | rfl)) (by first | exact Wk.gr _ _ | exact Wk.nil | exact Wk.clip _ | exact Wk.tip _ _ _) | exact Wk.aggs (by repeat (first | exact Wks.nil | refine Wks.cons (by first | exact Wk.refl _ | exact Wk.nil | exact Wk.clip _ | exact Wk.tip _ _ _ | exact Wk.gr _ _ | exact Wk.nil_gr) ?_)) rfl) ?_))) (hdst : o.dst = some d := by rfl) (hN : Nat.blt d N = true := by rfl) (hk : okOps o = true := by rfl) (hd : depsI ops idx n = true := by decide +kernel) (hm : n + 1 = m := by exact (by (conv => lhs; whnf) <;> rfl))
    (h : ADl P N ops Q m ((n, true) :: idx) rest (⟨n, .opt bc y, some []⟩ :: cl) ((d, .opt bc y) :: t) bs) : ADl P N ops Q n idx (o :: rest) cl t bs := ADl.fg hg hj hdj hb hlt hdst hN hk hd (fun bs hbc => OpQ.callv ho (hx hbc) (hc hbc) rfl (ha hbc)) hm h
theorem ADl.lits {ty e : TypeId} {s1 b1 s2 b2 k : Nat} {d2 : TypeDesc} {zs : List Value} {cs : List A} {parts : Array (Nat × Operand)} {r : List Operand} {ys : List A} {rows : List (List A)} (ho : o.op = .buildSlice ty k parts := by rfl) (h1 : TI P ty (.slice e) s1 b1 := by infer_instance) (h2 : TI P e d2 s2 b2 := by infer_instance) (hz : TC P e zs cs := by infer_instance) (hr0 : parts.toList.map (·.2) = r := by (simp only [List.map_cons, List.map_nil] <;> rfl))
    (hp : parts = (r.zipIdx.map fun p => (p.2, p.1)).toArray := by rfl) (hr : Rows_ t r ys := by exact (by repeat (first | exact Rows_.nil | (apply Rows_.cons; exact Wk.of_eq (by (conv => lhs; whnf) <;> rfl); exact (by first | exact .inl rfl | exact .inr ⟨_, rfl⟩))))) (hn : r.length = k := by rfl) (hs : ys.all (fun y => (cellsOf y).length == s2) = true := by exact (by first | rfl | (simp [cellsOf]; done) | (simp only [List.map_cons, List.map_nil, cellsOf]) <;> rfl)) (hrows : ys.map cellsOf = rows := by exact (by first | ((simp only [List.map_cons, List.map_nil, cellsOf]) <;> rfl) | rfl)) (hlim : k * s2 ≤ 16777216 := by decide) (hpos : 0 < s2 := by decide)
    (hg : o.guard = none := by rfl) (hdst : o.dst = some d := by rfl) (hN : Nat.blt d N = true := by rfl) (hk : okOps o = true := by rfl) (hd : depsI ops idx n = true := by decide +kernel) (hm : n + 1 = m := by exact (by (conv => lhs; whnf) <;> rfl))
    (h : ADl P N ops Q m ((n, true) :: idx) rest (⟨n, .clip rows, some []⟩ :: cl) ((d, .clip rows) :: t) bs) : ADl P N ops Q n idx (o :: rest) cl t bs := ADl.f hg hdst hN hk hd (fun bs => OpQ.lits ho hr0 hp hr hn hs hrows hlim hpos) hm h
/-- The last one, behind all others: it may write what others read. -/
theorem ADl.lastw {R : A → BS → Prop} (hq : OpW P o t bs R) (hg : o.guard = none := by rfl) (hdN : okD N o.dst = true := by rfl) (hk : okOps o = true := by rfl) (hd : endI ops idx n = true := by decide +kernel)
    (h : ∀ y bs', R y bs' → Q .normal (putA t o.dst y) bs') : ADl P N ops Q n idx [o] cl t bs := by
  intro h1 h2 hk3
  obtain ⟨hi, h2⟩ := drop_get h2
  unfold endI at hd
  simp only [Bool.and_eq_true, Bool.not_eq_true'] at hd
  exact .last n hi (by rw [claimed_fun h1]; exact hd.1.1) (by rw [claimed_fun h1]; exact hd.1.2) hd.2 hdN hg hk hq h
theorem ADl.last (hg : o.guard = none := by rfl) (hdst : o.dst = some d := by rfl) (hN : Nat.blt d N = true := by rfl) (hk : okOps o = true := by rfl) (hq : OpQ P o t bs y := by exact OpQ.auto) (hd : endI ops idx n = true := by decide +kernel)
    (h : Q .normal ((d, y) :: t) bs) : ADl P N ops Q n idx [o] cl t bs :=
  .lastw hq.w hg (by rw [hdst]; exact hN) hk hd fun y bs' ⟨e1, e2⟩ => by subst e1; subst e2; rw [hdst]; exact h
/-- One behind the next is claimed ahead of it. -/
theorem ADl.ahead (hg : o2.guard = none := by rfl) (hdst : o2.dst = some d := by rfl) (hN : Nat.blt d N = true := by rfl) (hk : okOps o2 = true := by rfl) (hm : n + 1 = m := by exact (by (conv => lhs; whnf) <;> rfl)) (hd : depsI ops idx m = true := by decide +kernel) (hq : ∀ bs, OpQ P o2 t bs y := by (intro bs; exact OpQ.auto))
    (h : ADl P N ops Q n ((m, true) :: idx) (o :: o2 :: rest) (⟨m, y, some []⟩ :: cl) ((d, y) :: t) bs) : ADl P N ops Q n idx (o :: o2 :: rest) cl t bs := by
  subst hm
  intro h1 h2 hk3
  have h3 := (drop_get h2).2
  obtain ⟨hi, _⟩ := drop_get h3
  obtain ⟨e1, ex, e2⟩ := depsI_1 h1 hd
  exact .free (n + 1) hi e1 ex e2 (by rw [hdst]; exact hN) [] needs_nil (fun bs _ => (hq bs).s hg hk) (by rw [hdst]; exact h (by simp [h1]) h2 (hk3.cons fun L e => by cases e; exact needs_nil))
theorem ADl.ahead2 {o3 : Oper} (hg : o3.guard = none := by rfl) (hdst : o3.dst = some d := by rfl) (hN : Nat.blt d N = true := by rfl) (hk : okOps o3 = true := by rfl) (hm : n + 2 = m := by exact (by (conv => lhs; whnf) <;> rfl)) (hd : depsI ops idx m = true := by decide +kernel) (hq : ∀ bs, OpQ P o3 t bs y := by (intro bs; exact OpQ.auto))
    (h : ADl P N ops Q n ((m, true) :: idx) (o :: o2 :: o3 :: rest) (⟨m, y, some []⟩ :: cl) ((d, y) :: t) bs) : ADl P N ops Q n idx (o :: o2 :: o3 :: rest) cl t bs := by
  subst hm
  intro h1 h2 hk3
  have h3 := (drop_get h2).2
  have h4 := (drop_get h3).2
  obtain ⟨hi, _⟩ := drop_get h4
  obtain ⟨e1, ex, e2⟩ := depsI_1 h1 hd
  exact .free (n + 2) hi e1 ex e2 (by rw [hdst]; exact hN) [] needs_nil (fun bs _ => (hq bs).s hg hk) (by rw [hdst]; exact h (by simp [h1]) h2 (hk3.cons fun L e => by cases e; exact needs_nil))
/-- What turns one's own. -/
theorem ADl.w {R : A → BS → Prop} (hq : OpW P o t bs R) (hg : o.guard = none := by rfl) (hdN : okD N o.dst = true := by rfl) (hk : okOps o = true := by rfl) (hd : depsI ops idx n = true := by decide +kernel) (hl : loudI ops idx n = true := by decide +kernel) (hm : n + 1 = m := by exact (by (conv => lhs; whnf) <;> rfl))
    (hst : settleI ops idx n = true ∨ ∀ y bs', R y bs' → ∀ c ∈ cl, ∀ L, c.need = some L → needs L bs → needs L bs')
    (h : ∀ y bs', R y bs' → ADl P N ops Q m ((n, true) :: idx) rest (⟨n, y, some []⟩ :: cl) (putA t o.dst y) bs') : ADl P N ops Q n idx (o :: rest) cl t bs := by
  subst hm
  intro h1 h2 hk3
  obtain ⟨hi, h2⟩ := drop_get h2
  obtain ⟨e1, ex, e2⟩ := depsI_1 h1 hd
  obtain ⟨e3, e4⟩ := loudI_1 h1 hl
  have hlt : n < ops.size := (Array.getElem?_eq_some_iff.1 hi).1
  refine .w n hi e1 ex e2 hdN hg hk hq e3 (fun _ _ _ c hc hf hdp => (e4 c hc hf hdp).elim) (fun y bs' hR c hc L hL hdp => ?_) fun y bs' hR => h y bs' hR (by simp [h1]) h2 ?_
  · rcases hst with hst | hst
    · have := List.all_eq_true.1 hst (c.i, c.need.isSome) (by rw [← h1]; exact List.mem_map.2 ⟨c, hc, rfl⟩)
      rw [Bool.and_eq_true] at this
      rw [this.1] at hdp; cases hdp
    · rcases hk3 c hc L hL with h5 | h5
      · exact hst y bs' hR c hc L hL h5
      · have := List.all_eq_true.1 h5 n (by simpa using hlt)
        rw [e1, hdp] at this; cases this
  · rcases hst with hst | hst
    · exact Hk.settle (by rw [h1]; exact hst)
    · exact (hk3.keep2 (hst y bs' hR)).cons fun L e => by cases e; exact needs_nil
/-- A load of what is one's own: it holds as long as that block stays. -/
theorem ADl.mload {ty : TypeId} {x : Operand} {g p : Nat} {cs : List A} (ho : o.op = .load ty x := by rfl) (hx : Wk (evA t x) (.ptr g p) := by exact (by first | exact Wk.refl _ | exact Wk.nil | exact Wk.clip _ | exact Wk.tip _ _ _ | exact Wk.opt _ _ (by first | assumption | rfl) | exact Wk.gr _ _ | exact Wk.nil_gr | exact Wk.trans (Wk.opt _ _ (by first | assumption | rfl)) (by first | exact Wk.gr _ _ | exact Wk.nil | exact Wk.clip _ | exact Wk.tip _ _ _) | exact Wk.aggs (by repeat (first | exact Wks.nil | refine Wks.cons (by first | exact Wk.refl _ | exact Wk.nil | exact Wk.clip _ | exact Wk.tip _ _ _ | exact Wk.gr _ _ | exact Wk.nil_gr) ?_)) rfl)) (hmm : (g, .cells cs) ∈ bs := by exact (by repeat (first | exact List.mem_cons_self | assumption | refine List.mem_cons_of_mem _ ?_ | refine mem_gB ?_))) (hg : o.guard = none := by rfl) (hdst : o.dst = some d := by rfl) (hN : Nat.blt d N = true := by rfl) (hk : okOps o = true := by rfl) (hd : depsI ops idx n = true := by decide +kernel) (hq : ∀ bs : BS, (g, Blk.cells cs) ∈ bs → OpQ P o t bs y := by (intro bs hmem; exact OpQ.auto)) (hm : n + 1 = m := by exact (by (conv => lhs; whnf) <;> rfl))
    (h : ADl P N ops Q m ((n, true) :: idx) rest (⟨n, y, some [(g, cs)]⟩ :: cl) ((d, y) :: t) bs) : ADl P N ops Q n idx (o :: rest) cl t bs := by
  subst hm
  intro h1 h2 hk3
  obtain ⟨hi, h2⟩ := drop_get h2
  obtain ⟨e1, ex, e2⟩ := depsI_1 h1 hd
  have hnb : needs [(g, cs)] bs := fun z hz => by simp only [List.mem_singleton] at hz; subst hz; exact hmm
  exact .free n hi e1 ex e2 (by rw [hdst]; exact hN) [(g, cs)] hnb (fun bs hb => (hq bs (hb _ (List.mem_singleton.2 rfl))).s hg hk) (by rw [hdst]; exact h (by simp [h1]) h2 (hk3.cons fun L e => by cases e; exact hnb))
theorem ADl.mloadg {ty : TypeId} {x : Operand} {g p : Nat} {cs : List A} {j dj : Nat} {oj : Oper} {want bc : Bool} (ho : o.op = .load ty x := by rfl) (hg : o.guard = some (j, want) := by rfl) (hj : ops[j]? = some oj := by rfl) (hdj : oj.dst = some dj := by rfl) (hb : GB t dj want bc := by first | exact GB.v (by first | exact Wk.refl _ | exact Wk.nil | exact Wk.clip _ | exact Wk.tip _ _ _ | exact Wk.opt _ _ (by first | assumption | rfl) | exact Wk.gr _ _ | exact Wk.nil_gr | exact Wk.trans (Wk.opt _ _ (by first | assumption | rfl)) (by first | exact Wk.gr _ _ | exact Wk.nil | exact Wk.clip _ | exact Wk.tip _ _ _) | exact Wk.aggs (by repeat (first | exact Wks.nil | refine Wks.cons (by first | exact Wk.refl _ | exact Wk.nil | exact Wk.clip _ | exact Wk.tip _ _ _ | exact Wk.gr _ _ | exact Wk.nil_gr) ?_)) rfl) (by first | exact bqt _ | exact bqf _ | exact cbt _ _ | exact cbf _ _ | rfl) | exact GB.o (by rfl) (by first | exact bqt _ | exact bqf _ | exact cbt _ _ | exact cbf _ _ | rfl)) (hlt : dj < N := by decide) (hx : bc = true → Wk (evA t x) (.ptr g p) := by (intro hgb; exact (by first | exact Wk.refl _ | exact Wk.nil | exact Wk.clip _ | exact Wk.tip _ _ _ | exact Wk.opt _ _ (by first | assumption | rfl) | exact Wk.gr _ _ | exact Wk.nil_gr | exact Wk.trans (Wk.opt _ _ (by first | assumption | rfl)) (by first | exact Wk.gr _ _ | exact Wk.nil | exact Wk.clip _ | exact Wk.tip _ _ _) | exact Wk.aggs (by repeat (first | exact Wks.nil | refine Wks.cons (by first | exact Wk.refl _ | exact Wk.nil | exact Wk.clip _ | exact Wk.tip _ _ _ | exact Wk.gr _ _ | exact Wk.nil_gr) ?_)) rfl))) (hmm : (g, .cells cs) ∈ bs := by exact (by repeat (first | exact List.mem_cons_self | assumption | refine List.mem_cons_of_mem _ ?_ | refine mem_gB ?_))) (hdst : o.dst = some d := by rfl) (hN : Nat.blt d N = true := by rfl) (hk : okOps o = true := by rfl) (hd : depsI ops idx n = true := by decide +kernel) (hq : ∀ bs : BS, (g, Blk.cells cs) ∈ bs → bc = true → OpQ P o t bs y := by (intro bs hmem hgb; exact OpQ.auto)) (hm : n + 1 = m := by exact (by (conv => lhs; whnf) <;> rfl))
    (h : ADl P N ops Q m ((n, true) :: idx) rest (⟨n, .opt bc y, some [(g, cs)]⟩ :: cl) ((d, .opt bc y) :: t) bs) : ADl P N ops Q n idx (o :: rest) cl t bs := by
  subst hm
  intro h1 h2 hk3
  obtain ⟨hi, h2⟩ := drop_get h2
  obtain ⟨e1, ex, e2⟩ := depsI_1 h1 hd
  have hnb : needs [(g, cs)] bs := fun z hz => by simp only [List.mem_singleton] at hz; subst hz; exact hmm
  exact .free n hi e1 ex e2 (by rw [hdst]; exact hN) [(g, cs)] hnb (fun bs hb2 => OpS.guard hg hj hdj hb hlt (hq bs (hb2 _ (List.mem_singleton.2 rfl))) hk) (by rw [hdst]; exact h (by simp [h1]) h2 (hk3.cons fun L e => by cases e; exact hnb))
/-- One that stands further behind is claimed now. -/
theorem ADl.far {o2 : Oper} (m : Nat) (ho2 : ops[m]? = some o2 := by rfl) (hg : o2.guard = none := by rfl) (hdst : o2.dst = some d := by rfl) (hN : Nat.blt d N = true := by rfl) (hk : okOps o2 = true := by rfl) (hd : depsI ops idx m = true := by decide +kernel) (hq : ∀ bs, OpQ P o2 t bs y := by (intro bs; exact OpQ.auto))
    (h : ADl P N ops Q n ((m, true) :: idx) (o :: rest) (⟨m, y, some []⟩ :: cl) ((d, y) :: t) bs) : ADl P N ops Q n idx (o :: rest) cl t bs := by
  intro h1 h2 hk3
  obtain ⟨e1, ex, e2⟩ := depsI_1 h1 hd
  exact .free m ho2 e1 ex e2 (by rw [hdst]; exact hN) [] needs_nil (fun bs _ => (hq bs).s hg hk) (by rw [hdst]; exact h (by simp [h1]) h2 (hk3.cons fun L e => by cases e; exact needs_nil))
theorem ADl.farm {o2 : Oper} (m : Nat) {ty : TypeId} {x : Operand} {g p : Nat} {cs : List A} (ho2 : ops[m]? = some o2 := by rfl) (ho : o2.op = .load ty x := by rfl) (hx : Wk (evA t x) (.ptr g p) := by exact (by first | exact Wk.refl _ | exact Wk.nil | exact Wk.clip _ | exact Wk.tip _ _ _ | exact Wk.opt _ _ (by first | assumption | rfl) | exact Wk.gr _ _ | exact Wk.nil_gr | exact Wk.trans (Wk.opt _ _ (by first | assumption | rfl)) (by first | exact Wk.gr _ _ | exact Wk.nil | exact Wk.clip _ | exact Wk.tip _ _ _) | exact Wk.aggs (by repeat (first | exact Wks.nil | refine Wks.cons (by first | exact Wk.refl _ | exact Wk.nil | exact Wk.clip _ | exact Wk.tip _ _ _ | exact Wk.gr _ _ | exact Wk.nil_gr) ?_)) rfl)) (hmm : (g, .cells cs) ∈ bs := by exact (by repeat (first | exact List.mem_cons_self | assumption | refine List.mem_cons_of_mem _ ?_ | refine mem_gB ?_))) (hg : o2.guard = none := by rfl) (hdst : o2.dst = some d := by rfl) (hN : Nat.blt d N = true := by rfl) (hk : okOps o2 = true := by rfl) (hd : depsI ops idx m = true := by decide +kernel) (hq : ∀ bs : BS, (g, Blk.cells cs) ∈ bs → OpQ P o2 t bs y := by (intro bs hmem; exact OpQ.auto))
    (h : ADl P N ops Q n ((m, true) :: idx) (o :: rest) (⟨m, y, some [(g, cs)]⟩ :: cl) ((d, y) :: t) bs) : ADl P N ops Q n idx (o :: rest) cl t bs := by
  intro h1 h2 hk3
  obtain ⟨e1, ex, e2⟩ := depsI_1 h1 hd
  have hnb : needs [(g, cs)] bs := fun z hz => by simp only [List.mem_singleton] at hz; subst hz; exact hmm
  exact .free m ho2 e1 ex e2 (by rw [hdst]; exact hN) [(g, cs)] hnb (fun bs hb => (hq bs (hb _ (List.mem_singleton.2 rfl))).s hg hk) (by rw [hdst]; exact h (by simp [h1]) h2 (hk3.cons fun L e => by cases e; exact hnb))
theorem ADl.store {ty : TypeId} {x z : Operand} {g p sz by_ : Nat} {d : TypeDesc} {cs cs' : List A} {bs' : BS} (ho : o.op = .store ty x z := by rfl) (h1 : TI P ty d sz by_ := by infer_instance) (hx : Wk (evA t x) (.ptr g p) := by exact (by first | exact Wk.refl _ | exact Wk.nil | exact Wk.clip _ | exact Wk.tip _ _ _ | exact Wk.opt _ _ (by first | assumption | rfl) | exact Wk.gr _ _ | exact Wk.nil_gr | exact Wk.trans (Wk.opt _ _ (by first | assumption | rfl)) (by first | exact Wk.gr _ _ | exact Wk.nil | exact Wk.clip _ | exact Wk.tip _ _ _) | exact Wk.aggs (by repeat (first | exact Wks.nil | refine Wks.cons (by first | exact Wk.refl _ | exact Wk.nil | exact Wk.clip _ | exact Wk.tip _ _ _ | exact Wk.gr _ _ | exact Wk.nil_gr) ?_)) rfl)) (hz : Wk (evA t z) y := by exact (by first | exact Wk.opt _ _ (by first | assumption | rfl) | exact Wk.of_eq (by (conv => lhs; whnf) <;> rfl))) (hc : y.isCell = true ∨ ∃ xs, y = .agg xs := by exact (by first | exact .inl rfl | exact .inr ⟨_, rfl⟩)) (hmm : (g, .cells cs) ∈ bs := by exact (by repeat (first | exact List.mem_cons_self | assumption | refine List.mem_cons_of_mem _ ?_ | refine mem_gB ?_))) (hcs : spl cs p (cellsOf y) = cs' := by exact (by first | ((simp only [spl, cellsOf, List.set_cons_zero, List.set_cons_succ]) <;> rfl) | rfl)) (hu : BUpd bs g (.cells cs) g (.cells cs') bs' := by exact (by repeat (first | exact BUpd.head | apply BUpd.tail | apply BUpd.gB))) (hl : p + sz ≤ cs.length := by exact (by first | rfl | (simp; done) | (simp only [List.length_map]; omega) | (simp; omega) | omega)) (hs : (cellsOf y).length = sz := by exact (by first | rfl | (simp; done) | (simp only [List.length_map]; omega) | (simp; omega) | omega))
    (hg : o.guard = none := by rfl) (hdst : o.dst = none := by rfl) (hk : okOps o = true := by rfl) (hd : depsI ops idx n = true := by decide +kernel) (hld : loudI ops idx n = true := by decide +kernel) (hst : settleI ops idx n = true := by decide +kernel) (hm : n + 1 = m := by exact (by (conv => lhs; whnf) <;> rfl))
    (h : ADl P N ops Q m ((n, true) :: idx) rest (⟨n, .junk, some []⟩ :: cl) t bs') : ADl P N ops Q n idx (o :: rest) cl t bs :=
  .w (OpW.store ho hx hz hc hmm hcs hu hl hs) hg (by rw [hdst]; rfl) hk hd hld hm (.inl hst) fun _ _ ⟨e1, e2⟩ => by subst e1; subst e2; rw [hdst]; exact h
theorem ADl.storek {ty : TypeId} {x z : Operand} {g p sz by_ : Nat} {d : TypeDesc} {cs cs' : List A} {bs' : BS} (ho : o.op = .store ty x z := by rfl) (h1 : TI P ty d sz by_ := by infer_instance) (hx : Wk (evA t x) (.ptr g p) := by exact (by first | exact Wk.refl _ | exact Wk.nil | exact Wk.clip _ | exact Wk.tip _ _ _ | exact Wk.opt _ _ (by first | assumption | rfl) | exact Wk.gr _ _ | exact Wk.nil_gr | exact Wk.trans (Wk.opt _ _ (by first | assumption | rfl)) (by first | exact Wk.gr _ _ | exact Wk.nil | exact Wk.clip _ | exact Wk.tip _ _ _) | exact Wk.aggs (by repeat (first | exact Wks.nil | refine Wks.cons (by first | exact Wk.refl _ | exact Wk.nil | exact Wk.clip _ | exact Wk.tip _ _ _ | exact Wk.gr _ _ | exact Wk.nil_gr) ?_)) rfl)) (hz : Wk (evA t z) y := by exact (by first | exact Wk.opt _ _ (by first | assumption | rfl) | exact Wk.of_eq (by (conv => lhs; whnf) <;> rfl))) (hc : y.isCell = true ∨ ∃ xs, y = .agg xs := by exact (by first | exact .inl rfl | exact .inr ⟨_, rfl⟩)) (hmm : (g, .cells cs) ∈ bs := by exact (by repeat (first | exact List.mem_cons_self | assumption | refine List.mem_cons_of_mem _ ?_ | refine mem_gB ?_))) (hcs : spl cs p (cellsOf y) = cs' := by exact (by first | ((simp only [spl, cellsOf, List.set_cons_zero, List.set_cons_succ]) <;> rfl) | rfl)) (hu : BUpd bs g (.cells cs) g (.cells cs') bs' := by exact (by repeat (first | exact BUpd.head | apply BUpd.tail | apply BUpd.gB))) (hl : p + sz ≤ cs.length := by exact (by first | rfl | (simp; done) | (simp only [List.length_map]; omega) | (simp; omega) | omega)) (hs : (cellsOf y).length = sz := by exact (by first | rfl | (simp; done) | (simp only [List.length_map]; omega) | (simp; omega) | omega))
    (hg : o.guard = none := by rfl) (hdst : o.dst = none := by rfl) (hk : okOps o = true := by rfl) (hd : depsI ops idx n = true := by decide +kernel) (hld : loudI ops idx n = true := by decide +kernel) (hst : needsC cl bs' := by exact (by repeat (first | exact trivial | exact List.mem_cons_self | assumption | refine ⟨?_, ?_⟩ | refine List.mem_cons_of_mem _ ?_ | refine mem_gB ?_))) (hm : n + 1 = m := by exact (by (conv => lhs; whnf) <;> rfl))
    (h : ADl P N ops Q m ((n, true) :: idx) rest (⟨n, .junk, some []⟩ :: cl) t bs') : ADl P N ops Q n idx (o :: rest) cl t bs :=
  .w (OpW.store ho hx hz hc hmm hcs hu hl hs) hg (by rw [hdst]; rfl) hk hd hld hm (.inr fun _ _ ⟨_, e2⟩ c hc L hL _ => e2 ▸ hst.all c hc L hL) fun _ _ ⟨e1, e2⟩ => by subst e1; subst e2; rw [hdst]; exact h
theorem ADl.store_all {ty : TypeId} {x z : Operand} {g sz by_ : Nat} {d : TypeDesc} {cs ys : List A} {bs' : BS} (ho : o.op = .store ty x z := by rfl) (h1 : TI P ty d sz by_ := by infer_instance) (hx : Wk (evA t x) (.ptr g 0) := by exact (by first | exact Wk.refl _ | exact Wk.nil | exact Wk.clip _ | exact Wk.tip _ _ _ | exact Wk.opt _ _ (by first | assumption | rfl) | exact Wk.gr _ _ | exact Wk.nil_gr | exact Wk.trans (Wk.opt _ _ (by first | assumption | rfl)) (by first | exact Wk.gr _ _ | exact Wk.nil | exact Wk.clip _ | exact Wk.tip _ _ _) | exact Wk.aggs (by repeat (first | exact Wks.nil | refine Wks.cons (by first | exact Wk.refl _ | exact Wk.nil | exact Wk.clip _ | exact Wk.tip _ _ _ | exact Wk.gr _ _ | exact Wk.nil_gr) ?_)) rfl)) (hz : Wk (evA t z) (.agg ys) := by exact (by first | exact Wk.refl _ | exact Wk.nil | exact Wk.clip _ | exact Wk.tip _ _ _ | exact Wk.opt _ _ (by first | assumption | rfl) | exact Wk.gr _ _ | exact Wk.nil_gr | exact Wk.trans (Wk.opt _ _ (by first | assumption | rfl)) (by first | exact Wk.gr _ _ | exact Wk.nil | exact Wk.clip _ | exact Wk.tip _ _ _) | exact Wk.aggs (by repeat (first | exact Wks.nil | refine Wks.cons (by first | exact Wk.refl _ | exact Wk.nil | exact Wk.clip _ | exact Wk.tip _ _ _ | exact Wk.gr _ _ | exact Wk.nil_gr) ?_)) rfl)) (hmm : (g, .cells cs) ∈ bs := by exact (by repeat (first | exact List.mem_cons_self | assumption | refine List.mem_cons_of_mem _ ?_ | refine mem_gB ?_))) (hu : BUpd bs g (.cells cs) g (.cells ys) bs' := by exact (by repeat (first | exact BUpd.head | apply BUpd.tail | apply BUpd.gB))) (hl : cs.length = sz := by exact (by first | rfl | (simp; done) | (simp only [List.length_map]; omega) | (simp; omega) | omega)) (hs : ys.length = sz := by exact (by first | rfl | (simp; done) | (simp only [List.length_map]; omega) | (simp; omega) | omega))
    (hg : o.guard = none := by rfl) (hdst : o.dst = none := by rfl) (hk : okOps o = true := by rfl) (hd : depsI ops idx n = true := by decide +kernel) (hld : loudI ops idx n = true := by decide +kernel) (hst : settleI ops idx n = true := by decide +kernel) (hm : n + 1 = m := by exact (by (conv => lhs; whnf) <;> rfl))
    (h : ADl P N ops Q m ((n, true) :: idx) rest (⟨n, .junk, some []⟩ :: cl) t bs') : ADl P N ops Q n idx (o :: rest) cl t bs :=
  .w (OpW.store ho hx hz (.inr ⟨_, rfl⟩) hmm (show spl cs 0 ys = ys from spl_all _ _ (by omega)) hu (by omega) hs) hg (by rw [hdst]; rfl) hk hd hld hm (.inl hst) fun _ _ ⟨e1, e2⟩ => by subst e1; subst e2; rw [hdst]; exact h
theorem ADl.store_allk {ty : TypeId} {x z : Operand} {g sz by_ : Nat} {d : TypeDesc} {cs ys : List A} {bs' : BS} (ho : o.op = .store ty x z := by rfl) (h1 : TI P ty d sz by_ := by infer_instance) (hx : Wk (evA t x) (.ptr g 0) := by exact (by first | exact Wk.refl _ | exact Wk.nil | exact Wk.clip _ | exact Wk.tip _ _ _ | exact Wk.opt _ _ (by first | assumption | rfl) | exact Wk.gr _ _ | exact Wk.nil_gr | exact Wk.trans (Wk.opt _ _ (by first | assumption | rfl)) (by first | exact Wk.gr _ _ | exact Wk.nil | exact Wk.clip _ | exact Wk.tip _ _ _) | exact Wk.aggs (by repeat (first | exact Wks.nil | refine Wks.cons (by first | exact Wk.refl _ | exact Wk.nil | exact Wk.clip _ | exact Wk.tip _ _ _ | exact Wk.gr _ _ | exact Wk.nil_gr) ?_)) rfl)) (hz : Wk (evA t z) (.agg ys) := by exact (by first | exact Wk.refl _ | exact Wk.nil | exact Wk.clip _ | exact Wk.tip _ _ _ | exact Wk.opt _ _ (by first | assumption | rfl) | exact Wk.gr _ _ | exact Wk.nil_gr | exact Wk.trans (Wk.opt _ _ (by first | assumption | rfl)) (by first | exact Wk.gr _ _ | exact Wk.nil | exact Wk.clip _ | exact Wk.tip _ _ _) | exact Wk.aggs (by repeat (first | exact Wks.nil | refine Wks.cons (by first | exact Wk.refl _ | exact Wk.nil | exact Wk.clip _ | exact Wk.tip _ _ _ | exact Wk.gr _ _ | exact Wk.nil_gr) ?_)) rfl)) (hmm : (g, .cells cs) ∈ bs := by exact (by repeat (first | exact List.mem_cons_self | assumption | refine List.mem_cons_of_mem _ ?_ | refine mem_gB ?_))) (hu : BUpd bs g (.cells cs) g (.cells ys) bs' := by exact (by repeat (first | exact BUpd.head | apply BUpd.tail | apply BUpd.gB))) (hl : cs.length = sz := by exact (by first | rfl | (simp; done) | (simp only [List.length_map]; omega) | (simp; omega) | omega)) (hs : ys.length = sz := by exact (by first | rfl | (simp; done) | (simp only [List.length_map]; omega) | (simp; omega) | omega))
    (hg : o.guard = none := by rfl) (hdst : o.dst = none := by rfl) (hk : okOps o = true := by rfl) (hd : depsI ops idx n = true := by decide +kernel) (hld : loudI ops idx n = true := by decide +kernel) (hst : needsC cl bs' := by exact (by repeat (first | exact trivial | exact List.mem_cons_self | assumption | refine ⟨?_, ?_⟩ | refine List.mem_cons_of_mem _ ?_ | refine mem_gB ?_))) (hm : n + 1 = m := by exact (by (conv => lhs; whnf) <;> rfl))
    (h : ADl P N ops Q m ((n, true) :: idx) rest (⟨n, .junk, some []⟩ :: cl) t bs') : ADl P N ops Q n idx (o :: rest) cl t bs :=
  .w (OpW.store ho hx hz (.inr ⟨_, rfl⟩) hmm (show spl cs 0 ys = ys from spl_all _ _ (by omega)) hu (by omega) hs) hg (by rw [hdst]; rfl) hk hd hld hm (.inr fun _ _ ⟨_, e2⟩ c hc L hL _ => e2 ▸ hst.all c hc L hL) fun _ _ ⟨e1, e2⟩ => by subst e1; subst e2; rw [hdst]; exact h
theorem ADl.alloc {ty : TypeId} {zs : List Value} {cs : List A} (ho : o.op = .alloc ty := by rfl) (hz : TC P ty zs cs := by infer_instance)
    (hg : o.guard = none := by rfl) (hdst : o.dst = some d := by rfl) (hN : Nat.blt d N = true := by rfl) (hk : okOps o = true := by rfl) (hd : depsI ops idx n = true := by decide +kernel) (hld : loudI ops idx n = true := by decide +kernel) (hm : n + 1 = m := by exact (by (conv => lhs; whnf) <;> rfl))
    (h : ∀ g, ADl P N ops Q m ((n, true) :: idx) rest (⟨n, .ptr g 0, some []⟩ :: cl) ((d, .ptr g 0) :: t) ((g, .cells cs) :: bs)) : ADl P N ops Q n idx (o :: rest) cl t bs :=
  .w (OpW.alloc ho) hg (by rw [hdst]; exact hN) hk hd hld hm (.inr fun y bs' ⟨g, _, e2⟩ c hc L hL hn x hx => e2 ▸ List.mem_cons_of_mem _ (hn x hx)) fun _ _ ⟨g, e1, e2⟩ => by subst e1; subst e2; rw [hdst]; exact h g
/-- Two allocations, in either order; all that is left hangs on both. -/
theorem ADl.alloc2 {ty ty2 : TypeId} {d2 : Nat} {zs zs2 : List Value} {cs cs2 : List A} (ho : o.op = .alloc ty := by rfl) (ho2 : o2.op = .alloc ty2 := by rfl) (hz : TC P ty zs cs := by infer_instance) (hz2 : TC P ty2 zs2 cs2 := by infer_instance)
    (hg : o.guard = none := by rfl) (hdst : o.dst = some d := by rfl) (hN : Nat.blt d N = true := by rfl) (hk : okOps o = true := by rfl) (hg2 : o2.guard = none := by rfl) (hdst2 : o2.dst = some d2 := by rfl) (hN2 : Nat.blt d2 N = true := by rfl) (hk2 : okOps o2 = true := by rfl)
    (hd : depsI ops idx n = true := by decide +kernel) (hd2 : depsI ops idx (n + 1) = true := by decide +kernel) (hd3 : depsI ops ((n + 1, true) :: idx) n = true := by decide +kernel) (hd4 : depsI ops ((n, true) :: idx) (n + 1) = true := by decide +kernel) (hl : loudI ops ((n, true) :: idx) (n + 1) = true := by decide +kernel) (hl2 : loudI ops ((n + 1, true) :: idx) n = true := by decide +kernel)
    (hal : (List.range ops.size).all (fun i => inI idx i || Nat.beq i n || Nat.beq i (n + 1) || !((edgesOf ops i).all (inI idx))) = true := by decide +kernel) (hm : n + 2 = m := by exact (by (conv => lhs; whnf) <;> rfl))
    (h1 : ∀ g g2, ADl P N ops Q m ((n + 1, true) :: (n, true) :: idx) rest (⟨n + 1, .ptr g2 0, some []⟩ :: ⟨n, .ptr g 0, some []⟩ :: cl) ((d2, .ptr g2 0) :: (d, .ptr g 0) :: t) ((g2, .cells cs2) :: (g, .cells cs) :: bs))
    (h2 : ∀ g g2, ADl P N ops Q m ((n, true) :: (n + 1, true) :: idx) rest (⟨n, .ptr g 0, some []⟩ :: ⟨n + 1, .ptr g2 0, some []⟩ :: cl) ((d, .ptr g 0) :: (d2, .ptr g2 0) :: t) ((g, .cells cs) :: (g2, .cells cs2) :: bs)) : ADl P N ops Q n idx (o :: o2 :: rest) cl t bs := by
  subst hm
  intro k1 k2 hk3
  obtain ⟨hi, k2'⟩ := drop_get k2
  obtain ⟨hi2, _⟩ := drop_get k2'
  obtain ⟨e1, ex, e2⟩ := depsI_1 k1 hd
  obtain ⟨f1, fx, f2⟩ := depsI_1 k1 hd2
  have hlt : n < ops.size := (Array.getElem?_eq_some_iff.1 hi).1
  have hlt2 : n + 1 < ops.size := (Array.getElem?_eq_some_iff.1 hi2).1
  have hnone : ∀ i, i = n ∨ i = n + 1 → ∀ c ∈ cl, c.need = none → depB ops ops.size i c.i = false → False := by
    intro i hii c hc hf hdp
    unfold loudI at hl hl2
    rw [Bool.and_eq_true] at hl hl2
    rcases hii with rfl | rfl
    · have := List.all_eq_true.1 hl2.2 (c.i, c.need.isSome) (List.mem_cons_of_mem _ (by rw [← k1]; exact List.mem_map.2 ⟨c, hc, rfl⟩))
      simp [hf, hdp] at this
    · have := List.all_eq_true.1 hl.2 (c.i, c.need.isSome) (List.mem_cons_of_mem _ (by rw [← k1]; exact List.mem_map.2 ⟨c, hc, rfl⟩))
      simp [hf, hdp] at this
  have hneed : ∀ i, claimed cl i = false → i < ops.size → ∀ bs', (∀ g cs, (g, Blk.cells cs) ∈ bs → (g, Blk.cells cs) ∈ bs') → ∀ c ∈ cl, ∀ L, c.need = some L → depB ops ops.size i c.i = false → needs L bs' := by
    intro i hcl hil bs' hks c hc L hL hdp
    rcases hk3 c hc L hL with h5 | h5
    · exact fun x hx => hks _ _ (h5 x hx)
    · have := List.all_eq_true.1 h5 i (by simpa using hil)
      rw [hcl, hdp] at this; cases this
  have honly : ∀ i, i < ops.size → claimed cl i = false → (edgesOf ops i).all (claimed cl) = true → i = n ∨ i = n + 1 := by
    intro i hil hcl hed
    have h5 := List.all_eq_true.1 hal i (by simpa using hil)
    rw [← claimed_fun k1, hcl, hed] at h5
    simp only [Bool.false_or, Bool.not_true, Bool.or_false, Bool.or_eq_true] at h5
    exact h5.imp Nat.eq_of_beq_eq_true Nat.eq_of_beq_eq_true
  have nel : ∀ L, (some ([] : List (Nat × List A))) = some L → needs L bs := fun L e => by cases e; exact needs_nil
  refine .alt n hi e1 (fun i y bs' => (i = n ∧ ∃ g, y = .ptr g 0 ∧ bs' = (g, .cells cs) :: bs) ∨ (i = n + 1 ∧ ∃ g, y = .ptr g 0 ∧ bs' = (g, .cells cs2) :: bs)) ?_ ?_
  · intro i o' ho' hcl hed
    have hil : i < ops.size := (Array.getElem?_eq_some_iff.1 ho').1
    rcases honly i hil hcl hed with rfl | rfl
    · rw [hi] at ho'; injection ho' with ho'; subst ho'
      refine ⟨ex, by rw [hdst]; exact hN, hg, hk, ?_, fun _ _ _ c hc hf hdp => (hnone i (.inl rfl) c hc hf hdp).elim, fun y bs' hR => hneed i hcl hil bs' ?_⟩
      · intro a w hx hb K Q hK
        exact OpW.alloc ho a w hx hb K Q fun u w' y bs' ⟨g, a1, a2⟩ => hK u w' y bs' (.inl ⟨rfl, g, a1, a2⟩)
      · rcases hR with ⟨_, g, _, a2⟩ | ⟨a0, _⟩
        · exact fun g1 cs1 hm => a2 ▸ List.mem_cons_of_mem _ hm
        · omega
    · rw [hi2] at ho'; injection ho' with ho'; subst ho'
      refine ⟨fx, by rw [hdst2]; exact hN2, hg2, hk2, ?_, fun _ _ _ c hc hf hdp => (hnone (n + 1) (.inr rfl) c hc hf hdp).elim, fun y bs' hR => hneed (n + 1) hcl hil bs' ?_⟩
      · intro a w hx hb K Q hK
        exact OpW.alloc ho2 a w hx hb K Q fun u w' y bs' ⟨g, a1, a2⟩ => hK u w' y bs' (.inr ⟨rfl, g, a1, a2⟩)
      · rcases hR with ⟨a0, _⟩ | ⟨_, g, _, a2⟩
        · omega
        · exact fun g1 cs1 hm => a2 ▸ List.mem_cons_of_mem _ hm
  · intro i o' y bs' ho' hcl hed hR
    rcases hR with ⟨rfl, g, rfl, rfl⟩ | ⟨rfl, g2, rfl, rfl⟩
    · rw [hi] at ho'; injection ho' with ho'; subst ho'
      rw [hdst]
      exact ADl.alloc (n := i + 1) (idx := (i, true) :: idx) ho2 hz2 hg2 hdst2 hN2 hk2 hd4 hl rfl (fun g2 => h1 g g2) (by simp [k1]) k2' ((hk3.keep fun _ _ hm => List.mem_cons_of_mem _ hm).cons fun L e => by cases e; exact needs_nil)
    · rw [hi2] at ho'; injection ho' with ho'; subst ho'
      rw [hdst2]
      exact ADl.alloc (n := n) (idx := (n + 1, true) :: idx) ho hz hg hdst hN hk hd3 hl2 rfl (fun g => ADl.skip (by simp [inI]) rfl (h2 g g2)) (by simp [k1]) k2 ((hk3.keep fun _ _ hm => List.mem_cons_of_mem _ hm).cons fun L e => by cases e; exact needs_nil)
theorem ADl.in_ {id : Nat} {l : List Oper} (hm : P.follows .mixedOrders = true := by kernel_rfl) (hA : okAny l.toArray = true := by kernel_rfl) (hS : okSelf l.toArray = true := by kernel_rfl) (h : ADl P N l.toArray Q 0 [] l [] t bs) : AW P N (.region id l.toArray true) Q t bs := AW.draw hm hA hS (h rfl rfl fun c hc => nomatch hc)
/-- One step on, where the order is drawn. -/
theorem goD {G H : Prop} (s : H → G := by
    first
    | ((with_reducible show _ → ADl _ _ _ _ _ _ (_ :: _) _ _ _); first | exact fun h => ADl.skip (h := h))
    | ((with_reducible show _ → ADl _ _ _ _ _ _ (⟨_, _, _, _, _, some _⟩ :: _) _ _ _); first | exact fun h => ADl.fgF (h := h) | exact fun h => ADl.fg (h := h) | exact fun h => ADl.mloadg (h := h) | exact fun h => ADl.bg (h := h))
    | ((with_reducible show _ → ADl _ _ _ _ _ _ (⟨_, .store _ _ _, _, _, _, _⟩ :: _) _ _ _); first | exact fun h => ADl.store (h := h) | exact fun h => ADl.store_all (h := h) | exact fun h => ADl.storek (h := h) | exact fun h => ADl.store_allk (h := h) | exact fun h => ADl.ahead (h := h) | exact fun h => ADl.ahead2 (h := h))
    | ((with_reducible show _ → ADl _ _ _ _ _ _ (⟨_, .alloc _, _, _, _, _⟩ :: _) _ _ _); first | exact fun h => ADl.alloc (h := h) | exact fun h => ADl.ahead (h := h) | exact fun h => ADl.ahead2 (h := h))
    | ((with_reducible show _ → ADl _ _ _ _ _ _ (⟨_, .buildSlice _ _ _, _, _, _, _⟩ :: _) _ _ _); first | exact fun h => ADl.lits (h := h))
    | ((with_reducible show _ → ADl _ _ _ _ _ _ (⟨_, .load _ _, _, _, _, _⟩ :: _) _ _ _); first | exact fun h => ADl.f (h := h) | exact fun h => ADl.mload (h := h) | exact fun h => ADl.b (h := h))
    | ((with_reducible show _ → ADl _ _ _ _ _ _ (_ :: _) _ _ _); first | exact fun h => ADl.f (h := h) | exact fun h => ADl.b (h := h))
    | ((with_reducible show _ → ADl _ _ _ _ _ _ [_] _ _ _); first | exact fun h => ADl.last (h := h))
    | ((with_reducible show _ → ADl _ _ _ _ _ _ [] _ _ _); first | exact fun h => ADl.done h)
    | ((with_reducible show _ → AW _ _ (.region _ _ true) _ _ _); first | exact fun h => ADl.in_ (h := h))) (h : H) : G := s h
end
end Go.Proofs.Ytnkkfmnpkgjabaa.X
